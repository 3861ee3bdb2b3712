/- The functions foghorn foghornlaw23.SoftTurns: what each answers, as a plain function, and that its call answers it; printed by gen.py. -/
import Derived.Test.YtcooefnbolobaaaProg
import Derived.Test.YtcooefnbolobaaaGlUc
import Derived.KernelRfl
import Derived.Test.YtcooefnbolobaaaG6p1
set_option linter.unusedVariables false
set_option linter.unusedSimpArgs false
set_option maxRecDepth 100000
set_option maxHeartbeats 4000000
namespace Go.Proofs.Ytcooefnbolobaaa
open GL
noncomputable def f_soft_run_1 (nd0 : (List WayC)) (ax0 : (Option Nat)) (bx1 : (Option Nat)) : Option Bool := ((ax0).bind fun n1 => ((bx1).bind fun n8 => (if (fne ((nth nd0 n1).2.2.1) ((nth nd0 n8).2.2.1)) = true then ((ax0).bind fun n15 => ((bx1).bind fun n22 => (some (flt ((nth nd0 n15).2.2.1) ((nth nd0 n22).2.2.1))))) else ((ax0).bind fun n29 => ((bx1).bind fun n36 => (if (!(decide ((nth nd0 n29).2.1 = (nth nd0 n36).2.1))) = true then ((ax0).bind fun n43 => (((nth nd0 n43).2.1).bind fun n50 => ((bx1).bind fun n57 => (((nth nd0 n57).2.1).bind fun n64 => (some (decide ((nth nd0 n50).2.2.2 < (nth nd0 n64).2.2.2))))))) else ((ax0).bind fun n71 => ((if (!((nth nd0 n71).1)) = true then ((bx1).bind fun n81 => (some ((nth nd0 n81).1))) else (some false)).bind fun z80 => (some z80)))))))))
theorem f_soft_run_1_c {S : Nat → Prop} {w0 w : World} {ow : List Res} (hp : Hp S w0 w ow) (bs : List Nat) (nd0 : List WayC) (hA : RdA S w0 92 bs nd0) (vax0 : Value) (ax0 : Option Nat) (hax0 : WP bs vax0 ax0) (vbx1 : Value) (bx1 : Option Nat) (hbx1 : WP bs vbx1 bx1) {r : Bool} (h : f_soft_run_1 nd0 ax0 bx1 = some r) :
    Calls Try.prog 62 #[vax0, vbx1] w (fun e w' => e = .returned (.bool r) ∧ Hp S w0 w' (ow)) := by
  unfold f_soft_run_1 at h
  refine enter (n := 58) (args := [vax0, vbx1]) Try.func62 rfl rfl (Nat.le_of_ble_eq_true rfl) fun a hf => ?_
  replace hf : Fr 58 a [(0, vax0), (1, vbx1)] := hf
  refine wp_mono (Q := fun e a w => e = .ret ∧ Fr 58 a [(4, .bool r)] ∧ Hp S w0 w (ow)) ?_ ?_
  rotate_left
  · rintro e a w ⟨rfl, hf, hp⟩
    exact ret1 hf rfl rfl ⟨rfl, hp⟩
  refine wp_seq ?_
  refine wp_reg ?_
  refine st_assign hf rfl rfl (by decide) ?_
  clear hf; intro a ha hf; clear ha
  refine st_nil hf ?_
  refine th_n ?_
  refine wp_seq ?_
  refine wp_seq ?_
  obtain ⟨n1, hx2, h⟩ := bnd h
  obtain ⟨v3, bb4, y5, y6, ho7⟩ := RdA.at hA hax0 hx2
  obtain ⟨n8, hx9, h⟩ := bnd h
  obtain ⟨v10, bb11, y12, y13, ho14⟩ := RdA.at hA hbx1 hx9
  refine wp_cutN (fun a w => Fr 58 a [(0, vax0), (1, vbx1), (13, .bool (fne ((nth nd0 n1).2.2.1) ((nth nd0 n8).2.2.1)))] ∧ Hp S w0 w (ow)) ?_ ?_
  · have hp := hp.same (Same.drew w)
    refine dr_begin' (fun a w => Fr 58 a [(0, vax0), (1, vbx1), (13, .bool (fne ((nth nd0 n1).2.2.1) ((nth nd0 n8).2.2.1)))] ∧ Hp S w0 w (ow)) (fun w' => ∃ l, Hp S w0 w' l) [] (by kernel_rfl) ?_
    refine dr_take 0 (vax0) rfl (by kernel_rfl) (by kernel_rfl) (by kernel_rfl) (by kernel_rfl) rfl rfl hf (by decide) rfl (fun w hp => ?_) ⟨_, hp⟩ ?_
    · obtain ⟨_, hp⟩ := hp
      refine st_move hf rfl rfl (by decide) ?_
      clear hf; intro a ha hf
      exact st_nil hf (th_n ⟨ha, rfl⟩)
    clear hf; intro a hf
    refine dr_nilE 1 rfl (by kernel_rfl) (by kernel_rfl) (by kernel_rfl) hf (by decide) rfl rfl (WP.ptr hax0 hx2) ?_
    clear hf; intro a hf
    refine dr_take 2 (optr vax0 2) rfl (by kernel_rfl) (by kernel_rfl) (by kernel_rfl) (by kernel_rfl) rfl rfl hf (by decide) rfl (fun w hp => ?_) ⟨_, hp⟩ ?_
    · obtain ⟨_, hp⟩ := hp
      refine st_faP (off := 2) (sz := 1) hf (by decide) (by kernel_rfl) (by decide) rfl rfl (WP.isP hax0 hx2) ?_
      clear hf; intro a ha hf
      exact st_nil hf (th_n ⟨ha, rfl⟩)
    clear hf; intro a hf
    refine dr_take 3 (.float .f64 bb4) rfl (by kernel_rfl) (by kernel_rfl) (by kernel_rfl) (by kernel_rfl) rfl rfl hf (by decide) rfl (fun w hp => ?_) ⟨_, hp⟩ ?_
    · obtain ⟨_, hp⟩ := hp
      refine st_ldO (u := .float .f64 bb4) hf (by decide) pl29 rfl rfl (ho7.ob hp) rfl ?_
      clear hf; intro a ha hf
      exact st_nil hf (th_n ⟨ha, rfl⟩)
    clear hf; intro a hf
    refine dr_take 4 (vbx1) rfl (by kernel_rfl) (by kernel_rfl) (by kernel_rfl) (by kernel_rfl) rfl rfl hf (by decide) rfl (fun w hp => ?_) ⟨_, hp⟩ ?_
    · obtain ⟨_, hp⟩ := hp
      refine st_move hf rfl rfl (by decide) ?_
      clear hf; intro a ha hf
      exact st_nil hf (th_n ⟨ha, rfl⟩)
    clear hf; intro a hf
    refine dr_nilE 5 rfl (by kernel_rfl) (by kernel_rfl) (by kernel_rfl) hf (by decide) rfl rfl (WP.ptr hbx1 hx9) ?_
    clear hf; intro a hf
    refine dr_take 6 (optr vbx1 2) rfl (by kernel_rfl) (by kernel_rfl) (by kernel_rfl) (by kernel_rfl) rfl rfl hf (by decide) rfl (fun w hp => ?_) ⟨_, hp⟩ ?_
    · obtain ⟨_, hp⟩ := hp
      refine st_faP (off := 2) (sz := 1) hf (by decide) (by kernel_rfl) (by decide) rfl rfl (WP.isP hbx1 hx9) ?_
      clear hf; intro a ha hf
      exact st_nil hf (th_n ⟨ha, rfl⟩)
    clear hf; intro a hf
    refine dr_take 7 (.float .f64 bb11) rfl (by kernel_rfl) (by kernel_rfl) (by kernel_rfl) (by kernel_rfl) rfl rfl hf (by decide) rfl (fun w hp => ?_) ⟨_, hp⟩ ?_
    · obtain ⟨_, hp⟩ := hp
      refine st_ldO (u := .float .f64 bb11) hf (by decide) pl29 rfl rfl (ho14.ob hp) rfl ?_
      clear hf; intro a ha hf
      exact st_nil hf (th_n ⟨ha, rfl⟩)
    clear hf; intro a hf
    refine dr_take 8 (.bool (fne ((nth nd0 n1).2.2.1) ((nth nd0 n8).2.2.1))) rfl (by kernel_rfl) (by kernel_rfl) (by kernel_rfl) (by kernel_rfl) rfl rfl hf (by decide) rfl (fun w hp => ?_) ⟨_, hp⟩ ?_
    · obtain ⟨_, hp⟩ := hp
      refine st_fcmp (r_fne (fx := (nth nd0 n1).2.2.1) (fy := (nth nd0 n8).2.2.1) y6 y13) hf (by decide) rfl rfl rfl ?_
      clear hf; intro a ha hf
      exact st_nil hf (th_n ⟨ha, rfl⟩)
    clear hf; intro a hf
    refine dr_end (by kernel_rfl) ?_ _
    exact ⟨hf.sub ⟨rfl, rfl, rfl, trivial⟩, hp⟩
  rintro a w ⟨hf, hp⟩
  refine th_n ?_
  refine wp_if hf rfl (fun hb => ?_) (fun hb => ?_)
  · replace h := ifT h hb
    refine wp_seq ?_
    obtain ⟨n15, hx16, h⟩ := bnd h
    obtain ⟨v17, bb18, y19, y20, ho21⟩ := RdA.at hA hax0 hx16
    obtain ⟨n22, hx23, h⟩ := bnd h
    obtain ⟨v24, bb25, y26, y27, ho28⟩ := RdA.at hA hbx1 hx23
    refine wp_cutN (fun a w => Fr 58 a [(4, .bool (flt ((nth nd0 n15).2.2.1) ((nth nd0 n22).2.2.1)))] ∧ Hp S w0 w (ow)) ?_ ?_
    · have hp := hp.same (Same.drew w)
      refine dr_begin' (fun a w => Fr 58 a [(4, .bool (flt ((nth nd0 n15).2.2.1) ((nth nd0 n22).2.2.1)))] ∧ Hp S w0 w (ow)) (fun w' => ∃ l, Hp S w0 w' l) [] (by kernel_rfl) ?_
      refine dr_take 0 (vax0) rfl (by kernel_rfl) (by kernel_rfl) (by kernel_rfl) (by kernel_rfl) rfl rfl hf (by decide) rfl (fun w hp => ?_) ⟨_, hp⟩ ?_
      · obtain ⟨_, hp⟩ := hp
        refine st_move hf rfl rfl (by decide) ?_
        clear hf; intro a ha hf
        exact st_nil hf (th_n ⟨ha, rfl⟩)
      clear hf; intro a hf
      refine dr_nilE 1 rfl (by kernel_rfl) (by kernel_rfl) (by kernel_rfl) hf (by decide) rfl rfl (WP.ptr hax0 hx16) ?_
      clear hf; intro a hf
      refine dr_take 2 (optr vax0 2) rfl (by kernel_rfl) (by kernel_rfl) (by kernel_rfl) (by kernel_rfl) rfl rfl hf (by decide) rfl (fun w hp => ?_) ⟨_, hp⟩ ?_
      · obtain ⟨_, hp⟩ := hp
        refine st_faP (off := 2) (sz := 1) hf (by decide) (by kernel_rfl) (by decide) rfl rfl (WP.isP hax0 hx16) ?_
        clear hf; intro a ha hf
        exact st_nil hf (th_n ⟨ha, rfl⟩)
      clear hf; intro a hf
      refine dr_take 3 (.float .f64 bb18) rfl (by kernel_rfl) (by kernel_rfl) (by kernel_rfl) (by kernel_rfl) rfl rfl hf (by decide) rfl (fun w hp => ?_) ⟨_, hp⟩ ?_
      · obtain ⟨_, hp⟩ := hp
        refine st_ldO (u := .float .f64 bb18) hf (by decide) pl29 rfl rfl (ho21.ob hp) rfl ?_
        clear hf; intro a ha hf
        exact st_nil hf (th_n ⟨ha, rfl⟩)
      clear hf; intro a hf
      refine dr_take 4 (vbx1) rfl (by kernel_rfl) (by kernel_rfl) (by kernel_rfl) (by kernel_rfl) rfl rfl hf (by decide) rfl (fun w hp => ?_) ⟨_, hp⟩ ?_
      · obtain ⟨_, hp⟩ := hp
        refine st_move hf rfl rfl (by decide) ?_
        clear hf; intro a ha hf
        exact st_nil hf (th_n ⟨ha, rfl⟩)
      clear hf; intro a hf
      refine dr_nilE 5 rfl (by kernel_rfl) (by kernel_rfl) (by kernel_rfl) hf (by decide) rfl rfl (WP.ptr hbx1 hx23) ?_
      clear hf; intro a hf
      refine dr_take 6 (optr vbx1 2) rfl (by kernel_rfl) (by kernel_rfl) (by kernel_rfl) (by kernel_rfl) rfl rfl hf (by decide) rfl (fun w hp => ?_) ⟨_, hp⟩ ?_
      · obtain ⟨_, hp⟩ := hp
        refine st_faP (off := 2) (sz := 1) hf (by decide) (by kernel_rfl) (by decide) rfl rfl (WP.isP hbx1 hx23) ?_
        clear hf; intro a ha hf
        exact st_nil hf (th_n ⟨ha, rfl⟩)
      clear hf; intro a hf
      refine dr_take 7 (.float .f64 bb25) rfl (by kernel_rfl) (by kernel_rfl) (by kernel_rfl) (by kernel_rfl) rfl rfl hf (by decide) rfl (fun w hp => ?_) ⟨_, hp⟩ ?_
      · obtain ⟨_, hp⟩ := hp
        refine st_ldO (u := .float .f64 bb25) hf (by decide) pl29 rfl rfl (ho28.ob hp) rfl ?_
        clear hf; intro a ha hf
        exact st_nil hf (th_n ⟨ha, rfl⟩)
      clear hf; intro a hf
      refine dr_take 8 (.bool (flt ((nth nd0 n15).2.2.1) ((nth nd0 n22).2.2.1))) rfl (by kernel_rfl) (by kernel_rfl) (by kernel_rfl) (by kernel_rfl) rfl rfl hf (by decide) rfl (fun w hp => ?_) ⟨_, hp⟩ ?_
      · obtain ⟨_, hp⟩ := hp
        refine st_fcmp (r_flt (fx := (nth nd0 n15).2.2.1) (fy := (nth nd0 n22).2.2.1) y20 y27) hf (by decide) rfl rfl rfl ?_
        clear hf; intro a ha hf
        exact st_nil hf (th_n ⟨ha, rfl⟩)
      clear hf; intro a hf
      refine dr_take 9 (.bool (flt ((nth nd0 n15).2.2.1) ((nth nd0 n22).2.2.1))) rfl (by kernel_rfl) (by kernel_rfl) (by kernel_rfl) (by kernel_rfl) rfl rfl hf (by decide) rfl (fun w hp => ?_) ⟨_, hp⟩ ?_
      · obtain ⟨_, hp⟩ := hp
        refine st_assign hf rfl rfl (by decide) ?_
        clear hf; intro a ha hf
        exact st_nil hf (th_n ⟨ha, rfl⟩)
      clear hf; intro a hf
      refine dr_end (by kernel_rfl) ?_ _
      exact ⟨hf.sub ⟨rfl, trivial⟩, hp⟩
    rintro a w ⟨hf, hp⟩
    refine th_n ?_
    refine wp_ret ?_
    refine th_r ?_
    obtain rfl := Option.some.inj h
    exact ⟨rfl, ⟨hf.sub ⟨rfl, trivial⟩, hp⟩⟩
  replace h := ifF h hb
  refine wp_skip ?_
  refine th_n ?_
  refine wp_seq ?_
  refine wp_seq ?_
  obtain ⟨n29, hx30, h⟩ := bnd h
  obtain ⟨v31, bb32, y33, y34, ho35⟩ := RdA.at hA hax0 hx30
  obtain ⟨n36, hx37, h⟩ := bnd h
  obtain ⟨v38, bb39, y40, y41, ho42⟩ := RdA.at hA hbx1 hx37
  refine wp_cutN (fun a w => Fr 58 a [(0, vax0), (1, vbx1), (31, .bool (!(decide ((nth nd0 n29).2.1 = (nth nd0 n36).2.1))))] ∧ Hp S w0 w (ow)) ?_ ?_
  · have hp := hp.same (Same.drew w)
    refine dr_begin' (fun a w => Fr 58 a [(0, vax0), (1, vbx1), (31, .bool (!(decide ((nth nd0 n29).2.1 = (nth nd0 n36).2.1))))] ∧ Hp S w0 w (ow)) (fun w' => ∃ l, Hp S w0 w' l) [] (by kernel_rfl) ?_
    refine dr_take 0 (vax0) rfl (by kernel_rfl) (by kernel_rfl) (by kernel_rfl) (by kernel_rfl) rfl rfl hf (by decide) rfl (fun w hp => ?_) ⟨_, hp⟩ ?_
    · obtain ⟨_, hp⟩ := hp
      refine st_move hf rfl rfl (by decide) ?_
      clear hf; intro a ha hf
      exact st_nil hf (th_n ⟨ha, rfl⟩)
    clear hf; intro a hf
    refine dr_nilE 1 rfl (by kernel_rfl) (by kernel_rfl) (by kernel_rfl) hf (by decide) rfl rfl (WP.ptr hax0 hx30) ?_
    clear hf; intro a hf
    refine dr_take 2 (optr vax0 1) rfl (by kernel_rfl) (by kernel_rfl) (by kernel_rfl) (by kernel_rfl) rfl rfl hf (by decide) rfl (fun w hp => ?_) ⟨_, hp⟩ ?_
    · obtain ⟨_, hp⟩ := hp
      refine st_faP (off := 1) (sz := 1) hf (by decide) (by kernel_rfl) (by decide) rfl rfl (WP.isP hax0 hx30) ?_
      clear hf; intro a ha hf
      exact st_nil hf (th_n ⟨ha, rfl⟩)
    clear hf; intro a hf
    refine dr_take 3 (v31) rfl (by kernel_rfl) (by kernel_rfl) (by kernel_rfl) (by kernel_rfl) rfl rfl hf (by decide) rfl (fun w hp => ?_) ⟨_, hp⟩ ?_
    · obtain ⟨_, hp⟩ := hp
      refine st_ldO (u := v31) hf (by decide) pl86 rfl rfl (ho35.ob hp) rfl ?_
      clear hf; intro a ha hf
      exact st_nil hf (th_n ⟨ha, rfl⟩)
    clear hf; intro a hf
    refine dr_take 4 (vbx1) rfl (by kernel_rfl) (by kernel_rfl) (by kernel_rfl) (by kernel_rfl) rfl rfl hf (by decide) rfl (fun w hp => ?_) ⟨_, hp⟩ ?_
    · obtain ⟨_, hp⟩ := hp
      refine st_move hf rfl rfl (by decide) ?_
      clear hf; intro a ha hf
      exact st_nil hf (th_n ⟨ha, rfl⟩)
    clear hf; intro a hf
    refine dr_nilE 5 rfl (by kernel_rfl) (by kernel_rfl) (by kernel_rfl) hf (by decide) rfl rfl (WP.ptr hbx1 hx37) ?_
    clear hf; intro a hf
    refine dr_take 6 (optr vbx1 1) rfl (by kernel_rfl) (by kernel_rfl) (by kernel_rfl) (by kernel_rfl) rfl rfl hf (by decide) rfl (fun w hp => ?_) ⟨_, hp⟩ ?_
    · obtain ⟨_, hp⟩ := hp
      refine st_faP (off := 1) (sz := 1) hf (by decide) (by kernel_rfl) (by decide) rfl rfl (WP.isP hbx1 hx37) ?_
      clear hf; intro a ha hf
      exact st_nil hf (th_n ⟨ha, rfl⟩)
    clear hf; intro a hf
    refine dr_take 7 (v38) rfl (by kernel_rfl) (by kernel_rfl) (by kernel_rfl) (by kernel_rfl) rfl rfl hf (by decide) rfl (fun w hp => ?_) ⟨_, hp⟩ ?_
    · obtain ⟨_, hp⟩ := hp
      refine st_ldO (u := v38) hf (by decide) pl86 rfl rfl (ho42.ob hp) rfl ?_
      clear hf; intro a ha hf
      exact st_nil hf (th_n ⟨ha, rfl⟩)
    clear hf; intro a hf
    refine dr_take 8 (.bool (!(decide ((nth nd0 n29).2.1 = (nth nd0 n36).2.1)))) rfl (by kernel_rfl) (by kernel_rfl) (by kernel_rfl) (by kernel_rfl) rfl rfl hf (by decide) rfl (fun w hp => ?_) ⟨_, hp⟩ ?_
    · obtain ⟨_, hp⟩ := hp
      refine st_wneq hf (by decide) Try.underlying86 (szne (sz := 4) (by kernel_rfl) (by decide)) (hA.ara hp) rfl rfl rfl y33 y40 ?_
      clear hf; intro a ha hf
      exact st_nil hf (th_n ⟨ha, rfl⟩)
    clear hf; intro a hf
    refine dr_end (by kernel_rfl) ?_ _
    exact ⟨hf.sub ⟨rfl, rfl, rfl, trivial⟩, hp⟩
  rintro a w ⟨hf, hp⟩
  refine th_n ?_
  refine wp_if hf rfl (fun hb => ?_) (fun hb => ?_)
  · replace h := ifT h hb
    refine wp_seq ?_
    obtain ⟨n43, hx44, h⟩ := bnd h
    obtain ⟨v45, bb46, y47, y48, ho49⟩ := RdA.at hA hax0 hx44
    obtain ⟨n50, hx51, h⟩ := bnd h
    obtain ⟨v52, bb53, y54, y55, ho56⟩ := RdA.at hA y47 hx51
    obtain ⟨n57, hx58, h⟩ := bnd h
    obtain ⟨v59, bb60, y61, y62, ho63⟩ := RdA.at hA hbx1 hx58
    obtain ⟨n64, hx65, h⟩ := bnd h
    obtain ⟨v66, bb67, y68, y69, ho70⟩ := RdA.at hA y61 hx65
    refine wp_cutN (fun a w => Fr 58 a [(4, .bool (decide ((nth nd0 n50).2.2.2 < (nth nd0 n64).2.2.2)))] ∧ Hp S w0 w (ow)) ?_ ?_
    · have hp := hp.same (Same.drew w)
      refine dr_begin' (fun a w => Fr 58 a [(4, .bool (decide ((nth nd0 n50).2.2.2 < (nth nd0 n64).2.2.2)))] ∧ Hp S w0 w (ow)) (fun w' => ∃ l, Hp S w0 w' l) [] (by kernel_rfl) ?_
      refine dr_take 0 (vax0) rfl (by kernel_rfl) (by kernel_rfl) (by kernel_rfl) (by kernel_rfl) rfl rfl hf (by decide) rfl (fun w hp => ?_) ⟨_, hp⟩ ?_
      · obtain ⟨_, hp⟩ := hp
        refine st_move hf rfl rfl (by decide) ?_
        clear hf; intro a ha hf
        exact st_nil hf (th_n ⟨ha, rfl⟩)
      clear hf; intro a hf
      refine dr_nilE 1 rfl (by kernel_rfl) (by kernel_rfl) (by kernel_rfl) hf (by decide) rfl rfl (WP.ptr hax0 hx44) ?_
      clear hf; intro a hf
      refine dr_take 2 (optr vax0 1) rfl (by kernel_rfl) (by kernel_rfl) (by kernel_rfl) (by kernel_rfl) rfl rfl hf (by decide) rfl (fun w hp => ?_) ⟨_, hp⟩ ?_
      · obtain ⟨_, hp⟩ := hp
        refine st_faP (off := 1) (sz := 1) hf (by decide) (by kernel_rfl) (by decide) rfl rfl (WP.isP hax0 hx44) ?_
        clear hf; intro a ha hf
        exact st_nil hf (th_n ⟨ha, rfl⟩)
      clear hf; intro a hf
      refine dr_take 3 (v45) rfl (by kernel_rfl) (by kernel_rfl) (by kernel_rfl) (by kernel_rfl) rfl rfl hf (by decide) rfl (fun w hp => ?_) ⟨_, hp⟩ ?_
      · obtain ⟨_, hp⟩ := hp
        refine st_ldO (u := v45) hf (by decide) pl86 rfl rfl (ho49.ob hp) rfl ?_
        clear hf; intro a ha hf
        exact st_nil hf (th_n ⟨ha, rfl⟩)
      clear hf; intro a hf
      refine dr_nilE 4 rfl (by kernel_rfl) (by kernel_rfl) (by kernel_rfl) hf (by decide) rfl rfl (WP.ptr y47 hx51) ?_
      clear hf; intro a hf
      refine dr_take 5 (optr v45 3) rfl (by kernel_rfl) (by kernel_rfl) (by kernel_rfl) (by kernel_rfl) rfl rfl hf (by decide) rfl (fun w hp => ?_) ⟨_, hp⟩ ?_
      · obtain ⟨_, hp⟩ := hp
        refine st_faP (off := 3) (sz := 1) hf (by decide) (by kernel_rfl) (by decide) rfl rfl (WP.isP y47 hx51) ?_
        clear hf; intro a ha hf
        exact st_nil hf (th_n ⟨ha, rfl⟩)
      clear hf; intro a hf
      refine dr_take 6 (.int .i64 ((nth nd0 n50).2.2.2)) rfl (by kernel_rfl) (by kernel_rfl) (by kernel_rfl) (by kernel_rfl) rfl rfl hf (by decide) rfl (fun w hp => ?_) ⟨_, hp⟩ ?_
      · obtain ⟨_, hp⟩ := hp
        refine st_ldO (u := .int .i64 ((nth nd0 n50).2.2.2)) hf (by decide) pl3 rfl rfl (ho56.ob hp) rfl ?_
        clear hf; intro a ha hf
        exact st_nil hf (th_n ⟨ha, rfl⟩)
      clear hf; intro a hf
      refine dr_take 7 (vbx1) rfl (by kernel_rfl) (by kernel_rfl) (by kernel_rfl) (by kernel_rfl) rfl rfl hf (by decide) rfl (fun w hp => ?_) ⟨_, hp⟩ ?_
      · obtain ⟨_, hp⟩ := hp
        refine st_move hf rfl rfl (by decide) ?_
        clear hf; intro a ha hf
        exact st_nil hf (th_n ⟨ha, rfl⟩)
      clear hf; intro a hf
      refine dr_nilE 8 rfl (by kernel_rfl) (by kernel_rfl) (by kernel_rfl) hf (by decide) rfl rfl (WP.ptr hbx1 hx58) ?_
      clear hf; intro a hf
      refine dr_take 9 (optr vbx1 1) rfl (by kernel_rfl) (by kernel_rfl) (by kernel_rfl) (by kernel_rfl) rfl rfl hf (by decide) rfl (fun w hp => ?_) ⟨_, hp⟩ ?_
      · obtain ⟨_, hp⟩ := hp
        refine st_faP (off := 1) (sz := 1) hf (by decide) (by kernel_rfl) (by decide) rfl rfl (WP.isP hbx1 hx58) ?_
        clear hf; intro a ha hf
        exact st_nil hf (th_n ⟨ha, rfl⟩)
      clear hf; intro a hf
      refine dr_take 10 (v59) rfl (by kernel_rfl) (by kernel_rfl) (by kernel_rfl) (by kernel_rfl) rfl rfl hf (by decide) rfl (fun w hp => ?_) ⟨_, hp⟩ ?_
      · obtain ⟨_, hp⟩ := hp
        refine st_ldO (u := v59) hf (by decide) pl86 rfl rfl (ho63.ob hp) rfl ?_
        clear hf; intro a ha hf
        exact st_nil hf (th_n ⟨ha, rfl⟩)
      clear hf; intro a hf
      refine dr_nilE 11 rfl (by kernel_rfl) (by kernel_rfl) (by kernel_rfl) hf (by decide) rfl rfl (WP.ptr y61 hx65) ?_
      clear hf; intro a hf
      refine dr_take 12 (optr v59 3) rfl (by kernel_rfl) (by kernel_rfl) (by kernel_rfl) (by kernel_rfl) rfl rfl hf (by decide) rfl (fun w hp => ?_) ⟨_, hp⟩ ?_
      · obtain ⟨_, hp⟩ := hp
        refine st_faP (off := 3) (sz := 1) hf (by decide) (by kernel_rfl) (by decide) rfl rfl (WP.isP y61 hx65) ?_
        clear hf; intro a ha hf
        exact st_nil hf (th_n ⟨ha, rfl⟩)
      clear hf; intro a hf
      refine dr_take 13 (.int .i64 ((nth nd0 n64).2.2.2)) rfl (by kernel_rfl) (by kernel_rfl) (by kernel_rfl) (by kernel_rfl) rfl rfl hf (by decide) rfl (fun w hp => ?_) ⟨_, hp⟩ ?_
      · obtain ⟨_, hp⟩ := hp
        refine st_ldO (u := .int .i64 ((nth nd0 n64).2.2.2)) hf (by decide) pl3 rfl rfl (ho70.ob hp) rfl ?_
        clear hf; intro a ha hf
        exact st_nil hf (th_n ⟨ha, rfl⟩)
      clear hf; intro a hf
      refine dr_take 14 (.bool (decide ((nth nd0 n50).2.2.2 < (nth nd0 n64).2.2.2))) rfl (by kernel_rfl) (by kernel_rfl) (by kernel_rfl) (by kernel_rfl) rfl rfl hf (by decide) rfl (fun w hp => ?_) ⟨_, hp⟩ ?_
      · obtain ⟨_, hp⟩ := hp
        refine st_ilss hf (by decide) rfl rfl rfl ?_
        clear hf; intro a ha hf
        exact st_nil hf (th_n ⟨ha, rfl⟩)
      clear hf; intro a hf
      refine dr_take 15 (.bool (decide ((nth nd0 n50).2.2.2 < (nth nd0 n64).2.2.2))) rfl (by kernel_rfl) (by kernel_rfl) (by kernel_rfl) (by kernel_rfl) rfl rfl hf (by decide) rfl (fun w hp => ?_) ⟨_, hp⟩ ?_
      · obtain ⟨_, hp⟩ := hp
        refine st_assign hf rfl rfl (by decide) ?_
        clear hf; intro a ha hf
        exact st_nil hf (th_n ⟨ha, rfl⟩)
      clear hf; intro a hf
      refine dr_end (by kernel_rfl) ?_ _
      exact ⟨hf.sub ⟨rfl, trivial⟩, hp⟩
    rintro a w ⟨hf, hp⟩
    refine th_n ?_
    refine wp_ret ?_
    refine th_r ?_
    obtain rfl := Option.some.inj h
    exact ⟨rfl, ⟨hf.sub ⟨rfl, trivial⟩, hp⟩⟩
  replace h := ifF h hb
  refine wp_skip ?_
  refine th_n ?_
  refine wp_seq ?_
  refine wp_reg ?_
  refine st_move hf rfl rfl (by decide) ?_
  clear hf; intro a ha hf; clear ha
  obtain ⟨n71, hx72, h⟩ := bnd h
  refine st_nilE hf (by decide) rfl rfl (WP.ptr hax0 hx72) ?_
  clear hf; intro a ha hf; clear ha
  refine st_faP (off := 0) (sz := 1) hf (by decide) (by kernel_rfl) (by decide) rfl rfl (WP.isP hax0 hx72) ?_
  clear hf; intro a ha hf; clear ha
  obtain ⟨v73, bb74, y75, y76, ho77⟩ := RdA.at hA hax0 hx72
  refine st_ldO (u := .bool ((nth nd0 n71).1)) hf (by decide) pl4 rfl rfl (ho77.ob hp) rfl ?_
  clear hf; intro a ha hf; clear ha
  refine st_not hf (by decide) rfl rfl ?_
  clear hf; intro a ha hf; clear ha
  refine st_move hf rfl rfl (by decide) ?_
  clear hf; intro a ha hf; clear ha
  obtain ⟨z80, hz78, h⟩ := bnd h
  refine wpList_cut 5 (fun a w => Fr 58 a [(57, .bool z80)] ∧ Hp S w0 w (ow)) ?_ ?_
  · rcases Bool.eq_false_or_eq_true (!((nth nd0 n71).1)) with hb79 | hb79
    · skip
      replace hz78 := ifT hz78 hb79
      refine st_move hf (wantY hf rfl rfl hb79) rfl (by decide) ?_
      clear hf; intro a ha hf; clear ha
      obtain ⟨n81, hx82, hz78⟩ := bnd hz78
      refine st_nilE hf (by decide) (wantY hf rfl rfl hb79) rfl (WP.ptr hbx1 hx82) ?_
      clear hf; intro a ha hf; clear ha
      refine st_faP (off := 0) (sz := 1) hf (by decide) (by kernel_rfl) (by decide) (wantY hf rfl rfl hb79) rfl (WP.isP hbx1 hx82) ?_
      clear hf; intro a ha hf; clear ha
      obtain ⟨v83, bb84, y85, y86, ho87⟩ := RdA.at hA hbx1 hx82
      refine st_ldO (u := .bool ((nth nd0 n81).1)) hf (by decide) pl4 (wantY hf rfl rfl hb79) rfl (ho87.ob hp) rfl ?_
      clear hf; intro a ha hf; clear ha
      obtain rfl := Option.some.inj hz78
      refine st_pick (v := .bool ((nth nd0 n81).1)) hf rfl rfl (fun hb' => ?_) (fun hb' => ?_) (by decide) ?_
      · rfl
      · exact absurd (hb79.symm.trans hb') (by decide)
      clear hf; intro a ha hf; clear ha
      refine st_nil hf (th_n ?_)
      exact ⟨hf.sub ⟨rfl, trivial⟩, hp⟩
    replace hz78 := ifF hz78 hb79
    refine st_skip hf (wantN hf rfl rfl hb79) rfl (by decide) ?_ rfl
    clear hf; intro a hf
    refine st_skip hf (wantN hf rfl rfl hb79) rfl (by decide) ?_ rfl
    clear hf; intro a hf
    refine st_skip hf (wantN hf rfl rfl hb79) rfl (by decide) ?_ rfl
    clear hf; intro a hf
    refine st_skip hf (wantN hf rfl rfl hb79) rfl (by decide) ?_ rfl
    clear hf; intro a hf
    obtain rfl := Option.some.inj hz78
    refine st_pick (v := .bool false) hf rfl rfl (fun hb' => ?_) (fun hb' => ?_) (by decide) ?_
    · exact absurd (hb79.symm.trans hb') (by decide)
    · rfl
    clear hf; intro a ha hf; clear ha
    refine st_nil hf (th_n ?_)
    exact ⟨hf.sub ⟨rfl, trivial⟩, hp⟩
  rintro a w ⟨hf, hp⟩
  refine st_assign hf rfl rfl (by decide) ?_
  clear hf; intro a ha hf; clear ha
  refine st_nil hf ?_
  refine th_n ?_
  refine wp_ret ?_
  obtain rfl := Option.some.inj h
  exact ⟨rfl, ⟨hf.sub ⟨rfl, trivial⟩, hp⟩⟩

noncomputable def f_soft_two_put (nd0 : (List WayC)) (t0 : (List ((Option Nat) × (Option Nat)))) (it0 : Int) (wx1 : (Option Nat)) : Option (List ((Option Nat) × (Option Nat))) := ((if (((gt t0 it0).1).isNone) = true then (some true) else ((f_soft_run_1 nd0 wx1 ((gt t0 it0).1)).bind fun q11 => (some q11))).bind fun z7 => (if z7 = true then (some ((t0.set (it0).toNat (wx1, (gt t0 it0).2)).set (it0).toNat ((gt (t0.set (it0).toNat (wx1, (gt t0 it0).2)) it0).1, (gt t0 it0).1))) else ((if (((gt t0 it0).2).isNone) = true then (some true) else ((f_soft_run_1 nd0 wx1 ((gt t0 it0).2)).bind fun q39 => (some q39))).bind fun z35 => (if z35 = true then (some (t0.set (it0).toNat ((gt t0 it0).1, wx1))) else (some t0)))))
theorem f_soft_two_put_c {S : Nat → Prop} {w0 w : World} {ow : List Res} (bs : List Nat) (nd0 : List WayC) (hA : RdA S w0 92 bs nd0) (vt0 : Value) (tbt0 : Nat) (t0 : List ((Option Nat) × (Option Nat))) (it0 : Int) (kt0 : 0 ≤ it0 ∧ it0 < (t0.length : Int)) (vwx1 : Value) (wx1 : Option Nat) (hwx1 : WP bs vwx1 wx1) (hp : Hp S w0 w (Res.sl (Ek.pair (Ek.wp bs) (Ek.wp bs)) tbt0 vt0 t0 :: ow)) {r : (List ((Option Nat) × (Option Nat)))} (h : f_soft_two_put nd0 t0 it0 wx1 = some r) :
    Calls Try.prog 63 #[eptr vt0 it0 2, vwx1, .func (.func 62) #[] #[]] w (fun e w' => e = .returned (.tuple #[]) ∧ Hp S w0 w' (Res.sl (Ek.pair (Ek.wp bs) (Ek.wp bs)) tbt0 vt0 r :: ow)) := by
  unfold f_soft_two_put at h
  refine enter (n := 51) (args := [eptr vt0 it0 2, vwx1, .func (.func 62) #[] #[]]) Try.func63 rfl rfl (Nat.le_of_ble_eq_true rfl) fun a hf => ?_
  replace hf : Fr 51 a [(0, eptr vt0 it0 2), (1, vwx1), (2, .func (.func 62) #[] #[])] := hf
  refine wp_mono (Q := fun e a w => (e = .ret ∨ e = .normal) ∧ Fr 51 a [] ∧ Hp S w0 w (Res.sl (Ek.pair (Ek.wp bs) (Ek.wp bs)) tbt0 vt0 r :: ow)) ?_ ?_
  rotate_left
  · rintro e a w ⟨rfl | rfl, hf, hp⟩
    · exact ret0 hf rfl ⟨rfl, hp⟩
    · exact ret0n hf rfl ⟨rfl, hp⟩
  refine wp_block ?_
  refine wp_seq ?_
  refine wp_reg ?_
  refine st_move hf rfl rfl (by decide) ?_
  clear hf; intro a ha hf; clear ha
  refine st_nilE hf (by decide) rfl rfl (Sl.ptr (hp.sl (i := 0) rfl) kt0.1 kt0.2) ?_
  clear hf; intro a ha hf; clear ha
  have hc2 : 0 ≤ (0 : Int) ∧ (0 : Int) < (2 : Int) := by decide
  refine st_iaP (sz := 1) hf (by decide) Try.underlying88 (by kernel_rfl) rfl rfl rfl (Sl.isP (hp.sl (i := 0) rfl) kt0.1 kt0.2) hc2.1 hc2.2 ?_
  clear hf; intro a ha hf; clear ha
  refine st_ldQW (bs := bs) (yv := (gt t0 it0).1) hf (by decide) pl86 rfl rfl (Sl.part (E := (Ek.pair (Ek.wp bs) (Ek.wp bs))) (F := (Ek.wp bs)) (o := ((0 : Int)).toNat * 1) (Sub.fst (E := (Ek.wp bs)) (F := (Ek.wp bs))) (hp.sl (i := 0) rfl) kt0.1 kt0.2) ?_
  clear hf; intro a v3 y4 ha hf; clear ha
  refine st_wnilE hf (by decide) Try.underlying86 rfl rfl rfl y4 ?_
  clear hf; intro a ha hf; clear ha
  refine st_move hf rfl rfl (by decide) ?_
  clear hf; intro a ha hf; clear ha
  obtain ⟨z7, hz5, h⟩ := bnd h
  refine wpList_cut 8 (fun a w => Fr 51 a [(0, eptr vt0 it0 2), (1, vwx1), (2, .func (.func 62) #[] #[]), (20, .bool z7)] ∧ Hp S w0 w (Res.sl (Ek.pair (Ek.wp bs) (Ek.wp bs)) tbt0 vt0 t0 :: ow)) ?_ ?_
  · rcases Bool.eq_false_or_eq_true (((gt t0 it0).1).isNone) with hb6 | hb6
    · skip
      replace hz5 := ifT hz5 hb6
      refine st_skip hf (wantN hf rfl rfl hb6) rfl (by decide) ?_ rfl
      clear hf; intro a hf
      refine st_skip hf (wantN hf rfl rfl hb6) rfl (by decide) ?_ rfl
      clear hf; intro a hf
      refine st_skip hf (wantN hf rfl rfl hb6) rfl (by decide) ?_ rfl
      clear hf; intro a hf
      refine st_skip hf (wantN hf rfl rfl hb6) rfl (by decide) ?_ rfl
      clear hf; intro a hf
      refine st_skip hf (wantN hf rfl rfl hb6) rfl (by decide) ?_ rfl
      clear hf; intro a hf
      refine st_skip hf (wantN hf rfl rfl hb6) rfl (by decide) ?_ rfl
      clear hf; intro a hf
      refine st_skip hf (wantN hf rfl rfl hb6) rfl (by decide) ?_ rfl
      clear hf; intro a hf
      obtain rfl := Option.some.inj hz5
      refine st_pick (v := .bool true) hf rfl rfl (fun hb' => ?_) (fun hb' => ?_) (by decide) ?_
      · rfl
      · exact absurd (hb6.symm.trans hb') (by decide)
      clear hf; intro a ha hf; clear ha
      refine st_nil hf (th_n ?_)
      exact ⟨hf.sub ⟨rfl, rfl, rfl, rfl, trivial⟩, hp⟩
    replace hz5 := ifF hz5 hb6
    refine st_move hf (wantY hf rfl rfl hb6) rfl (by decide) ?_
    clear hf; intro a ha hf; clear ha
    refine st_move hf (wantY hf rfl rfl hb6) rfl (by decide) ?_
    clear hf; intro a ha hf; clear ha
    refine st_move hf (wantY hf rfl rfl hb6) rfl (by decide) ?_
    clear hf; intro a ha hf; clear ha
    refine st_nilE hf (by decide) (wantY hf rfl rfl hb6) rfl (Sl.ptr (hp.sl (i := 0) rfl) kt0.1 kt0.2) ?_
    clear hf; intro a ha hf; clear ha
    have hc8 : 0 ≤ (0 : Int) ∧ (0 : Int) < (2 : Int) := by decide
    refine st_iaP (sz := 1) hf (by decide) Try.underlying88 (by kernel_rfl) (wantY hf rfl rfl hb6) rfl rfl (Sl.isP (hp.sl (i := 0) rfl) kt0.1 kt0.2) hc8.1 hc8.2 ?_
    clear hf; intro a ha hf; clear ha
    refine st_ldQW (bs := bs) (yv := (gt t0 it0).1) hf (by decide) pl86 (wantY hf rfl rfl hb6) rfl (Sl.part (E := (Ek.pair (Ek.wp bs) (Ek.wp bs))) (F := (Ek.wp bs)) (o := ((0 : Int)).toNat * 1) (Sub.fst (E := (Ek.wp bs)) (F := (Ek.wp bs))) (hp.sl (i := 0) rfl) kt0.1 kt0.2) ?_
    clear hf; intro a v9 y10 ha hf; clear ha
    obtain ⟨q11, hcall12, hz5⟩ := bnd hz5
    refine st_call hf (by decide) Try.func62 rfl rfl (wantY hf rfl rfl hb6) rfl rfl (f_soft_run_1_c hp _ _ hA _ _ hwx1 _ _ y10 hcall12) ?_
    rintro _ w ⟨rfl, hp0⟩
    clear hp; have hp := hp0; clear hp0
    replace hp : Hp _ _ _ (Res.sl (Ek.pair (Ek.wp bs) (Ek.wp bs)) tbt0 vt0 t0 :: ow) := hp
    refine ⟨_, rfl, ?_⟩
    clear hf; intro a hf
    obtain rfl := Option.some.inj hz5
    refine st_pick (v := .bool q11) hf rfl rfl (fun hb' => ?_) (fun hb' => ?_) (by decide) ?_
    · exact absurd (hb6.symm.trans hb') (by decide)
    · rfl
    clear hf; intro a ha hf; clear ha
    refine st_nil hf (th_n ?_)
    exact ⟨hf.sub ⟨rfl, rfl, rfl, rfl, trivial⟩, hp⟩
  rintro a w ⟨hf, hp⟩
  refine st_assign hf rfl rfl (by decide) ?_
  clear hf; intro a ha hf; clear ha
  refine st_nil hf ?_
  refine th_n ?_
  refine wp_if hf rfl (fun hb => ?_) (fun hb => ?_)
  · replace h := ifT h hb
    obtain ⟨S13, hp14, rd15, up16, bk17⟩ := Hp.lendS hp (i := 0) rfl
    have rl18 := rd15
    have rl19 := ((hA.now hp).mono up16)
    have fx28 := hp.sl (i := 0) rfl
    have hc20 : 0 ≤ (0 : Int) ∧ (0 : Int) < (2 : Int) := by decide
    obtain ⟨v26, y24, hl21⟩ := RdS.pinPW (p := it0) (o := ((0 : Int)).toNat * 1) (Sub.fst (E := (Ek.wp bs)) (F := (Ek.wp bs))) rl18 kt0.1 kt0.2
    have hc27 : 0 ≤ (0 : Int) ∧ (0 : Int) < (2 : Int) := by decide
    have hc29 : 0 ≤ (1 : Int) ∧ (1 : Int) < (2 : Int) := by decide
    refine wp_cutN (fun a w => Fr 51 a [] ∧ Hp S w0 w (Res.sl (Ek.pair (Ek.wp bs) (Ek.wp bs)) tbt0 vt0 ((t0.set (it0).toNat (wx1, (gt t0 it0).2)).set (it0).toNat ((gt (t0.set (it0).toNat (wx1, (gt t0 it0).2)) it0).1, (gt t0 it0).1)) :: ow)) ?_ ?_
    · have hp := hp14.same (Same.drew w)
      refine dr_begin' (fun a w => Fr 51 a [] ∧ Hp S w0 w (Res.sl (Ek.pair (Ek.wp bs) (Ek.wp bs)) tbt0 vt0 ((t0.set (it0).toNat (wx1, (gt t0 it0).2)).set (it0).toNat ((gt (t0.set (it0).toNat (wx1, (gt t0 it0).2)) it0).1, (gt t0 it0).1)) :: ow)) (fun w' => ∃ l, Hp S13 w w' l) [9, 12] (by kernel_rfl) ?_
      refine dr_takeP 0 (eptr vt0 it0 2) rfl (by kernel_rfl) (by kernel_rfl) (by kernel_rfl) rfl rfl hf (by decide) rfl (fun w => ?_) ?_
      · skip
        refine st_move hf rfl rfl (by decide) ?_
        clear hf; intro a ha hf
        exact st_nil hf (th_n ⟨ha, rfl⟩)
      clear hf; intro a hf
      refine dr_takeP 1 (eptr vt0 it0 2) rfl (by kernel_rfl) (by kernel_rfl) (by kernel_rfl) rfl rfl hf (by decide) rfl (fun w => ?_) ?_
      · skip
        refine st_move hf rfl rfl (by decide) ?_
        clear hf; intro a ha hf
        exact st_nil hf (th_n ⟨ha, rfl⟩)
      clear hf; intro a hf
      refine dr_takeP 2 (vwx1) rfl (by kernel_rfl) (by kernel_rfl) (by kernel_rfl) rfl rfl hf (by decide) rfl (fun w => ?_) ?_
      · skip
        refine st_move hf rfl rfl (by decide) ?_
        clear hf; intro a ha hf
        exact st_nil hf (th_n ⟨ha, rfl⟩)
      clear hf; intro a hf
      refine dr_takeP 3 (eptr vt0 it0 2) rfl (by kernel_rfl) (by kernel_rfl) (by kernel_rfl) rfl rfl hf (by decide) rfl (fun w => ?_) ?_
      · skip
        refine st_move hf rfl rfl (by decide) ?_
        clear hf; intro a ha hf
        exact st_nil hf (th_n ⟨ha, rfl⟩)
      clear hf; intro a hf
      refine dr_nilE 4 rfl (by kernel_rfl) (by kernel_rfl) (by kernel_rfl) hf (by decide) rfl rfl (Sl.ptr rl18.any kt0.1 kt0.2) ?_
      clear hf; intro a hf
      refine dr_takeP 5 (optr (eptr vt0 it0 2) (((0 : Int)).toNat * 1)) rfl (by kernel_rfl) (by kernel_rfl) (by kernel_rfl) rfl rfl hf (by decide) rfl (fun w => ?_) ?_
      · skip
        refine st_iaP (sz := 1) hf (by decide) Try.underlying88 (by kernel_rfl) rfl rfl rfl (Sl.isP rl18.any kt0.1 kt0.2) hc20.1 hc20.2 ?_
        clear hf; intro a ha hf
        exact st_nil hf (th_n ⟨ha, rfl⟩)
      clear hf; intro a hf
      refine dr_take2 6 (v26) rfl (by kernel_rfl) (by kernel_rfl) (by kernel_rfl) (by kernel_rfl) (by kernel_rfl) rfl rfl hf (by decide) rfl (fun w hp => ?_) ⟨_, hp⟩ ?_
      · obtain ⟨_, hp⟩ := hp
        refine st_ldP hf (by decide) pl86 rfl rfl (hl21 _ _ hp) ?_
        clear hf; intro a ha hf
        exact st_nil hf (th_n ⟨ha, rfl⟩)
      clear hf; intro a hf
      refine dr_nilE 7 rfl (by kernel_rfl) (by kernel_rfl) (by kernel_rfl) hf (by decide) rfl rfl (Sl.ptr rl18.any kt0.1 kt0.2) ?_
      clear hf; intro a hf
      refine dr_takeP 8 (optr (eptr vt0 it0 2) (((0 : Int)).toNat * 1)) rfl (by kernel_rfl) (by kernel_rfl) (by kernel_rfl) rfl rfl hf (by decide) rfl (fun w => ?_) ?_
      · skip
        refine st_iaP (sz := 1) hf (by decide) Try.underlying88 (by kernel_rfl) rfl rfl rfl (Sl.isP rl18.any kt0.1 kt0.2) hc27.1 hc27.2 ?_
        clear hf; intro a ha hf
        exact st_nil hf (th_n ⟨ha, rfl⟩)
      clear hf; intro a hf
      refine dr_nilE 10 rfl (by kernel_rfl) (by kernel_rfl) (by kernel_rfl) hf (by decide) rfl rfl (Sl.ptr fx28 kt0.1 kt0.2) ?_
      clear hf; intro a hf
      have hp := bk17 _ _ hp
      refine dr_one 9 rfl (by kernel_rfl) ?_
      refine st_stQ (E := (Ek.pair (Ek.wp bs) (Ek.wp bs))) (F := (Ek.wp bs)) (o := ((0 : Int)).toNat * 1) (Sub.fst (E := (Ek.wp bs)) (F := (Ek.wp bs))) hf (by kernel_rfl) hp (i := 0) rfl rfl rfl rfl (wp_cells hwx1) kt0.1 kt0.2 ?_
      clear hf; intro a w hf hp0; clear hp; have hp := hp0; clear hp0
      replace hp : Hp _ _ _ (Res.sl (Ek.pair (Ek.wp bs) (Ek.wp bs)) tbt0 vt0 (t0.set (it0).toNat (wx1, (gt t0 it0).2)) :: ow) := hp
      refine st_nil hf (th_n ⟨fun hn => absurd hn (by decide), ?_⟩)
      refine dr_takeP 11 (optr (eptr vt0 it0 2) (((1 : Int)).toNat * 1)) rfl (by kernel_rfl) (by kernel_rfl) (by kernel_rfl) rfl rfl hf (by decide) rfl (fun w => ?_) ?_
      · skip
        refine st_iaP (sz := 1) hf (by decide) Try.underlying88 (by kernel_rfl) rfl rfl rfl (Sl.isP fx28 kt0.1 kt0.2) hc29.1 hc29.2 ?_
        clear hf; intro a ha hf
        exact st_nil hf (th_n ⟨ha, rfl⟩)
      clear hf; intro a hf
      refine dr_one 12 rfl (by kernel_rfl) ?_
      refine st_stQ (E := (Ek.pair (Ek.wp bs) (Ek.wp bs))) (F := (Ek.wp bs)) (o := ((1 : Int)).toNat * 1) (Sub.snd (E := (Ek.wp bs)) (F := (Ek.wp bs))) hf (by kernel_rfl) hp (i := 0) rfl rfl rfl rfl (wp_cells y24) (show 0 ≤ it0 ∧ it0 < ((t0.set (it0).toNat (wx1, (gt t0 it0).2)).length : Int) from hset kt0).1 (show 0 ≤ it0 ∧ it0 < ((t0.set (it0).toNat (wx1, (gt t0 it0).2)).length : Int) from hset kt0).2 ?_
      clear hf; intro a w hf hp0; clear hp; have hp := hp0; clear hp0
      replace hp : Hp _ _ _ (Res.sl (Ek.pair (Ek.wp bs) (Ek.wp bs)) tbt0 vt0 ((t0.set (it0).toNat (wx1, (gt t0 it0).2)).set (it0).toNat ((gt (t0.set (it0).toNat (wx1, (gt t0 it0).2)) it0).1, (gt t0 it0).1)) :: ow) := hp
      refine st_nil hf (th_n ⟨fun hn => absurd hn (by decide), ?_⟩)
      refine dr_end (by kernel_rfl) ?_ _
      exact ⟨hf.sub trivial, hp⟩
    rintro a w ⟨hf, hp⟩
    refine ib_n ?_
    obtain rfl := Option.some.inj h
    exact ⟨(.inr rfl), ⟨hf.sub trivial, hp⟩⟩
  replace h := ifF h hb
  refine wp_seq ?_
  refine wp_reg ?_
  refine st_move hf rfl rfl (by decide) ?_
  clear hf; intro a ha hf; clear ha
  refine st_nilE hf (by decide) rfl rfl (Sl.ptr (hp.sl (i := 0) rfl) kt0.1 kt0.2) ?_
  clear hf; intro a ha hf; clear ha
  have hc30 : 0 ≤ (1 : Int) ∧ (1 : Int) < (2 : Int) := by decide
  refine st_iaP (sz := 1) hf (by decide) Try.underlying88 (by kernel_rfl) rfl rfl rfl (Sl.isP (hp.sl (i := 0) rfl) kt0.1 kt0.2) hc30.1 hc30.2 ?_
  clear hf; intro a ha hf; clear ha
  refine st_ldQW (bs := bs) (yv := (gt t0 it0).2) hf (by decide) pl86 rfl rfl (Sl.part (E := (Ek.pair (Ek.wp bs) (Ek.wp bs))) (F := (Ek.wp bs)) (o := ((1 : Int)).toNat * 1) (Sub.snd (E := (Ek.wp bs)) (F := (Ek.wp bs))) (hp.sl (i := 0) rfl) kt0.1 kt0.2) ?_
  clear hf; intro a v31 y32 ha hf; clear ha
  refine st_wnilE hf (by decide) Try.underlying86 rfl rfl rfl y32 ?_
  clear hf; intro a ha hf; clear ha
  refine st_move hf rfl rfl (by decide) ?_
  clear hf; intro a ha hf; clear ha
  obtain ⟨z35, hz33, h⟩ := bnd h
  refine wpList_cut 8 (fun a w => Fr 51 a [(0, eptr vt0 it0 2), (1, vwx1), (46, .bool z35)] ∧ Hp S w0 w (Res.sl (Ek.pair (Ek.wp bs) (Ek.wp bs)) tbt0 vt0 t0 :: ow)) ?_ ?_
  · rcases Bool.eq_false_or_eq_true (((gt t0 it0).2).isNone) with hb34 | hb34
    · skip
      replace hz33 := ifT hz33 hb34
      refine st_skip hf (wantN hf rfl rfl hb34) rfl (by decide) ?_ rfl
      clear hf; intro a hf
      refine st_skip hf (wantN hf rfl rfl hb34) rfl (by decide) ?_ rfl
      clear hf; intro a hf
      refine st_skip hf (wantN hf rfl rfl hb34) rfl (by decide) ?_ rfl
      clear hf; intro a hf
      refine st_skip hf (wantN hf rfl rfl hb34) rfl (by decide) ?_ rfl
      clear hf; intro a hf
      refine st_skip hf (wantN hf rfl rfl hb34) rfl (by decide) ?_ rfl
      clear hf; intro a hf
      refine st_skip hf (wantN hf rfl rfl hb34) rfl (by decide) ?_ rfl
      clear hf; intro a hf
      refine st_skip hf (wantN hf rfl rfl hb34) rfl (by decide) ?_ rfl
      clear hf; intro a hf
      obtain rfl := Option.some.inj hz33
      refine st_pick (v := .bool true) hf rfl rfl (fun hb' => ?_) (fun hb' => ?_) (by decide) ?_
      · rfl
      · exact absurd (hb34.symm.trans hb') (by decide)
      clear hf; intro a ha hf; clear ha
      refine st_nil hf (th_n ?_)
      exact ⟨hf.sub ⟨rfl, rfl, rfl, trivial⟩, hp⟩
    replace hz33 := ifF hz33 hb34
    refine st_move hf (wantY hf rfl rfl hb34) rfl (by decide) ?_
    clear hf; intro a ha hf; clear ha
    refine st_move hf (wantY hf rfl rfl hb34) rfl (by decide) ?_
    clear hf; intro a ha hf; clear ha
    refine st_move hf (wantY hf rfl rfl hb34) rfl (by decide) ?_
    clear hf; intro a ha hf; clear ha
    refine st_nilE hf (by decide) (wantY hf rfl rfl hb34) rfl (Sl.ptr (hp.sl (i := 0) rfl) kt0.1 kt0.2) ?_
    clear hf; intro a ha hf; clear ha
    have hc36 : 0 ≤ (1 : Int) ∧ (1 : Int) < (2 : Int) := by decide
    refine st_iaP (sz := 1) hf (by decide) Try.underlying88 (by kernel_rfl) (wantY hf rfl rfl hb34) rfl rfl (Sl.isP (hp.sl (i := 0) rfl) kt0.1 kt0.2) hc36.1 hc36.2 ?_
    clear hf; intro a ha hf; clear ha
    refine st_ldQW (bs := bs) (yv := (gt t0 it0).2) hf (by decide) pl86 (wantY hf rfl rfl hb34) rfl (Sl.part (E := (Ek.pair (Ek.wp bs) (Ek.wp bs))) (F := (Ek.wp bs)) (o := ((1 : Int)).toNat * 1) (Sub.snd (E := (Ek.wp bs)) (F := (Ek.wp bs))) (hp.sl (i := 0) rfl) kt0.1 kt0.2) ?_
    clear hf; intro a v37 y38 ha hf; clear ha
    obtain ⟨q39, hcall40, hz33⟩ := bnd hz33
    refine st_call hf (by decide) Try.func62 rfl rfl (wantY hf rfl rfl hb34) rfl rfl (f_soft_run_1_c hp _ _ hA _ _ hwx1 _ _ y38 hcall40) ?_
    rintro _ w ⟨rfl, hp0⟩
    clear hp; have hp := hp0; clear hp0
    replace hp : Hp _ _ _ (Res.sl (Ek.pair (Ek.wp bs) (Ek.wp bs)) tbt0 vt0 t0 :: ow) := hp
    refine ⟨_, rfl, ?_⟩
    clear hf; intro a hf
    obtain rfl := Option.some.inj hz33
    refine st_pick (v := .bool q39) hf rfl rfl (fun hb' => ?_) (fun hb' => ?_) (by decide) ?_
    · exact absurd (hb34.symm.trans hb') (by decide)
    · rfl
    clear hf; intro a ha hf; clear ha
    refine st_nil hf (th_n ?_)
    exact ⟨hf.sub ⟨rfl, rfl, rfl, trivial⟩, hp⟩
  rintro a w ⟨hf, hp⟩
  refine st_assign hf rfl rfl (by decide) ?_
  clear hf; intro a ha hf; clear ha
  refine st_nil hf ?_
  refine th_n ?_
  refine wp_if hf rfl (fun hb => ?_) (fun hb => ?_)
  · replace h := ifT h hb
    refine wp_reg ?_
    refine st_move hf rfl rfl (by decide) ?_
    clear hf; intro a ha hf; clear ha
    refine st_move hf rfl rfl (by decide) ?_
    clear hf; intro a ha hf; clear ha
    refine st_nilE hf (by decide) rfl rfl (Sl.ptr (hp.sl (i := 0) rfl) kt0.1 kt0.2) ?_
    clear hf; intro a ha hf; clear ha
    have hc41 : 0 ≤ (1 : Int) ∧ (1 : Int) < (2 : Int) := by decide
    refine st_iaP (sz := 1) hf (by decide) Try.underlying88 (by kernel_rfl) rfl rfl rfl (Sl.isP (hp.sl (i := 0) rfl) kt0.1 kt0.2) hc41.1 hc41.2 ?_
    clear hf; intro a ha hf; clear ha
    refine st_stQ (E := (Ek.pair (Ek.wp bs) (Ek.wp bs))) (F := (Ek.wp bs)) (o := ((1 : Int)).toNat * 1) (Sub.snd (E := (Ek.wp bs)) (F := (Ek.wp bs))) hf (by kernel_rfl) hp (i := 0) rfl rfl rfl rfl (wp_cells hwx1) kt0.1 kt0.2 ?_
    clear hf; intro a w hf hp0; clear hp; have hp := hp0; clear hp0
    replace hp : Hp _ _ _ (Res.sl (Ek.pair (Ek.wp bs) (Ek.wp bs)) tbt0 vt0 (t0.set (it0).toNat ((gt t0 it0).1, wx1)) :: ow) := hp
    refine st_nil hf ?_
    refine ib_n ?_
    obtain rfl := Option.some.inj h
    exact ⟨(.inr rfl), ⟨hf.sub trivial, hp⟩⟩
  replace h := ifF h hb
  refine wp_skip ?_
  refine ib_n ?_
  obtain rfl := Option.some.inj h
  exact ⟨(.inr rfl), ⟨hf.sub trivial, hp⟩⟩

noncomputable def f_soft_ranked.j2 (row0 : (List ((Option Nat) × (Option Nat)))) (seats4 : (List ((Option Nat) × (Option Nat)))) (t19 : Int) (t27 : Int) (at8 : Int) (k9 : Int) : Option (((List ((Option Nat) × (Option Nat))) × Int) ⊕ (List ((Option Nat) × (Option Nat)))) := (if 0 ≤ at8 ∧ at8 < (seats4.length : Int) then (if 0 ≤ k9 ∧ k9 < 2 then (some (Sum.inl ((seats4.set (at8).toNat (pput (gt seats4 at8) k9 (gt [(gt row0 t19).1, (gt row0 t19).2] t27))), (IntKind.i64.wrap (t27 + (1 : Int)))))) else none) else none)
noncomputable def f_soft_ranked.j1 (nd0 : (List WayC)) (row0 : (List ((Option Nat) × (Option Nat)))) (seats4 : (List ((Option Nat) × (Option Nat)))) (t19 : Int) (t27 : Int) (at8 : Int) : Option (((List ((Option Nat) × (Option Nat))) × Int) ⊕ (List ((Option Nat) × (Option Nat)))) := (((gt [(gt row0 t19).1, (gt row0 t19).2] t27)).bind fun n24 => (if ((nth nd0 n24).1) = true then (f_soft_ranked.j2 row0 seats4 t19 t27 at8 (1 : Int)) else (f_soft_ranked.j2 row0 seats4 t19 t27 at8 (0 : Int))))
noncomputable def f_soft_ranked.s2c (nd0 : (List WayC)) (row0 : (List ((Option Nat) × (Option Nat)))) (t19 : Int) (seats4 : (List ((Option Nat) × (Option Nat)))) (t27 : Int) : Option (((List ((Option Nat) × (Option Nat))) × Int) ⊕ (List ((Option Nat) × (Option Nat)))) := (if (decide (t27 < (2 : Int))) = true then (if 0 ≤ t27 ∧ t27 < 2 then (if ((gt [(gt row0 t19).1, (gt row0 t19).2] t27).isNone) = true then (some (Sum.inl (seats4, (IntKind.i64.wrap (t27 + (1 : Int)))))) else (((gt [(gt row0 t19).1, (gt row0 t19).2] t27)).bind fun n31 => (if (!((nth nd0 n31).2.1).isNone) = true then (((gt [(gt row0 t19).1, (gt row0 t19).2] t27)).bind fun n38 => (((nth nd0 n38).2.1).bind fun n45 => (f_soft_ranked.j1 nd0 row0 seats4 t19 t27 ((nth nd0 n45).2.2.2)))) else (f_soft_ranked.j1 nd0 row0 seats4 t19 t27 (0 : Int))))) else none) else (some (Sum.inr seats4)))
noncomputable def f_soft_ranked.s2 (nd0 : (List WayC)) (row0 : (List ((Option Nat) × (Option Nat)))) (t19 : Int) (s : ((List ((Option Nat) × (Option Nat))) × Int)) : Option (((List ((Option Nat) × (Option Nat))) × Int) ⊕ (List ((Option Nat) × (Option Nat)))) := f_soft_ranked.s2c nd0 row0 t19 s.1 s.2
noncomputable def f_soft_ranked.s1c (nd0 : (List WayC)) (row0 : (List ((Option Nat) × (Option Nat)))) (n1 : Int) (seats4 : (List ((Option Nat) × (Option Nat)))) (t19 : Int) : Option (((List ((Option Nat) × (Option Nat))) × Int) ⊕ (List ((Option Nat) × (Option Nat)))) := (if (decide (t19 < n1)) = true then (if 0 ≤ t19 ∧ t19 < (64 : Int) then ((loop (f_soft_ranked.s2 nd0 row0 t19) (seats4, (0 : Int))).bind (fun q52 => (some (Sum.inl (q52, (IntKind.i64.wrap (t19 + (1 : Int)))))))) else none) else (some (Sum.inr seats4)))
noncomputable def f_soft_ranked.s1 (nd0 : (List WayC)) (row0 : (List ((Option Nat) × (Option Nat)))) (n1 : Int) (s : ((List ((Option Nat) × (Option Nat))) × Int)) : Option (((List ((Option Nat) × (Option Nat))) × Int) ⊕ (List ((Option Nat) × (Option Nat)))) := f_soft_ranked.s1c nd0 row0 n1 s.1 s.2
noncomputable def f_soft_ranked.s4c (q53 : (List ((Option Nat) × (Option Nat)))) (t58 : Int) (nd : (List WayC)) (rank10 : Int) (t63 : Int) : Option (((List WayC) × Int × Int) ⊕ ((List WayC) × Int)) := (if (decide (t63 < (2 : Int))) = true then (if 0 ≤ t63 ∧ t63 < 2 then (if (!(gt [(gt q53 t58).1, (gt q53 t58).2] t63).isNone) = true then (((gt [(gt q53 t58).1, (gt q53 t58).2] t63)).bind fun n68 => (some (Sum.inl ((setR nd n68 rank10), (IntKind.i64.wrap (rank10 + (1 : Int))), (IntKind.i64.wrap (t63 + (1 : Int))))))) else (some (Sum.inl (nd, rank10, (IntKind.i64.wrap (t63 + (1 : Int))))))) else none) else (some (Sum.inr (nd, rank10))))
noncomputable def f_soft_ranked.s4 (q53 : (List ((Option Nat) × (Option Nat)))) (t58 : Int) (s : ((List WayC) × Int × Int)) : Option (((List WayC) × Int × Int) ⊕ ((List WayC) × Int)) := f_soft_ranked.s4c q53 t58 s.1 s.2.1 s.2.2
noncomputable def f_soft_ranked.s3c (q53 : (List ((Option Nat) × (Option Nat)))) (nd : (List WayC)) (rank10 : Int) (t58 : Int) : Option (((List WayC) × Int × Int) ⊕ (List WayC)) := (if (decide (t58 < (q53.length : Int))) = true then (if 0 ≤ t58 ∧ t58 < (q53.length : Int) then ((loop (f_soft_ranked.s4 q53 t58) (nd, rank10, (0 : Int))).bind (fun q70 => (some (Sum.inl (q70.1, q70.2, (IntKind.i64.wrap (t58 + (1 : Int)))))))) else none) else (some (Sum.inr nd)))
noncomputable def f_soft_ranked.s3 (q53 : (List ((Option Nat) × (Option Nat)))) (s : ((List WayC) × Int × Int)) : Option (((List WayC) × Int × Int) ⊕ (List WayC)) := f_soft_ranked.s3c q53 s.1 s.2.1 s.2.2
noncomputable def f_soft_ranked (nd0 : (List WayC)) (row0 : (List ((Option Nat) × (Option Nat)))) (n1 : Int) : Option (List WayC) := (if 0 ≤ (IntKind.i64.wrap ((2 : Int) * n1)) ∧ (IntKind.i64.wrap ((2 : Int) * n1)) ≤ (IntKind.i64.wrap ((2 : Int) * n1)) ∧ (IntKind.i64.wrap ((2 : Int) * n1)) * 16 ≤ 281474976710656 then ((loop (f_soft_ranked.s1 nd0 row0 n1) ((List.replicate ((IntKind.i64.wrap ((2 : Int) * n1))).toNat ((none : Option Nat), (none : Option Nat))), (0 : Int))).bind (fun q53 => ((loop (f_soft_ranked.s3 q53) (nd0, (0 : Int), (0 : Int))).bind (fun q71 => (some q71))))) else none)
theorem f_soft_ranked_c {S : Nat → Prop} {w0 w : World} {ow : List Res} (bs : List Nat) (nd0 : List WayC) (vrow0 : Value) (row0 : List ((Option Nat) × (Option Nat))) (hrow0 : RdS (Ek.pair (Ek.wp bs) (Ek.wp bs)) S w0 (aslv vrow0 64) row0) (n1 : Int) (hp : Hp S w0 w (Res.ar 92 bs nd0 :: ow)) {r : (List WayC)} (h : f_soft_ranked nd0 row0 n1 = some r) :
    Calls Try.prog 64 #[vrow0, .int .i64 n1] w (fun e w' => e = .returned (.tuple #[]) ∧ Hp S w0 w' (Res.ar 92 bs r :: ow)) := by
  unfold f_soft_ranked at h
  refine enter (n := 76) (args := [vrow0, .int .i64 n1]) Try.func64 rfl rfl (Nat.le_of_ble_eq_true rfl) fun a hf => ?_
  replace hf : Fr 76 a [(0, vrow0), (1, .int .i64 n1)] := hf
  refine wp_mono (Q := fun e a w => (e = .ret ∨ e = .normal) ∧ Fr 76 a [] ∧ Hp S w0 w (Res.ar 92 bs r :: ow)) ?_ ?_
  rotate_left
  · rintro e a w ⟨rfl | rfl, hf, hp⟩
    · exact ret0 hf rfl ⟨rfl, hp⟩
    · exact ret0n hf rfl ⟨rfl, hp⟩
  refine wp_seq ?_
  refine wp_reg ?_
  refine st_move hf rfl rfl (by decide) ?_
  clear hf; intro a ha hf; clear ha
  refine st_imul hf (by decide) rfl rfl rfl ?_
  clear hf; intro a ha hf; clear ha
  obtain ⟨hc2, h⟩ := chk h
  refine st_make (E := (Ek.pair (Ek.wp bs) (Ek.wp bs))) hf (by decide) (elt87 bs) Try.underlying122 (by decide) hp rfl rfl rfl hc2.1 hc2.2.1 hc2.2.2 ?_
  clear hf; intro a w v3 hf hp0; clear hp; have hp := hp0; clear hp0
  replace hp : Hp _ _ _ (Res.sl (Ek.pair (Ek.wp bs) (Ek.wp bs)) 87 v3 (List.replicate ((IntKind.i64.wrap ((2 : Int) * n1))).toNat ((none : Option Nat), (none : Option Nat))) :: Res.ar 92 bs nd0 :: ow) := hp
  refine st_assign hf rfl rfl (by decide) ?_
  clear hf; intro a ha hf; clear ha
  refine st_nil hf ?_
  refine th_n ?_
  refine wp_seq ?_
  refine wp_seq ?_
  refine wp_reg ?_
  refine st_move hf rfl rfl (by decide) ?_
  clear hf; intro a ha hf; clear ha
  refine st_move hf rfl rfl (by decide) ?_
  clear hf; intro a ha hf; clear ha
  refine st_nil hf ?_
  refine th_n ?_
  refine wp_block ?_
  obtain ⟨q53, hl, h⟩ := bnd h
  refine wp_loop_pure (f := (f_soft_ranked.s1 nd0 row0 n1)) (s := ((List.replicate ((IntKind.i64.wrap ((2 : Int) * n1))).toNat ((none : Option Nat), (none : Option Nat))), (0 : Int))) (fun s a w => ∃ (v5 : Value), Fr 76 a [(0, vrow0), (4, v5), (18, .int .i64 n1), (19, .int .i64 s.2)] ∧ Hp S w0 w (Res.sl (Ek.pair (Ek.wp bs) (Ek.wp bs)) 87 v5 s.1 :: Res.ar 92 bs nd0 :: ow)) (fun q e a w => e = .exit 0 ∧ ∃ (v7 : Value), Fr 76 a [(4, v7)] ∧ Hp S w0 w (Res.sl (Ek.pair (Ek.wp bs) (Ek.wp bs)) 87 v7 q :: Res.ar 92 bs nd0 :: ow)) ?_ hl ⟨_, hf.sub ⟨rfl, rfl, rfl, rfl, trivial⟩, hp⟩ ?_
  · clear hl hf hp
    intro s x a w h hI
    obtain ⟨seats4, t19⟩ := s
    obtain ⟨v5, hf, hp⟩ : ∃ (v5 : Value), Fr 76 a [(0, vrow0), (4, v5), (18, .int .i64 n1), (19, .int .i64 t19)] ∧ Hp S w0 w (Res.sl (Ek.pair (Ek.wp bs) (Ek.wp bs)) 87 v5 seats4 :: Res.ar 92 bs nd0 :: ow) := hI
    replace h : f_soft_ranked.s1c nd0 row0 n1 seats4 t19 = some x := h
    unfold f_soft_ranked.s1c at h
    refine wp_seq ?_
    refine wp_reg ?_
    refine st_ilss hf (by decide) rfl rfl rfl ?_
    clear hf; intro a ha hf; clear ha
    refine st_nil hf ?_
    refine th_n ?_
    refine wp_seq ?_
    refine wp_if hf rfl (fun hb => ?_) (fun hb => ?_)
    · replace h := ifT h hb
      refine wp_skip ?_
      refine th_n ?_
      refine wp_seq ?_
      refine wp_block ?_
      refine wp_seq ?_
      refine wp_reg ?_
      refine st_move hf rfl rfl (by decide) ?_
      clear hf; intro a ha hf; clear ha
      refine st_assign hf rfl rfl (by decide) ?_
      clear hf; intro a ha hf; clear ha
      refine st_nil hf ?_
      refine th_n ?_
      refine wp_seq ?_
      refine wp_reg ?_
      refine st_move hf rfl rfl (by decide) ?_
      clear hf; intro a ha hf; clear ha
      refine st_move hf rfl rfl (by decide) ?_
      clear hf; intro a ha hf; clear ha
      refine st_nilA (E := (Ek.pair (Ek.wp bs) (Ek.wp bs))) (N := 64) hf (by decide) rfl rfl (hrow0.sl hp) ?_
      clear hf; intro a ha hf; clear ha
      obtain ⟨hc9, h⟩ := chk h
      refine st_iaA (E := (Ek.pair (Ek.wp bs) (Ek.wp bs))) (N := 64) hf (by decide) Try.underlying89 (by kernel_rfl) rfl rfl rfl (hrow0.sl hp) rfl hc9.1 hc9.2 ?_
      clear hf; intro a ha hf; clear ha
      have hc10 := aslv_ix hrow0 hc9
      refine st_ldQA (F := (Ek.pair (Ek.wp bs) (Ek.wp bs))) (yv := (gt row0 t19)) (m := 2) hf (by decide) (by kernel_rfl) rfl rfl rfl (Part.whole (hrow0.sl hp) hc10.1 hc10.2) ?_
      clear hf; intro a cs11 hr12 ha hf; clear ha
      obtain ⟨_, _, rfl, ⟨v13, rfl, y14⟩, ⟨v15, rfl, y16⟩⟩ := hr12
      replace hf : Fr _ _ ((26, .agg #[v13, v15]) :: _) := hf
      refine st_move hf rfl rfl (by decide) ?_
      clear hf; intro a ha hf; clear ha
      refine st_nil hf ?_
      refine th_n ?_
      refine wp_block ?_
      obtain ⟨q52, hl, h⟩ := bnd h
      refine wp_loop_pure (f := (f_soft_ranked.s2 nd0 row0 t19)) (s := (seats4, (0 : Int))) (fun s a w => ∃ (v17 : Value), Fr 76 a [(0, vrow0), (4, v17), (18, .int .i64 n1), (19, .int .i64 t19), (26, .agg #[v13, v15]), (27, .int .i64 s.2)] ∧ Hp S w0 w (Res.sl (Ek.pair (Ek.wp bs) (Ek.wp bs)) 87 v17 s.1 :: Res.ar 92 bs nd0 :: ow)) (fun q e a w => e = .exit 2 ∧ ∃ (v19 : Value), Fr 76 a [(0, vrow0), (4, v19), (18, .int .i64 n1), (19, .int .i64 t19)] ∧ Hp S w0 w (Res.sl (Ek.pair (Ek.wp bs) (Ek.wp bs)) 87 v19 q :: Res.ar 92 bs nd0 :: ow)) ?_ hl ⟨_, hf.sub ⟨rfl, rfl, rfl, rfl, rfl, rfl, trivial⟩, hp⟩ ?_
      · clear hl hf hp
        intro s x a w h hI
        obtain ⟨seats4, t27⟩ := s
        obtain ⟨v17, hf, hp⟩ : ∃ (v17 : Value), Fr 76 a [(0, vrow0), (4, v17), (18, .int .i64 n1), (19, .int .i64 t19), (26, .agg #[v13, v15]), (27, .int .i64 t27)] ∧ Hp S w0 w (Res.sl (Ek.pair (Ek.wp bs) (Ek.wp bs)) 87 v17 seats4 :: Res.ar 92 bs nd0 :: ow) := hI
        replace h : f_soft_ranked.s2c nd0 row0 t19 seats4 t27 = some x := h
        unfold f_soft_ranked.s2c at h
        refine wp_seq ?_
        refine wp_reg ?_
        refine st_ilss hf (by decide) rfl rfl rfl ?_
        clear hf; intro a ha hf; clear ha
        refine st_nil hf ?_
        refine th_n ?_
        refine wp_seq ?_
        refine wp_if hf rfl (fun hb => ?_) (fun hb => ?_)
        · replace h := ifT h hb
          refine wp_skip ?_
          refine th_n ?_
          refine wp_seq ?_
          refine wp_block ?_
          refine wp_seq ?_
          refine wp_reg ?_
          obtain ⟨hc21, h⟩ := chk h
          refine st_idx2 hf (by decide) Try.underlying88 pl86 (by kernel_rfl) rfl rfl rfl hc21 ?_
          clear hf; intro a ha hf; clear ha
          refine st_assign hf rfl rfl (by decide) ?_
          clear hf; intro a ha hf; clear ha
          refine st_nil hf ?_
          refine th_n ?_
          refine wp_seq ?_
          refine wp_seq ?_
          refine wp_reg ?_
          refine st_move hf rfl rfl (by decide) ?_
          clear hf; intro a ha hf; clear ha
          refine st_wnilE hf (by decide) Try.underlying86 rfl rfl rfl (WP.sel y14 y16 hc21) ?_
          clear hf; intro a ha hf; clear ha
          refine st_nil hf ?_
          refine th_n ?_
          refine wp_if hf rfl (fun hb => ?_) (fun hb => ?_)
          · replace h := ifT h hb
            refine wp_exit ?_
            refine th_e ?_
            refine ib_same ?_
            refine th_n ?_
            refine wp_reg ?_
            refine st_iadd hf (by decide) rfl rfl rfl ?_
            clear hf; intro a ha hf; clear ha
            refine st_move hf rfl rfl (by decide) ?_
            clear hf; intro a ha hf; clear ha
            refine st_nil hf ?_
            obtain rfl := Option.some.inj h
            exact rnd_l ⟨_, hf.sub ⟨rfl, rfl, rfl, rfl, rfl, rfl, trivial⟩, hp⟩
          replace h := ifF h hb
          refine wp_skip ?_
          refine th_n ?_
          refine wp_seq ?_
          refine wp_reg ?_
          refine st_assign hf rfl rfl (by decide) ?_
          clear hf; intro a ha hf; clear ha
          refine st_nil hf ?_
          refine th_n ?_
          refine wp_seq_cut (fun a w => ∃ (at8 : Int), f_soft_ranked.j1 nd0 row0 seats4 t19 t27 at8 = some x ∧ Fr 76 a [(0, vrow0), (4, v17), (7, (gtv [v13, v15] t27)), (8, .int .i64 at8), (18, .int .i64 n1), (19, .int .i64 t19), (26, .agg #[v13, v15]), (27, .int .i64 t27)] ∧ Hp S w0 w (Res.ar 92 bs nd0 :: Res.sl (Ek.pair (Ek.wp bs) (Ek.wp bs)) 87 v17 seats4 :: ow)) ?_ ?_
          · skip
            refine wp_seq ?_
            refine wp_reg ?_
            refine st_move hf rfl rfl (by decide) ?_
            clear hf; intro a ha hf; clear ha
            obtain ⟨n31, hx32, h⟩ := bnd h
            refine st_nilE hf (by decide) rfl rfl (WP.ptr (WP.sel y14 y16 hc21) hx32) ?_
            clear hf; intro a ha hf; clear ha
            refine st_faP (off := 1) (sz := 1) hf (by decide) (by kernel_rfl) (by decide) rfl rfl (WP.isP (WP.sel y14 y16 hc21) hx32) ?_
            clear hf; intro a ha hf; clear ha
            obtain ⟨v33, bb34, y35, y36, ho37⟩ := RdA.at (hp.ara (i := 1) rfl) (WP.sel y14 y16 hc21) hx32
            refine st_ldO (u := v33) hf (by decide) pl86 rfl rfl ho37 rfl ?_
            clear hf; intro a ha hf; clear ha
            refine st_wnilN hf (by decide) Try.underlying86 rfl rfl rfl y35 ?_
            clear hf; intro a ha hf; clear ha
            refine st_nil hf ?_
            refine th_n ?_
            refine wp_if hf rfl (fun hb => ?_) (fun hb => ?_)
            · replace h := ifT h hb
              refine wp_reg ?_
              refine st_move hf rfl rfl (by decide) ?_
              clear hf; intro a ha hf; clear ha
              obtain ⟨n38, hx39, h⟩ := bnd h
              refine st_nilE hf (by decide) rfl rfl (WP.ptr (WP.sel y14 y16 hc21) hx39) ?_
              clear hf; intro a ha hf; clear ha
              refine st_faP (off := 1) (sz := 1) hf (by decide) (by kernel_rfl) (by decide) rfl rfl (WP.isP (WP.sel y14 y16 hc21) hx39) ?_
              clear hf; intro a ha hf; clear ha
              obtain ⟨v40, bb41, y42, y43, ho44⟩ := RdA.at (hp.ara (i := 1) rfl) (WP.sel y14 y16 hc21) hx39
              refine st_ldO (u := v40) hf (by decide) pl86 rfl rfl ho44 rfl ?_
              clear hf; intro a ha hf; clear ha
              obtain ⟨n45, hx46, h⟩ := bnd h
              refine st_nilE hf (by decide) rfl rfl (WP.ptr y42 hx46) ?_
              clear hf; intro a ha hf; clear ha
              refine st_faP (off := 3) (sz := 1) hf (by decide) (by kernel_rfl) (by decide) rfl rfl (WP.isP y42 hx46) ?_
              clear hf; intro a ha hf; clear ha
              obtain ⟨v47, bb48, y49, y50, ho51⟩ := RdA.at (hp.ara (i := 1) rfl) y42 hx46
              refine st_ldO (u := .int .i64 ((nth nd0 n45).2.2.2)) hf (by decide) pl3 rfl rfl ho51 rfl ?_
              clear hf; intro a ha hf; clear ha
              refine st_assign hf rfl rfl (by decide) ?_
              clear hf; intro a ha hf; clear ha
              refine st_nil hf ?_
              have hp : Hp _ _ _ (Res.ar 92 bs nd0 :: Res.sl (Ek.pair (Ek.wp bs) (Ek.wp bs)) 87 v17 seats4 :: ow) := Hp.sel (pre := [Res.sl (Ek.pair (Ek.wp bs) (Ek.wp bs)) 87 v17 seats4, Res.ar 92 bs nd0]) (tail := ow) (rs' := [Res.ar 92 bs nd0, Res.sl (Ek.pair (Ek.wp bs) (Ek.wp bs)) 87 v17 seats4]) hp [1, 0] (by decide) (by simp) rfl
              refine th_n ?_
              exact ⟨_, h, hf.sub ⟨rfl, rfl, rfl, rfl, rfl, rfl, rfl, rfl, trivial⟩, hp⟩
            replace h := ifF h hb
            refine wp_skip ?_
            have hp : Hp _ _ _ (Res.ar 92 bs nd0 :: Res.sl (Ek.pair (Ek.wp bs) (Ek.wp bs)) 87 v17 seats4 :: ow) := Hp.sel (pre := [Res.sl (Ek.pair (Ek.wp bs) (Ek.wp bs)) 87 v17 seats4, Res.ar 92 bs nd0]) (tail := ow) (rs' := [Res.ar 92 bs nd0, Res.sl (Ek.pair (Ek.wp bs) (Ek.wp bs)) 87 v17 seats4]) hp [1, 0] (by decide) (by simp) rfl
            refine th_n ?_
            exact ⟨_, h, hf.sub ⟨rfl, rfl, rfl, rfl, rfl, rfl, rfl, rfl, trivial⟩, hp⟩
          rintro a w ⟨at8, h, hf, hp⟩
          unfold f_soft_ranked.j1 at h
          refine wp_seq ?_
          refine wp_reg ?_
          refine st_assign hf rfl rfl (by decide) ?_
          clear hf; intro a ha hf; clear ha
          refine st_nil hf ?_
          refine th_n ?_
          refine wp_seq_cut (fun a w => ∃ (k9 : Int), f_soft_ranked.j2 row0 seats4 t19 t27 at8 k9 = some x ∧ Fr 76 a [(0, vrow0), (4, v17), (7, (gtv [v13, v15] t27)), (8, .int .i64 at8), (9, .int .i64 k9), (18, .int .i64 n1), (19, .int .i64 t19), (26, .agg #[v13, v15]), (27, .int .i64 t27)] ∧ Hp S w0 w (Res.ar 92 bs nd0 :: Res.sl (Ek.pair (Ek.wp bs) (Ek.wp bs)) 87 v17 seats4 :: ow)) ?_ ?_
          · skip
            refine wp_seq ?_
            refine wp_reg ?_
            refine st_move hf rfl rfl (by decide) ?_
            clear hf; intro a ha hf; clear ha
            obtain ⟨n24, hx25, h⟩ := bnd h
            refine st_nilE hf (by decide) rfl rfl (WP.ptr (WP.sel y14 y16 hc21) hx25) ?_
            clear hf; intro a ha hf; clear ha
            refine st_faP (off := 0) (sz := 1) hf (by decide) (by kernel_rfl) (by decide) rfl rfl (WP.isP (WP.sel y14 y16 hc21) hx25) ?_
            clear hf; intro a ha hf; clear ha
            obtain ⟨v26, bb27, y28, y29, ho30⟩ := RdA.at (hp.ara (i := 0) rfl) (WP.sel y14 y16 hc21) hx25
            refine st_ldO (u := .bool ((nth nd0 n24).1)) hf (by decide) pl4 rfl rfl ho30 rfl ?_
            clear hf; intro a ha hf; clear ha
            refine st_nil hf ?_
            refine th_n ?_
            refine wp_if hf rfl (fun hb => ?_) (fun hb => ?_)
            · replace h := ifT h hb
              refine wp_reg ?_
              refine st_assign hf rfl rfl (by decide) ?_
              clear hf; intro a ha hf; clear ha
              refine st_nil hf ?_
              refine th_n ?_
              exact ⟨_, h, hf.sub ⟨rfl, rfl, rfl, rfl, rfl, rfl, rfl, rfl, rfl, trivial⟩, hp⟩
            replace h := ifF h hb
            refine wp_skip ?_
            refine th_n ?_
            exact ⟨_, h, hf.sub ⟨rfl, rfl, rfl, rfl, rfl, rfl, rfl, rfl, rfl, trivial⟩, hp⟩
          rintro a w ⟨k9, h, hf, hp⟩
          unfold f_soft_ranked.j2 at h
          refine wp_reg ?_
          refine st_move hf rfl rfl (by decide) ?_
          clear hf; intro a ha hf; clear ha
          refine st_move hf rfl rfl (by decide) ?_
          clear hf; intro a ha hf; clear ha
          refine st_move hf rfl rfl (by decide) ?_
          clear hf; intro a ha hf; clear ha
          refine st_move hf rfl rfl (by decide) ?_
          clear hf; intro a ha hf; clear ha
          obtain ⟨hc22, h⟩ := chk h
          refine st_index (E := (Ek.pair (Ek.wp bs) (Ek.wp bs))) hf (by decide) Try.underlying122 (elt87 bs) rfl rfl rfl (hp.sl (i := 1) rfl) hc22.1 hc22.2 ?_
          clear hf; intro a ha hf; clear ha
          obtain ⟨hc23, h⟩ := chk h
          refine st_iaP (sz := 1) hf (by decide) Try.underlying87 (by kernel_rfl) rfl rfl rfl (Sl.isP (hp.sl (i := 1) rfl) hc22.1 hc22.2) hc23.1 hc23.2 ?_
          clear hf; intro a ha hf; clear ha
          refine st_stQ (E := (Ek.pair (Ek.wp bs) (Ek.wp bs))) (F := (Ek.wp bs)) (o := (k9).toNat * 1) (Sub.two (F := (Ek.wp bs)) hc23) hf (by kernel_rfl) hp (i := 1) rfl rfl rfl rfl (wp_cells (WP.sel y14 y16 hc21)) hc22.1 hc22.2 ?_
          clear hf; intro a w hf hp0; clear hp; have hp := hp0; clear hp0
          replace hp : Hp _ _ _ (Res.ar 92 bs nd0 :: Res.sl (Ek.pair (Ek.wp bs) (Ek.wp bs)) 87 v17 (seats4.set (at8).toNat (pput (gt seats4 at8) k9 (gt [(gt row0 t19).1, (gt row0 t19).2] t27))) :: ow) := hp
          refine st_nil hf ?_
          refine ib_n ?_
          refine th_n ?_
          refine wp_reg ?_
          refine st_iadd hf (by decide) rfl rfl rfl ?_
          clear hf; intro a ha hf; clear ha
          refine st_move hf rfl rfl (by decide) ?_
          clear hf; intro a ha hf; clear ha
          refine st_nil hf ?_
          obtain rfl := Option.some.inj h
          have hp : Hp _ _ _ (Res.sl (Ek.pair (Ek.wp bs) (Ek.wp bs)) 87 v17 (seats4.set (at8).toNat (pput (gt seats4 at8) k9 (gt [(gt row0 t19).1, (gt row0 t19).2] t27))) :: Res.ar 92 bs nd0 :: ow) := Hp.sel (pre := [Res.ar 92 bs nd0, Res.sl (Ek.pair (Ek.wp bs) (Ek.wp bs)) 87 v17 (seats4.set (at8).toNat (pput (gt seats4 at8) k9 (gt [(gt row0 t19).1, (gt row0 t19).2] t27)))]) (tail := ow) (rs' := [Res.sl (Ek.pair (Ek.wp bs) (Ek.wp bs)) 87 v17 (seats4.set (at8).toNat (pput (gt seats4 at8) k9 (gt [(gt row0 t19).1, (gt row0 t19).2] t27))), Res.ar 92 bs nd0]) hp [1, 0] (by decide) (by simp) rfl
          exact rnd_l ⟨_, hf.sub ⟨rfl, rfl, rfl, rfl, rfl, rfl, trivial⟩, hp⟩
        replace h := ifF h hb
        refine wp_exit ?_
        refine th_e ?_
        obtain rfl := Option.some.inj h
        exact rnd_r (by simp) ⟨rfl, _, hf.sub ⟨rfl, rfl, rfl, rfl, trivial⟩, hp⟩
      clear hl hf hp
      intro e a w hne hO
      obtain ⟨rfl, v19, hf, hp⟩ := hO
      refine ib_same ?_
      refine ib_n ?_
      refine th_n ?_
      refine wp_reg ?_
      refine st_iadd hf (by decide) rfl rfl rfl ?_
      clear hf; intro a ha hf; clear ha
      refine st_move hf rfl rfl (by decide) ?_
      clear hf; intro a ha hf; clear ha
      refine st_nil hf ?_
      obtain rfl := Option.some.inj h
      exact rnd_l ⟨_, hf.sub ⟨rfl, rfl, rfl, rfl, trivial⟩, hp⟩
    replace h := ifF h hb
    refine wp_exit ?_
    refine th_e ?_
    obtain rfl := Option.some.inj h
    exact rnd_r (by simp) ⟨rfl, _, hf.sub ⟨rfl, trivial⟩, hp⟩
  clear hl hf hp
  intro e a w hne hO
  obtain ⟨rfl, v7, hf, hp⟩ := hO
  refine ib_same ?_
  refine th_n ?_
  refine wp_seq ?_
  refine wp_reg ?_
  refine st_assign hf rfl rfl (by decide) ?_
  clear hf; intro a ha hf; clear ha
  refine st_nil hf ?_
  refine th_n ?_
  refine wp_seq ?_
  refine wp_reg ?_
  refine st_move hf rfl rfl (by decide) ?_
  clear hf; intro a ha hf; clear ha
  refine st_len (E := (Ek.pair (Ek.wp bs) (Ek.wp bs))) hf (by decide) Try.underlying122 rfl rfl (hp.sl (i := 0) rfl) ?_
  clear hf; intro a ha hf; clear ha
  refine st_move hf rfl rfl (by decide) ?_
  clear hf; intro a ha hf; clear ha
  refine st_nil hf ?_
  refine th_n ?_
  refine wp_block ?_
  obtain ⟨q71, hl, h⟩ := bnd h
  have hp : Hp _ _ _ (Res.ar 92 bs nd0 :: Res.sl (Ek.pair (Ek.wp bs) (Ek.wp bs)) 87 v7 q53 :: ow) := Hp.sel (pre := [Res.sl (Ek.pair (Ek.wp bs) (Ek.wp bs)) 87 v7 q53, Res.ar 92 bs nd0]) (tail := ow) (rs' := [Res.ar 92 bs nd0, Res.sl (Ek.pair (Ek.wp bs) (Ek.wp bs)) 87 v7 q53]) hp [1, 0] (by decide) (by simp) rfl
  refine wp_loop_pure (f := (f_soft_ranked.s3 q53)) (s := (nd0, (0 : Int), (0 : Int))) (fun s a w => Fr 76 a [(10, .int .i64 s.2.1), (56, v7), (57, .int .i64 (q53.length : Int)), (58, .int .i64 s.2.2)] ∧ Hp S w0 w (Res.ar 92 bs s.1 :: Res.sl (Ek.pair (Ek.wp bs) (Ek.wp bs)) 87 v7 q53 :: ow)) (fun q e a w => e = .exit 4 ∧ Fr 76 a [] ∧ Hp S w0 w (Res.ar 92 bs q :: ow)) ?_ hl ⟨hf.sub ⟨rfl, rfl, rfl, rfl, trivial⟩, hp⟩ ?_
  · clear hl hf hp
    intro s x a w h hI
    obtain ⟨nd, rank10, t58⟩ := s
    obtain ⟨hf, hp⟩ : Fr 76 a [(10, .int .i64 rank10), (56, v7), (57, .int .i64 (q53.length : Int)), (58, .int .i64 t58)] ∧ Hp S w0 w (Res.ar 92 bs nd :: Res.sl (Ek.pair (Ek.wp bs) (Ek.wp bs)) 87 v7 q53 :: ow) := hI
    replace h : f_soft_ranked.s3c q53 nd rank10 t58 = some x := h
    unfold f_soft_ranked.s3c at h
    refine wp_seq ?_
    refine wp_reg ?_
    refine st_ilss hf (by decide) rfl rfl rfl ?_
    clear hf; intro a ha hf; clear ha
    refine st_nil hf ?_
    refine th_n ?_
    refine wp_seq ?_
    refine wp_if hf rfl (fun hb => ?_) (fun hb => ?_)
    · replace h := ifT h hb
      refine wp_skip ?_
      refine th_n ?_
      refine wp_seq ?_
      refine wp_block ?_
      refine wp_seq ?_
      refine wp_reg ?_
      obtain ⟨hc56, h⟩ := chk h
      refine st_index (E := (Ek.pair (Ek.wp bs) (Ek.wp bs))) hf (by decide) Try.underlying122 (elt87 bs) rfl rfl rfl (hp.sl (i := 1) rfl) hc56.1 hc56.2 ?_
      clear hf; intro a ha hf; clear ha
      refine st_ldQA (F := (Ek.pair (Ek.wp bs) (Ek.wp bs))) (yv := (gt q53 t58)) (m := 2) hf (by decide) (by kernel_rfl) rfl rfl rfl (Part.whole (hp.sl (i := 1) rfl) hc56.1 hc56.2) ?_
      clear hf; intro a cs57 hr58 ha hf; clear ha
      obtain ⟨_, _, rfl, ⟨v59, rfl, y60⟩, ⟨v61, rfl, y62⟩⟩ := hr58
      replace hf : Fr _ _ ((61, .agg #[v59, v61]) :: _) := hf
      refine st_alloc (cs := [.pointer none, .pointer none]) (zv := .agg #[.pointer none, .pointer none]) hf (by decide) (by kernel_rfl) rfl hp rfl ?_
      clear hf; intro a w v63 hf hp0; clear hp; have hp := hp0; clear hp0
      replace hp : Hp _ _ _ (Res.obj 87 v63 [.pointer none, .pointer none] :: Res.ar 92 bs nd :: Res.sl (Ek.pair (Ek.wp bs) (Ek.wp bs)) 87 v7 q53 :: ow) := hp
      refine st_stO (us := [v59, v61]) hf hp (i := 0) rfl rfl rfl rfl rfl (wp_ones y60 y62) (by kernel_rfl) (Nat.le_of_ble_eq_true rfl) ?_
      clear hf; intro a w hf hp0; clear hp; have hp := hp0; clear hp0
      replace hp : Hp _ _ _ (Res.obj 87 v63 [v59, v61] :: Res.ar 92 bs nd :: Res.sl (Ek.pair (Ek.wp bs) (Ek.wp bs)) 87 v7 q53 :: ow) := hp
      refine st_nil hf ?_
      refine th_n ?_
      refine wp_seq ?_
      refine wp_reg ?_
      refine st_ldOA (m := 2) (us := [v59, v61]) hf (by decide) (by kernel_rfl) rfl rfl (hp.ob (i := 0) rfl) rfl rfl ?_
      clear hf; intro a ha hf; clear ha
      refine st_move hf rfl rfl (by decide) ?_
      clear hf; intro a ha hf; clear ha
      refine st_nil hf ?_
      refine th_n ?_
      refine wp_block ?_
      obtain ⟨q70, hl, h⟩ := bnd h
      have hp : Hp _ _ _ (Res.ar 92 bs nd :: Res.sl (Ek.pair (Ek.wp bs) (Ek.wp bs)) 87 v7 q53 :: ow) := Hp.sel (pre := [Res.obj 87 v63 [v59, v61], Res.ar 92 bs nd, Res.sl (Ek.pair (Ek.wp bs) (Ek.wp bs)) 87 v7 q53]) (tail := ow) (rs' := [Res.ar 92 bs nd, Res.sl (Ek.pair (Ek.wp bs) (Ek.wp bs)) 87 v7 q53]) hp [1, 2] (by decide) (by simp) rfl
      refine wp_loop_pure (f := (f_soft_ranked.s4 q53 t58)) (s := (nd, rank10, (0 : Int))) (fun s a w => Fr 76 a [(10, .int .i64 s.2.1), (56, v7), (57, .int .i64 (q53.length : Int)), (58, .int .i64 t58), (62, .agg #[v59, v61]), (63, .int .i64 s.2.2)] ∧ Hp S w0 w (Res.ar 92 bs s.1 :: Res.sl (Ek.pair (Ek.wp bs) (Ek.wp bs)) 87 v7 q53 :: ow)) (fun q e a w => e = .exit 6 ∧ Fr 76 a [(10, .int .i64 q.2), (56, v7), (57, .int .i64 (q53.length : Int)), (58, .int .i64 t58)] ∧ Hp S w0 w (Res.ar 92 bs q.1 :: Res.sl (Ek.pair (Ek.wp bs) (Ek.wp bs)) 87 v7 q53 :: ow)) ?_ hl ⟨hf.sub ⟨rfl, rfl, rfl, rfl, rfl, rfl, trivial⟩, hp⟩ ?_
      · clear hl hf hp
        intro s x a w h hI
        obtain ⟨nd, rank10, t63⟩ := s
        obtain ⟨hf, hp⟩ : Fr 76 a [(10, .int .i64 rank10), (56, v7), (57, .int .i64 (q53.length : Int)), (58, .int .i64 t58), (62, .agg #[v59, v61]), (63, .int .i64 t63)] ∧ Hp S w0 w (Res.ar 92 bs nd :: Res.sl (Ek.pair (Ek.wp bs) (Ek.wp bs)) 87 v7 q53 :: ow) := hI
        replace h : f_soft_ranked.s4c q53 t58 nd rank10 t63 = some x := h
        unfold f_soft_ranked.s4c at h
        refine wp_seq ?_
        refine wp_reg ?_
        refine st_ilss hf (by decide) rfl rfl rfl ?_
        clear hf; intro a ha hf; clear ha
        refine st_nil hf ?_
        refine th_n ?_
        refine wp_seq ?_
        refine wp_if hf rfl (fun hb => ?_) (fun hb => ?_)
        · replace h := ifT h hb
          refine wp_skip ?_
          refine th_n ?_
          refine wp_seq ?_
          refine wp_block ?_
          refine wp_seq ?_
          refine wp_reg ?_
          obtain ⟨hc67, h⟩ := chk h
          refine st_idx2 hf (by decide) Try.underlying87 pl86 (by kernel_rfl) rfl rfl rfl hc67 ?_
          clear hf; intro a ha hf; clear ha
          refine st_assign hf rfl rfl (by decide) ?_
          clear hf; intro a ha hf; clear ha
          refine st_nil hf ?_
          refine th_n ?_
          refine wp_seq ?_
          refine wp_reg ?_
          refine st_move hf rfl rfl (by decide) ?_
          clear hf; intro a ha hf; clear ha
          refine st_wnilN hf (by decide) Try.underlying86 rfl rfl rfl (WP.sel y60 y62 hc67) ?_
          clear hf; intro a ha hf; clear ha
          refine st_nil hf ?_
          refine th_n ?_
          refine wp_if hf rfl (fun hb => ?_) (fun hb => ?_)
          · replace h := ifT h hb
            refine wp_seq ?_
            refine wp_reg ?_
            refine st_move hf rfl rfl (by decide) ?_
            clear hf; intro a ha hf; clear ha
            refine st_move hf rfl rfl (by decide) ?_
            clear hf; intro a ha hf; clear ha
            obtain ⟨n68, hx69, h⟩ := bnd h
            refine st_nilE hf (by decide) rfl rfl (WP.ptr (WP.sel y60 y62 hc67) hx69) ?_
            clear hf; intro a ha hf; clear ha
            refine st_faP (off := 3) (sz := 1) hf (by decide) (by kernel_rfl) (by decide) rfl rfl (WP.isP (WP.sel y60 y62 hc67) hx69) ?_
            clear hf; intro a ha hf; clear ha
            refine st_stRank hf hp (m := 0) rfl (WP.sel y60 y62 hc67) hx69 (by kernel_rfl) rfl rfl rfl ?_
            clear hf; intro a w hf hp0; clear hp; have hp := hp0; clear hp0
            replace hp : Hp _ _ _ (Res.ar 92 bs (setR nd n68 rank10) :: Res.sl (Ek.pair (Ek.wp bs) (Ek.wp bs)) 87 v7 q53 :: ow) := hp
            refine st_nil hf ?_
            refine th_n ?_
            refine wp_reg ?_
            refine st_move hf rfl rfl (by decide) ?_
            clear hf; intro a ha hf; clear ha
            refine st_iadd hf (by decide) rfl rfl rfl ?_
            clear hf; intro a ha hf; clear ha
            refine st_assign hf rfl rfl (by decide) ?_
            clear hf; intro a ha hf; clear ha
            refine st_nil hf ?_
            refine ib_n ?_
            refine th_n ?_
            refine wp_reg ?_
            refine st_iadd hf (by decide) rfl rfl rfl ?_
            clear hf; intro a ha hf; clear ha
            refine st_move hf rfl rfl (by decide) ?_
            clear hf; intro a ha hf; clear ha
            refine st_nil hf ?_
            obtain rfl := Option.some.inj h
            exact rnd_l ⟨hf.sub ⟨rfl, rfl, rfl, rfl, rfl, rfl, trivial⟩, hp⟩
          replace h := ifF h hb
          refine wp_skip ?_
          refine ib_n ?_
          refine th_n ?_
          refine wp_reg ?_
          refine st_iadd hf (by decide) rfl rfl rfl ?_
          clear hf; intro a ha hf; clear ha
          refine st_move hf rfl rfl (by decide) ?_
          clear hf; intro a ha hf; clear ha
          refine st_nil hf ?_
          obtain rfl := Option.some.inj h
          exact rnd_l ⟨hf.sub ⟨rfl, rfl, rfl, rfl, rfl, rfl, trivial⟩, hp⟩
        replace h := ifF h hb
        refine wp_exit ?_
        refine th_e ?_
        obtain rfl := Option.some.inj h
        exact rnd_r (by simp) ⟨rfl, hf.sub ⟨rfl, rfl, rfl, rfl, trivial⟩, hp⟩
      clear hl hf hp
      intro e a w hne hO
      obtain ⟨rfl, hf, hp⟩ := hO
      refine ib_same ?_
      refine ib_n ?_
      refine th_n ?_
      refine wp_reg ?_
      refine st_iadd hf (by decide) rfl rfl rfl ?_
      clear hf; intro a ha hf; clear ha
      refine st_move hf rfl rfl (by decide) ?_
      clear hf; intro a ha hf; clear ha
      refine st_nil hf ?_
      obtain rfl := Option.some.inj h
      exact rnd_l ⟨hf.sub ⟨rfl, rfl, rfl, rfl, trivial⟩, hp⟩
    replace h := ifF h hb
    refine wp_exit ?_
    refine th_e ?_
    obtain rfl := Option.some.inj h
    have hp : Hp _ _ _ (Res.ar 92 bs nd :: ow) := Hp.sel (pre := [Res.ar 92 bs nd, Res.sl (Ek.pair (Ek.wp bs) (Ek.wp bs)) 87 v7 q53]) (tail := ow) (rs' := [Res.ar 92 bs nd]) hp [0] (by decide) (by simp) rfl
    exact rnd_r (by simp) ⟨rfl, hf.sub trivial, hp⟩
  clear hl hf hp
  intro e a w hne hO
  obtain ⟨rfl, hf, hp⟩ := hO
  refine ib_same ?_
  obtain rfl := Option.some.inj h
  exact ⟨(.inr rfl), ⟨hf.sub trivial, hp⟩⟩

noncomputable def f_soft_run.s4c (cx0_Length : Int) (cx0_One : Int) (cx0_Two : Int) (l1 : (List ((Fl × Fl) × Bool))) (last2 : Int) (now10 : (List ((Option Nat) × (Option Nat)))) (t34 : Int) (t40 : Int) (t46 : Int) (nd : (List WayC)) (then13 : (List ((Option Nat) × (Option Nat)))) (t53 : Int) : Option (((List WayC) × (List ((Option Nat) × (Option Nat))) × Int) ⊕ ((List WayC) × (List ((Option Nat) × (Option Nat))))) := (if (decide (t53 < (([false, true]).length : Int))) = true then (if 0 ≤ t53 ∧ t53 < (([false, true]).length : Int) then (if ((gt ([false, true]) t53) && (decide ((IntKind.i64.wrap ((l1.length : Int) - last2)) ≤ t34))) = true then (some (Sum.inl (nd, then13, (IntKind.i64.wrap (t53 + (1 : Int)))))) else ((f_trellis_Code_Step cx0_Length cx0_One cx0_Two t40 (gt ([false, true]) t53)).bind fun q72 => (if 0 ≤ q72.1 ∧ q72.1 < (64 : Int) then (((gt [(gt now10 t40).1, (gt now10 t40).2] t46)).bind fun n90 => ((f_soft_cost q72.2.1 q72.2.2.1 ((gt l1 t34).1) ((gt l1 t34).2)).bind fun q97 => ((f_soft_two_put (nd ++ [((gt ([false, true]) t53), (gt [(gt now10 t40).1, (gt now10 t40).2] t46), (fadd ((nth nd n90).2.2.1) q97), (0 : Int))]) then13 q72.1 (some (nd).length)).bind fun q106 => (some (Sum.inl ((nd ++ [((gt ([false, true]) t53), (gt [(gt now10 t40).1, (gt now10 t40).2] t46), (fadd ((nth nd n90).2.2.1) q97), (0 : Int))]), q106, (IntKind.i64.wrap (t53 + (1 : Int))))))))) else none))) else none) else (some (Sum.inr (nd, then13))))
noncomputable def f_soft_run.s4 (cx0_Length : Int) (cx0_One : Int) (cx0_Two : Int) (l1 : (List ((Fl × Fl) × Bool))) (last2 : Int) (now10 : (List ((Option Nat) × (Option Nat)))) (t34 : Int) (t40 : Int) (t46 : Int) (s : ((List WayC) × (List ((Option Nat) × (Option Nat))) × Int)) : Option (((List WayC) × (List ((Option Nat) × (Option Nat))) × Int) ⊕ ((List WayC) × (List ((Option Nat) × (Option Nat))))) := f_soft_run.s4c cx0_Length cx0_One cx0_Two l1 last2 now10 t34 t40 t46 s.1 s.2.1 s.2.2
noncomputable def f_soft_run.s3c (cx0_Length : Int) (cx0_One : Int) (cx0_Two : Int) (l1 : (List ((Fl × Fl) × Bool))) (last2 : Int) (now10 : (List ((Option Nat) × (Option Nat)))) (t34 : Int) (t40 : Int) (nd : (List WayC)) (then13 : (List ((Option Nat) × (Option Nat)))) (t46 : Int) : Option (((List WayC) × (List ((Option Nat) × (Option Nat))) × Int) ⊕ ((List WayC) × (List ((Option Nat) × (Option Nat))))) := (if (decide (t46 < (2 : Int))) = true then (if 0 ≤ t46 ∧ t46 < 2 then (if ((gt [(gt now10 t40).1, (gt now10 t40).2] t46).isNone) = true then (some (Sum.inl (nd, then13, (IntKind.i64.wrap (t46 + (1 : Int)))))) else ((loop (f_soft_run.s4 cx0_Length cx0_One cx0_Two l1 last2 now10 t34 t40 t46) (nd, then13, (0 : Int))).bind (fun q114 => (some (Sum.inl (q114.1, q114.2, (IntKind.i64.wrap (t46 + (1 : Int))))))))) else none) else (some (Sum.inr (nd, then13))))
noncomputable def f_soft_run.s3 (cx0_Length : Int) (cx0_One : Int) (cx0_Two : Int) (l1 : (List ((Fl × Fl) × Bool))) (last2 : Int) (now10 : (List ((Option Nat) × (Option Nat)))) (t34 : Int) (t40 : Int) (s : ((List WayC) × (List ((Option Nat) × (Option Nat))) × Int)) : Option (((List WayC) × (List ((Option Nat) × (Option Nat))) × Int) ⊕ ((List WayC) × (List ((Option Nat) × (Option Nat))))) := f_soft_run.s3c cx0_Length cx0_One cx0_Two l1 last2 now10 t34 t40 s.1 s.2.1 s.2.2
noncomputable def f_soft_run.s2c (cx0_Length : Int) (cx0_One : Int) (cx0_Two : Int) (l1 : (List ((Fl × Fl) × Bool))) (last2 : Int) (q5 : (Int × Int)) (now10 : (List ((Option Nat) × (Option Nat)))) (t34 : Int) (nd : (List WayC)) (then13 : (List ((Option Nat) × (Option Nat)))) (t40 : Int) : Option (((List WayC) × (List ((Option Nat) × (Option Nat))) × Int) ⊕ ((List WayC) × (List ((Option Nat) × (Option Nat))))) := (if (decide (t40 < q5.1)) = true then (if 0 ≤ t40 ∧ t40 < (64 : Int) then ((loop (f_soft_run.s3 cx0_Length cx0_One cx0_Two l1 last2 now10 t34 t40) (nd, then13, (0 : Int))).bind (fun q115 => (some (Sum.inl (q115.1, q115.2, (IntKind.i64.wrap (t40 + (1 : Int)))))))) else none) else (some (Sum.inr (nd, then13))))
noncomputable def f_soft_run.s2 (cx0_Length : Int) (cx0_One : Int) (cx0_Two : Int) (l1 : (List ((Fl × Fl) × Bool))) (last2 : Int) (q5 : (Int × Int)) (now10 : (List ((Option Nat) × (Option Nat)))) (t34 : Int) (s : ((List WayC) × (List ((Option Nat) × (Option Nat))) × Int)) : Option (((List WayC) × (List ((Option Nat) × (Option Nat))) × Int) ⊕ ((List WayC) × (List ((Option Nat) × (Option Nat))))) := f_soft_run.s2c cx0_Length cx0_One cx0_Two l1 last2 q5 now10 t34 s.1 s.2.1 s.2.2
noncomputable def f_soft_run.s1c (cx0_Length : Int) (cx0_One : Int) (cx0_Two : Int) (l1 : (List ((Fl × Fl) × Bool))) (last2 : Int) (q5 : (Int × Int)) (nd : (List WayC)) (now10 : (List ((Option Nat) × (Option Nat)))) (t34 : Int) : Option (((List WayC) × (List ((Option Nat) × (Option Nat))) × Int) ⊕ ((List WayC) × (List ((Option Nat) × (Option Nat))))) := (if (decide (t34 < (l1.length : Int))) = true then (if 0 ≤ t34 ∧ t34 < (l1.length : Int) then ((loop (f_soft_run.s2 cx0_Length cx0_One cx0_Two l1 last2 q5 now10 t34) (nd, (List.replicate 64 ((none : Option Nat), (none : Option Nat))), (0 : Int))).bind (fun q116 => ((f_soft_ranked q116.1 q116.2 q5.1).bind fun q117 => (some (Sum.inl (q117, q116.2, (IntKind.i64.wrap (t34 + (1 : Int))))))))) else none) else (some (Sum.inr (nd, now10))))
noncomputable def f_soft_run.s1 (cx0_Length : Int) (cx0_One : Int) (cx0_Two : Int) (l1 : (List ((Fl × Fl) × Bool))) (last2 : Int) (q5 : (Int × Int)) (s : ((List WayC) × (List ((Option Nat) × (Option Nat))) × Int)) : Option (((List WayC) × (List ((Option Nat) × (Option Nat))) × Int) ⊕ ((List WayC) × (List ((Option Nat) × (Option Nat))))) := f_soft_run.s1c cx0_Length cx0_One cx0_Two l1 last2 q5 s.1 s.2.1 s.2.2
noncomputable def f_soft_run (cx0_Length : Int) (cx0_One : Int) (cx0_Two : Int) (l1 : (List ((Fl × Fl) × Bool))) (last2 : Int) : Option ((List ((Option Nat) × (Option Nat))) × (List WayC)) := ((f_trellis_Code_States cx0_Length cx0_One cx0_Two).bind fun q5 => ((loop (f_soft_run.s1 cx0_Length cx0_One cx0_Two l1 last2 q5) ((([] : List WayC) ++ [(false, none, (Fl.bits 0), (0 : Int))]), ((List.replicate 64 ((none : Option Nat), (none : Option Nat))).set ((0 : Int)).toNat ((some (([] : List WayC)).length), (gt (List.replicate 64 ((none : Option Nat), (none : Option Nat))) (0 : Int)).2)), (0 : Int))).bind (fun q128 => (some (q128.2, q128.1)))))
theorem f_soft_run_c {S : Nat → Prop} {w0 w : World} {ow : List Res} (hp : Hp S w0 w ow) (cx0_Length : Int) (cx0_One : Int) (cx0_Two : Int) (vl1 : Value) (l1 : (List ((Fl × Fl) × Bool))) (hl1 : RdS (Ek.pair Ek.c128 Ek.bool) S w0 vl1 l1) (last2 : Int) {r : ((List ((Option Nat) × (Option Nat))) × (List WayC))} (h : f_soft_run cx0_Length cx0_One cx0_Two l1 last2 = some r) :
    Calls Try.prog 46 #[.agg #[.int .i64 cx0_Length, .int .u32 cx0_One, .int .u32 cx0_Two], vl1, .int .i64 last2] w (fun e w' => ∃ (u0 : List Nat) (u1 : List Value), e = .returned (.agg (u1).toArray) ∧ Ek.reps (Ek.pair (Ek.wp u0) (Ek.wp u0)) u1 r.1 ∧ List.length r.1 = 64 ∧ Hp S w0 w' (Res.ar 92 u0 r.2 :: ow)) := by
  unfold f_soft_run at h
  refine enter (n := 100) (args := [.agg #[.int .i64 cx0_Length, .int .u32 cx0_One, .int .u32 cx0_Two], vl1, .int .i64 last2]) Try.func46 rfl rfl (Nat.le_of_ble_eq_true rfl) fun a hf => ?_
  replace hf : Fr 100 a [(0, .agg #[.int .i64 cx0_Length, .int .u32 cx0_One, .int .u32 cx0_Two]), (1, vl1), (2, .int .i64 last2)] := hf
  refine wp_mono (Q := fun e a w => e = .ret ∧ ∃ (u0 : List Nat) (c0 : Value), Fr 100 a [(6, c0)] ∧ Hp S w0 w (Res.sl (Ek.pair (Ek.wp u0) (Ek.wp u0)) 89 (aslv c0 64) r.1 :: Res.ar 92 u0 r.2 :: ow)) ?_ ?_
  rotate_left
  · rintro e a w ⟨rfl, u0, c0, hf, hp⟩
    exact retArr1 (E := (Ek.pair (Ek.wp u0) (Ek.wp u0))) (N := 64) (m := 128) hf rfl rfl (by kernel_rfl) rfl (by decide) (hp.sl (i := 0) rfl) fun cs hr hl => ⟨u0, cs, rfl, hr, hl, hp.drop⟩
  refine wp_seq ?_
  refine wp_reg ?_
  refine st_boxO (cs := [.int .i64 cx0_Length, .int .u32 cx0_One, .int .u32 cx0_Two]) hf (by decide) hp rfl rfl rfl ?_
  clear hf; intro a w v1 hf hp0; clear hp; have hp := hp0; clear hp0
  replace hp : Hp _ _ _ (Res.obj 40 v1 [.int .i64 cx0_Length, .int .u32 cx0_One, .int .u32 cx0_Two] :: ow) := hp
  refine st_allocA (E := (Ek.pair (Ek.wp ([] : List Nat)) (Ek.wp ([] : List Nat)))) (N := 64) (zs := List.replicate 64 ((none : Option Nat), (none : Option Nat))) (zv := .agg ((List.replicate 64 ([.pointer none, .pointer none] : List Value)).flatten).toArray) hf (by decide) (by decide) (by decide) (by kernel_rfl) (reps_replicate (E := (Ek.pair (Ek.wp ([] : List Nat)) (Ek.wp ([] : List Nat)))) (vs := ([.pointer none, .pointer none] : List Value)) (x := ((none : Option Nat), (none : Option Nat))) ⟨[.pointer none], [.pointer none], rfl, ⟨_, rfl, WP.nil _⟩, ⟨_, rfl, WP.nil _⟩⟩ 64) (by simp) hp rfl ?_
  clear hf; intro a w v3 hf hp0; clear hp; have hp := hp0; clear hp0
  replace hp : Hp _ _ _ (Res.sl (Ek.pair (Ek.wp ([] : List Nat)) (Ek.wp ([] : List Nat))) 89 (aslv v3 64) (List.replicate 64 ((none : Option Nat), (none : Option Nat))) :: Res.obj 40 v1 [.int .i64 cx0_Length, .int .u32 cx0_One, .int .u32 cx0_Two] :: ow) := hp
  refine st_nil hf ?_
  refine th_n ?_
  refine wp_seq ?_
  refine wp_reg ?_
  refine st_ldOA (m := 3) (us := [.int .i64 cx0_Length, .int .u32 cx0_One, .int .u32 cx0_Two]) hf (by decide) (by kernel_rfl) rfl rfl (hp.ob (i := 1) rfl) rfl rfl ?_
  clear hf; intro a ha hf; clear ha
  obtain ⟨q5, hcall6, h⟩ := bnd h
  refine st_call hf (by decide) Try.func47 rfl rfl rfl rfl rfl (f_trellis_Code_States_c hp _ _ _ hcall6) ?_
  rintro _ w ⟨rfl, hp0⟩
  clear hp; have hp := hp0; clear hp0
  replace hp : Hp _ _ _ (Res.sl (Ek.pair (Ek.wp ([] : List Nat)) (Ek.wp ([] : List Nat))) 89 (aslv v3 64) (List.replicate 64 ((none : Option Nat), (none : Option Nat))) :: Res.obj 40 v1 [.int .i64 cx0_Length, .int .u32 cx0_One, .int .u32 cx0_Two] :: ow) := hp
  refine ⟨_, rfl, ?_⟩
  clear hf; intro a hf
  refine st_move hf rfl rfl (by decide) ?_
  clear hf; intro a ha hf; clear ha
  refine st_extract hf (by decide) rfl rfl rfl ?_
  clear hf; intro a ha hf; clear ha
  refine st_extract hf (by decide) rfl rfl rfl ?_
  clear hf; intro a ha hf; clear ha
  refine st_assign hf rfl rfl (by decide) ?_
  clear hf; intro a ha hf; clear ha
  refine st_assign hf rfl rfl (by decide) ?_
  clear hf; intro a ha hf; clear ha
  refine st_nil hf ?_
  refine th_n ?_
  refine wp_seq ?_
  refine wp_reg ?_
  refine st_assign hf rfl rfl (by decide) ?_
  clear hf; intro a ha hf; clear ha
  refine st_nil hf ?_
  refine th_n ?_
  refine wp_seq ?_
  refine wp_reg ?_
  refine st_allocA (E := (Ek.pair (Ek.wp ([] : List Nat)) (Ek.wp ([] : List Nat)))) (N := 64) (zs := List.replicate 64 ((none : Option Nat), (none : Option Nat))) (zv := .agg ((List.replicate 64 ([.pointer none, .pointer none] : List Value)).flatten).toArray) hf (by decide) (by decide) (by decide) (by kernel_rfl) (reps_replicate (E := (Ek.pair (Ek.wp ([] : List Nat)) (Ek.wp ([] : List Nat)))) (vs := ([.pointer none, .pointer none] : List Value)) (x := ((none : Option Nat), (none : Option Nat))) ⟨[.pointer none], [.pointer none], rfl, ⟨_, rfl, WP.nil _⟩, ⟨_, rfl, WP.nil _⟩⟩ 64) (by simp) hp rfl ?_
  clear hf; intro a w v7 hf hp0; clear hp; have hp := hp0; clear hp0
  replace hp : Hp _ _ _ (Res.sl (Ek.pair (Ek.wp ([] : List Nat)) (Ek.wp ([] : List Nat))) 89 (aslv v7 64) (List.replicate 64 ((none : Option Nat), (none : Option Nat))) :: Res.sl (Ek.pair (Ek.wp ([] : List Nat)) (Ek.wp ([] : List Nat))) 89 (aslv v3 64) (List.replicate 64 ((none : Option Nat), (none : Option Nat))) :: Res.obj 40 v1 [.int .i64 cx0_Length, .int .u32 cx0_One, .int .u32 cx0_Two] :: ow) := hp
  refine st_nil hf ?_
  refine th_n ?_
  refine wp_seq ?_
  refine wp_reg ?_
  refine st_buildA (vals := []) (cells := [.bool false, .pointer none, .float .f64 0, .int .i64 (0 : Int)]) hf (by decide) rfl (by simp []) (fun w => by kernel_rfl) ?_
  clear hf; intro a ha hf; clear ha
  have hp := hp.arNil 92
  refine st_boxW (ah := none) (co := (Fl.bits 0)) hf (by decide) hp rfl rfl (WP.nil _) rfl ?_
  clear hf; intro a w v10 k11 y12 hf hp0; clear hp; have hp := hp0; clear hp0
  replace hp : Hp _ _ _ (Res.ar 92 (([] : List Nat) ++ [k11]) (([] : List WayC) ++ [(false, none, (Fl.bits 0), (0 : Int))]) :: Res.sl (Ek.pair (Ek.wp (([] : List Nat) ++ [k11])) (Ek.wp (([] : List Nat) ++ [k11]))) 89 (aslv v7 64) (List.replicate 64 ((none : Option Nat), (none : Option Nat))) :: Res.sl (Ek.pair (Ek.wp (([] : List Nat) ++ [k11])) (Ek.wp (([] : List Nat) ++ [k11]))) 89 (aslv v3 64) (List.replicate 64 ((none : Option Nat), (none : Option Nat))) :: Res.obj 40 v1 [.int .i64 cx0_Length, .int .u32 cx0_One, .int .u32 cx0_Two] :: ow) := hp.impL (ImpL.same (ImpL.slx rfl (pair_up (wp_up _) (wp_up _)) (ImpL.slx rfl (pair_up (wp_up _) (wp_up _)) (ImpL.same (ImpL.refl ow)))))
  have hc13 : 0 ≤ (0 : Int) ∧ (0 : Int) < (64 : Int) := by decide
  refine st_iaA (E := (Ek.pair (Ek.wp (([] : List Nat) ++ [k11])) (Ek.wp (([] : List Nat) ++ [k11])))) (N := 64) hf (by decide) Try.underlying89 (by kernel_rfl) rfl rfl rfl (hp.sl (i := 1) rfl) rfl hc13.1 hc13.2 ?_
  clear hf; intro a ha hf; clear ha
  have hc15 : 0 ≤ (0 : Int) ∧ (0 : Int) < (2 : Int) := by decide
  refine st_iaP (sz := 1) hf (by decide) Try.underlying88 (by kernel_rfl) rfl rfl rfl (Sl.isP (hp.sl (i := 1) rfl) (aslv_ix (hp.sl (i := 1) rfl) hc13).1 (aslv_ix (hp.sl (i := 1) rfl) hc13).2) hc15.1 hc15.2 ?_
  clear hf; intro a ha hf; clear ha
  refine st_stQ (E := (Ek.pair (Ek.wp (([] : List Nat) ++ [k11])) (Ek.wp (([] : List Nat) ++ [k11])))) (F := (Ek.wp (([] : List Nat) ++ [k11]))) (o := ((0 : Int)).toNat * 1) (Sub.fst (E := (Ek.wp (([] : List Nat) ++ [k11]))) (F := (Ek.wp (([] : List Nat) ++ [k11])))) hf (by kernel_rfl) hp (i := 1) rfl rfl rfl rfl (wp_cells y12) (aslv_ix (hp.sl (i := 1) rfl) hc13).1 (aslv_ix (hp.sl (i := 1) rfl) hc13).2 ?_
  clear hf; intro a w hf hp0; clear hp; have hp := hp0; clear hp0
  replace hp : Hp _ _ _ (Res.ar 92 (([] : List Nat) ++ [k11]) (([] : List WayC) ++ [(false, none, (Fl.bits 0), (0 : Int))]) :: Res.sl (Ek.pair (Ek.wp (([] : List Nat) ++ [k11])) (Ek.wp (([] : List Nat) ++ [k11]))) 89 (aslv v7 64) ((List.replicate 64 ((none : Option Nat), (none : Option Nat))).set ((0 : Int)).toNat ((some (([] : List WayC)).length), (gt (List.replicate 64 ((none : Option Nat), (none : Option Nat))) (0 : Int)).2)) :: Res.sl (Ek.pair (Ek.wp (([] : List Nat) ++ [k11])) (Ek.wp (([] : List Nat) ++ [k11]))) 89 (aslv v3 64) (List.replicate 64 ((none : Option Nat), (none : Option Nat))) :: Res.obj 40 v1 [.int .i64 cx0_Length, .int .u32 cx0_One, .int .u32 cx0_Two] :: ow) := hp
  refine st_nil hf ?_
  refine th_n ?_
  refine wp_seq ?_
  refine wp_seq ?_
  refine wp_reg ?_
  refine st_move hf rfl rfl (by decide) ?_
  clear hf; intro a ha hf; clear ha
  refine st_len (E := (Ek.pair Ek.c128 Ek.bool)) hf (by decide) Try.underlying27 rfl rfl (hl1.sl hp) ?_
  clear hf; intro a ha hf; clear ha
  refine st_move hf rfl rfl (by decide) ?_
  clear hf; intro a ha hf; clear ha
  refine st_nil hf ?_
  refine th_n ?_
  refine wp_block ?_
  obtain ⟨q128, hl, h⟩ := bnd h
  have hp : Hp _ _ _ (Res.ar 92 (([] : List Nat) ++ [k11]) (([] : List WayC) ++ [(false, none, (Fl.bits 0), (0 : Int))]) :: Res.sl (Ek.pair (Ek.wp (([] : List Nat) ++ [k11])) (Ek.wp (([] : List Nat) ++ [k11]))) 89 (aslv v7 64) ((List.replicate 64 ((none : Option Nat), (none : Option Nat))).set ((0 : Int)).toNat ((some (([] : List WayC)).length), (gt (List.replicate 64 ((none : Option Nat), (none : Option Nat))) (0 : Int)).2)) :: Res.obj 40 v1 [.int .i64 cx0_Length, .int .u32 cx0_One, .int .u32 cx0_Two] :: Res.sl (Ek.pair (Ek.wp (([] : List Nat) ++ [k11])) (Ek.wp (([] : List Nat) ++ [k11]))) 89 (aslv v3 64) (List.replicate 64 ((none : Option Nat), (none : Option Nat))) :: ow) := Hp.sel (pre := [Res.ar 92 (([] : List Nat) ++ [k11]) (([] : List WayC) ++ [(false, none, (Fl.bits 0), (0 : Int))]), Res.sl (Ek.pair (Ek.wp (([] : List Nat) ++ [k11])) (Ek.wp (([] : List Nat) ++ [k11]))) 89 (aslv v7 64) ((List.replicate 64 ((none : Option Nat), (none : Option Nat))).set ((0 : Int)).toNat ((some (([] : List WayC)).length), (gt (List.replicate 64 ((none : Option Nat), (none : Option Nat))) (0 : Int)).2)), Res.sl (Ek.pair (Ek.wp (([] : List Nat) ++ [k11])) (Ek.wp (([] : List Nat) ++ [k11]))) 89 (aslv v3 64) (List.replicate 64 ((none : Option Nat), (none : Option Nat))), Res.obj 40 v1 [.int .i64 cx0_Length, .int .u32 cx0_One, .int .u32 cx0_Two]]) (tail := ow) (rs' := [Res.ar 92 (([] : List Nat) ++ [k11]) (([] : List WayC) ++ [(false, none, (Fl.bits 0), (0 : Int))]), Res.sl (Ek.pair (Ek.wp (([] : List Nat) ++ [k11])) (Ek.wp (([] : List Nat) ++ [k11]))) 89 (aslv v7 64) ((List.replicate 64 ((none : Option Nat), (none : Option Nat))).set ((0 : Int)).toNat ((some (([] : List WayC)).length), (gt (List.replicate 64 ((none : Option Nat), (none : Option Nat))) (0 : Int)).2)), Res.obj 40 v1 [.int .i64 cx0_Length, .int .u32 cx0_One, .int .u32 cx0_Two], Res.sl (Ek.pair (Ek.wp (([] : List Nat) ++ [k11])) (Ek.wp (([] : List Nat) ++ [k11]))) 89 (aslv v3 64) (List.replicate 64 ((none : Option Nat), (none : Option Nat)))]) hp [0, 1, 3, 2] (by decide) (by simp) rfl
  refine wp_loop_pure (f := (f_soft_run.s1 cx0_Length cx0_One cx0_Two l1 last2 q5)) (s := ((([] : List WayC) ++ [(false, none, (Fl.bits 0), (0 : Int))]), ((List.replicate 64 ((none : Option Nat), (none : Option Nat))).set ((0 : Int)).toNat ((some (([] : List WayC)).length), (gt (List.replicate 64 ((none : Option Nat), (none : Option Nat))) (0 : Int)).2)), (0 : Int))) (fun s a w => ∃ (bs17 : List Nat), Fr 100 a [(1, vl1), (2, .int .i64 last2), (3, optr v1 0), (6, v3), (7, .int .i64 q5.1), (9, .func (.func 62) #[] #[]), (10, v7), (32, vl1), (33, .int .i64 (l1.length : Int)), (34, .int .i64 s.2.2)] ∧ Hp S w0 w (Res.ar 92 bs17 s.1 :: Res.sl (Ek.pair (Ek.wp bs17) (Ek.wp bs17)) 89 (aslv v7 64) s.2.1 :: Res.obj 40 v1 [.int .i64 cx0_Length, .int .u32 cx0_One, .int .u32 cx0_Two] :: Res.sl (Ek.pair (Ek.wp bs17) (Ek.wp bs17)) 89 (aslv v3 64) (List.replicate 64 ((none : Option Nat), (none : Option Nat))) :: ow)) (fun q e a w => e = .exit 0 ∧ ∃ (bs20 : List Nat), Fr 100 a [(6, v3), (10, v7)] ∧ Hp S w0 w (Res.ar 92 bs20 q.1 :: Res.sl (Ek.pair (Ek.wp bs20) (Ek.wp bs20)) 89 (aslv v7 64) q.2 :: Res.sl (Ek.pair (Ek.wp bs20) (Ek.wp bs20)) 89 (aslv v3 64) (List.replicate 64 ((none : Option Nat), (none : Option Nat))) :: ow)) ?_ hl ⟨_, hf.sub ⟨rfl, rfl, rfl, rfl, rfl, rfl, rfl, rfl, rfl, rfl, trivial⟩, hp⟩ ?_
  · clear hl hf hp
    intro s x a w h hI
    obtain ⟨nd, now10, t34⟩ := s
    obtain ⟨bs17, hf, hp⟩ : ∃ (bs17 : List Nat), Fr 100 a [(1, vl1), (2, .int .i64 last2), (3, optr v1 0), (6, v3), (7, .int .i64 q5.1), (9, .func (.func 62) #[] #[]), (10, v7), (32, vl1), (33, .int .i64 (l1.length : Int)), (34, .int .i64 t34)] ∧ Hp S w0 w (Res.ar 92 bs17 nd :: Res.sl (Ek.pair (Ek.wp bs17) (Ek.wp bs17)) 89 (aslv v7 64) now10 :: Res.obj 40 v1 [.int .i64 cx0_Length, .int .u32 cx0_One, .int .u32 cx0_Two] :: Res.sl (Ek.pair (Ek.wp bs17) (Ek.wp bs17)) 89 (aslv v3 64) (List.replicate 64 ((none : Option Nat), (none : Option Nat))) :: ow) := hI
    replace h : f_soft_run.s1c cx0_Length cx0_One cx0_Two l1 last2 q5 nd now10 t34 = some x := h
    unfold f_soft_run.s1c at h
    refine wp_seq ?_
    refine wp_reg ?_
    refine st_ilss hf (by decide) rfl rfl rfl ?_
    clear hf; intro a ha hf; clear ha
    refine st_nil hf ?_
    refine th_n ?_
    refine wp_seq ?_
    refine wp_if hf rfl (fun hb => ?_) (fun hb => ?_)
    · replace h := ifT h hb
      refine wp_skip ?_
      refine th_n ?_
      refine wp_seq ?_
      refine wp_block ?_
      refine wp_seq ?_
      refine wp_reg ?_
      refine st_move hf rfl rfl (by decide) ?_
      clear hf; intro a ha hf; clear ha
      obtain ⟨hc22, h⟩ := chk h
      refine st_index (E := (Ek.pair Ek.c128 Ek.bool)) hf (by decide) Try.underlying27 elt35 rfl rfl rfl (hl1.sl hp) hc22.1 hc22.2 ?_
      clear hf; intro a ha hf; clear ha
      refine st_ldQA (F := (Ek.pair Ek.c128 Ek.bool)) (yv := (gt l1 t34)) (m := 2) hf (by decide) (by kernel_rfl) rfl rfl rfl (Part.whole (hl1.sl hp) hc22.1 hc22.2) ?_
      clear hf; intro a cs23 hr24 ha hf; clear ha
      obtain ⟨_, _, rfl, ⟨bb25, bb26, rfl, y27, y28⟩, rfl⟩ := hr24
      replace hf : Fr _ _ ((38, .agg #[.complex .f64 bb25 bb26, .bool ((gt l1 t34).2)]) :: _) := hf
      refine st_alloc (cs := [.complex .f64 0 0, .bool false]) (zv := .agg #[.complex .f64 0 0, .bool false]) hf (by decide) (by kernel_rfl) rfl hp rfl ?_
      clear hf; intro a w v29 hf hp0; clear hp; have hp := hp0; clear hp0
      replace hp : Hp _ _ _ (Res.obj 35 v29 [.complex .f64 0 0, .bool false] :: Res.ar 92 bs17 nd :: Res.sl (Ek.pair (Ek.wp bs17) (Ek.wp bs17)) 89 (aslv v7 64) now10 :: Res.obj 40 v1 [.int .i64 cx0_Length, .int .u32 cx0_One, .int .u32 cx0_Two] :: Res.sl (Ek.pair (Ek.wp bs17) (Ek.wp bs17)) 89 (aslv v3 64) (List.replicate 64 ((none : Option Nat), (none : Option Nat))) :: ow) := hp
      refine st_assign hf rfl rfl (by decide) ?_
      clear hf; intro a ha hf; clear ha
      refine st_stO (us := [.complex .f64 bb25 bb26, .bool ((gt l1 t34).2)]) hf hp (i := 0) rfl rfl rfl rfl rfl (by rfl) (by kernel_rfl) (Nat.le_of_ble_eq_true rfl) ?_
      clear hf; intro a w hf hp0; clear hp; have hp := hp0; clear hp0
      replace hp : Hp _ _ _ (Res.obj 35 v29 [.complex .f64 bb25 bb26, .bool ((gt l1 t34).2)] :: Res.ar 92 bs17 nd :: Res.sl (Ek.pair (Ek.wp bs17) (Ek.wp bs17)) 89 (aslv v7 64) now10 :: Res.obj 40 v1 [.int .i64 cx0_Length, .int .u32 cx0_One, .int .u32 cx0_Two] :: Res.sl (Ek.pair (Ek.wp bs17) (Ek.wp bs17)) 89 (aslv v3 64) (List.replicate 64 ((none : Option Nat), (none : Option Nat))) :: ow) := hp
      refine st_nil hf ?_
      refine th_n ?_
      refine wp_seq ?_
      refine wp_reg ?_
      refine st_allocA (E := (Ek.pair (Ek.wp bs17) (Ek.wp bs17))) (N := 64) (zs := List.replicate 64 ((none : Option Nat), (none : Option Nat))) (zv := .agg ((List.replicate 64 ([.pointer none, .pointer none] : List Value)).flatten).toArray) hf (by decide) (by decide) (by decide) (by kernel_rfl) (reps_replicate (E := (Ek.pair (Ek.wp bs17) (Ek.wp bs17))) (vs := ([.pointer none, .pointer none] : List Value)) (x := ((none : Option Nat), (none : Option Nat))) ⟨[.pointer none], [.pointer none], rfl, ⟨_, rfl, WP.nil _⟩, ⟨_, rfl, WP.nil _⟩⟩ 64) (by simp) hp rfl ?_
      clear hf; intro a w v31 hf hp0; clear hp; have hp := hp0; clear hp0
      replace hp : Hp _ _ _ (Res.sl (Ek.pair (Ek.wp bs17) (Ek.wp bs17)) 89 (aslv v31 64) (List.replicate 64 ((none : Option Nat), (none : Option Nat))) :: Res.obj 35 v29 [.complex .f64 bb25 bb26, .bool ((gt l1 t34).2)] :: Res.ar 92 bs17 nd :: Res.sl (Ek.pair (Ek.wp bs17) (Ek.wp bs17)) 89 (aslv v7 64) now10 :: Res.obj 40 v1 [.int .i64 cx0_Length, .int .u32 cx0_One, .int .u32 cx0_Two] :: Res.sl (Ek.pair (Ek.wp bs17) (Ek.wp bs17)) 89 (aslv v3 64) (List.replicate 64 ((none : Option Nat), (none : Option Nat))) :: ow) := hp
      refine st_nil hf ?_
      refine th_n ?_
      refine wp_seq ?_
      refine wp_seq ?_
      refine wp_reg ?_
      refine st_move hf rfl rfl (by decide) ?_
      clear hf; intro a ha hf; clear ha
      refine st_move hf rfl rfl (by decide) ?_
      clear hf; intro a ha hf; clear ha
      refine st_nil hf ?_
      refine th_n ?_
      refine wp_block ?_
      obtain ⟨q116, hl, h⟩ := bnd h
      have hp : Hp _ _ _ (Res.ar 92 bs17 nd :: Res.sl (Ek.pair (Ek.wp bs17) (Ek.wp bs17)) 89 (aslv v31 64) (List.replicate 64 ((none : Option Nat), (none : Option Nat))) :: Res.obj 40 v1 [.int .i64 cx0_Length, .int .u32 cx0_One, .int .u32 cx0_Two] :: Res.sl (Ek.pair (Ek.wp bs17) (Ek.wp bs17)) 89 (aslv v3 64) (List.replicate 64 ((none : Option Nat), (none : Option Nat))) :: Res.sl (Ek.pair (Ek.wp bs17) (Ek.wp bs17)) 89 (aslv v7 64) now10 :: Res.obj 35 v29 [.complex .f64 bb25 bb26, .bool ((gt l1 t34).2)] :: ow) := Hp.sel (pre := [Res.sl (Ek.pair (Ek.wp bs17) (Ek.wp bs17)) 89 (aslv v31 64) (List.replicate 64 ((none : Option Nat), (none : Option Nat))), Res.obj 35 v29 [.complex .f64 bb25 bb26, .bool ((gt l1 t34).2)], Res.ar 92 bs17 nd, Res.sl (Ek.pair (Ek.wp bs17) (Ek.wp bs17)) 89 (aslv v7 64) now10, Res.obj 40 v1 [.int .i64 cx0_Length, .int .u32 cx0_One, .int .u32 cx0_Two], Res.sl (Ek.pair (Ek.wp bs17) (Ek.wp bs17)) 89 (aslv v3 64) (List.replicate 64 ((none : Option Nat), (none : Option Nat)))]) (tail := ow) (rs' := [Res.ar 92 bs17 nd, Res.sl (Ek.pair (Ek.wp bs17) (Ek.wp bs17)) 89 (aslv v31 64) (List.replicate 64 ((none : Option Nat), (none : Option Nat))), Res.obj 40 v1 [.int .i64 cx0_Length, .int .u32 cx0_One, .int .u32 cx0_Two], Res.sl (Ek.pair (Ek.wp bs17) (Ek.wp bs17)) 89 (aslv v3 64) (List.replicate 64 ((none : Option Nat), (none : Option Nat))), Res.sl (Ek.pair (Ek.wp bs17) (Ek.wp bs17)) 89 (aslv v7 64) now10, Res.obj 35 v29 [.complex .f64 bb25 bb26, .bool ((gt l1 t34).2)]]) hp [2, 0, 4, 5, 3, 1] (by decide) (by simp) rfl
      refine wp_loop_pure (f := (f_soft_run.s2 cx0_Length cx0_One cx0_Two l1 last2 q5 now10 t34)) (s := (nd, (List.replicate 64 ((none : Option Nat), (none : Option Nat))), (0 : Int))) (fun s a w => ∃ (bs34 : List Nat), Fr 100 a [(1, vl1), (2, .int .i64 last2), (3, optr v1 0), (6, v3), (7, .int .i64 q5.1), (9, .func (.func 62) #[] #[]), (10, v7), (11, .int .i64 t34), (12, optr v29 0), (13, v31), (32, vl1), (33, .int .i64 (l1.length : Int)), (34, .int .i64 t34), (39, .int .i64 q5.1), (40, .int .i64 s.2.2)] ∧ Hp S w0 w (Res.ar 92 bs34 s.1 :: Res.sl (Ek.pair (Ek.wp bs34) (Ek.wp bs34)) 89 (aslv v31 64) s.2.1 :: Res.obj 40 v1 [.int .i64 cx0_Length, .int .u32 cx0_One, .int .u32 cx0_Two] :: Res.sl (Ek.pair (Ek.wp bs34) (Ek.wp bs34)) 89 (aslv v3 64) (List.replicate 64 ((none : Option Nat), (none : Option Nat))) :: Res.sl (Ek.pair (Ek.wp bs34) (Ek.wp bs34)) 89 (aslv v7 64) now10 :: Res.obj 35 v29 [.complex .f64 bb25 bb26, .bool ((gt l1 t34).2)] :: ow)) (fun q e a w => e = .exit 2 ∧ ∃ (bs37 : List Nat), Fr 100 a [(1, vl1), (2, .int .i64 last2), (3, optr v1 0), (6, v3), (7, .int .i64 q5.1), (9, .func (.func 62) #[] #[]), (10, v7), (13, v31), (32, vl1), (33, .int .i64 (l1.length : Int)), (34, .int .i64 t34)] ∧ Hp S w0 w (Res.ar 92 bs37 q.1 :: Res.sl (Ek.pair (Ek.wp bs37) (Ek.wp bs37)) 89 (aslv v31 64) q.2 :: Res.obj 40 v1 [.int .i64 cx0_Length, .int .u32 cx0_One, .int .u32 cx0_Two] :: Res.sl (Ek.pair (Ek.wp bs37) (Ek.wp bs37)) 89 (aslv v3 64) (List.replicate 64 ((none : Option Nat), (none : Option Nat))) :: Res.sl (Ek.pair (Ek.wp bs37) (Ek.wp bs37)) 89 (aslv v7 64) now10 :: ow)) ?_ hl ⟨_, hf.sub ⟨rfl, rfl, rfl, rfl, rfl, rfl, rfl, rfl, rfl, rfl, rfl, rfl, rfl, rfl, rfl, trivial⟩, hp⟩ ?_
      · clear hl hf hp
        intro s x a w h hI
        obtain ⟨nd, then13, t40⟩ := s
        obtain ⟨bs34, hf, hp⟩ : ∃ (bs34 : List Nat), Fr 100 a [(1, vl1), (2, .int .i64 last2), (3, optr v1 0), (6, v3), (7, .int .i64 q5.1), (9, .func (.func 62) #[] #[]), (10, v7), (11, .int .i64 t34), (12, optr v29 0), (13, v31), (32, vl1), (33, .int .i64 (l1.length : Int)), (34, .int .i64 t34), (39, .int .i64 q5.1), (40, .int .i64 t40)] ∧ Hp S w0 w (Res.ar 92 bs34 nd :: Res.sl (Ek.pair (Ek.wp bs34) (Ek.wp bs34)) 89 (aslv v31 64) then13 :: Res.obj 40 v1 [.int .i64 cx0_Length, .int .u32 cx0_One, .int .u32 cx0_Two] :: Res.sl (Ek.pair (Ek.wp bs34) (Ek.wp bs34)) 89 (aslv v3 64) (List.replicate 64 ((none : Option Nat), (none : Option Nat))) :: Res.sl (Ek.pair (Ek.wp bs34) (Ek.wp bs34)) 89 (aslv v7 64) now10 :: Res.obj 35 v29 [.complex .f64 bb25 bb26, .bool ((gt l1 t34).2)] :: ow) := hI
        replace h : f_soft_run.s2c cx0_Length cx0_One cx0_Two l1 last2 q5 now10 t34 nd then13 t40 = some x := h
        unfold f_soft_run.s2c at h
        refine wp_seq ?_
        refine wp_reg ?_
        refine st_ilss hf (by decide) rfl rfl rfl ?_
        clear hf; intro a ha hf; clear ha
        refine st_nil hf ?_
        refine th_n ?_
        refine wp_seq ?_
        refine wp_if hf rfl (fun hb => ?_) (fun hb => ?_)
        · replace h := ifT h hb
          refine wp_skip ?_
          refine th_n ?_
          refine wp_seq ?_
          refine wp_block ?_
          refine wp_seq ?_
          refine wp_reg ?_
          refine st_move hf rfl rfl (by decide) ?_
          clear hf; intro a ha hf; clear ha
          refine st_assign hf rfl rfl (by decide) ?_
          clear hf; intro a ha hf; clear ha
          refine st_nil hf ?_
          refine th_n ?_
          refine wp_seq ?_
          refine wp_reg ?_
          refine st_move hf rfl rfl (by decide) ?_
          clear hf; intro a ha hf; clear ha
          obtain ⟨hc39, h⟩ := chk h
          refine st_iaA (E := (Ek.pair (Ek.wp bs34) (Ek.wp bs34))) (N := 64) hf (by decide) Try.underlying89 (by kernel_rfl) rfl rfl rfl (hp.sl (i := 4) rfl) rfl hc39.1 hc39.2 ?_
          clear hf; intro a ha hf; clear ha
          refine st_ldQA (F := (Ek.pair (Ek.wp bs34) (Ek.wp bs34))) (yv := (gt now10 t40)) (m := 2) hf (by decide) (by kernel_rfl) rfl rfl rfl (Part.whole (hp.sl (i := 4) rfl) (aslv_ix (hp.sl (i := 4) rfl) hc39).1 (aslv_ix (hp.sl (i := 4) rfl) hc39).2) ?_
          clear hf; intro a cs41 hr42 ha hf; clear ha
          obtain ⟨_, _, rfl, ⟨v43, rfl, y44⟩, ⟨v45, rfl, y46⟩⟩ := hr42
          replace hf : Fr _ _ ((45, .agg #[v43, v45]) :: _) := hf
          refine st_move hf rfl rfl (by decide) ?_
          clear hf; intro a ha hf; clear ha
          refine st_nil hf ?_
          refine th_n ?_
          refine wp_block ?_
          obtain ⟨q115, hl, h⟩ := bnd h
          refine wp_loop_pure (f := (f_soft_run.s3 cx0_Length cx0_One cx0_Two l1 last2 now10 t34 t40)) (s := (nd, then13, (0 : Int))) (fun s a w => ∃ (bs48 : List Nat), Fr 100 a [(1, vl1), (2, .int .i64 last2), (3, optr v1 0), (6, v3), (7, .int .i64 q5.1), (9, .func (.func 62) #[] #[]), (10, v7), (11, .int .i64 t34), (12, optr v29 0), (13, v31), (14, .int .i64 t40), (32, vl1), (33, .int .i64 (l1.length : Int)), (34, .int .i64 t34), (39, .int .i64 q5.1), (40, .int .i64 t40), (45, .agg #[v43, v45]), (46, .int .i64 s.2.2)] ∧ WP bs48 v43 ((gt now10 t40).1) ∧ WP bs48 v45 ((gt now10 t40).2) ∧ Hp S w0 w (Res.ar 92 bs48 s.1 :: Res.sl (Ek.pair (Ek.wp bs48) (Ek.wp bs48)) 89 (aslv v31 64) s.2.1 :: Res.obj 40 v1 [.int .i64 cx0_Length, .int .u32 cx0_One, .int .u32 cx0_Two] :: Res.sl (Ek.pair (Ek.wp bs48) (Ek.wp bs48)) 89 (aslv v3 64) (List.replicate 64 ((none : Option Nat), (none : Option Nat))) :: Res.sl (Ek.pair (Ek.wp bs48) (Ek.wp bs48)) 89 (aslv v7 64) now10 :: Res.obj 35 v29 [.complex .f64 bb25 bb26, .bool ((gt l1 t34).2)] :: ow)) (fun q e a w => e = .exit 4 ∧ ∃ (bs53 : List Nat), Fr 100 a [(1, vl1), (2, .int .i64 last2), (3, optr v1 0), (6, v3), (7, .int .i64 q5.1), (9, .func (.func 62) #[] #[]), (10, v7), (11, .int .i64 t34), (12, optr v29 0), (13, v31), (32, vl1), (33, .int .i64 (l1.length : Int)), (34, .int .i64 t34), (39, .int .i64 q5.1), (40, .int .i64 t40)] ∧ Hp S w0 w (Res.ar 92 bs53 q.1 :: Res.sl (Ek.pair (Ek.wp bs53) (Ek.wp bs53)) 89 (aslv v31 64) q.2 :: Res.obj 40 v1 [.int .i64 cx0_Length, .int .u32 cx0_One, .int .u32 cx0_Two] :: Res.sl (Ek.pair (Ek.wp bs53) (Ek.wp bs53)) 89 (aslv v3 64) (List.replicate 64 ((none : Option Nat), (none : Option Nat))) :: Res.sl (Ek.pair (Ek.wp bs53) (Ek.wp bs53)) 89 (aslv v7 64) now10 :: Res.obj 35 v29 [.complex .f64 bb25 bb26, .bool ((gt l1 t34).2)] :: ow)) ?_ hl ⟨_, hf.sub ⟨rfl, rfl, rfl, rfl, rfl, rfl, rfl, rfl, rfl, rfl, rfl, rfl, rfl, rfl, rfl, rfl, rfl, rfl, trivial⟩, y44, y46, hp⟩ ?_
          · clear hl hf hp
            intro s x a w h hI
            obtain ⟨nd, then13, t46⟩ := s
            obtain ⟨bs48, hf, y50, y51, hp⟩ : ∃ (bs48 : List Nat), Fr 100 a [(1, vl1), (2, .int .i64 last2), (3, optr v1 0), (6, v3), (7, .int .i64 q5.1), (9, .func (.func 62) #[] #[]), (10, v7), (11, .int .i64 t34), (12, optr v29 0), (13, v31), (14, .int .i64 t40), (32, vl1), (33, .int .i64 (l1.length : Int)), (34, .int .i64 t34), (39, .int .i64 q5.1), (40, .int .i64 t40), (45, .agg #[v43, v45]), (46, .int .i64 t46)] ∧ WP bs48 v43 ((gt now10 t40).1) ∧ WP bs48 v45 ((gt now10 t40).2) ∧ Hp S w0 w (Res.ar 92 bs48 nd :: Res.sl (Ek.pair (Ek.wp bs48) (Ek.wp bs48)) 89 (aslv v31 64) then13 :: Res.obj 40 v1 [.int .i64 cx0_Length, .int .u32 cx0_One, .int .u32 cx0_Two] :: Res.sl (Ek.pair (Ek.wp bs48) (Ek.wp bs48)) 89 (aslv v3 64) (List.replicate 64 ((none : Option Nat), (none : Option Nat))) :: Res.sl (Ek.pair (Ek.wp bs48) (Ek.wp bs48)) 89 (aslv v7 64) now10 :: Res.obj 35 v29 [.complex .f64 bb25 bb26, .bool ((gt l1 t34).2)] :: ow) := hI
            replace h : f_soft_run.s3c cx0_Length cx0_One cx0_Two l1 last2 now10 t34 t40 nd then13 t46 = some x := h
            unfold f_soft_run.s3c at h
            refine wp_seq ?_
            refine wp_reg ?_
            refine st_ilss hf (by decide) rfl rfl rfl ?_
            clear hf; intro a ha hf; clear ha
            refine st_nil hf ?_
            refine th_n ?_
            refine wp_seq ?_
            refine wp_if hf rfl (fun hb => ?_) (fun hb => ?_)
            · replace h := ifT h hb
              refine wp_skip ?_
              refine th_n ?_
              refine wp_seq ?_
              refine wp_block ?_
              refine wp_seq ?_
              refine wp_reg ?_
              obtain ⟨hc55, h⟩ := chk h
              refine st_idx2 hf (by decide) Try.underlying88 pl86 (by kernel_rfl) rfl rfl rfl hc55 ?_
              clear hf; intro a ha hf; clear ha
              refine st_assign hf rfl rfl (by decide) ?_
              clear hf; intro a ha hf; clear ha
              refine st_nil hf ?_
              refine th_n ?_
              refine wp_seq ?_
              refine wp_seq ?_
              refine wp_reg ?_
              refine st_move hf rfl rfl (by decide) ?_
              clear hf; intro a ha hf; clear ha
              refine st_wnilE hf (by decide) Try.underlying86 rfl rfl rfl (WP.sel y50 y51 hc55) ?_
              clear hf; intro a ha hf; clear ha
              refine st_nil hf ?_
              refine th_n ?_
              refine wp_if hf rfl (fun hb => ?_) (fun hb => ?_)
              · replace h := ifT h hb
                refine wp_exit ?_
                refine th_e ?_
                refine ib_same ?_
                refine th_n ?_
                refine wp_reg ?_
                refine st_iadd hf (by decide) rfl rfl rfl ?_
                clear hf; intro a ha hf; clear ha
                refine st_move hf rfl rfl (by decide) ?_
                clear hf; intro a ha hf; clear ha
                refine st_nil hf ?_
                obtain rfl := Option.some.inj h
                exact rnd_l ⟨_, hf.sub ⟨rfl, rfl, rfl, rfl, rfl, rfl, rfl, rfl, rfl, rfl, rfl, rfl, rfl, rfl, rfl, rfl, rfl, rfl, trivial⟩, y50, y51, hp⟩
              replace h := ifF h hb
              refine wp_skip ?_
              refine th_n ?_
              refine wp_seq ?_
              refine wp_reg ?_
              refine st_build (E := Ek.bool) (xs := [false, true]) hf (by decide) elt4 Try.underlying25 hp (vals := #[(0, .bool false), (1, .bool true)]) (cells := #[.bool false, .bool true]) rfl (by simp [hf.ev (x := (Operand.const (.bool false))) rfl, hf.ev (x := (Operand.const (.bool true))) rfl]) (by decide) (by decide) (z := .bool false) (by kernel_rfl) (by kernel_rfl) rfl (reps_cons (cs := [.bool false]) rfl (reps_cons (cs := [.bool true]) rfl (reps_nil _))) ?_
              clear hf; intro a w v56 hf hp0; clear hp; have hp := hp0; clear hp0
              replace hp : Hp _ _ _ (Res.sl Ek.bool 4 v56 ([false, true]) :: Res.ar 92 bs48 nd :: Res.sl (Ek.pair (Ek.wp bs48) (Ek.wp bs48)) 89 (aslv v31 64) then13 :: Res.obj 40 v1 [.int .i64 cx0_Length, .int .u32 cx0_One, .int .u32 cx0_Two] :: Res.sl (Ek.pair (Ek.wp bs48) (Ek.wp bs48)) 89 (aslv v3 64) (List.replicate 64 ((none : Option Nat), (none : Option Nat))) :: Res.sl (Ek.pair (Ek.wp bs48) (Ek.wp bs48)) 89 (aslv v7 64) now10 :: Res.obj 35 v29 [.complex .f64 bb25 bb26, .bool ((gt l1 t34).2)] :: ow) := hp
              refine st_len (E := Ek.bool) hf (by decide) Try.underlying25 rfl rfl (hp.sl (i := 0) rfl) ?_
              clear hf; intro a ha hf; clear ha
              refine st_move hf rfl rfl (by decide) ?_
              clear hf; intro a ha hf; clear ha
              refine st_nil hf ?_
              refine th_n ?_
              refine wp_block ?_
              obtain ⟨q114, hl, h⟩ := bnd h
              have hp : Hp _ _ _ (Res.ar 92 bs48 nd :: Res.sl (Ek.pair (Ek.wp bs48) (Ek.wp bs48)) 89 (aslv v31 64) then13 :: Res.obj 40 v1 [.int .i64 cx0_Length, .int .u32 cx0_One, .int .u32 cx0_Two] :: Res.sl (Ek.pair (Ek.wp bs48) (Ek.wp bs48)) 89 (aslv v3 64) (List.replicate 64 ((none : Option Nat), (none : Option Nat))) :: Res.sl (Ek.pair (Ek.wp bs48) (Ek.wp bs48)) 89 (aslv v7 64) now10 :: Res.obj 35 v29 [.complex .f64 bb25 bb26, .bool ((gt l1 t34).2)] :: Res.sl Ek.bool 4 v56 ([false, true]) :: ow) := Hp.sel (pre := [Res.sl Ek.bool 4 v56 ([false, true]), Res.ar 92 bs48 nd, Res.sl (Ek.pair (Ek.wp bs48) (Ek.wp bs48)) 89 (aslv v31 64) then13, Res.obj 40 v1 [.int .i64 cx0_Length, .int .u32 cx0_One, .int .u32 cx0_Two], Res.sl (Ek.pair (Ek.wp bs48) (Ek.wp bs48)) 89 (aslv v3 64) (List.replicate 64 ((none : Option Nat), (none : Option Nat))), Res.sl (Ek.pair (Ek.wp bs48) (Ek.wp bs48)) 89 (aslv v7 64) now10, Res.obj 35 v29 [.complex .f64 bb25 bb26, .bool ((gt l1 t34).2)]]) (tail := ow) (rs' := [Res.ar 92 bs48 nd, Res.sl (Ek.pair (Ek.wp bs48) (Ek.wp bs48)) 89 (aslv v31 64) then13, Res.obj 40 v1 [.int .i64 cx0_Length, .int .u32 cx0_One, .int .u32 cx0_Two], Res.sl (Ek.pair (Ek.wp bs48) (Ek.wp bs48)) 89 (aslv v3 64) (List.replicate 64 ((none : Option Nat), (none : Option Nat))), Res.sl (Ek.pair (Ek.wp bs48) (Ek.wp bs48)) 89 (aslv v7 64) now10, Res.obj 35 v29 [.complex .f64 bb25 bb26, .bool ((gt l1 t34).2)], Res.sl Ek.bool 4 v56 ([false, true])]) hp [1, 2, 3, 4, 5, 6, 0] (by decide) (by simp) rfl
              refine wp_loop_pure (f := (f_soft_run.s4 cx0_Length cx0_One cx0_Two l1 last2 now10 t34 t40 t46)) (s := (nd, then13, (0 : Int))) (fun s a w => ∃ (bs59 : List Nat), Fr 100 a [(1, vl1), (2, .int .i64 last2), (3, optr v1 0), (6, v3), (7, .int .i64 q5.1), (9, .func (.func 62) #[] #[]), (10, v7), (11, .int .i64 t34), (12, optr v29 0), (13, v31), (14, .int .i64 t40), (16, (gtv [v43, v45] t46)), (32, vl1), (33, .int .i64 (l1.length : Int)), (34, .int .i64 t34), (39, .int .i64 q5.1), (40, .int .i64 t40), (45, .agg #[v43, v45]), (46, .int .i64 t46), (51, v56), (52, .int .i64 (([false, true]).length : Int)), (53, .int .i64 s.2.2)] ∧ WP bs59 (gtv [v43, v45] t46) (gt [(gt now10 t40).1, (gt now10 t40).2] t46) ∧ WP bs59 v43 ((gt now10 t40).1) ∧ WP bs59 v45 ((gt now10 t40).2) ∧ Hp S w0 w (Res.ar 92 bs59 s.1 :: Res.sl (Ek.pair (Ek.wp bs59) (Ek.wp bs59)) 89 (aslv v31 64) s.2.1 :: Res.obj 40 v1 [.int .i64 cx0_Length, .int .u32 cx0_One, .int .u32 cx0_Two] :: Res.sl (Ek.pair (Ek.wp bs59) (Ek.wp bs59)) 89 (aslv v3 64) (List.replicate 64 ((none : Option Nat), (none : Option Nat))) :: Res.sl (Ek.pair (Ek.wp bs59) (Ek.wp bs59)) 89 (aslv v7 64) now10 :: Res.obj 35 v29 [.complex .f64 bb25 bb26, .bool ((gt l1 t34).2)] :: Res.sl Ek.bool 4 v56 ([false, true]) :: ow)) (fun q e a w => e = .exit 6 ∧ ∃ (bs65 : List Nat), Fr 100 a [(1, vl1), (2, .int .i64 last2), (3, optr v1 0), (6, v3), (7, .int .i64 q5.1), (9, .func (.func 62) #[] #[]), (10, v7), (11, .int .i64 t34), (12, optr v29 0), (13, v31), (14, .int .i64 t40), (32, vl1), (33, .int .i64 (l1.length : Int)), (34, .int .i64 t34), (39, .int .i64 q5.1), (40, .int .i64 t40), (45, .agg #[v43, v45]), (46, .int .i64 t46)] ∧ WP bs65 v43 ((gt now10 t40).1) ∧ WP bs65 v45 ((gt now10 t40).2) ∧ Hp S w0 w (Res.ar 92 bs65 q.1 :: Res.sl (Ek.pair (Ek.wp bs65) (Ek.wp bs65)) 89 (aslv v31 64) q.2 :: Res.obj 40 v1 [.int .i64 cx0_Length, .int .u32 cx0_One, .int .u32 cx0_Two] :: Res.sl (Ek.pair (Ek.wp bs65) (Ek.wp bs65)) 89 (aslv v3 64) (List.replicate 64 ((none : Option Nat), (none : Option Nat))) :: Res.sl (Ek.pair (Ek.wp bs65) (Ek.wp bs65)) 89 (aslv v7 64) now10 :: Res.obj 35 v29 [.complex .f64 bb25 bb26, .bool ((gt l1 t34).2)] :: ow)) ?_ hl ⟨_, hf.sub ⟨rfl, rfl, rfl, rfl, rfl, rfl, rfl, rfl, rfl, rfl, rfl, rfl, rfl, rfl, rfl, rfl, rfl, rfl, rfl, rfl, rfl, rfl, trivial⟩, (WP.sel y50 y51 hc55), y50, y51, hp⟩ ?_
              · clear hl hf hp
                intro s x a w h hI
                obtain ⟨nd, then13, t53⟩ := s
                obtain ⟨bs59, hf, y61, y62, y63, hp⟩ : ∃ (bs59 : List Nat), Fr 100 a [(1, vl1), (2, .int .i64 last2), (3, optr v1 0), (6, v3), (7, .int .i64 q5.1), (9, .func (.func 62) #[] #[]), (10, v7), (11, .int .i64 t34), (12, optr v29 0), (13, v31), (14, .int .i64 t40), (16, (gtv [v43, v45] t46)), (32, vl1), (33, .int .i64 (l1.length : Int)), (34, .int .i64 t34), (39, .int .i64 q5.1), (40, .int .i64 t40), (45, .agg #[v43, v45]), (46, .int .i64 t46), (51, v56), (52, .int .i64 (([false, true]).length : Int)), (53, .int .i64 t53)] ∧ WP bs59 (gtv [v43, v45] t46) (gt [(gt now10 t40).1, (gt now10 t40).2] t46) ∧ WP bs59 v43 ((gt now10 t40).1) ∧ WP bs59 v45 ((gt now10 t40).2) ∧ Hp S w0 w (Res.ar 92 bs59 nd :: Res.sl (Ek.pair (Ek.wp bs59) (Ek.wp bs59)) 89 (aslv v31 64) then13 :: Res.obj 40 v1 [.int .i64 cx0_Length, .int .u32 cx0_One, .int .u32 cx0_Two] :: Res.sl (Ek.pair (Ek.wp bs59) (Ek.wp bs59)) 89 (aslv v3 64) (List.replicate 64 ((none : Option Nat), (none : Option Nat))) :: Res.sl (Ek.pair (Ek.wp bs59) (Ek.wp bs59)) 89 (aslv v7 64) now10 :: Res.obj 35 v29 [.complex .f64 bb25 bb26, .bool ((gt l1 t34).2)] :: Res.sl Ek.bool 4 v56 ([false, true]) :: ow) := hI
                replace h : f_soft_run.s4c cx0_Length cx0_One cx0_Two l1 last2 now10 t34 t40 t46 nd then13 t53 = some x := h
                unfold f_soft_run.s4c at h
                refine wp_seq ?_
                refine wp_reg ?_
                refine st_ilss hf (by decide) rfl rfl rfl ?_
                clear hf; intro a ha hf; clear ha
                refine st_nil hf ?_
                refine th_n ?_
                refine wp_seq ?_
                refine wp_if hf rfl (fun hb => ?_) (fun hb => ?_)
                · replace h := ifT h hb
                  refine wp_skip ?_
                  refine th_n ?_
                  refine wp_seq ?_
                  refine wp_block ?_
                  refine wp_seq ?_
                  refine wp_reg ?_
                  obtain ⟨hc69, h⟩ := chk h
                  refine st_index (E := Ek.bool) hf (by decide) Try.underlying25 elt4 rfl rfl rfl (hp.sl (i := 6) rfl) hc69.1 hc69.2 ?_
                  clear hf; intro a ha hf; clear ha
                  refine st_ldB hf (by decide) pl4 rfl rfl (hp.sl (i := 6) rfl) hc69.1 hc69.2 ?_
                  clear hf; intro a ha hf; clear ha
                  refine st_assign hf rfl rfl (by decide) ?_
                  clear hf; intro a ha hf; clear ha
                  refine st_nil hf ?_
                  refine th_n ?_
                  refine wp_seq ?_
                  refine wp_seq ?_
                  refine wp_reg ?_
                  refine st_move hf rfl rfl (by decide) ?_
                  clear hf; intro a ha hf; clear ha
                  refine st_move hf rfl rfl (by decide) ?_
                  clear hf; intro a ha hf; clear ha
                  refine wpList_cut 7 (fun a w => Fr 100 a [(1, vl1), (2, .int .i64 last2), (3, optr v1 0), (6, v3), (7, .int .i64 q5.1), (9, .func (.func 62) #[] #[]), (10, v7), (11, .int .i64 t34), (12, optr v29 0), (13, v31), (14, .int .i64 t40), (16, (gtv [v43, v45] t46)), (18, .bool (gt ([false, true]) t53)), (32, vl1), (33, .int .i64 (l1.length : Int)), (34, .int .i64 t34), (39, .int .i64 q5.1), (40, .int .i64 t40), (45, .agg #[v43, v45]), (46, .int .i64 t46), (51, v56), (52, .int .i64 (([false, true]).length : Int)), (53, .int .i64 t53), (65, .bool ((gt ([false, true]) t53) && (decide ((IntKind.i64.wrap ((l1.length : Int) - last2)) ≤ t34))))] ∧ Hp S w0 w (Res.ar 92 bs59 nd :: Res.sl (Ek.pair (Ek.wp bs59) (Ek.wp bs59)) 89 (aslv v31 64) then13 :: Res.obj 40 v1 [.int .i64 cx0_Length, .int .u32 cx0_One, .int .u32 cx0_Two] :: Res.sl (Ek.pair (Ek.wp bs59) (Ek.wp bs59)) 89 (aslv v3 64) (List.replicate 64 ((none : Option Nat), (none : Option Nat))) :: Res.sl (Ek.pair (Ek.wp bs59) (Ek.wp bs59)) 89 (aslv v7 64) now10 :: Res.obj 35 v29 [.complex .f64 bb25 bb26, .bool ((gt l1 t34).2)] :: Res.sl Ek.bool 4 v56 ([false, true]) :: ow)) ?_ ?_
                  · rcases Bool.eq_false_or_eq_true (gt ([false, true]) t53) with hb71 | hb71
                    · skip
                      refine st_move hf (wantY hf rfl rfl hb71) rfl (by decide) ?_
                      clear hf; intro a ha hf; clear ha
                      refine st_move hf (wantY hf rfl rfl hb71) rfl (by decide) ?_
                      clear hf; intro a ha hf; clear ha
                      refine st_len (E := (Ek.pair Ek.c128 Ek.bool)) hf (by decide) Try.underlying27 (wantY hf rfl rfl hb71) rfl (hl1.sl hp) ?_
                      clear hf; intro a ha hf; clear ha
                      refine st_move hf (wantY hf rfl rfl hb71) rfl (by decide) ?_
                      clear hf; intro a ha hf; clear ha
                      refine st_isub hf (by decide) (wantY hf rfl rfl hb71) rfl rfl ?_
                      clear hf; intro a ha hf; clear ha
                      refine st_igeq hf (by decide) (wantY hf rfl rfl hb71) rfl rfl ?_
                      clear hf; intro a ha hf; clear ha
                      refine st_pick (v := .bool (decide ((IntKind.i64.wrap ((l1.length : Int) - last2)) ≤ t34))) hf rfl rfl (fun hb' => ?_) (fun hb' => ?_) (by decide) ?_
                      · rfl
                      · exact absurd (hb71.symm.trans hb') (by decide)
                      clear hf; intro a ha hf; clear ha
                      refine st_nil hf (th_n ?_)
                      exact ⟨hf.sub ⟨rfl, rfl, rfl, rfl, rfl, rfl, rfl, rfl, rfl, rfl, rfl, rfl, rfl, rfl, rfl, rfl, rfl, rfl, rfl, rfl, rfl, rfl, rfl, (by rw [hb71]; rfl), trivial⟩, hp⟩
                    refine st_skip hf (wantN hf rfl rfl hb71) rfl (by decide) ?_ rfl
                    clear hf; intro a hf
                    refine st_skip hf (wantN hf rfl rfl hb71) rfl (by decide) ?_ rfl
                    clear hf; intro a hf
                    refine st_skip hf (wantN hf rfl rfl hb71) rfl (by decide) ?_ rfl
                    clear hf; intro a hf
                    refine st_skip hf (wantN hf rfl rfl hb71) rfl (by decide) ?_ rfl
                    clear hf; intro a hf
                    refine st_skip hf (wantN hf rfl rfl hb71) rfl (by decide) ?_ rfl
                    clear hf; intro a hf
                    refine st_skip hf (wantN hf rfl rfl hb71) rfl (by decide) ?_ rfl
                    clear hf; intro a hf
                    refine st_pick (v := .bool false) hf rfl rfl (fun hb' => ?_) (fun hb' => ?_) (by decide) ?_
                    · exact absurd (hb71.symm.trans hb') (by decide)
                    · rfl
                    clear hf; intro a ha hf; clear ha
                    refine st_nil hf (th_n ?_)
                    exact ⟨hf.sub ⟨rfl, rfl, rfl, rfl, rfl, rfl, rfl, rfl, rfl, rfl, rfl, rfl, rfl, rfl, rfl, rfl, rfl, rfl, rfl, rfl, rfl, rfl, rfl, (by rw [hb71]; rfl), trivial⟩, hp⟩
                  rintro a w ⟨hf, hp⟩
                  refine st_nil hf ?_
                  refine th_n ?_
                  refine wp_if hf rfl (fun hb => ?_) (fun hb => ?_)
                  · replace h := ifT h hb
                    refine wp_exit ?_
                    refine th_e ?_
                    refine ib_same ?_
                    refine th_n ?_
                    refine wp_reg ?_
                    refine st_iadd hf (by decide) rfl rfl rfl ?_
                    clear hf; intro a ha hf; clear ha
                    refine st_move hf rfl rfl (by decide) ?_
                    clear hf; intro a ha hf; clear ha
                    refine st_nil hf ?_
                    obtain rfl := Option.some.inj h
                    exact rnd_l ⟨_, hf.sub ⟨rfl, rfl, rfl, rfl, rfl, rfl, rfl, rfl, rfl, rfl, rfl, rfl, rfl, rfl, rfl, rfl, rfl, rfl, rfl, rfl, rfl, rfl, trivial⟩, y61, y62, y63, hp⟩
                  replace h := ifF h hb
                  refine wp_skip ?_
                  refine th_n ?_
                  refine wp_seq ?_
                  refine wp_reg ?_
                  refine st_ldOA (m := 3) (us := [.int .i64 cx0_Length, .int .u32 cx0_One, .int .u32 cx0_Two]) hf (by decide) (by kernel_rfl) rfl rfl (hp.ob (i := 2) rfl) rfl rfl ?_
                  clear hf; intro a ha hf; clear ha
                  refine st_move hf rfl rfl (by decide) ?_
                  clear hf; intro a ha hf; clear ha
                  refine st_move hf rfl rfl (by decide) ?_
                  clear hf; intro a ha hf; clear ha
                  obtain ⟨q72, hcall73, h⟩ := bnd h
                  refine st_call hf (by decide) Try.func32 rfl rfl rfl rfl rfl (f_trellis_Code_Step_c hp _ _ _ _ _ hcall73) ?_
                  rintro _ w ⟨rfl, hp0⟩
                  clear hp; have hp := hp0; clear hp0
                  replace hp : Hp _ _ _ (Res.ar 92 bs59 nd :: Res.sl (Ek.pair (Ek.wp bs59) (Ek.wp bs59)) 89 (aslv v31 64) then13 :: Res.obj 40 v1 [.int .i64 cx0_Length, .int .u32 cx0_One, .int .u32 cx0_Two] :: Res.sl (Ek.pair (Ek.wp bs59) (Ek.wp bs59)) 89 (aslv v3 64) (List.replicate 64 ((none : Option Nat), (none : Option Nat))) :: Res.sl (Ek.pair (Ek.wp bs59) (Ek.wp bs59)) 89 (aslv v7 64) now10 :: Res.obj 35 v29 [.complex .f64 bb25 bb26, .bool ((gt l1 t34).2)] :: Res.sl Ek.bool 4 v56 ([false, true]) :: ow) := hp
                  refine ⟨_, rfl, ?_⟩
                  clear hf; intro a hf
                  refine st_move hf rfl rfl (by decide) ?_
                  clear hf; intro a ha hf; clear ha
                  refine st_extract hf (by decide) rfl rfl rfl ?_
                  clear hf; intro a ha hf; clear ha
                  refine st_extract hf (by decide) rfl rfl rfl ?_
                  clear hf; intro a ha hf; clear ha
                  refine st_extract hf (by decide) rfl rfl rfl ?_
                  clear hf; intro a ha hf; clear ha
                  refine st_extract hf (by decide) rfl rfl rfl ?_
                  clear hf; intro a ha hf; clear ha
                  refine st_assign hf rfl rfl (by decide) ?_
                  clear hf; intro a ha hf; clear ha
                  refine st_assign hf rfl rfl (by decide) ?_
                  clear hf; intro a ha hf; clear ha
                  refine st_assign hf rfl rfl (by decide) ?_
                  clear hf; intro a ha hf; clear ha
                  refine st_assign hf rfl rfl (by decide) ?_
                  clear hf; intro a ha hf; clear ha
                  refine st_nil hf ?_
                  refine th_n ?_
                  obtain ⟨S74, hp75, rd76, up77, bk78⟩ := Hp.lendA hp (i := 0) rfl
                  obtain ⟨S79, hp80, rd81, up82, bk83⟩ := Hp.lendO hp75 (i := 4) rfl
                  have rl84 := ((((hl1.now hp).mono up77).now hp75).mono up82)
                  have rl85 := rd81
                  have rl86 := ((rd76.now hp75).mono up82)
                  have fx87 := hp.sl (i := 1) rfl
                  obtain ⟨hc88, h⟩ := chk h
                  obtain ⟨n90, hx91, h⟩ := bnd h
                  obtain ⟨v92, bb93, y94, y95, ho96⟩ := RdA.at rl86 y61 hx91
                  obtain ⟨q97, hcall98, h⟩ := bnd h
                  obtain ⟨q106, hcall107, h⟩ := bnd h
                  refine wp_cutN (fun a w => ∃ (k104 : Nat), Fr 100 a [(1, vl1), (2, .int .i64 last2), (3, optr v1 0), (6, v3), (7, .int .i64 q5.1), (9, .func (.func 62) #[] #[]), (10, v7), (11, .int .i64 t34), (12, optr v29 0), (13, v31), (14, .int .i64 t40), (16, (gtv [v43, v45] t46)), (32, vl1), (33, .int .i64 (l1.length : Int)), (34, .int .i64 t34), (39, .int .i64 q5.1), (40, .int .i64 t40), (45, .agg #[v43, v45]), (46, .int .i64 t46), (51, v56), (52, .int .i64 (([false, true]).length : Int)), (53, .int .i64 t53)] ∧ Hp S w0 w (Res.ar 92 (bs59 ++ [k104]) (nd ++ [((gt ([false, true]) t53), (gt [(gt now10 t40).1, (gt now10 t40).2] t46), (fadd ((nth nd n90).2.2.1) q97), (0 : Int))]) :: Res.sl (Ek.pair (Ek.wp (bs59 ++ [k104])) (Ek.wp (bs59 ++ [k104]))) 89 (aslv v31 64) q106 :: Res.obj 35 v29 [.complex .f64 bb25 bb26, .bool ((gt l1 t34).2)] :: Res.obj 40 v1 [.int .i64 cx0_Length, .int .u32 cx0_One, .int .u32 cx0_Two] :: Res.sl (Ek.pair (Ek.wp (bs59 ++ [k104])) (Ek.wp (bs59 ++ [k104]))) 89 (aslv v3 64) (List.replicate 64 ((none : Option Nat), (none : Option Nat))) :: Res.sl (Ek.pair (Ek.wp (bs59 ++ [k104])) (Ek.wp (bs59 ++ [k104]))) 89 (aslv v7 64) now10 :: Res.sl Ek.bool 4 v56 ([false, true]) :: ow)) ?_ ?_
                  · have hp := hp80.same (Same.drew w)
                    refine dr_begin' (fun a w => ∃ (k104 : Nat), Fr 100 a [(1, vl1), (2, .int .i64 last2), (3, optr v1 0), (6, v3), (7, .int .i64 q5.1), (9, .func (.func 62) #[] #[]), (10, v7), (11, .int .i64 t34), (12, optr v29 0), (13, v31), (14, .int .i64 t40), (16, (gtv [v43, v45] t46)), (32, vl1), (33, .int .i64 (l1.length : Int)), (34, .int .i64 t34), (39, .int .i64 q5.1), (40, .int .i64 t40), (45, .agg #[v43, v45]), (46, .int .i64 t46), (51, v56), (52, .int .i64 (([false, true]).length : Int)), (53, .int .i64 t53)] ∧ Hp S w0 w (Res.ar 92 (bs59 ++ [k104]) (nd ++ [((gt ([false, true]) t53), (gt [(gt now10 t40).1, (gt now10 t40).2] t46), (fadd ((nth nd n90).2.2.1) q97), (0 : Int))]) :: Res.sl (Ek.pair (Ek.wp (bs59 ++ [k104])) (Ek.wp (bs59 ++ [k104]))) 89 (aslv v31 64) q106 :: Res.obj 35 v29 [.complex .f64 bb25 bb26, .bool ((gt l1 t34).2)] :: Res.obj 40 v1 [.int .i64 cx0_Length, .int .u32 cx0_One, .int .u32 cx0_Two] :: Res.sl (Ek.pair (Ek.wp (bs59 ++ [k104])) (Ek.wp (bs59 ++ [k104]))) 89 (aslv v3 64) (List.replicate 64 ((none : Option Nat), (none : Option Nat))) :: Res.sl (Ek.pair (Ek.wp (bs59 ++ [k104])) (Ek.wp (bs59 ++ [k104]))) 89 (aslv v7 64) now10 :: Res.sl Ek.bool 4 v56 ([false, true]) :: ow)) (fun w' => ∃ l, Hp S79 w w' l) [14, 16] (by kernel_rfl) ?_
                    refine dr_takeP 0 (.int .i64 q72.1) rfl (by kernel_rfl) (by kernel_rfl) (by kernel_rfl) rfl rfl hf (by decide) rfl (fun w => ?_) ?_
                    · skip
                      refine st_move hf rfl rfl (by decide) ?_
                      clear hf; intro a ha hf
                      exact st_nil hf (th_n ⟨ha, rfl⟩)
                    clear hf; intro a hf
                    refine dr_takeP 1 (eptr (aslv v31 64) q72.1 2) rfl (by kernel_rfl) (by kernel_rfl) (by kernel_rfl) rfl rfl hf (by decide) rfl (fun w => ?_) ?_
                    · skip
                      refine st_iaA (E := (Ek.pair (Ek.wp bs59) (Ek.wp bs59))) (N := 64) hf (by decide) Try.underlying89 (by kernel_rfl) rfl rfl rfl fx87 rfl hc88.1 hc88.2 ?_
                      clear hf; intro a ha hf
                      exact st_nil hf (th_n ⟨ha, rfl⟩)
                    clear hf; intro a hf
                    refine dr_takeP 2 (.bool (gt ([false, true]) t53)) rfl (by kernel_rfl) (by kernel_rfl) (by kernel_rfl) rfl rfl hf (by decide) rfl (fun w => ?_) ?_
                    · skip
                      refine st_move hf rfl rfl (by decide) ?_
                      clear hf; intro a ha hf
                      exact st_nil hf (th_n ⟨ha, rfl⟩)
                    clear hf; intro a hf
                    refine dr_takeP 3 ((gtv [v43, v45] t46)) rfl (by kernel_rfl) (by kernel_rfl) (by kernel_rfl) rfl rfl hf (by decide) rfl (fun w => ?_) ?_
                    · skip
                      refine st_move hf rfl rfl (by decide) ?_
                      clear hf; intro a ha hf
                      exact st_nil hf (th_n ⟨ha, rfl⟩)
                    clear hf; intro a hf
                    refine dr_takeP 4 ((gtv [v43, v45] t46)) rfl (by kernel_rfl) (by kernel_rfl) (by kernel_rfl) rfl rfl hf (by decide) rfl (fun w => ?_) ?_
                    · skip
                      refine st_move hf rfl rfl (by decide) ?_
                      clear hf; intro a ha hf
                      exact st_nil hf (th_n ⟨ha, rfl⟩)
                    clear hf; intro a hf
                    refine dr_nilE 5 rfl (by kernel_rfl) (by kernel_rfl) (by kernel_rfl) hf (by decide) rfl rfl (WP.ptr y61 hx91) ?_
                    clear hf; intro a hf
                    refine dr_takeP 6 (optr (gtv [v43, v45] t46) 2) rfl (by kernel_rfl) (by kernel_rfl) (by kernel_rfl) rfl rfl hf (by decide) rfl (fun w => ?_) ?_
                    · skip
                      refine st_faP (off := 2) (sz := 1) hf (by decide) (by kernel_rfl) (by decide) rfl rfl (WP.isP y61 hx91) ?_
                      clear hf; intro a ha hf
                      exact st_nil hf (th_n ⟨ha, rfl⟩)
                    clear hf; intro a hf
                    refine dr_take2 7 (.float .f64 bb93) rfl (by kernel_rfl) (by kernel_rfl) (by kernel_rfl) (by kernel_rfl) (by kernel_rfl) rfl rfl hf (by decide) rfl (fun w hp => ?_) ⟨_, hp⟩ ?_
                    · obtain ⟨_, hp⟩ := hp
                      refine st_ldO (u := .float .f64 bb93) hf (by decide) pl29 rfl rfl (ho96.ob hp) rfl ?_
                      clear hf; intro a ha hf
                      exact st_nil hf (th_n ⟨ha, rfl⟩)
                    clear hf; intro a hf
                    refine dr_takeP 8 (.bool q72.2.1) rfl (by kernel_rfl) (by kernel_rfl) (by kernel_rfl) rfl rfl hf (by decide) rfl (fun w => ?_) ?_
                    · skip
                      refine st_move hf rfl rfl (by decide) ?_
                      clear hf; intro a ha hf
                      exact st_nil hf (th_n ⟨ha, rfl⟩)
                    clear hf; intro a hf
                    refine dr_takeP 9 (.bool q72.2.2.1) rfl (by kernel_rfl) (by kernel_rfl) (by kernel_rfl) rfl rfl hf (by decide) rfl (fun w => ?_) ?_
                    · skip
                      refine st_move hf rfl rfl (by decide) ?_
                      clear hf; intro a ha hf
                      exact st_nil hf (th_n ⟨ha, rfl⟩)
                    clear hf; intro a hf
                    refine dr_take2 10 (.agg #[.complex .f64 bb25 bb26, .bool ((gt l1 t34).2)]) rfl (by kernel_rfl) (by kernel_rfl) (by kernel_rfl) (by kernel_rfl) (by kernel_rfl) rfl rfl hf (by decide) rfl (fun w hp => ?_) ⟨_, hp⟩ ?_
                    · obtain ⟨_, hp⟩ := hp
                      refine st_ldOA (m := 2) (us := [.complex .f64 bb25 bb26, .bool ((gt l1 t34).2)]) hf (by decide) (by kernel_rfl) rfl rfl (rl85.ob hp) rfl rfl ?_
                      clear hf; intro a ha hf
                      exact st_nil hf (th_n ⟨ha, rfl⟩)
                    clear hf; intro a hf
                    refine dr_takeP 15 (.func (.func 62) #[] #[]) rfl (by kernel_rfl) (by kernel_rfl) (by kernel_rfl) rfl rfl hf (by decide) rfl (fun w => ?_) ?_
                    · skip
                      refine st_move hf rfl rfl (by decide) ?_
                      clear hf; intro a ha hf
                      exact st_nil hf (th_n ⟨ha, rfl⟩)
                    clear hf; intro a hf
                    refine dr_one 11 rfl (by kernel_rfl) ?_
                    refine st_call hf (by decide) Try.func36 rfl rfl rfl rfl rfl (f_soft_cost_c hp _ _ _ _ _ (show Fl.rep bb25 ((gt l1 t34).1).1 from y27) (show Fl.rep bb26 ((gt l1 t34).1).2 from y28) _ hcall98) ?_
                    rintro _ w ⟨v99, rfl, y100, hp0⟩
                    clear hp; have hp := hp0; clear hp0
                    replace hp : Hp _ _ _ (Res.sl (Ek.pair (Ek.wp bs59) (Ek.wp bs59)) 89 (aslv v31 64) then13 :: Res.obj 40 v1 [.int .i64 cx0_Length, .int .u32 cx0_One, .int .u32 cx0_Two] :: Res.sl (Ek.pair (Ek.wp bs59) (Ek.wp bs59)) 89 (aslv v3 64) (List.replicate 64 ((none : Option Nat), (none : Option Nat))) :: Res.sl (Ek.pair (Ek.wp bs59) (Ek.wp bs59)) 89 (aslv v7 64) now10 :: Res.sl Ek.bool 4 v56 ([false, true]) :: ow) := hp
                    refine ⟨_, rfl, ?_⟩
                    clear hf; intro a hf
                    refine st_nil hf (th_n ⟨fun _ _ => ⟨_, hp⟩, ?_⟩)
                    refine dr_one 12 rfl (by kernel_rfl) ?_
                    refine st_farith (op := .add) rfl hf (by decide) hp rfl rfl rfl (show Fl.rep bb93 ((nth nd n90).2.2.1) from y95) (show Fl.rep v99 q97 from y100) ?_
                    clear hf; intro a w bb101 y102 hf hp0; clear hp; have hp := hp0; clear hp0
                    replace hp : Hp _ _ _ (Res.sl (Ek.pair (Ek.wp bs59) (Ek.wp bs59)) 89 (aslv v31 64) then13 :: Res.obj 40 v1 [.int .i64 cx0_Length, .int .u32 cx0_One, .int .u32 cx0_Two] :: Res.sl (Ek.pair (Ek.wp bs59) (Ek.wp bs59)) 89 (aslv v3 64) (List.replicate 64 ((none : Option Nat), (none : Option Nat))) :: Res.sl (Ek.pair (Ek.wp bs59) (Ek.wp bs59)) 89 (aslv v7 64) now10 :: Res.sl Ek.bool 4 v56 ([false, true]) :: ow) := hp
                    refine st_nil hf (th_n ⟨fun _ _ => ⟨_, hp⟩, ?_⟩)
                    refine dr_takeP 13 (.agg #[.bool (gt ([false, true]) t53), (gtv [v43, v45] t46), .float .f64 bb101, .int .i64 (0 : Int)]) rfl (by kernel_rfl) (by kernel_rfl) (by kernel_rfl) rfl rfl hf (by decide) rfl (fun w => ?_) ?_
                    · skip
                      refine st_buildA (vals := [(0, .bool (gt ([false, true]) t53)), (1, (gtv [v43, v45] t46)), (2, .float .f64 bb101), (3, .int .i64 (0 : Int))]) (cells := [.bool (gt ([false, true]) t53), (gtv [v43, v45] t46), .float .f64 bb101, .int .i64 (0 : Int)]) hf (by decide) rfl (by simp [hf.ev (x := (Operand.tmp 77)) rfl, hf.ev (x := (Operand.tmp 78)) rfl, hf.ev (x := (Operand.tmp 87)) rfl, hf.ev (x := (Operand.const (.int .i64 (0 : Int)))) rfl]) (fun w => by obtain ⟨_, e9⟩ := (WP.sh y61); rw [e9]; kernel_rfl) ?_
                      clear hf; intro a ha hf
                      exact st_nil hf (th_n ⟨ha, rfl⟩)
                    clear hf; intro a hf
                    have hp := bk83 _ _ hp
                    have hp := bk78 _ _ hp
                    refine dr_one 14 rfl (by kernel_rfl) ?_
                    refine st_boxW (ah := (gt [(gt now10 t40).1, (gt now10 t40).2] t46)) (co := (fadd ((nth nd n90).2.2.1) q97)) hf (by decide) hp rfl rfl y61 y102 ?_
                    clear hf; intro a w v103 k104 y105 hf hp0; clear hp; have hp := hp0; clear hp0
                    replace hp : Hp _ _ _ (Res.ar 92 (bs59 ++ [k104]) (nd ++ [((gt ([false, true]) t53), (gt [(gt now10 t40).1, (gt now10 t40).2] t46), (fadd ((nth nd n90).2.2.1) q97), (0 : Int))]) :: Res.obj 35 v29 [.complex .f64 bb25 bb26, .bool ((gt l1 t34).2)] :: Res.sl (Ek.pair (Ek.wp (bs59 ++ [k104])) (Ek.wp (bs59 ++ [k104]))) 89 (aslv v31 64) then13 :: Res.obj 40 v1 [.int .i64 cx0_Length, .int .u32 cx0_One, .int .u32 cx0_Two] :: Res.sl (Ek.pair (Ek.wp (bs59 ++ [k104])) (Ek.wp (bs59 ++ [k104]))) 89 (aslv v3 64) (List.replicate 64 ((none : Option Nat), (none : Option Nat))) :: Res.sl (Ek.pair (Ek.wp (bs59 ++ [k104])) (Ek.wp (bs59 ++ [k104]))) 89 (aslv v7 64) now10 :: Res.sl Ek.bool 4 v56 ([false, true]) :: ow) := hp.impL (ImpL.same (ImpL.same (ImpL.slx rfl (pair_up (wp_up _) (wp_up _)) (ImpL.same (ImpL.slx rfl (pair_up (wp_up _) (wp_up _)) (ImpL.slx rfl (pair_up (wp_up _) (wp_up _)) (ImpL.same (ImpL.refl ow))))))))
                    refine st_nil hf (th_n ⟨fun hn => absurd hn (by decide), ?_⟩)
                    refine dr_one 16 rfl (by kernel_rfl) ?_
                    obtain ⟨S108, hp109, rd110, up111, bk112⟩ := Hp.lendA hp (i := 0) rfl
                    have hp113 : Hp _ _ _ (Res.sl (Ek.pair (Ek.wp (bs59 ++ [k104])) (Ek.wp (bs59 ++ [k104]))) 89 (aslv v31 64) then13 :: Res.obj 35 v29 [.complex .f64 bb25 bb26, .bool ((gt l1 t34).2)] :: Res.obj 40 v1 [.int .i64 cx0_Length, .int .u32 cx0_One, .int .u32 cx0_Two] :: Res.sl (Ek.pair (Ek.wp (bs59 ++ [k104])) (Ek.wp (bs59 ++ [k104]))) 89 (aslv v3 64) (List.replicate 64 ((none : Option Nat), (none : Option Nat))) :: Res.sl (Ek.pair (Ek.wp (bs59 ++ [k104])) (Ek.wp (bs59 ++ [k104]))) 89 (aslv v7 64) now10 :: Res.sl Ek.bool 4 v56 ([false, true]) :: ow) := Hp.sel (pre := [Res.obj 35 v29 [.complex .f64 bb25 bb26, .bool ((gt l1 t34).2)], Res.sl (Ek.pair (Ek.wp (bs59 ++ [k104])) (Ek.wp (bs59 ++ [k104]))) 89 (aslv v31 64) then13, Res.obj 40 v1 [.int .i64 cx0_Length, .int .u32 cx0_One, .int .u32 cx0_Two], Res.sl (Ek.pair (Ek.wp (bs59 ++ [k104])) (Ek.wp (bs59 ++ [k104]))) 89 (aslv v3 64) (List.replicate 64 ((none : Option Nat), (none : Option Nat))), Res.sl (Ek.pair (Ek.wp (bs59 ++ [k104])) (Ek.wp (bs59 ++ [k104]))) 89 (aslv v7 64) now10, Res.sl Ek.bool 4 v56 ([false, true])]) (tail := ow) (rs' := [Res.sl (Ek.pair (Ek.wp (bs59 ++ [k104])) (Ek.wp (bs59 ++ [k104]))) 89 (aslv v31 64) then13, Res.obj 35 v29 [.complex .f64 bb25 bb26, .bool ((gt l1 t34).2)], Res.obj 40 v1 [.int .i64 cx0_Length, .int .u32 cx0_One, .int .u32 cx0_Two], Res.sl (Ek.pair (Ek.wp (bs59 ++ [k104])) (Ek.wp (bs59 ++ [k104]))) 89 (aslv v3 64) (List.replicate 64 ((none : Option Nat), (none : Option Nat))), Res.sl (Ek.pair (Ek.wp (bs59 ++ [k104])) (Ek.wp (bs59 ++ [k104]))) 89 (aslv v7 64) now10, Res.sl Ek.bool 4 v56 ([false, true])]) hp109 [1, 0, 2, 3, 4, 5] (by decide) (by simp) rfl
                    refine st_call hf (by decide) Try.func63 rfl rfl rfl rfl rfl (f_soft_two_put_c _ _ rd110 _ _ _ _ (aslv_ix (hp.sl (i := 2) rfl) hc88) _ _ y105 hp113 hcall107) ?_
                    rintro _ w ⟨rfl, hp0⟩
                    have hp0 := bk112 _ _ hp0
                    clear hp; have hp := hp0; clear hp0
                    replace hp : Hp _ _ _ (Res.ar 92 (bs59 ++ [k104]) (nd ++ [((gt ([false, true]) t53), (gt [(gt now10 t40).1, (gt now10 t40).2] t46), (fadd ((nth nd n90).2.2.1) q97), (0 : Int))]) :: Res.sl (Ek.pair (Ek.wp (bs59 ++ [k104])) (Ek.wp (bs59 ++ [k104]))) 89 (aslv v31 64) q106 :: Res.obj 35 v29 [.complex .f64 bb25 bb26, .bool ((gt l1 t34).2)] :: Res.obj 40 v1 [.int .i64 cx0_Length, .int .u32 cx0_One, .int .u32 cx0_Two] :: Res.sl (Ek.pair (Ek.wp (bs59 ++ [k104])) (Ek.wp (bs59 ++ [k104]))) 89 (aslv v3 64) (List.replicate 64 ((none : Option Nat), (none : Option Nat))) :: Res.sl (Ek.pair (Ek.wp (bs59 ++ [k104])) (Ek.wp (bs59 ++ [k104]))) 89 (aslv v7 64) now10 :: Res.sl Ek.bool 4 v56 ([false, true]) :: ow) := hp
                    refine ⟨_, rfl, ?_⟩
                    clear hf; intro a hf
                    refine st_nil hf (th_n ⟨fun hn => absurd hn (by decide), ?_⟩)
                    refine dr_end (by kernel_rfl) ?_ _
                    exact ⟨k104, hf.sub ⟨rfl, rfl, rfl, rfl, rfl, rfl, rfl, rfl, rfl, rfl, rfl, rfl, rfl, rfl, rfl, rfl, rfl, rfl, rfl, rfl, rfl, rfl, trivial⟩, hp⟩
                  rintro a w ⟨k104, hf, hp⟩
                  refine ib_n ?_
                  refine th_n ?_
                  refine wp_reg ?_
                  refine st_iadd hf (by decide) rfl rfl rfl ?_
                  clear hf; intro a ha hf; clear ha
                  refine st_move hf rfl rfl (by decide) ?_
                  clear hf; intro a ha hf; clear ha
                  refine st_nil hf ?_
                  obtain rfl := Option.some.inj h
                  have hp : Hp _ _ _ (Res.ar 92 (bs59 ++ [k104]) (nd ++ [((gt ([false, true]) t53), (gt [(gt now10 t40).1, (gt now10 t40).2] t46), (fadd ((nth nd n90).2.2.1) q97), (0 : Int))]) :: Res.sl (Ek.pair (Ek.wp (bs59 ++ [k104])) (Ek.wp (bs59 ++ [k104]))) 89 (aslv v31 64) q106 :: Res.obj 40 v1 [.int .i64 cx0_Length, .int .u32 cx0_One, .int .u32 cx0_Two] :: Res.sl (Ek.pair (Ek.wp (bs59 ++ [k104])) (Ek.wp (bs59 ++ [k104]))) 89 (aslv v3 64) (List.replicate 64 ((none : Option Nat), (none : Option Nat))) :: Res.sl (Ek.pair (Ek.wp (bs59 ++ [k104])) (Ek.wp (bs59 ++ [k104]))) 89 (aslv v7 64) now10 :: Res.obj 35 v29 [.complex .f64 bb25 bb26, .bool ((gt l1 t34).2)] :: Res.sl Ek.bool 4 v56 ([false, true]) :: ow) := Hp.sel (pre := [Res.ar 92 (bs59 ++ [k104]) (nd ++ [((gt ([false, true]) t53), (gt [(gt now10 t40).1, (gt now10 t40).2] t46), (fadd ((nth nd n90).2.2.1) q97), (0 : Int))]), Res.sl (Ek.pair (Ek.wp (bs59 ++ [k104])) (Ek.wp (bs59 ++ [k104]))) 89 (aslv v31 64) q106, Res.obj 35 v29 [.complex .f64 bb25 bb26, .bool ((gt l1 t34).2)], Res.obj 40 v1 [.int .i64 cx0_Length, .int .u32 cx0_One, .int .u32 cx0_Two], Res.sl (Ek.pair (Ek.wp (bs59 ++ [k104])) (Ek.wp (bs59 ++ [k104]))) 89 (aslv v3 64) (List.replicate 64 ((none : Option Nat), (none : Option Nat))), Res.sl (Ek.pair (Ek.wp (bs59 ++ [k104])) (Ek.wp (bs59 ++ [k104]))) 89 (aslv v7 64) now10, Res.sl Ek.bool 4 v56 ([false, true])]) (tail := ow) (rs' := [Res.ar 92 (bs59 ++ [k104]) (nd ++ [((gt ([false, true]) t53), (gt [(gt now10 t40).1, (gt now10 t40).2] t46), (fadd ((nth nd n90).2.2.1) q97), (0 : Int))]), Res.sl (Ek.pair (Ek.wp (bs59 ++ [k104])) (Ek.wp (bs59 ++ [k104]))) 89 (aslv v31 64) q106, Res.obj 40 v1 [.int .i64 cx0_Length, .int .u32 cx0_One, .int .u32 cx0_Two], Res.sl (Ek.pair (Ek.wp (bs59 ++ [k104])) (Ek.wp (bs59 ++ [k104]))) 89 (aslv v3 64) (List.replicate 64 ((none : Option Nat), (none : Option Nat))), Res.sl (Ek.pair (Ek.wp (bs59 ++ [k104])) (Ek.wp (bs59 ++ [k104]))) 89 (aslv v7 64) now10, Res.obj 35 v29 [.complex .f64 bb25 bb26, .bool ((gt l1 t34).2)], Res.sl Ek.bool 4 v56 ([false, true])]) hp [0, 1, 3, 4, 5, 2, 6] (by decide) (by simp) rfl
                  exact rnd_l ⟨_, hf.sub ⟨rfl, rfl, rfl, rfl, rfl, rfl, rfl, rfl, rfl, rfl, rfl, rfl, rfl, rfl, rfl, rfl, rfl, rfl, rfl, rfl, rfl, rfl, trivial⟩, (WP.up y61 _), (WP.up y62 _), (WP.up y63 _), hp⟩
                replace h := ifF h hb
                refine wp_exit ?_
                refine th_e ?_
                obtain rfl := Option.some.inj h
                have hp : Hp _ _ _ (Res.ar 92 bs59 nd :: Res.sl (Ek.pair (Ek.wp bs59) (Ek.wp bs59)) 89 (aslv v31 64) then13 :: Res.obj 40 v1 [.int .i64 cx0_Length, .int .u32 cx0_One, .int .u32 cx0_Two] :: Res.sl (Ek.pair (Ek.wp bs59) (Ek.wp bs59)) 89 (aslv v3 64) (List.replicate 64 ((none : Option Nat), (none : Option Nat))) :: Res.sl (Ek.pair (Ek.wp bs59) (Ek.wp bs59)) 89 (aslv v7 64) now10 :: Res.obj 35 v29 [.complex .f64 bb25 bb26, .bool ((gt l1 t34).2)] :: ow) := Hp.sel (pre := [Res.ar 92 bs59 nd, Res.sl (Ek.pair (Ek.wp bs59) (Ek.wp bs59)) 89 (aslv v31 64) then13, Res.obj 40 v1 [.int .i64 cx0_Length, .int .u32 cx0_One, .int .u32 cx0_Two], Res.sl (Ek.pair (Ek.wp bs59) (Ek.wp bs59)) 89 (aslv v3 64) (List.replicate 64 ((none : Option Nat), (none : Option Nat))), Res.sl (Ek.pair (Ek.wp bs59) (Ek.wp bs59)) 89 (aslv v7 64) now10, Res.obj 35 v29 [.complex .f64 bb25 bb26, .bool ((gt l1 t34).2)], Res.sl Ek.bool 4 v56 ([false, true])]) (tail := ow) (rs' := [Res.ar 92 bs59 nd, Res.sl (Ek.pair (Ek.wp bs59) (Ek.wp bs59)) 89 (aslv v31 64) then13, Res.obj 40 v1 [.int .i64 cx0_Length, .int .u32 cx0_One, .int .u32 cx0_Two], Res.sl (Ek.pair (Ek.wp bs59) (Ek.wp bs59)) 89 (aslv v3 64) (List.replicate 64 ((none : Option Nat), (none : Option Nat))), Res.sl (Ek.pair (Ek.wp bs59) (Ek.wp bs59)) 89 (aslv v7 64) now10, Res.obj 35 v29 [.complex .f64 bb25 bb26, .bool ((gt l1 t34).2)]]) hp [0, 1, 2, 3, 4, 5] (by decide) (by simp) rfl
                exact rnd_r (by simp) ⟨rfl, _, hf.sub ⟨rfl, rfl, rfl, rfl, rfl, rfl, rfl, rfl, rfl, rfl, rfl, rfl, rfl, rfl, rfl, rfl, rfl, rfl, trivial⟩, y62, y63, hp⟩
              clear hl hf hp
              intro e a w hne hO
              obtain ⟨rfl, bs65, hf, y67, y68, hp⟩ := hO
              refine ib_same ?_
              refine ib_n ?_
              refine th_n ?_
              refine wp_reg ?_
              refine st_iadd hf (by decide) rfl rfl rfl ?_
              clear hf; intro a ha hf; clear ha
              refine st_move hf rfl rfl (by decide) ?_
              clear hf; intro a ha hf; clear ha
              refine st_nil hf ?_
              obtain rfl := Option.some.inj h
              exact rnd_l ⟨_, hf.sub ⟨rfl, rfl, rfl, rfl, rfl, rfl, rfl, rfl, rfl, rfl, rfl, rfl, rfl, rfl, rfl, rfl, rfl, rfl, trivial⟩, y67, y68, hp⟩
            replace h := ifF h hb
            refine wp_exit ?_
            refine th_e ?_
            obtain rfl := Option.some.inj h
            exact rnd_r (by simp) ⟨rfl, _, hf.sub ⟨rfl, rfl, rfl, rfl, rfl, rfl, rfl, rfl, rfl, rfl, rfl, rfl, rfl, rfl, rfl, trivial⟩, hp⟩
          clear hl hf hp
          intro e a w hne hO
          obtain ⟨rfl, bs53, hf, hp⟩ := hO
          refine ib_same ?_
          refine ib_n ?_
          refine th_n ?_
          refine wp_reg ?_
          refine st_iadd hf (by decide) rfl rfl rfl ?_
          clear hf; intro a ha hf; clear ha
          refine st_move hf rfl rfl (by decide) ?_
          clear hf; intro a ha hf; clear ha
          refine st_nil hf ?_
          obtain rfl := Option.some.inj h
          exact rnd_l ⟨_, hf.sub ⟨rfl, rfl, rfl, rfl, rfl, rfl, rfl, rfl, rfl, rfl, rfl, rfl, rfl, rfl, rfl, trivial⟩, hp⟩
        replace h := ifF h hb
        refine wp_exit ?_
        refine th_e ?_
        obtain rfl := Option.some.inj h
        have hp : Hp _ _ _ (Res.ar 92 bs34 nd :: Res.sl (Ek.pair (Ek.wp bs34) (Ek.wp bs34)) 89 (aslv v31 64) then13 :: Res.obj 40 v1 [.int .i64 cx0_Length, .int .u32 cx0_One, .int .u32 cx0_Two] :: Res.sl (Ek.pair (Ek.wp bs34) (Ek.wp bs34)) 89 (aslv v3 64) (List.replicate 64 ((none : Option Nat), (none : Option Nat))) :: Res.sl (Ek.pair (Ek.wp bs34) (Ek.wp bs34)) 89 (aslv v7 64) now10 :: ow) := Hp.sel (pre := [Res.ar 92 bs34 nd, Res.sl (Ek.pair (Ek.wp bs34) (Ek.wp bs34)) 89 (aslv v31 64) then13, Res.obj 40 v1 [.int .i64 cx0_Length, .int .u32 cx0_One, .int .u32 cx0_Two], Res.sl (Ek.pair (Ek.wp bs34) (Ek.wp bs34)) 89 (aslv v3 64) (List.replicate 64 ((none : Option Nat), (none : Option Nat))), Res.sl (Ek.pair (Ek.wp bs34) (Ek.wp bs34)) 89 (aslv v7 64) now10, Res.obj 35 v29 [.complex .f64 bb25 bb26, .bool ((gt l1 t34).2)]]) (tail := ow) (rs' := [Res.ar 92 bs34 nd, Res.sl (Ek.pair (Ek.wp bs34) (Ek.wp bs34)) 89 (aslv v31 64) then13, Res.obj 40 v1 [.int .i64 cx0_Length, .int .u32 cx0_One, .int .u32 cx0_Two], Res.sl (Ek.pair (Ek.wp bs34) (Ek.wp bs34)) 89 (aslv v3 64) (List.replicate 64 ((none : Option Nat), (none : Option Nat))), Res.sl (Ek.pair (Ek.wp bs34) (Ek.wp bs34)) 89 (aslv v7 64) now10]) hp [0, 1, 2, 3, 4] (by decide) (by simp) rfl
        exact rnd_r (by simp) ⟨rfl, _, hf.sub ⟨rfl, rfl, rfl, rfl, rfl, rfl, rfl, rfl, rfl, rfl, rfl, trivial⟩, hp⟩
      clear hl hf hp
      intro e a w hne hO
      obtain ⟨rfl, bs37, hf, hp⟩ := hO
      refine ib_same ?_
      refine th_n ?_
      refine wp_seq ?_
      refine wp_reg ?_
      refine st_move hf rfl rfl (by decide) ?_
      clear hf; intro a ha hf; clear ha
      obtain ⟨q117, hcall118, h⟩ := bnd h
      obtain ⟨S119, hp120, rd121, up122, bk123⟩ := Hp.lendS hp (i := 1) rfl
      have hp124 : Hp _ _ _ (Res.ar 92 bs37 q116.1 :: Res.obj 40 v1 [.int .i64 cx0_Length, .int .u32 cx0_One, .int .u32 cx0_Two] :: Res.sl (Ek.pair (Ek.wp bs37) (Ek.wp bs37)) 89 (aslv v3 64) (List.replicate 64 ((none : Option Nat), (none : Option Nat))) :: Res.sl (Ek.pair (Ek.wp bs37) (Ek.wp bs37)) 89 (aslv v7 64) now10 :: ow) := Hp.sel (pre := [Res.ar 92 bs37 q116.1, Res.obj 40 v1 [.int .i64 cx0_Length, .int .u32 cx0_One, .int .u32 cx0_Two], Res.sl (Ek.pair (Ek.wp bs37) (Ek.wp bs37)) 89 (aslv v3 64) (List.replicate 64 ((none : Option Nat), (none : Option Nat))), Res.sl (Ek.pair (Ek.wp bs37) (Ek.wp bs37)) 89 (aslv v7 64) now10]) (tail := ow) (rs' := [Res.ar 92 bs37 q116.1, Res.obj 40 v1 [.int .i64 cx0_Length, .int .u32 cx0_One, .int .u32 cx0_Two], Res.sl (Ek.pair (Ek.wp bs37) (Ek.wp bs37)) 89 (aslv v3 64) (List.replicate 64 ((none : Option Nat), (none : Option Nat))), Res.sl (Ek.pair (Ek.wp bs37) (Ek.wp bs37)) 89 (aslv v7 64) now10]) hp120 [0, 1, 2, 3] (by decide) (by simp) rfl
      refine st_call hf (by decide) Try.func64 rfl rfl rfl rfl rfl (f_soft_ranked_c _ _ _ _ rd121 _ hp124 hcall118) ?_
      rintro _ w ⟨rfl, hp0⟩
      have hp0 := bk123 _ _ hp0
      clear hp; have hp := hp0; clear hp0
      replace hp : Hp _ _ _ (Res.sl (Ek.pair (Ek.wp bs37) (Ek.wp bs37)) 89 (aslv v31 64) q116.2 :: Res.ar 92 bs37 q117 :: Res.obj 40 v1 [.int .i64 cx0_Length, .int .u32 cx0_One, .int .u32 cx0_Two] :: Res.sl (Ek.pair (Ek.wp bs37) (Ek.wp bs37)) 89 (aslv v3 64) (List.replicate 64 ((none : Option Nat), (none : Option Nat))) :: Res.sl (Ek.pair (Ek.wp bs37) (Ek.wp bs37)) 89 (aslv v7 64) now10 :: ow) := hp
      refine ⟨_, rfl, ?_⟩
      clear hf; intro a hf
      refine st_nil hf ?_
      refine th_n ?_
      refine wp_reg ?_
      have hl127 := aslv_len (hp.sl (i := 0) rfl)
      refine st_ldArr (E := (Ek.pair (Ek.wp bs37) (Ek.wp bs37))) (N := 64) hf (by decide) (by kernel_rfl) rfl (by decide) rfl rfl (hp.sl (i := 0) rfl) ?_
      clear hf; intro a cs125 hr126 ha hf; clear ha
      refine st_stArr hf hp (m := 4) rfl (by decide) rfl rfl rfl hr126 hl127 (by kernel_rfl) ?_
      clear hf; intro a w hf hp0; clear hp; have hp := hp0; clear hp0
      replace hp : Hp _ _ _ (Res.sl (Ek.pair (Ek.wp bs37) (Ek.wp bs37)) 89 (aslv v31 64) q116.2 :: Res.ar 92 bs37 q117 :: Res.obj 40 v1 [.int .i64 cx0_Length, .int .u32 cx0_One, .int .u32 cx0_Two] :: Res.sl (Ek.pair (Ek.wp bs37) (Ek.wp bs37)) 89 (aslv v3 64) (List.replicate 64 ((none : Option Nat), (none : Option Nat))) :: Res.sl (Ek.pair (Ek.wp bs37) (Ek.wp bs37)) 89 (aslv v7 64) q116.2 :: ow) := hp
      refine st_nil hf ?_
      refine ib_n ?_
      refine th_n ?_
      refine wp_reg ?_
      refine st_iadd hf (by decide) rfl rfl rfl ?_
      clear hf; intro a ha hf; clear ha
      refine st_move hf rfl rfl (by decide) ?_
      clear hf; intro a ha hf; clear ha
      refine st_nil hf ?_
      obtain rfl := Option.some.inj h
      have hp : Hp _ _ _ (Res.ar 92 bs37 q117 :: Res.sl (Ek.pair (Ek.wp bs37) (Ek.wp bs37)) 89 (aslv v7 64) q116.2 :: Res.obj 40 v1 [.int .i64 cx0_Length, .int .u32 cx0_One, .int .u32 cx0_Two] :: Res.sl (Ek.pair (Ek.wp bs37) (Ek.wp bs37)) 89 (aslv v3 64) (List.replicate 64 ((none : Option Nat), (none : Option Nat))) :: ow) := Hp.sel (pre := [Res.sl (Ek.pair (Ek.wp bs37) (Ek.wp bs37)) 89 (aslv v31 64) q116.2, Res.ar 92 bs37 q117, Res.obj 40 v1 [.int .i64 cx0_Length, .int .u32 cx0_One, .int .u32 cx0_Two], Res.sl (Ek.pair (Ek.wp bs37) (Ek.wp bs37)) 89 (aslv v3 64) (List.replicate 64 ((none : Option Nat), (none : Option Nat))), Res.sl (Ek.pair (Ek.wp bs37) (Ek.wp bs37)) 89 (aslv v7 64) q116.2]) (tail := ow) (rs' := [Res.ar 92 bs37 q117, Res.sl (Ek.pair (Ek.wp bs37) (Ek.wp bs37)) 89 (aslv v7 64) q116.2, Res.obj 40 v1 [.int .i64 cx0_Length, .int .u32 cx0_One, .int .u32 cx0_Two], Res.sl (Ek.pair (Ek.wp bs37) (Ek.wp bs37)) 89 (aslv v3 64) (List.replicate 64 ((none : Option Nat), (none : Option Nat)))]) hp [1, 4, 2, 3] (by decide) (by simp) rfl
      exact rnd_l ⟨_, hf.sub ⟨rfl, rfl, rfl, rfl, rfl, rfl, rfl, rfl, rfl, rfl, trivial⟩, hp⟩
    replace h := ifF h hb
    refine wp_exit ?_
    refine th_e ?_
    obtain rfl := Option.some.inj h
    have hp : Hp _ _ _ (Res.ar 92 bs17 nd :: Res.sl (Ek.pair (Ek.wp bs17) (Ek.wp bs17)) 89 (aslv v7 64) now10 :: Res.sl (Ek.pair (Ek.wp bs17) (Ek.wp bs17)) 89 (aslv v3 64) (List.replicate 64 ((none : Option Nat), (none : Option Nat))) :: ow) := Hp.sel (pre := [Res.ar 92 bs17 nd, Res.sl (Ek.pair (Ek.wp bs17) (Ek.wp bs17)) 89 (aslv v7 64) now10, Res.obj 40 v1 [.int .i64 cx0_Length, .int .u32 cx0_One, .int .u32 cx0_Two], Res.sl (Ek.pair (Ek.wp bs17) (Ek.wp bs17)) 89 (aslv v3 64) (List.replicate 64 ((none : Option Nat), (none : Option Nat)))]) (tail := ow) (rs' := [Res.ar 92 bs17 nd, Res.sl (Ek.pair (Ek.wp bs17) (Ek.wp bs17)) 89 (aslv v7 64) now10, Res.sl (Ek.pair (Ek.wp bs17) (Ek.wp bs17)) 89 (aslv v3 64) (List.replicate 64 ((none : Option Nat), (none : Option Nat)))]) hp [0, 1, 3] (by decide) (by simp) rfl
    exact rnd_r (by simp) ⟨rfl, _, hf.sub ⟨rfl, rfl, trivial⟩, hp⟩
  clear hl hf hp
  intro e a w hne hO
  obtain ⟨rfl, bs20, hf, hp⟩ := hO
  refine ib_same ?_
  refine th_n ?_
  refine wp_seq ?_
  refine wp_reg ?_
  have hl131 := aslv_len (hp.sl (i := 1) rfl)
  refine st_ldArr (E := (Ek.pair (Ek.wp bs20) (Ek.wp bs20))) (N := 64) hf (by decide) (by kernel_rfl) rfl (by decide) rfl rfl (hp.sl (i := 1) rfl) ?_
  clear hf; intro a cs129 hr130 ha hf; clear ha
  refine st_stArr hf hp (m := 2) rfl (by decide) rfl rfl rfl hr130 hl131 (by kernel_rfl) ?_
  clear hf; intro a w hf hp0; clear hp; have hp := hp0; clear hp0
  replace hp : Hp _ _ _ (Res.ar 92 bs20 q128.1 :: Res.sl (Ek.pair (Ek.wp bs20) (Ek.wp bs20)) 89 (aslv v7 64) q128.2 :: Res.sl (Ek.pair (Ek.wp bs20) (Ek.wp bs20)) 89 (aslv v3 64) q128.2 :: ow) := hp
  refine st_nil hf ?_
  refine th_n ?_
  refine wp_ret ?_
  obtain rfl := Option.some.inj h
  have hp : Hp _ _ _ (Res.sl (Ek.pair (Ek.wp bs20) (Ek.wp bs20)) 89 (aslv v3 64) q128.2 :: Res.ar 92 bs20 q128.1 :: ow) := Hp.sel (pre := [Res.ar 92 bs20 q128.1, Res.sl (Ek.pair (Ek.wp bs20) (Ek.wp bs20)) 89 (aslv v7 64) q128.2, Res.sl (Ek.pair (Ek.wp bs20) (Ek.wp bs20)) 89 (aslv v3 64) q128.2]) (tail := ow) (rs' := [Res.sl (Ek.pair (Ek.wp bs20) (Ek.wp bs20)) 89 (aslv v3 64) q128.2, Res.ar 92 bs20 q128.1]) hp [2, 0] (by decide) (by simp) rfl
  exact ⟨rfl, ⟨_, _, hf.sub ⟨rfl, trivial⟩, hp⟩⟩

noncomputable def f_soft_Decode.s1c (q6 : ((List ((Option Nat) × (Option Nat))) × (List WayC))) (bits10 : (List Bool)) (i11 : Int) (wx12 : (Option Nat)) : Option (((List Bool) × Int × (Option Nat)) ⊕ (List Bool)) := (if (decide ((0 : Int) ≤ i11)) = true then ((wx12).bind fun n29 => (if 0 ≤ i11 ∧ i11 < (bits10.length : Int) then ((wx12).bind fun n44 => (some (Sum.inl ((bits10.set (i11).toNat ((nth q6.2 n29).1)), (IntKind.i64.wrap (i11 - (1 : Int))), (nth q6.2 n44).2.1)))) else none)) else (some (Sum.inr bits10)))
noncomputable def f_soft_Decode.s1 (q6 : ((List ((Option Nat) × (Option Nat))) × (List WayC))) (s : ((List Bool) × Int × (Option Nat))) : Option (((List Bool) × Int × (Option Nat)) ⊕ (List Bool)) := f_soft_Decode.s1c q6 s.1 s.2.1 s.2.2
noncomputable def f_soft_Decode (cx0_Length : Int) (cx0_One : Int) (cx0_Two : Int) (l1 : (List ((Fl × Fl) × Bool))) : Option ((List Bool) × Fl × Int) := ((f_soft_check cx0_Length cx0_One cx0_Two l1 (IntKind.i64.wrap (cx0_Length - (1 : Int)))).bind fun q3 => (if (q3 != (0 : Int)) = true then (some ([], (Fl.bits 0), q3)) else ((f_soft_run cx0_Length cx0_One cx0_Two l1 (IntKind.i64.wrap (cx0_Length - (1 : Int)))).bind fun q6 => (if 0 ≤ (l1.length : Int) ∧ (l1.length : Int) ≤ (l1.length : Int) ∧ (l1.length : Int) * 1 ≤ 281474976710656 then ((loop (f_soft_Decode.s1 q6) ((List.replicate ((l1.length : Int)).toNat false), (IntKind.i64.wrap ((l1.length : Int) - (1 : Int))), (gt q6.1 (0 : Int)).1)).bind (fun q51 => (if 0 ≤ (IntKind.i64.wrap ((IntKind.i64.wrap ((l1.length : Int) - cx0_Length)) + (1 : Int))) ∧ (IntKind.i64.wrap ((IntKind.i64.wrap ((l1.length : Int) - cx0_Length)) + (1 : Int))) ≤ (q51.length : Int) then (if (([] : List Bool).length + ((q51.drop 0).take (((IntKind.i64.wrap ((IntKind.i64.wrap ((l1.length : Int) - cx0_Length)) + (1 : Int)))).toNat - 0)).length) * 1 ≤ 140737488355328 then (((gt q6.1 (0 : Int)).1).bind fun n77 => (some ((([] : List Bool) ++ ((q51.drop 0).take (((IntKind.i64.wrap ((IntKind.i64.wrap ((l1.length : Int) - cx0_Length)) + (1 : Int)))).toNat - 0))), (nth q6.2 n77).2.2.1, (0 : Int)))) else none) else none))) else none))))
theorem f_soft_Decode_c {S : Nat → Prop} {w0 w : World} {ow : List Res} (hp : Hp S w0 w ow) (cx0_Length : Int) (cx0_One : Int) (cx0_Two : Int) (vl1 : Value) (l1 : (List ((Fl × Fl) × Bool))) (hl1 : RdS (Ek.pair Ek.c128 Ek.bool) S w0 vl1 l1) {r : ((List Bool) × Fl × Int)} (h : f_soft_Decode cx0_Length cx0_One cx0_Two l1 = some r) :
    Calls Try.prog 21 #[.agg #[.int .i64 cx0_Length, .int .u32 cx0_One, .int .u32 cx0_Two], vl1] w (fun e w' => ∃ (u0 : Value) (b1 : Nat), e = .returned (.tuple #[u0, .float .f64 b1, .int .i64 r.2.2]) ∧ Fl.rep b1 r.2.1 ∧ Hp S w0 w' (Res.sl Ek.bool 4 u0 r.1 :: ow)) := by
  unfold f_soft_Decode at h
  refine enter (n := 66) (args := [.agg #[.int .i64 cx0_Length, .int .u32 cx0_One, .int .u32 cx0_Two], vl1]) Try.func21 rfl rfl (Nat.le_of_ble_eq_true rfl) fun a hf => ?_
  replace hf : Fr 66 a [(0, .agg #[.int .i64 cx0_Length, .int .u32 cx0_One, .int .u32 cx0_Two]), (1, vl1)] := hf
  refine wp_mono (Q := fun e a w => e = .ret ∧ ∃ (u0 : Value) (b1 : Nat), Fr 66 a [(4, u0), (5, .float .f64 b1), (6, .int .i64 r.2.2)] ∧ Fl.rep b1 r.2.1 ∧ Hp S w0 w (Res.sl Ek.bool 4 u0 r.1 :: ow)) ?_ ?_
  rotate_left
  · rintro e a w ⟨rfl, x0, x1, hf, y0, hp⟩
    exact ret3 hf rfl rfl rfl rfl ⟨x0, x1, rfl, y0, hp⟩
  refine wp_seq ?_
  refine wp_reg ?_
  refine st_boxO (cs := [.int .i64 cx0_Length, .int .u32 cx0_One, .int .u32 cx0_Two]) hf (by decide) hp rfl rfl rfl ?_
  clear hf; intro a w v1 hf hp0; clear hp; have hp := hp0; clear hp0
  replace hp : Hp _ _ _ (Res.obj 40 v1 [.int .i64 cx0_Length, .int .u32 cx0_One, .int .u32 cx0_Two] :: ow) := hp
  refine st_assign hf rfl rfl (by decide) ?_
  clear hf; intro a ha hf; clear ha
  refine st_assign hf rfl rfl (by decide) ?_
  clear hf; intro a ha hf; clear ha
  refine st_assign hf rfl rfl (by decide) ?_
  clear hf; intro a ha hf; clear ha
  refine st_nil hf ?_
  refine th_n ?_
  refine wp_seq ?_
  refine wp_seq ?_
  refine wp_reg ?_
  refine st_ldOA (m := 3) (us := [.int .i64 cx0_Length, .int .u32 cx0_One, .int .u32 cx0_Two]) hf (by decide) (by kernel_rfl) rfl rfl (hp.ob (i := 0) rfl) rfl rfl ?_
  clear hf; intro a ha hf; clear ha
  refine st_move hf rfl rfl (by decide) ?_
  clear hf; intro a ha hf; clear ha
  refine st_fa (o' := 0) hf (by decide) (off := 0) (sz := 1) (by kernel_rfl) (by decide) rfl rfl (hp.ob (i := 0) rfl) rfl ?_
  clear hf; intro a ha hf; clear ha
  refine st_ldO (u := .int .i64 cx0_Length) hf (by decide) pl3 rfl rfl (hp.ob (i := 0) rfl) rfl ?_
  clear hf; intro a ha hf; clear ha
  refine st_isub hf (by decide) rfl rfl rfl ?_
  clear hf; intro a ha hf; clear ha
  obtain ⟨q3, hcall4, h⟩ := bnd h
  refine st_call hf (by decide) Try.func45 rfl rfl rfl rfl rfl (f_soft_check_c hp _ _ _ _ _ hl1 _ hcall4) ?_
  rintro _ w ⟨rfl, hp0⟩
  clear hp; have hp := hp0; clear hp0
  replace hp : Hp _ _ _ (Res.obj 40 v1 [.int .i64 cx0_Length, .int .u32 cx0_One, .int .u32 cx0_Two] :: ow) := hp
  refine ⟨_, rfl, ?_⟩
  clear hf; intro a hf
  refine st_assign hf rfl rfl (by decide) ?_
  clear hf; intro a ha hf; clear ha
  refine st_nil hf ?_
  refine th_n ?_
  refine wp_seq ?_
  refine wp_reg ?_
  refine st_move hf rfl rfl (by decide) ?_
  clear hf; intro a ha hf; clear ha
  refine st_ineq hf (by decide) rfl rfl rfl ?_
  clear hf; intro a ha hf; clear ha
  refine st_nil hf ?_
  refine th_n ?_
  refine wp_if hf rfl (fun hb => ?_) (fun hb => ?_)
  · replace h := ifT h hb
    refine wp_seq ?_
    refine wp_reg ?_
    refine st_move hf rfl rfl (by decide) ?_
    clear hf; intro a ha hf; clear ha
    refine st_assign hf rfl rfl (by decide) ?_
    clear hf; intro a ha hf; clear ha
    refine st_assign hf rfl rfl (by decide) ?_
    clear hf; intro a ha hf; clear ha
    refine st_assign hf rfl rfl (by decide) ?_
    clear hf; intro a ha hf; clear ha
    refine st_nil hf ?_
    refine th_n ?_
    refine wp_ret ?_
    refine th_r ?_
    obtain rfl := Option.some.inj h
    have hp := hp.nil Ek.bool 4
    have hp : Hp _ _ _ (Res.sl Ek.bool 4 (.slice none 0 0) ([]) :: ow) := Hp.sel (pre := [Res.sl Ek.bool 4 (.slice none 0 0) ([]), Res.obj 40 v1 [.int .i64 cx0_Length, .int .u32 cx0_One, .int .u32 cx0_Two]]) (tail := ow) (rs' := [Res.sl Ek.bool 4 (.slice none 0 0) ([])]) hp [0] (by decide) (by simp) rfl
    exact ⟨rfl, ⟨_, _, hf.sub ⟨rfl, rfl, rfl, trivial⟩, rfl, hp⟩⟩
  replace h := ifF h hb
  refine wp_skip ?_
  refine th_n ?_
  refine wp_seq ?_
  refine wp_reg ?_
  refine st_ldOA (m := 3) (us := [.int .i64 cx0_Length, .int .u32 cx0_One, .int .u32 cx0_Two]) hf (by decide) (by kernel_rfl) rfl rfl (hp.ob (i := 0) rfl) rfl rfl ?_
  clear hf; intro a ha hf; clear ha
  refine st_move hf rfl rfl (by decide) ?_
  clear hf; intro a ha hf; clear ha
  refine st_fa (o' := 0) hf (by decide) (off := 0) (sz := 1) (by kernel_rfl) (by decide) rfl rfl (hp.ob (i := 0) rfl) rfl ?_
  clear hf; intro a ha hf; clear ha
  refine st_ldO (u := .int .i64 cx0_Length) hf (by decide) pl3 rfl rfl (hp.ob (i := 0) rfl) rfl ?_
  clear hf; intro a ha hf; clear ha
  refine st_isub hf (by decide) rfl rfl rfl ?_
  clear hf; intro a ha hf; clear ha
  obtain ⟨q6, hcall7, h⟩ := bnd h
  refine st_call hf (by decide) Try.func46 rfl rfl rfl rfl rfl (f_soft_run_c hp _ _ _ _ _ hl1 _ hcall7) ?_
  rintro _ w ⟨v8, v9, rfl, y10, y11, hp0⟩
  clear hp; have hp := hp0; clear hp0
  replace hp : Hp _ _ _ (Res.ar 92 v8 q6.2 :: Res.obj 40 v1 [.int .i64 cx0_Length, .int .u32 cx0_One, .int .u32 cx0_Two] :: ow) := hp
  refine ⟨_, rfl, ?_⟩
  clear hf; intro a hf
  refine st_allocA (E := (Ek.pair (Ek.wp v8) (Ek.wp v8))) (N := 64) (zs := List.replicate 64 ((none : Option Nat), (none : Option Nat))) (zv := .agg ((List.replicate 64 ([.pointer none, .pointer none] : List Value)).flatten).toArray) hf (by decide) (by decide) (by decide) (by kernel_rfl) (reps_replicate (E := (Ek.pair (Ek.wp v8) (Ek.wp v8))) (vs := ([.pointer none, .pointer none] : List Value)) (x := ((none : Option Nat), (none : Option Nat))) ⟨[.pointer none], [.pointer none], rfl, ⟨_, rfl, WP.nil _⟩, ⟨_, rfl, WP.nil _⟩⟩ 64) (by simp) hp rfl ?_
  clear hf; intro a w v13 hf hp0; clear hp; have hp := hp0; clear hp0
  replace hp : Hp _ _ _ (Res.sl (Ek.pair (Ek.wp v8) (Ek.wp v8)) 89 (aslv v13 64) (List.replicate 64 ((none : Option Nat), (none : Option Nat))) :: Res.ar 92 v8 q6.2 :: Res.obj 40 v1 [.int .i64 cx0_Length, .int .u32 cx0_One, .int .u32 cx0_Two] :: ow) := hp
  refine st_stArr hf hp (m := 0) rfl (by decide) rfl rfl rfl y10 y11 (by kernel_rfl) ?_
  clear hf; intro a w hf hp0; clear hp; have hp := hp0; clear hp0
  replace hp : Hp _ _ _ (Res.sl (Ek.pair (Ek.wp v8) (Ek.wp v8)) 89 (aslv v13 64) q6.1 :: Res.ar 92 v8 q6.2 :: Res.obj 40 v1 [.int .i64 cx0_Length, .int .u32 cx0_One, .int .u32 cx0_Two] :: ow) := hp
  refine st_nil hf ?_
  refine th_n ?_
  refine wp_seq ?_
  refine wp_reg ?_
  have hc15 : 0 ≤ (0 : Int) ∧ (0 : Int) < (64 : Int) := by decide
  refine st_iaA (E := (Ek.pair (Ek.wp v8) (Ek.wp v8))) (N := 64) hf (by decide) Try.underlying89 (by kernel_rfl) rfl rfl rfl (hp.sl (i := 0) rfl) rfl hc15.1 hc15.2 ?_
  clear hf; intro a ha hf; clear ha
  have hc17 : 0 ≤ (0 : Int) ∧ (0 : Int) < (2 : Int) := by decide
  refine st_iaP (sz := 1) hf (by decide) Try.underlying88 (by kernel_rfl) rfl rfl rfl (Sl.isP (hp.sl (i := 0) rfl) (aslv_ix (hp.sl (i := 0) rfl) hc15).1 (aslv_ix (hp.sl (i := 0) rfl) hc15).2) hc17.1 hc17.2 ?_
  clear hf; intro a ha hf; clear ha
  refine st_ldQW (bs := v8) (yv := (gt q6.1 (0 : Int)).1) hf (by decide) pl86 rfl rfl (Sl.part (E := (Ek.pair (Ek.wp v8) (Ek.wp v8))) (F := (Ek.wp v8)) (o := ((0 : Int)).toNat * 1) (Sub.fst (E := (Ek.wp v8)) (F := (Ek.wp v8))) (hp.sl (i := 0) rfl) (aslv_ix (hp.sl (i := 0) rfl) hc15).1 (aslv_ix (hp.sl (i := 0) rfl) hc15).2) ?_
  clear hf; intro a v18 y19 ha hf; clear ha
  refine st_assign hf rfl rfl (by decide) ?_
  clear hf; intro a ha hf; clear ha
  refine st_nil hf ?_
  refine th_n ?_
  refine wp_seq ?_
  refine wp_reg ?_
  refine st_move hf rfl rfl (by decide) ?_
  clear hf; intro a ha hf; clear ha
  refine st_len (E := (Ek.pair Ek.c128 Ek.bool)) hf (by decide) Try.underlying27 rfl rfl (hl1.sl hp) ?_
  clear hf; intro a ha hf; clear ha
  obtain ⟨hc20, h⟩ := chk h
  refine st_make (E := Ek.bool) hf (by decide) elt4 Try.underlying25 (by decide) hp rfl rfl rfl hc20.1 hc20.2.1 hc20.2.2 ?_
  clear hf; intro a w v21 hf hp0; clear hp; have hp := hp0; clear hp0
  replace hp : Hp _ _ _ (Res.sl Ek.bool 4 v21 (List.replicate ((l1.length : Int)).toNat false) :: Res.sl (Ek.pair (Ek.wp v8) (Ek.wp v8)) 89 (aslv v13 64) q6.1 :: Res.ar 92 v8 q6.2 :: Res.obj 40 v1 [.int .i64 cx0_Length, .int .u32 cx0_One, .int .u32 cx0_Two] :: ow) := hp
  refine st_assign hf rfl rfl (by decide) ?_
  clear hf; intro a ha hf; clear ha
  refine st_nil hf ?_
  refine th_n ?_
  refine wp_seq ?_
  refine wp_seq ?_
  refine wp_reg ?_
  refine st_move hf rfl rfl (by decide) ?_
  clear hf; intro a ha hf; clear ha
  refine st_len (E := (Ek.pair Ek.c128 Ek.bool)) hf (by decide) Try.underlying27 rfl rfl (hl1.sl hp) ?_
  clear hf; intro a ha hf; clear ha
  refine st_isub hf (by decide) rfl rfl rfl ?_
  clear hf; intro a ha hf; clear ha
  refine st_move hf rfl rfl (by decide) ?_
  clear hf; intro a ha hf; clear ha
  refine st_assign hf rfl rfl (by decide) ?_
  clear hf; intro a ha hf; clear ha
  refine st_assign hf rfl rfl (by decide) ?_
  clear hf; intro a ha hf; clear ha
  refine st_nil hf ?_
  refine th_n ?_
  refine wp_block ?_
  obtain ⟨q51, hl, h⟩ := bnd h
  have hp : Hp _ _ _ (Res.sl Ek.bool 4 v21 (List.replicate ((l1.length : Int)).toNat false) :: Res.ar 92 v8 q6.2 :: Res.obj 40 v1 [.int .i64 cx0_Length, .int .u32 cx0_One, .int .u32 cx0_Two] :: ow) := Hp.sel (pre := [Res.sl Ek.bool 4 v21 (List.replicate ((l1.length : Int)).toNat false), Res.sl (Ek.pair (Ek.wp v8) (Ek.wp v8)) 89 (aslv v13 64) q6.1, Res.ar 92 v8 q6.2, Res.obj 40 v1 [.int .i64 cx0_Length, .int .u32 cx0_One, .int .u32 cx0_Two]]) (tail := ow) (rs' := [Res.sl Ek.bool 4 v21 (List.replicate ((l1.length : Int)).toNat false), Res.ar 92 v8 q6.2, Res.obj 40 v1 [.int .i64 cx0_Length, .int .u32 cx0_One, .int .u32 cx0_Two]]) hp [0, 2, 3] (by decide) (by simp) rfl
  refine wp_loop_pure (f := (f_soft_Decode.s1 q6)) (s := ((List.replicate ((l1.length : Int)).toNat false), (IntKind.i64.wrap ((l1.length : Int) - (1 : Int))), (gt q6.1 (0 : Int)).1)) (fun s a w => ∃ (v23 : Value) (v25 : Value), Fr 66 a [(1, vl1), (2, optr v1 0), (9, v18), (10, v23), (11, .int .i64 s.2.1), (12, v25)] ∧ WP v8 v25 s.2.2 ∧ Hp S w0 w (Res.sl Ek.bool 4 v23 s.1 :: Res.ar 92 v8 q6.2 :: Res.obj 40 v1 [.int .i64 cx0_Length, .int .u32 cx0_One, .int .u32 cx0_Two] :: ow)) (fun q e a w => e = .exit 0 ∧ ∃ (v27 : Value), Fr 66 a [(1, vl1), (2, optr v1 0), (9, v18), (10, v27)] ∧ Hp S w0 w (Res.sl Ek.bool 4 v27 q :: Res.ar 92 v8 q6.2 :: Res.obj 40 v1 [.int .i64 cx0_Length, .int .u32 cx0_One, .int .u32 cx0_Two] :: ow)) ?_ hl ⟨_, _, hf.sub ⟨rfl, rfl, rfl, rfl, rfl, rfl, trivial⟩, y19, hp⟩ ?_
  · clear hl hf hp
    intro s x a w h hI
    obtain ⟨bits10, i11, wx12⟩ := s
    obtain ⟨v23, v25, hf, y26, hp⟩ : ∃ (v23 : Value) (v25 : Value), Fr 66 a [(1, vl1), (2, optr v1 0), (9, v18), (10, v23), (11, .int .i64 i11), (12, v25)] ∧ WP v8 v25 wx12 ∧ Hp S w0 w (Res.sl Ek.bool 4 v23 bits10 :: Res.ar 92 v8 q6.2 :: Res.obj 40 v1 [.int .i64 cx0_Length, .int .u32 cx0_One, .int .u32 cx0_Two] :: ow) := hI
    replace h : f_soft_Decode.s1c q6 bits10 i11 wx12 = some x := h
    unfold f_soft_Decode.s1c at h
    refine wp_seq ?_
    refine wp_seq ?_
    refine wp_reg ?_
    refine st_move hf rfl rfl (by decide) ?_
    clear hf; intro a ha hf; clear ha
    refine st_igeq hf (by decide) rfl rfl rfl ?_
    clear hf; intro a ha hf; clear ha
    refine st_nil hf ?_
    refine th_n ?_
    refine wp_if hf rfl (fun hb => ?_) (fun hb => ?_)
    · replace h := ifT h hb
      refine wp_skip ?_
      refine th_n ?_
      refine wp_seq ?_
      refine wp_block ?_
      refine wp_reg ?_
      refine st_move hf rfl rfl (by decide) ?_
      clear hf; intro a ha hf; clear ha
      refine st_move hf rfl rfl (by decide) ?_
      clear hf; intro a ha hf; clear ha
      refine st_move hf rfl rfl (by decide) ?_
      clear hf; intro a ha hf; clear ha
      obtain ⟨n29, hx30, h⟩ := bnd h
      refine st_nilE hf (by decide) rfl rfl (WP.ptr y26 hx30) ?_
      clear hf; intro a ha hf; clear ha
      refine st_faP (off := 0) (sz := 1) hf (by decide) (by kernel_rfl) (by decide) rfl rfl (WP.isP y26 hx30) ?_
      clear hf; intro a ha hf; clear ha
      obtain ⟨v31, bb32, y33, y34, ho35⟩ := RdA.at (hp.ara (i := 1) rfl) y26 hx30
      refine st_ldO (u := .bool ((nth q6.2 n29).1)) hf (by decide) pl4 rfl rfl ho35 rfl ?_
      clear hf; intro a ha hf; clear ha
      obtain ⟨hc36, h⟩ := chk h
      refine st_index (E := Ek.bool) hf (by decide) Try.underlying25 elt4 rfl rfl rfl (hp.sl (i := 0) rfl) hc36.1 hc36.2 ?_
      clear hf; intro a ha hf; clear ha
      refine st_store (E := Ek.bool) hf elt4 hp (i := 0) rfl rfl rfl rfl rfl hc36.1 hc36.2 ?_
      clear hf; intro a w hf hp0; clear hp; have hp := hp0; clear hp0
      replace hp : Hp _ _ _ (Res.sl Ek.bool 4 v23 (bits10.set (i11).toNat ((nth q6.2 n29).1)) :: Res.ar 92 v8 q6.2 :: Res.obj 40 v1 [.int .i64 cx0_Length, .int .u32 cx0_One, .int .u32 cx0_Two] :: ow) := hp
      refine st_nil hf ?_
      refine ib_n ?_
      refine th_n ?_
      obtain ⟨S37, hp38, rd39, up40, bk41⟩ := Hp.lendA hp (i := 1) rfl
      have rl42 := rd39
      have rl43 := ((hl1.now hp).mono up40)
      obtain ⟨n44, hx45, h⟩ := bnd h
      obtain ⟨v46, bb47, y48, y49, ho50⟩ := RdA.at rl42 y26 hx45
      refine wp_cutN (fun a w => ∃ (v46 : Value), WP v8 v46 (nth q6.2 n44).2.1 ∧ Fr 66 a [(1, vl1), (2, optr v1 0), (9, v18), (10, v23), (11, .int .i64 (IntKind.i64.wrap (i11 - (1 : Int)))), (12, v46)] ∧ Hp S w0 w (Res.ar 92 v8 q6.2 :: Res.sl Ek.bool 4 v23 (bits10.set (i11).toNat ((nth q6.2 n29).1)) :: Res.obj 40 v1 [.int .i64 cx0_Length, .int .u32 cx0_One, .int .u32 cx0_Two] :: ow)) ?_ ?_
      · have hp := hp38.same (Same.drew w)
        refine dr_begin' (fun a w => ∃ (v46 : Value), WP v8 v46 (nth q6.2 n44).2.1 ∧ Fr 66 a [(1, vl1), (2, optr v1 0), (9, v18), (10, v23), (11, .int .i64 (IntKind.i64.wrap (i11 - (1 : Int)))), (12, v46)] ∧ Hp S w0 w (Res.ar 92 v8 q6.2 :: Res.sl Ek.bool 4 v23 (bits10.set (i11).toNat ((nth q6.2 n29).1)) :: Res.obj 40 v1 [.int .i64 cx0_Length, .int .u32 cx0_One, .int .u32 cx0_Two] :: ow)) (fun w' => ∃ l, Hp S37 w w' l) [] (by kernel_rfl) ?_
        refine dr_take 0 (.int .i64 i11) rfl (by kernel_rfl) (by kernel_rfl) (by kernel_rfl) (by kernel_rfl) rfl rfl hf (by decide) rfl (fun w hp => ?_) ⟨_, hp⟩ ?_
        · obtain ⟨_, hp⟩ := hp
          refine st_move hf rfl rfl (by decide) ?_
          clear hf; intro a ha hf
          exact st_nil hf (th_n ⟨ha, rfl⟩)
        clear hf; intro a hf
        refine dr_take 1 (.int .i64 (IntKind.i64.wrap (i11 - (1 : Int)))) rfl (by kernel_rfl) (by kernel_rfl) (by kernel_rfl) (by kernel_rfl) rfl rfl hf (by decide) rfl (fun w hp => ?_) ⟨_, hp⟩ ?_
        · obtain ⟨_, hp⟩ := hp
          refine st_isub hf (by decide) rfl rfl rfl ?_
          clear hf; intro a ha hf
          exact st_nil hf (th_n ⟨ha, rfl⟩)
        clear hf; intro a hf
        refine dr_take 2 (v25) rfl (by kernel_rfl) (by kernel_rfl) (by kernel_rfl) (by kernel_rfl) rfl rfl hf (by decide) rfl (fun w hp => ?_) ⟨_, hp⟩ ?_
        · obtain ⟨_, hp⟩ := hp
          refine st_move hf rfl rfl (by decide) ?_
          clear hf; intro a ha hf
          exact st_nil hf (th_n ⟨ha, rfl⟩)
        clear hf; intro a hf
        refine dr_nilE 3 rfl (by kernel_rfl) (by kernel_rfl) (by kernel_rfl) hf (by decide) rfl rfl (WP.ptr y26 hx45) ?_
        clear hf; intro a hf
        refine dr_take 4 (optr v25 1) rfl (by kernel_rfl) (by kernel_rfl) (by kernel_rfl) (by kernel_rfl) rfl rfl hf (by decide) rfl (fun w hp => ?_) ⟨_, hp⟩ ?_
        · obtain ⟨_, hp⟩ := hp
          refine st_faP (off := 1) (sz := 1) hf (by decide) (by kernel_rfl) (by decide) rfl rfl (WP.isP y26 hx45) ?_
          clear hf; intro a ha hf
          exact st_nil hf (th_n ⟨ha, rfl⟩)
        clear hf; intro a hf
        refine dr_take 5 (v46) rfl (by kernel_rfl) (by kernel_rfl) (by kernel_rfl) (by kernel_rfl) rfl rfl hf (by decide) rfl (fun w hp => ?_) ⟨_, hp⟩ ?_
        · obtain ⟨_, hp⟩ := hp
          refine st_ldO (u := v46) hf (by decide) pl86 rfl rfl (ho50.ob hp) rfl ?_
          clear hf; intro a ha hf
          exact st_nil hf (th_n ⟨ha, rfl⟩)
        clear hf; intro a hf
        refine dr_take 6 (.int .i64 (IntKind.i64.wrap (i11 - (1 : Int)))) rfl (by kernel_rfl) (by kernel_rfl) (by kernel_rfl) (by kernel_rfl) rfl rfl hf (by decide) rfl (fun w hp => ?_) ⟨_, hp⟩ ?_
        · obtain ⟨_, hp⟩ := hp
          refine st_assign hf rfl rfl (by decide) ?_
          clear hf; intro a ha hf
          exact st_nil hf (th_n ⟨ha, rfl⟩)
        clear hf; intro a hf
        refine dr_take 7 (v46) rfl (by kernel_rfl) (by kernel_rfl) (by kernel_rfl) (by kernel_rfl) rfl rfl hf (by decide) rfl (fun w hp => ?_) ⟨_, hp⟩ ?_
        · obtain ⟨_, hp⟩ := hp
          refine st_assign hf rfl rfl (by decide) ?_
          clear hf; intro a ha hf
          exact st_nil hf (th_n ⟨ha, rfl⟩)
        clear hf; intro a hf
        refine dr_end (by kernel_rfl) ?_ _
        have hp := bk41 _ _ hp
        exact ⟨v46, y48, hf.sub ⟨rfl, rfl, rfl, rfl, rfl, rfl, trivial⟩, hp⟩
      rintro a w ⟨v46, y48, hf, hp⟩
      obtain rfl := Option.some.inj h
      have hp : Hp _ _ _ (Res.sl Ek.bool 4 v23 (bits10.set (i11).toNat ((nth q6.2 n29).1)) :: Res.ar 92 v8 q6.2 :: Res.obj 40 v1 [.int .i64 cx0_Length, .int .u32 cx0_One, .int .u32 cx0_Two] :: ow) := Hp.sel (pre := [Res.ar 92 v8 q6.2, Res.sl Ek.bool 4 v23 (bits10.set (i11).toNat ((nth q6.2 n29).1)), Res.obj 40 v1 [.int .i64 cx0_Length, .int .u32 cx0_One, .int .u32 cx0_Two]]) (tail := ow) (rs' := [Res.sl Ek.bool 4 v23 (bits10.set (i11).toNat ((nth q6.2 n29).1)), Res.ar 92 v8 q6.2, Res.obj 40 v1 [.int .i64 cx0_Length, .int .u32 cx0_One, .int .u32 cx0_Two]]) hp [1, 0, 2] (by decide) (by simp) rfl
      exact rnd_l ⟨_, _, hf.sub ⟨rfl, rfl, rfl, rfl, rfl, rfl, trivial⟩, y48, hp⟩
    replace h := ifF h hb
    refine wp_exit ?_
    refine th_e ?_
    obtain rfl := Option.some.inj h
    exact rnd_r (by simp) ⟨rfl, _, hf.sub ⟨rfl, rfl, rfl, rfl, trivial⟩, hp⟩
  clear hl hf hp
  intro e a w hne hO
  obtain ⟨rfl, v27, hf, hp⟩ := hO
  refine ib_same ?_
  refine th_n ?_
  refine wp_seq ?_
  obtain ⟨S52, hp53, rd54, up55, bk56⟩ := Hp.lendO hp (i := 2) rfl
  obtain ⟨S57, hp58, rd59, up60, bk61⟩ := Hp.lendA hp53 (i := 1) rfl
  obtain ⟨S62, hp63, rd64, up65, bk66⟩ := Hp.lendS hp58 (i := 0) rfl
  have rl67 := ((rd59.now hp58).mono up65)
  have rl68 := ((((((hl1.now hp).mono up55).now hp53).mono up60).now hp58).mono up65)
  have rl69 := ((((rd54.now hp53).mono up60).now hp58).mono up65)
  have rl70 := rd64
  obtain ⟨hc71, h⟩ := chk h
  have hc72 : 0 ≤ ((IntKind.i64.wrap ((IntKind.i64.wrap ((l1.length : Int) - cx0_Length)) + (1 : Int)))).toNat := by omega
  have hc73 : ((IntKind.i64.wrap ((IntKind.i64.wrap ((l1.length : Int) - cx0_Length)) + (1 : Int)))).toNat ≤ q51.length := by omega
  obtain ⟨hc75, h⟩ := chk h
  obtain ⟨n77, hx78, h⟩ := bnd h
  obtain ⟨v79, bb80, y81, y82, ho83⟩ := RdA.at rl67 y19 hx78
  refine wp_cutN (fun a w => ∃ (v76 : Value) (bb80 : Nat), Fl.rep bb80 (nth q6.2 n77).2.2.1 ∧ Fr 66 a [(4, v76), (5, .float .f64 bb80), (6, .int .i64 (0 : Int))] ∧ Hp S w0 w (Res.obj 40 v1 [.int .i64 cx0_Length, .int .u32 cx0_One, .int .u32 cx0_Two] :: Res.ar 92 v8 q6.2 :: Res.sl Ek.bool 4 v27 q51 :: Res.sl Ek.bool 4 v76 (([] : List Bool) ++ ((q51.drop 0).take (((IntKind.i64.wrap ((IntKind.i64.wrap ((l1.length : Int) - cx0_Length)) + (1 : Int)))).toNat - 0))) :: ow)) ?_ ?_
  · have hp := hp63.same (Same.drew w)
    refine dr_begin' (fun a w => ∃ (v76 : Value) (bb80 : Nat), Fl.rep bb80 (nth q6.2 n77).2.2.1 ∧ Fr 66 a [(4, v76), (5, .float .f64 bb80), (6, .int .i64 (0 : Int))] ∧ Hp S w0 w (Res.obj 40 v1 [.int .i64 cx0_Length, .int .u32 cx0_One, .int .u32 cx0_Two] :: Res.ar 92 v8 q6.2 :: Res.sl Ek.bool 4 v27 q51 :: Res.sl Ek.bool 4 v76 (([] : List Bool) ++ ((q51.drop 0).take (((IntKind.i64.wrap ((IntKind.i64.wrap ((l1.length : Int) - cx0_Length)) + (1 : Int)))).toNat - 0))) :: ow)) (fun w' => ∃ l, Hp S62 w w' l) [] (by kernel_rfl) ?_
    refine dr_take 0 (v27) rfl (by kernel_rfl) (by kernel_rfl) (by kernel_rfl) (by kernel_rfl) rfl rfl hf (by decide) rfl (fun w hp => ?_) ⟨_, hp⟩ ?_
    · obtain ⟨_, hp⟩ := hp
      refine st_move hf rfl rfl (by decide) ?_
      clear hf; intro a ha hf
      exact st_nil hf (th_n ⟨ha, rfl⟩)
    clear hf; intro a hf
    refine dr_take 1 (vl1) rfl (by kernel_rfl) (by kernel_rfl) (by kernel_rfl) (by kernel_rfl) rfl rfl hf (by decide) rfl (fun w hp => ?_) ⟨_, hp⟩ ?_
    · obtain ⟨_, hp⟩ := hp
      refine st_move hf rfl rfl (by decide) ?_
      clear hf; intro a ha hf
      exact st_nil hf (th_n ⟨ha, rfl⟩)
    clear hf; intro a hf
    refine dr_take 2 (.int .i64 (l1.length : Int)) rfl (by kernel_rfl) (by kernel_rfl) (by kernel_rfl) (by kernel_rfl) rfl rfl hf (by decide) rfl (fun w hp => ?_) ⟨_, hp⟩ ?_
    · obtain ⟨_, hp⟩ := hp
      refine st_len (E := (Ek.pair Ek.c128 Ek.bool)) hf (by decide) Try.underlying27 rfl rfl (rl68.sl hp) ?_
      clear hf; intro a ha hf
      exact st_nil hf (th_n ⟨ha, rfl⟩)
    clear hf; intro a hf
    refine dr_take 3 (optr v1 0) rfl (by kernel_rfl) (by kernel_rfl) (by kernel_rfl) (by kernel_rfl) rfl rfl hf (by decide) rfl (fun w hp => ?_) ⟨_, hp⟩ ?_
    · obtain ⟨_, hp⟩ := hp
      refine st_fa (o' := 0) hf (by decide) (off := 0) (sz := 1) (by kernel_rfl) (by decide) rfl rfl (rl69.ob hp) rfl ?_
      clear hf; intro a ha hf
      exact st_nil hf (th_n ⟨ha, rfl⟩)
    clear hf; intro a hf
    refine dr_take 4 (.int .i64 cx0_Length) rfl (by kernel_rfl) (by kernel_rfl) (by kernel_rfl) (by kernel_rfl) rfl rfl hf (by decide) rfl (fun w hp => ?_) ⟨_, hp⟩ ?_
    · obtain ⟨_, hp⟩ := hp
      refine st_ldO (u := .int .i64 cx0_Length) hf (by decide) pl3 rfl rfl (rl69.ob hp) rfl ?_
      clear hf; intro a ha hf
      exact st_nil hf (th_n ⟨ha, rfl⟩)
    clear hf; intro a hf
    refine dr_take 5 (.int .i64 (IntKind.i64.wrap ((l1.length : Int) - cx0_Length))) rfl (by kernel_rfl) (by kernel_rfl) (by kernel_rfl) (by kernel_rfl) rfl rfl hf (by decide) rfl (fun w hp => ?_) ⟨_, hp⟩ ?_
    · obtain ⟨_, hp⟩ := hp
      refine st_isub hf (by decide) rfl rfl rfl ?_
      clear hf; intro a ha hf
      exact st_nil hf (th_n ⟨ha, rfl⟩)
    clear hf; intro a hf
    refine dr_take 6 (.int .i64 (IntKind.i64.wrap ((IntKind.i64.wrap ((l1.length : Int) - cx0_Length)) + (1 : Int)))) rfl (by kernel_rfl) (by kernel_rfl) (by kernel_rfl) (by kernel_rfl) rfl rfl hf (by decide) rfl (fun w hp => ?_) ⟨_, hp⟩ ?_
    · obtain ⟨_, hp⟩ := hp
      refine st_iadd hf (by decide) rfl rfl rfl ?_
      clear hf; intro a ha hf
      exact st_nil hf (th_n ⟨ha, rfl⟩)
    clear hf; intro a hf
    refine dr_take 7 ((GL.cut v27 0 (((IntKind.i64.wrap ((IntKind.i64.wrap ((l1.length : Int) - cx0_Length)) + (1 : Int)))).toNat) 1)) rfl (by kernel_rfl) (by kernel_rfl) (by kernel_rfl) (by kernel_rfl) rfl rfl hf (by decide) rfl (fun w hp => ?_) ⟨_, hp⟩ ?_
    · obtain ⟨_, hp⟩ := hp
      refine st_cutS (E := Ek.bool) hf (by decide) Try.underlying25 elt4 rfl rfl (rl70.sl hp) (.inl ⟨rfl, rfl⟩) (.inr ⟨_, _, rfl, evI rfl (by omega)⟩) hc72 hc73 ?_
      clear hf; intro a ha hf
      exact st_nil hf (th_n ⟨ha, rfl⟩)
    clear hf; intro a hf
    refine dr_take 9 (v18) rfl (by kernel_rfl) (by kernel_rfl) (by kernel_rfl) (by kernel_rfl) rfl rfl hf (by decide) rfl (fun w hp => ?_) ⟨_, hp⟩ ?_
    · obtain ⟨_, hp⟩ := hp
      refine st_move hf rfl rfl (by decide) ?_
      clear hf; intro a ha hf
      exact st_nil hf (th_n ⟨ha, rfl⟩)
    clear hf; intro a hf
    refine dr_nilE 10 rfl (by kernel_rfl) (by kernel_rfl) (by kernel_rfl) hf (by decide) rfl rfl (WP.ptr y19 hx78) ?_
    clear hf; intro a hf
    refine dr_take 11 (optr v18 2) rfl (by kernel_rfl) (by kernel_rfl) (by kernel_rfl) (by kernel_rfl) rfl rfl hf (by decide) rfl (fun w hp => ?_) ⟨_, hp⟩ ?_
    · obtain ⟨_, hp⟩ := hp
      refine st_faP (off := 2) (sz := 1) hf (by decide) (by kernel_rfl) (by decide) rfl rfl (WP.isP y19 hx78) ?_
      clear hf; intro a ha hf
      exact st_nil hf (th_n ⟨ha, rfl⟩)
    clear hf; intro a hf
    refine dr_take 12 (.float .f64 bb80) rfl (by kernel_rfl) (by kernel_rfl) (by kernel_rfl) (by kernel_rfl) rfl rfl hf (by decide) rfl (fun w hp => ?_) ⟨_, hp⟩ ?_
    · obtain ⟨_, hp⟩ := hp
      refine st_ldO (u := .float .f64 bb80) hf (by decide) pl29 rfl rfl (ho83.ob hp) rfl ?_
      clear hf; intro a ha hf
      exact st_nil hf (th_n ⟨ha, rfl⟩)
    clear hf; intro a hf
    refine dr_one 8 rfl (by kernel_rfl) ?_
    have hp := hp.nil Ek.bool 4
    refine st_append (E := Ek.bool) hf (by decide) elt4 Try.underlying25 (by decide) hp (i := 0) rfl rfl rfl rfl ((RdS.cut rl70 hc72 hc73).sl hp) hc75 ?_
    clear hf; intro a w v76 hf hp0; clear hp; have hp := hp0; clear hp0
    replace hp : Hp _ _ _ (Res.sl Ek.bool 4 v76 (([] : List Bool) ++ ((q51.drop 0).take (((IntKind.i64.wrap ((IntKind.i64.wrap ((l1.length : Int) - cx0_Length)) + (1 : Int)))).toNat - 0))) :: ow) := hp
    refine st_nil hf (th_n ⟨fun _ _ => ⟨_, hp⟩, ?_⟩)
    refine dr_take 13 (v76) rfl (by kernel_rfl) (by kernel_rfl) (by kernel_rfl) (by kernel_rfl) rfl rfl hf (by decide) rfl (fun w hp => ?_) ⟨_, hp⟩ ?_
    · obtain ⟨_, hp⟩ := hp
      refine st_assign hf rfl rfl (by decide) ?_
      clear hf; intro a ha hf
      exact st_nil hf (th_n ⟨ha, rfl⟩)
    clear hf; intro a hf
    refine dr_take 14 (.float .f64 bb80) rfl (by kernel_rfl) (by kernel_rfl) (by kernel_rfl) (by kernel_rfl) rfl rfl hf (by decide) rfl (fun w hp => ?_) ⟨_, hp⟩ ?_
    · obtain ⟨_, hp⟩ := hp
      refine st_assign hf rfl rfl (by decide) ?_
      clear hf; intro a ha hf
      exact st_nil hf (th_n ⟨ha, rfl⟩)
    clear hf; intro a hf
    refine dr_take 15 (.int .i64 (0 : Int)) rfl (by kernel_rfl) (by kernel_rfl) (by kernel_rfl) (by kernel_rfl) rfl rfl hf (by decide) rfl (fun w hp => ?_) ⟨_, hp⟩ ?_
    · obtain ⟨_, hp⟩ := hp
      refine st_assign hf rfl rfl (by decide) ?_
      clear hf; intro a ha hf
      exact st_nil hf (th_n ⟨ha, rfl⟩)
    clear hf; intro a hf
    refine dr_end (by kernel_rfl) ?_ _
    have hp := bk66 _ _ hp
    have hp := bk61 _ _ hp
    have hp := bk56 _ _ hp
    exact ⟨v76, bb80, y82, hf.sub ⟨rfl, rfl, rfl, trivial⟩, hp⟩
  rintro a w ⟨v76, bb80, y82, hf, hp⟩
  refine th_n ?_
  refine wp_ret ?_
  obtain rfl := Option.some.inj h
  have hp : Hp _ _ _ (Res.sl Ek.bool 4 v76 (([] : List Bool) ++ ((q51.drop 0).take (((IntKind.i64.wrap ((IntKind.i64.wrap ((l1.length : Int) - cx0_Length)) + (1 : Int)))).toNat - 0))) :: ow) := Hp.sel (pre := [Res.obj 40 v1 [.int .i64 cx0_Length, .int .u32 cx0_One, .int .u32 cx0_Two], Res.ar 92 v8 q6.2, Res.sl Ek.bool 4 v27 q51, Res.sl Ek.bool 4 v76 (([] : List Bool) ++ ((q51.drop 0).take (((IntKind.i64.wrap ((IntKind.i64.wrap ((l1.length : Int) - cx0_Length)) + (1 : Int)))).toNat - 0)))]) (tail := ow) (rs' := [Res.sl Ek.bool 4 v76 (([] : List Bool) ++ ((q51.drop 0).take (((IntKind.i64.wrap ((IntKind.i64.wrap ((l1.length : Int) - cx0_Length)) + (1 : Int)))).toNat - 0)))]) hp [3] (by decide) (by simp) rfl
  exact ⟨rfl, ⟨_, _, hf.sub ⟨rfl, rfl, rfl, trivial⟩, y82, hp⟩⟩

noncomputable def f_foghornlaw23_awake  : Option Bool := ((f_trellis_Short).bind fun q1 => ((f_soft_Send q1.1 q1.2.1 q1.2.2 ([true])).bind fun q7 => ((f_soft_Decode q1.1 q1.2.1 q1.2.2 ([((Fl.bits 4602678819172646912, Fl.bits 4598175219545276416), false), ((Fl.bits 13830554455654793216, Fl.bits 4602678819172646912), false), ((Fl.bits 4598175219545276416, Fl.bits 4607182418800017408), false)])).bind fun q18 => ((if (((q7.2 == (0 : Int)) && (q18.2.2 == (0 : Int))) && ((q7.1.length : Int) == (3 : Int))) = true then (if 0 ≤ (0 : Int) ∧ (0 : Int) < (q7.1.length : Int) then (some (ceq (gt q7.1 (0 : Int)) (Fl.bits 4607182418800017408, Fl.bits 4607182418800017408))) else none) else (some false)).bind fun z35 => ((if z35 = true then (if 0 ≤ (1 : Int) ∧ (1 : Int) < (q7.1.length : Int) then (some (ceq (gt q7.1 (1 : Int)) (Fl.bits 4607182418800017408, Fl.bits 13830554455654793216))) else none) else (some false)).bind fun z43 => ((if z43 = true then (if 0 ≤ (2 : Int) ∧ (2 : Int) < (q7.1.length : Int) then (some (ceq (gt q7.1 (2 : Int)) (Fl.bits 4607182418800017408, Fl.bits 4607182418800017408))) else none) else (some false)).bind fun z51 => ((if (z51 && ((q18.1.length : Int) == (1 : Int))) = true then (if 0 ≤ (0 : Int) ∧ (0 : Int) < (q18.1.length : Int) then (some (gt q18.1 (0 : Int))) else none) else (some false)).bind fun z61 => (some (z61 && (feq q18.2.1 (Fl.bits 4617315517961601024)))))))))))
theorem f_foghornlaw23_awake_c {S : Nat → Prop} {w0 w : World} {ow : List Res} (hp : Hp S w0 w ow) {r : Bool} (h : f_foghornlaw23_awake = some r) :
    Calls Try.prog 26 #[] w (fun e w' => e = .returned (.bool r) ∧ Hp S w0 w' (ow)) := by
  unfold f_foghornlaw23_awake at h
  refine enter (n := 67) (args := []) Try.func26 rfl rfl (Nat.le_of_ble_eq_true rfl) fun a hf => ?_
  replace hf : Fr 67 a [] := hf
  refine wp_mono (Q := fun e a w => e = .ret ∧ Fr 67 a [(0, .bool r)] ∧ Hp S w0 w (ow)) ?_ ?_
  rotate_left
  · rintro e a w ⟨rfl, hf, hp⟩
    exact ret1 hf rfl rfl ⟨rfl, hp⟩
  refine wp_seq ?_
  refine wp_reg ?_
  refine st_assign hf rfl rfl (by decide) ?_
  clear hf; intro a ha hf; clear ha
  refine st_nil hf ?_
  refine th_n ?_
  refine wp_seq ?_
  refine wp_reg ?_
  obtain ⟨q1, hcall2, h⟩ := bnd h
  refine st_call hf (by decide) Try.func50 rfl rfl rfl rfl rfl (f_trellis_Short_c hp  hcall2) ?_
  rintro _ w ⟨rfl, hp0⟩
  clear hp; have hp := hp0; clear hp0
  replace hp : Hp _ _ _ (ow) := hp
  refine ⟨_, rfl, ?_⟩
  clear hf; intro a hf
  refine st_alloc (cs := [.int .i64 (0 : Int), .int .u32 (0 : Int), .int .u32 (0 : Int)]) (zv := .agg #[.int .i64 (0 : Int), .int .u32 (0 : Int), .int .u32 (0 : Int)]) hf (by decide) (by kernel_rfl) rfl hp rfl ?_
  clear hf; intro a w v3 hf hp0; clear hp; have hp := hp0; clear hp0
  replace hp : Hp _ _ _ (Res.obj 40 v3 [.int .i64 (0 : Int), .int .u32 (0 : Int), .int .u32 (0 : Int)] :: ow) := hp
  refine st_stO (us := [.int .i64 q1.1, .int .u32 q1.2.1, .int .u32 q1.2.2]) hf hp (i := 0) rfl rfl rfl rfl rfl (by rfl) (by kernel_rfl) (Nat.le_of_ble_eq_true rfl) ?_
  clear hf; intro a w hf hp0; clear hp; have hp := hp0; clear hp0
  replace hp : Hp _ _ _ (Res.obj 40 v3 [.int .i64 q1.1, .int .u32 q1.2.1, .int .u32 q1.2.2] :: ow) := hp
  refine st_nil hf ?_
  refine th_n ?_
  refine wp_seq ?_
  refine wp_reg ?_
  refine st_ldOA (m := 3) (us := [.int .i64 q1.1, .int .u32 q1.2.1, .int .u32 q1.2.2]) hf (by decide) (by kernel_rfl) rfl rfl (hp.ob (i := 0) rfl) rfl rfl ?_
  clear hf; intro a ha hf; clear ha
  refine st_build (E := Ek.bool) (xs := [true]) hf (by decide) elt4 Try.underlying25 hp (vals := #[(0, .bool true)]) (cells := #[.bool true]) rfl (by simp [hf.ev (x := (Operand.const (.bool true))) rfl]) (by decide) (by decide) (z := .bool false) (by kernel_rfl) (by kernel_rfl) rfl (reps_cons (cs := [.bool true]) rfl (reps_nil _)) ?_
  clear hf; intro a w v5 hf hp0; clear hp; have hp := hp0; clear hp0
  replace hp : Hp _ _ _ (Res.sl Ek.bool 4 v5 ([true]) :: Res.obj 40 v3 [.int .i64 q1.1, .int .u32 q1.2.1, .int .u32 q1.2.2] :: ow) := hp
  obtain ⟨q7, hcall8, h⟩ := bnd h
  obtain ⟨S9, hp10, rd11, up12, bk13⟩ := Hp.lendS hp (i := 0) rfl
  refine st_call hf (by decide) Try.func13 rfl rfl rfl rfl rfl (f_soft_Send_c hp10 _ _ _ _ _ rd11 hcall8) ?_
  rintro _ w ⟨v14, rfl, hp0⟩
  have hp0 := bk13 _ _ hp0
  clear hp; have hp := hp0; clear hp0
  replace hp : Hp _ _ _ (Res.sl Ek.bool 4 v5 ([true]) :: Res.sl Ek.c128 33 v14 q7.1 :: Res.obj 40 v3 [.int .i64 q1.1, .int .u32 q1.2.1, .int .u32 q1.2.2] :: ow) := hp
  refine ⟨_, rfl, ?_⟩
  clear hf; intro a hf
  refine st_move hf rfl rfl (by decide) ?_
  clear hf; intro a ha hf; clear ha
  refine st_extract hf (by decide) rfl rfl rfl ?_
  clear hf; intro a ha hf; clear ha
  refine st_extract hf (by decide) rfl rfl rfl ?_
  clear hf; intro a ha hf; clear ha
  refine st_assign hf rfl rfl (by decide) ?_
  clear hf; intro a ha hf; clear ha
  refine st_assign hf rfl rfl (by decide) ?_
  clear hf; intro a ha hf; clear ha
  refine st_nil hf ?_
  refine th_n ?_
  refine wp_seq ?_
  refine wp_reg ?_
  refine st_ldOA (m := 3) (us := [.int .i64 q1.1, .int .u32 q1.2.1, .int .u32 q1.2.2]) hf (by decide) (by kernel_rfl) rfl rfl (hp.ob (i := 2) rfl) rfl rfl ?_
  clear hf; intro a ha hf; clear ha
  refine st_buildA (vals := [(0, .complex .f64 4602678819172646912 4598175219545276416)]) (cells := [.complex .f64 4602678819172646912 4598175219545276416, .bool false]) hf (by decide) rfl (by simp [hf.ev (x := (Operand.const (.complex .f64 4602678819172646912 4598175219545276416))) rfl]) (fun w => by kernel_rfl) ?_
  clear hf; intro a ha hf; clear ha
  refine st_buildA (vals := [(0, .complex .f64 13830554455654793216 4602678819172646912)]) (cells := [.complex .f64 13830554455654793216 4602678819172646912, .bool false]) hf (by decide) rfl (by simp [hf.ev (x := (Operand.const (.complex .f64 13830554455654793216 4602678819172646912))) rfl]) (fun w => by kernel_rfl) ?_
  clear hf; intro a ha hf; clear ha
  refine st_buildA (vals := [(0, .complex .f64 4598175219545276416 4607182418800017408)]) (cells := [.complex .f64 4598175219545276416 4607182418800017408, .bool false]) hf (by decide) rfl (by simp [hf.ev (x := (Operand.const (.complex .f64 4598175219545276416 4607182418800017408))) rfl]) (fun w => by kernel_rfl) ?_
  clear hf; intro a ha hf; clear ha
  refine st_build (E := (Ek.pair Ek.c128 Ek.bool)) (xs := [((Fl.bits 4602678819172646912, Fl.bits 4598175219545276416), false), ((Fl.bits 13830554455654793216, Fl.bits 4602678819172646912), false), ((Fl.bits 4598175219545276416, Fl.bits 4607182418800017408), false)]) hf (by decide) elt35 Try.underlying27 hp (vals := #[(0, .agg #[.complex .f64 4602678819172646912 4598175219545276416, .bool false]), (1, .agg #[.complex .f64 13830554455654793216 4602678819172646912, .bool false]), (2, .agg #[.complex .f64 4598175219545276416 4607182418800017408, .bool false])]) (cells := #[.complex .f64 4602678819172646912 4598175219545276416, .bool false, .complex .f64 13830554455654793216 4602678819172646912, .bool false, .complex .f64 4598175219545276416 4607182418800017408, .bool false]) rfl (by simp [hf.ev (x := (Operand.tmp 16)) rfl, hf.ev (x := (Operand.tmp 17)) rfl, hf.ev (x := (Operand.tmp 18)) rfl]) (by decide) (by decide) (z := .agg #[.complex .f64 0 0, .bool false]) (by kernel_rfl) (by kernel_rfl) rfl (reps_cons (cs := [.complex .f64 4602678819172646912 4598175219545276416, .bool false]) ⟨[.complex .f64 4602678819172646912 4598175219545276416], [.bool false], rfl, (show Ek.c128.rep [.complex .f64 4602678819172646912 4598175219545276416] (Fl.bits 4602678819172646912, Fl.bits 4598175219545276416) from ⟨_, _, rfl, rfl, rfl⟩), rfl⟩ (reps_cons (cs := [.complex .f64 13830554455654793216 4602678819172646912, .bool false]) ⟨[.complex .f64 13830554455654793216 4602678819172646912], [.bool false], rfl, (show Ek.c128.rep [.complex .f64 13830554455654793216 4602678819172646912] (Fl.bits 13830554455654793216, Fl.bits 4602678819172646912) from ⟨_, _, rfl, rfl, rfl⟩), rfl⟩ (reps_cons (cs := [.complex .f64 4598175219545276416 4607182418800017408, .bool false]) ⟨[.complex .f64 4598175219545276416 4607182418800017408], [.bool false], rfl, (show Ek.c128.rep [.complex .f64 4598175219545276416 4607182418800017408] (Fl.bits 4598175219545276416, Fl.bits 4607182418800017408) from ⟨_, _, rfl, rfl, rfl⟩), rfl⟩ (reps_nil _)))) ?_
  clear hf; intro a w v16 hf hp0; clear hp; have hp := hp0; clear hp0
  replace hp : Hp _ _ _ (Res.sl (Ek.pair Ek.c128 Ek.bool) 35 v16 ([((Fl.bits 4602678819172646912, Fl.bits 4598175219545276416), false), ((Fl.bits 13830554455654793216, Fl.bits 4602678819172646912), false), ((Fl.bits 4598175219545276416, Fl.bits 4607182418800017408), false)]) :: Res.sl Ek.bool 4 v5 ([true]) :: Res.sl Ek.c128 33 v14 q7.1 :: Res.obj 40 v3 [.int .i64 q1.1, .int .u32 q1.2.1, .int .u32 q1.2.2] :: ow) := hp
  obtain ⟨q18, hcall19, h⟩ := bnd h
  obtain ⟨S20, hp21, rd22, up23, bk24⟩ := Hp.lendS hp (i := 0) rfl
  refine st_call hf (by decide) Try.func21 rfl rfl rfl rfl rfl (f_soft_Decode_c hp21 _ _ _ _ _ rd22 hcall19) ?_
  rintro _ w ⟨v25, v26, rfl, y27, hp0⟩
  have hp0 := bk24 _ _ hp0
  clear hp; have hp := hp0; clear hp0
  replace hp : Hp _ _ _ (Res.sl (Ek.pair Ek.c128 Ek.bool) 35 v16 ([((Fl.bits 4602678819172646912, Fl.bits 4598175219545276416), false), ((Fl.bits 13830554455654793216, Fl.bits 4602678819172646912), false), ((Fl.bits 4598175219545276416, Fl.bits 4607182418800017408), false)]) :: Res.sl Ek.bool 4 v25 q18.1 :: Res.sl Ek.bool 4 v5 ([true]) :: Res.sl Ek.c128 33 v14 q7.1 :: Res.obj 40 v3 [.int .i64 q1.1, .int .u32 q1.2.1, .int .u32 q1.2.2] :: ow) := hp
  refine ⟨_, rfl, ?_⟩
  clear hf; intro a hf
  refine st_move hf rfl rfl (by decide) ?_
  clear hf; intro a ha hf; clear ha
  refine st_extract hf (by decide) rfl rfl rfl ?_
  clear hf; intro a ha hf; clear ha
  refine st_extract hf (by decide) rfl rfl rfl ?_
  clear hf; intro a ha hf; clear ha
  refine st_extract hf (by decide) rfl rfl rfl ?_
  clear hf; intro a ha hf; clear ha
  refine st_assign hf rfl rfl (by decide) ?_
  clear hf; intro a ha hf; clear ha
  refine st_assign hf rfl rfl (by decide) ?_
  clear hf; intro a ha hf; clear ha
  refine st_assign hf rfl rfl (by decide) ?_
  clear hf; intro a ha hf; clear ha
  refine st_nil hf ?_
  refine th_n ?_
  refine wp_seq ?_
  refine wp_reg ?_
  refine st_move hf rfl rfl (by decide) ?_
  clear hf; intro a ha hf; clear ha
  refine st_ieql hf (by decide) rfl rfl rfl ?_
  clear hf; intro a ha hf; clear ha
  refine st_move hf rfl rfl (by decide) ?_
  clear hf; intro a ha hf; clear ha
  refine wpList_cut 3 (fun a w => Fr 67 a [(2, v14), (4, v25), (5, .float .f64 v26), (29, .bool ((q7.2 == (0 : Int)) && (q18.2.2 == (0 : Int))))] ∧ Hp S w0 w (Res.sl (Ek.pair Ek.c128 Ek.bool) 35 v16 ([((Fl.bits 4602678819172646912, Fl.bits 4598175219545276416), false), ((Fl.bits 13830554455654793216, Fl.bits 4602678819172646912), false), ((Fl.bits 4598175219545276416, Fl.bits 4607182418800017408), false)]) :: Res.sl Ek.bool 4 v25 q18.1 :: Res.sl Ek.bool 4 v5 ([true]) :: Res.sl Ek.c128 33 v14 q7.1 :: Res.obj 40 v3 [.int .i64 q1.1, .int .u32 q1.2.1, .int .u32 q1.2.2] :: ow)) ?_ ?_
  · rcases Bool.eq_false_or_eq_true (q7.2 == (0 : Int)) with hb30 | hb30
    · skip
      refine st_move hf (wantY hf rfl rfl hb30) rfl (by decide) ?_
      clear hf; intro a ha hf; clear ha
      refine st_ieql hf (by decide) (wantY hf rfl rfl hb30) rfl rfl ?_
      clear hf; intro a ha hf; clear ha
      refine st_pick (v := .bool (q18.2.2 == (0 : Int))) hf rfl rfl (fun hb' => ?_) (fun hb' => ?_) (by decide) ?_
      · rfl
      · exact absurd (hb30.symm.trans hb') (by decide)
      clear hf; intro a ha hf; clear ha
      refine st_nil hf (th_n ?_)
      exact ⟨hf.sub ⟨rfl, rfl, rfl, (by rw [hb30]; rfl), trivial⟩, hp⟩
    refine st_skip hf (wantN hf rfl rfl hb30) rfl (by decide) ?_ rfl
    clear hf; intro a hf
    refine st_skip hf (wantN hf rfl rfl hb30) rfl (by decide) ?_ rfl
    clear hf; intro a hf
    refine st_pick (v := .bool false) hf rfl rfl (fun hb' => ?_) (fun hb' => ?_) (by decide) ?_
    · exact absurd (hb30.symm.trans hb') (by decide)
    · rfl
    clear hf; intro a ha hf; clear ha
    refine st_nil hf (th_n ?_)
    exact ⟨hf.sub ⟨rfl, rfl, rfl, (by rw [hb30]; rfl), trivial⟩, hp⟩
  rintro a w ⟨hf, hp⟩
  refine st_move hf rfl rfl (by decide) ?_
  clear hf; intro a ha hf; clear ha
  refine wpList_cut 4 (fun a w => Fr 67 a [(2, v14), (4, v25), (5, .float .f64 v26), (34, .bool (((q7.2 == (0 : Int)) && (q18.2.2 == (0 : Int))) && ((q7.1.length : Int) == (3 : Int))))] ∧ Hp S w0 w (Res.sl (Ek.pair Ek.c128 Ek.bool) 35 v16 ([((Fl.bits 4602678819172646912, Fl.bits 4598175219545276416), false), ((Fl.bits 13830554455654793216, Fl.bits 4602678819172646912), false), ((Fl.bits 4598175219545276416, Fl.bits 4607182418800017408), false)]) :: Res.sl Ek.bool 4 v25 q18.1 :: Res.sl Ek.bool 4 v5 ([true]) :: Res.sl Ek.c128 33 v14 q7.1 :: Res.obj 40 v3 [.int .i64 q1.1, .int .u32 q1.2.1, .int .u32 q1.2.2] :: ow)) ?_ ?_
  · rcases Bool.eq_false_or_eq_true ((q7.2 == (0 : Int)) && (q18.2.2 == (0 : Int))) with hb32 | hb32
    · skip
      refine st_move hf (wantY hf rfl rfl hb32) rfl (by decide) ?_
      clear hf; intro a ha hf; clear ha
      refine st_len (E := Ek.c128) hf (by decide) Try.underlying36 (wantY hf rfl rfl hb32) rfl (hp.sl (i := 3) rfl) ?_
      clear hf; intro a ha hf; clear ha
      refine st_ieql hf (by decide) (wantY hf rfl rfl hb32) rfl rfl ?_
      clear hf; intro a ha hf; clear ha
      refine st_pick (v := .bool ((q7.1.length : Int) == (3 : Int))) hf rfl rfl (fun hb' => ?_) (fun hb' => ?_) (by decide) ?_
      · rfl
      · exact absurd (hb32.symm.trans hb') (by decide)
      clear hf; intro a ha hf; clear ha
      refine st_nil hf (th_n ?_)
      exact ⟨hf.sub ⟨rfl, rfl, rfl, (by rw [hb32]; rfl), trivial⟩, hp⟩
    refine st_skip hf (wantN hf rfl rfl hb32) rfl (by decide) ?_ rfl
    clear hf; intro a hf
    refine st_skip hf (wantN hf rfl rfl hb32) rfl (by decide) ?_ rfl
    clear hf; intro a hf
    refine st_skip hf (wantN hf rfl rfl hb32) rfl (by decide) ?_ rfl
    clear hf; intro a hf
    refine st_pick (v := .bool false) hf rfl rfl (fun hb' => ?_) (fun hb' => ?_) (by decide) ?_
    · exact absurd (hb32.symm.trans hb') (by decide)
    · rfl
    clear hf; intro a ha hf; clear ha
    refine st_nil hf (th_n ?_)
    exact ⟨hf.sub ⟨rfl, rfl, rfl, (by rw [hb32]; rfl), trivial⟩, hp⟩
  rintro a w ⟨hf, hp⟩
  refine st_move hf rfl rfl (by decide) ?_
  clear hf; intro a ha hf; clear ha
  obtain ⟨z35, hz33, h⟩ := bnd h
  refine wpList_cut 5 (fun a w => Fr 67 a [(2, v14), (4, v25), (5, .float .f64 v26), (40, .bool z35)] ∧ Hp S w0 w (Res.sl (Ek.pair Ek.c128 Ek.bool) 35 v16 ([((Fl.bits 4602678819172646912, Fl.bits 4598175219545276416), false), ((Fl.bits 13830554455654793216, Fl.bits 4602678819172646912), false), ((Fl.bits 4598175219545276416, Fl.bits 4607182418800017408), false)]) :: Res.sl Ek.bool 4 v25 q18.1 :: Res.sl Ek.bool 4 v5 ([true]) :: Res.sl Ek.c128 33 v14 q7.1 :: Res.obj 40 v3 [.int .i64 q1.1, .int .u32 q1.2.1, .int .u32 q1.2.2] :: ow)) ?_ ?_
  · rcases Bool.eq_false_or_eq_true (((q7.2 == (0 : Int)) && (q18.2.2 == (0 : Int))) && ((q7.1.length : Int) == (3 : Int))) with hb34 | hb34
    · skip
      replace hz33 := ifT hz33 hb34
      refine st_move hf (wantY hf rfl rfl hb34) rfl (by decide) ?_
      clear hf; intro a ha hf; clear ha
      obtain ⟨hc36, hz33⟩ := chk hz33
      refine st_index (E := Ek.c128) hf (by decide) Try.underlying36 elt33 (wantY hf rfl rfl hb34) rfl rfl (hp.sl (i := 3) rfl) hc36.1 hc36.2 ?_
      clear hf; intro a ha hf; clear ha
      refine st_ldC hf (by decide) pl33 (wantY hf rfl rfl hb34) rfl (hp.sl (i := 3) rfl) hc36.1 hc36.2 ?_
      clear hf; intro a bb37 bb38 y39 y40 ha hf; clear ha
      refine st_ccmp (r_ceq (x := (gt q7.1 (0 : Int))) (y := (Fl.bits 4607182418800017408, Fl.bits 4607182418800017408)) y39 y40 rfl rfl) hf (by decide) (wantY hf rfl rfl hb34) rfl rfl ?_
      clear hf; intro a ha hf; clear ha
      obtain rfl := Option.some.inj hz33
      refine st_pick (v := .bool (ceq (gt q7.1 (0 : Int)) (Fl.bits 4607182418800017408, Fl.bits 4607182418800017408))) hf rfl rfl (fun hb' => ?_) (fun hb' => ?_) (by decide) ?_
      · rfl
      · exact absurd (hb34.symm.trans hb') (by decide)
      clear hf; intro a ha hf; clear ha
      refine st_nil hf (th_n ?_)
      exact ⟨hf.sub ⟨rfl, rfl, rfl, rfl, trivial⟩, hp⟩
    replace hz33 := ifF hz33 hb34
    refine st_skip hf (wantN hf rfl rfl hb34) rfl (by decide) ?_ rfl
    clear hf; intro a hf
    refine st_skip hf (wantN hf rfl rfl hb34) rfl (by decide) ?_ rfl
    clear hf; intro a hf
    refine st_skip hf (wantN hf rfl rfl hb34) rfl (by decide) ?_ rfl
    clear hf; intro a hf
    refine st_skip hf (wantN hf rfl rfl hb34) rfl (by decide) ?_ rfl
    clear hf; intro a hf
    obtain rfl := Option.some.inj hz33
    refine st_pick (v := .bool false) hf rfl rfl (fun hb' => ?_) (fun hb' => ?_) (by decide) ?_
    · exact absurd (hb34.symm.trans hb') (by decide)
    · rfl
    clear hf; intro a ha hf; clear ha
    refine st_nil hf (th_n ?_)
    exact ⟨hf.sub ⟨rfl, rfl, rfl, rfl, trivial⟩, hp⟩
  rintro a w ⟨hf, hp⟩
  refine st_move hf rfl rfl (by decide) ?_
  clear hf; intro a ha hf; clear ha
  obtain ⟨z43, hz41, h⟩ := bnd h
  refine wpList_cut 5 (fun a w => Fr 67 a [(2, v14), (4, v25), (5, .float .f64 v26), (46, .bool z43)] ∧ Hp S w0 w (Res.sl (Ek.pair Ek.c128 Ek.bool) 35 v16 ([((Fl.bits 4602678819172646912, Fl.bits 4598175219545276416), false), ((Fl.bits 13830554455654793216, Fl.bits 4602678819172646912), false), ((Fl.bits 4598175219545276416, Fl.bits 4607182418800017408), false)]) :: Res.sl Ek.bool 4 v25 q18.1 :: Res.sl Ek.bool 4 v5 ([true]) :: Res.sl Ek.c128 33 v14 q7.1 :: Res.obj 40 v3 [.int .i64 q1.1, .int .u32 q1.2.1, .int .u32 q1.2.2] :: ow)) ?_ ?_
  · rcases Bool.eq_false_or_eq_true z35 with hb42 | hb42
    · skip
      replace hz41 := ifT hz41 hb42
      refine st_move hf (wantY hf rfl rfl hb42) rfl (by decide) ?_
      clear hf; intro a ha hf; clear ha
      obtain ⟨hc44, hz41⟩ := chk hz41
      refine st_index (E := Ek.c128) hf (by decide) Try.underlying36 elt33 (wantY hf rfl rfl hb42) rfl rfl (hp.sl (i := 3) rfl) hc44.1 hc44.2 ?_
      clear hf; intro a ha hf; clear ha
      refine st_ldC hf (by decide) pl33 (wantY hf rfl rfl hb42) rfl (hp.sl (i := 3) rfl) hc44.1 hc44.2 ?_
      clear hf; intro a bb45 bb46 y47 y48 ha hf; clear ha
      refine st_ccmp (r_ceq (x := (gt q7.1 (1 : Int))) (y := (Fl.bits 4607182418800017408, Fl.bits 13830554455654793216)) y47 y48 rfl rfl) hf (by decide) (wantY hf rfl rfl hb42) rfl rfl ?_
      clear hf; intro a ha hf; clear ha
      obtain rfl := Option.some.inj hz41
      refine st_pick (v := .bool (ceq (gt q7.1 (1 : Int)) (Fl.bits 4607182418800017408, Fl.bits 13830554455654793216))) hf rfl rfl (fun hb' => ?_) (fun hb' => ?_) (by decide) ?_
      · rfl
      · exact absurd (hb42.symm.trans hb') (by decide)
      clear hf; intro a ha hf; clear ha
      refine st_nil hf (th_n ?_)
      exact ⟨hf.sub ⟨rfl, rfl, rfl, rfl, trivial⟩, hp⟩
    replace hz41 := ifF hz41 hb42
    refine st_skip hf (wantN hf rfl rfl hb42) rfl (by decide) ?_ rfl
    clear hf; intro a hf
    refine st_skip hf (wantN hf rfl rfl hb42) rfl (by decide) ?_ rfl
    clear hf; intro a hf
    refine st_skip hf (wantN hf rfl rfl hb42) rfl (by decide) ?_ rfl
    clear hf; intro a hf
    refine st_skip hf (wantN hf rfl rfl hb42) rfl (by decide) ?_ rfl
    clear hf; intro a hf
    obtain rfl := Option.some.inj hz41
    refine st_pick (v := .bool false) hf rfl rfl (fun hb' => ?_) (fun hb' => ?_) (by decide) ?_
    · exact absurd (hb42.symm.trans hb') (by decide)
    · rfl
    clear hf; intro a ha hf; clear ha
    refine st_nil hf (th_n ?_)
    exact ⟨hf.sub ⟨rfl, rfl, rfl, rfl, trivial⟩, hp⟩
  rintro a w ⟨hf, hp⟩
  refine st_move hf rfl rfl (by decide) ?_
  clear hf; intro a ha hf; clear ha
  obtain ⟨z51, hz49, h⟩ := bnd h
  refine wpList_cut 5 (fun a w => Fr 67 a [(4, v25), (5, .float .f64 v26), (52, .bool z51)] ∧ Hp S w0 w (Res.sl (Ek.pair Ek.c128 Ek.bool) 35 v16 ([((Fl.bits 4602678819172646912, Fl.bits 4598175219545276416), false), ((Fl.bits 13830554455654793216, Fl.bits 4602678819172646912), false), ((Fl.bits 4598175219545276416, Fl.bits 4607182418800017408), false)]) :: Res.sl Ek.bool 4 v25 q18.1 :: Res.sl Ek.bool 4 v5 ([true]) :: Res.sl Ek.c128 33 v14 q7.1 :: Res.obj 40 v3 [.int .i64 q1.1, .int .u32 q1.2.1, .int .u32 q1.2.2] :: ow)) ?_ ?_
  · rcases Bool.eq_false_or_eq_true z43 with hb50 | hb50
    · skip
      replace hz49 := ifT hz49 hb50
      refine st_move hf (wantY hf rfl rfl hb50) rfl (by decide) ?_
      clear hf; intro a ha hf; clear ha
      obtain ⟨hc52, hz49⟩ := chk hz49
      refine st_index (E := Ek.c128) hf (by decide) Try.underlying36 elt33 (wantY hf rfl rfl hb50) rfl rfl (hp.sl (i := 3) rfl) hc52.1 hc52.2 ?_
      clear hf; intro a ha hf; clear ha
      refine st_ldC hf (by decide) pl33 (wantY hf rfl rfl hb50) rfl (hp.sl (i := 3) rfl) hc52.1 hc52.2 ?_
      clear hf; intro a bb53 bb54 y55 y56 ha hf; clear ha
      refine st_ccmp (r_ceq (x := (gt q7.1 (2 : Int))) (y := (Fl.bits 4607182418800017408, Fl.bits 4607182418800017408)) y55 y56 rfl rfl) hf (by decide) (wantY hf rfl rfl hb50) rfl rfl ?_
      clear hf; intro a ha hf; clear ha
      obtain rfl := Option.some.inj hz49
      refine st_pick (v := .bool (ceq (gt q7.1 (2 : Int)) (Fl.bits 4607182418800017408, Fl.bits 4607182418800017408))) hf rfl rfl (fun hb' => ?_) (fun hb' => ?_) (by decide) ?_
      · rfl
      · exact absurd (hb50.symm.trans hb') (by decide)
      clear hf; intro a ha hf; clear ha
      refine st_nil hf (th_n ?_)
      exact ⟨hf.sub ⟨rfl, rfl, rfl, trivial⟩, hp⟩
    replace hz49 := ifF hz49 hb50
    refine st_skip hf (wantN hf rfl rfl hb50) rfl (by decide) ?_ rfl
    clear hf; intro a hf
    refine st_skip hf (wantN hf rfl rfl hb50) rfl (by decide) ?_ rfl
    clear hf; intro a hf
    refine st_skip hf (wantN hf rfl rfl hb50) rfl (by decide) ?_ rfl
    clear hf; intro a hf
    refine st_skip hf (wantN hf rfl rfl hb50) rfl (by decide) ?_ rfl
    clear hf; intro a hf
    obtain rfl := Option.some.inj hz49
    refine st_pick (v := .bool false) hf rfl rfl (fun hb' => ?_) (fun hb' => ?_) (by decide) ?_
    · exact absurd (hb50.symm.trans hb') (by decide)
    · rfl
    clear hf; intro a ha hf; clear ha
    refine st_nil hf (th_n ?_)
    exact ⟨hf.sub ⟨rfl, rfl, rfl, trivial⟩, hp⟩
  rintro a w ⟨hf, hp⟩
  refine st_move hf rfl rfl (by decide) ?_
  clear hf; intro a ha hf; clear ha
  refine wpList_cut 4 (fun a w => Fr 67 a [(4, v25), (5, .float .f64 v26), (57, .bool (z51 && ((q18.1.length : Int) == (1 : Int))))] ∧ Hp S w0 w (Res.sl (Ek.pair Ek.c128 Ek.bool) 35 v16 ([((Fl.bits 4602678819172646912, Fl.bits 4598175219545276416), false), ((Fl.bits 13830554455654793216, Fl.bits 4602678819172646912), false), ((Fl.bits 4598175219545276416, Fl.bits 4607182418800017408), false)]) :: Res.sl Ek.bool 4 v25 q18.1 :: Res.sl Ek.bool 4 v5 ([true]) :: Res.sl Ek.c128 33 v14 q7.1 :: Res.obj 40 v3 [.int .i64 q1.1, .int .u32 q1.2.1, .int .u32 q1.2.2] :: ow)) ?_ ?_
  · rcases Bool.eq_false_or_eq_true z51 with hb58 | hb58
    · skip
      refine st_move hf (wantY hf rfl rfl hb58) rfl (by decide) ?_
      clear hf; intro a ha hf; clear ha
      refine st_len (E := Ek.bool) hf (by decide) Try.underlying25 (wantY hf rfl rfl hb58) rfl (hp.sl (i := 1) rfl) ?_
      clear hf; intro a ha hf; clear ha
      refine st_ieql hf (by decide) (wantY hf rfl rfl hb58) rfl rfl ?_
      clear hf; intro a ha hf; clear ha
      refine st_pick (v := .bool ((q18.1.length : Int) == (1 : Int))) hf rfl rfl (fun hb' => ?_) (fun hb' => ?_) (by decide) ?_
      · rfl
      · exact absurd (hb58.symm.trans hb') (by decide)
      clear hf; intro a ha hf; clear ha
      refine st_nil hf (th_n ?_)
      exact ⟨hf.sub ⟨rfl, rfl, (by rw [hb58]; rfl), trivial⟩, hp⟩
    refine st_skip hf (wantN hf rfl rfl hb58) rfl (by decide) ?_ rfl
    clear hf; intro a hf
    refine st_skip hf (wantN hf rfl rfl hb58) rfl (by decide) ?_ rfl
    clear hf; intro a hf
    refine st_skip hf (wantN hf rfl rfl hb58) rfl (by decide) ?_ rfl
    clear hf; intro a hf
    refine st_pick (v := .bool false) hf rfl rfl (fun hb' => ?_) (fun hb' => ?_) (by decide) ?_
    · exact absurd (hb58.symm.trans hb') (by decide)
    · rfl
    clear hf; intro a ha hf; clear ha
    refine st_nil hf (th_n ?_)
    exact ⟨hf.sub ⟨rfl, rfl, (by rw [hb58]; rfl), trivial⟩, hp⟩
  rintro a w ⟨hf, hp⟩
  refine st_move hf rfl rfl (by decide) ?_
  clear hf; intro a ha hf; clear ha
  obtain ⟨z61, hz59, h⟩ := bnd h
  refine wpList_cut 4 (fun a w => Fr 67 a [(5, .float .f64 v26), (62, .bool z61)] ∧ Hp S w0 w (Res.sl (Ek.pair Ek.c128 Ek.bool) 35 v16 ([((Fl.bits 4602678819172646912, Fl.bits 4598175219545276416), false), ((Fl.bits 13830554455654793216, Fl.bits 4602678819172646912), false), ((Fl.bits 4598175219545276416, Fl.bits 4607182418800017408), false)]) :: Res.sl Ek.bool 4 v25 q18.1 :: Res.sl Ek.bool 4 v5 ([true]) :: Res.sl Ek.c128 33 v14 q7.1 :: Res.obj 40 v3 [.int .i64 q1.1, .int .u32 q1.2.1, .int .u32 q1.2.2] :: ow)) ?_ ?_
  · rcases Bool.eq_false_or_eq_true (z51 && ((q18.1.length : Int) == (1 : Int))) with hb60 | hb60
    · skip
      replace hz59 := ifT hz59 hb60
      refine st_move hf (wantY hf rfl rfl hb60) rfl (by decide) ?_
      clear hf; intro a ha hf; clear ha
      obtain ⟨hc62, hz59⟩ := chk hz59
      refine st_index (E := Ek.bool) hf (by decide) Try.underlying25 elt4 (wantY hf rfl rfl hb60) rfl rfl (hp.sl (i := 1) rfl) hc62.1 hc62.2 ?_
      clear hf; intro a ha hf; clear ha
      refine st_ldB hf (by decide) pl4 (wantY hf rfl rfl hb60) rfl (hp.sl (i := 1) rfl) hc62.1 hc62.2 ?_
      clear hf; intro a ha hf; clear ha
      obtain rfl := Option.some.inj hz59
      refine st_pick (v := .bool (gt q18.1 (0 : Int))) hf rfl rfl (fun hb' => ?_) (fun hb' => ?_) (by decide) ?_
      · rfl
      · exact absurd (hb60.symm.trans hb') (by decide)
      clear hf; intro a ha hf; clear ha
      refine st_nil hf (th_n ?_)
      exact ⟨hf.sub ⟨rfl, rfl, trivial⟩, hp⟩
    replace hz59 := ifF hz59 hb60
    refine st_skip hf (wantN hf rfl rfl hb60) rfl (by decide) ?_ rfl
    clear hf; intro a hf
    refine st_skip hf (wantN hf rfl rfl hb60) rfl (by decide) ?_ rfl
    clear hf; intro a hf
    refine st_skip hf (wantN hf rfl rfl hb60) rfl (by decide) ?_ rfl
    clear hf; intro a hf
    obtain rfl := Option.some.inj hz59
    refine st_pick (v := .bool false) hf rfl rfl (fun hb' => ?_) (fun hb' => ?_) (by decide) ?_
    · exact absurd (hb60.symm.trans hb') (by decide)
    · rfl
    clear hf; intro a ha hf; clear ha
    refine st_nil hf (th_n ?_)
    exact ⟨hf.sub ⟨rfl, rfl, trivial⟩, hp⟩
  rintro a w ⟨hf, hp⟩
  refine st_move hf rfl rfl (by decide) ?_
  clear hf; intro a ha hf; clear ha
  refine wpList_cut 3 (fun a w => Fr 67 a [(66, .bool (z61 && (feq q18.2.1 (Fl.bits 4617315517961601024))))] ∧ Hp S w0 w (Res.sl (Ek.pair Ek.c128 Ek.bool) 35 v16 ([((Fl.bits 4602678819172646912, Fl.bits 4598175219545276416), false), ((Fl.bits 13830554455654793216, Fl.bits 4602678819172646912), false), ((Fl.bits 4598175219545276416, Fl.bits 4607182418800017408), false)]) :: Res.sl Ek.bool 4 v25 q18.1 :: Res.sl Ek.bool 4 v5 ([true]) :: Res.sl Ek.c128 33 v14 q7.1 :: Res.obj 40 v3 [.int .i64 q1.1, .int .u32 q1.2.1, .int .u32 q1.2.2] :: ow)) ?_ ?_
  · rcases Bool.eq_false_or_eq_true z61 with hb64 | hb64
    · skip
      refine st_move hf (wantY hf rfl rfl hb64) rfl (by decide) ?_
      clear hf; intro a ha hf; clear ha
      refine st_fcmp (r_feq (fx := q18.2.1) (fy := (Fl.bits 4617315517961601024)) y27 rfl) hf (by decide) (wantY hf rfl rfl hb64) rfl rfl ?_
      clear hf; intro a ha hf; clear ha
      refine st_pick (v := .bool (feq q18.2.1 (Fl.bits 4617315517961601024))) hf rfl rfl (fun hb' => ?_) (fun hb' => ?_) (by decide) ?_
      · rfl
      · exact absurd (hb64.symm.trans hb') (by decide)
      clear hf; intro a ha hf; clear ha
      refine st_nil hf (th_n ?_)
      exact ⟨hf.sub ⟨(by rw [hb64]; rfl), trivial⟩, hp⟩
    refine st_skip hf (wantN hf rfl rfl hb64) rfl (by decide) ?_ rfl
    clear hf; intro a hf
    refine st_skip hf (wantN hf rfl rfl hb64) rfl (by decide) ?_ rfl
    clear hf; intro a hf
    refine st_pick (v := .bool false) hf rfl rfl (fun hb' => ?_) (fun hb' => ?_) (by decide) ?_
    · exact absurd (hb64.symm.trans hb') (by decide)
    · rfl
    clear hf; intro a ha hf; clear ha
    refine st_nil hf (th_n ?_)
    exact ⟨hf.sub ⟨(by rw [hb64]; rfl), trivial⟩, hp⟩
  rintro a w ⟨hf, hp⟩
  refine st_assign hf rfl rfl (by decide) ?_
  clear hf; intro a ha hf; clear ha
  refine st_nil hf ?_
  refine th_n ?_
  refine wp_ret ?_
  obtain rfl := Option.some.inj h
  have hp : Hp _ _ _ (ow) := Hp.sel (pre := [Res.sl (Ek.pair Ek.c128 Ek.bool) 35 v16 ([((Fl.bits 4602678819172646912, Fl.bits 4598175219545276416), false), ((Fl.bits 13830554455654793216, Fl.bits 4602678819172646912), false), ((Fl.bits 4598175219545276416, Fl.bits 4607182418800017408), false)]), Res.sl Ek.bool 4 v25 q18.1, Res.sl Ek.bool 4 v5 ([true]), Res.sl Ek.c128 33 v14 q7.1, Res.obj 40 v3 [.int .i64 q1.1, .int .u32 q1.2.1, .int .u32 q1.2.2]]) (tail := ow) (rs' := []) hp [] (by decide) (by simp) rfl
  exact ⟨rfl, ⟨hf.sub ⟨rfl, trivial⟩, hp⟩⟩

noncomputable def f_foghornref21_May (cx0_Length : Int) (cx0_One : Int) (cx0_Two : Int) : Option Bool := (if ((decide (cx0_Length < (2 : Int))) || (decide ((7 : Int) < cx0_Length))) = true then (some false) else (if 0 ≤ cx0_Length then (some (((((decide ((1 : Int) ≤ cx0_One)) && (decide (cx0_One < (ishl .u32 (1 : Int) cx0_Length)))) && (decide ((1 : Int) ≤ cx0_Two))) && (decide (cx0_Two < (ishl .u32 (1 : Int) cx0_Length)))) && ((decide ((IntKind.u32.wrap (((ishl .u32 (1 : Int) cx0_Length)).tdiv (2 : Int))) ≤ cx0_One)) || (decide ((IntKind.u32.wrap (((ishl .u32 (1 : Int) cx0_Length)).tdiv (2 : Int))) ≤ cx0_Two))))) else none))
theorem f_foghornref21_May_c {S : Nat → Prop} {w0 w : World} {ow : List Res} (hp : Hp S w0 w ow) (cx0_Length : Int) (cx0_One : Int) (cx0_Two : Int) {r : Bool} (h : f_foghornref21_May cx0_Length cx0_One cx0_Two = some r) :
    Calls Try.prog 41 #[.agg #[.int .i64 cx0_Length, .int .u32 cx0_One, .int .u32 cx0_Two]] w (fun e w' => e = .returned (.bool r) ∧ Hp S w0 w' (ow)) := by
  unfold f_foghornref21_May at h
  refine enter (n := 49) (args := [.agg #[.int .i64 cx0_Length, .int .u32 cx0_One, .int .u32 cx0_Two]]) Try.func41 rfl rfl (Nat.le_of_ble_eq_true rfl) fun a hf => ?_
  replace hf : Fr 49 a [(0, .agg #[.int .i64 cx0_Length, .int .u32 cx0_One, .int .u32 cx0_Two])] := hf
  refine wp_mono (Q := fun e a w => e = .ret ∧ Fr 49 a [(2, .bool r)] ∧ Hp S w0 w (ow)) ?_ ?_
  rotate_left
  · rintro e a w ⟨rfl, hf, hp⟩
    exact ret1 hf rfl rfl ⟨rfl, hp⟩
  refine wp_seq ?_
  refine wp_reg ?_
  refine st_boxO (cs := [.int .i64 cx0_Length, .int .u32 cx0_One, .int .u32 cx0_Two]) hf (by decide) hp rfl rfl rfl ?_
  clear hf; intro a w v1 hf hp0; clear hp; have hp := hp0; clear hp0
  replace hp : Hp _ _ _ (Res.obj 24 v1 [.int .i64 cx0_Length, .int .u32 cx0_One, .int .u32 cx0_Two] :: ow) := hp
  refine st_assign hf rfl rfl (by decide) ?_
  clear hf; intro a ha hf; clear ha
  refine st_nil hf ?_
  refine th_n ?_
  refine wp_seq ?_
  refine wp_seq ?_
  refine wp_reg ?_
  refine st_fa (o' := 0) hf (by decide) (off := 0) (sz := 1) (by kernel_rfl) (by decide) rfl rfl (hp.ob (i := 0) rfl) rfl ?_
  clear hf; intro a ha hf; clear ha
  refine st_ldO (u := .int .i64 cx0_Length) hf (by decide) pl3 rfl rfl (hp.ob (i := 0) rfl) rfl ?_
  clear hf; intro a ha hf; clear ha
  refine st_ilss hf (by decide) rfl rfl rfl ?_
  clear hf; intro a ha hf; clear ha
  refine st_move hf rfl rfl (by decide) ?_
  clear hf; intro a ha hf; clear ha
  refine wpList_cut 4 (fun a w => Fr 49 a [(1, optr v1 0), (11, .bool ((decide (cx0_Length < (2 : Int))) || (decide ((7 : Int) < cx0_Length))))] ∧ Hp S w0 w (Res.obj 24 v1 [.int .i64 cx0_Length, .int .u32 cx0_One, .int .u32 cx0_Two] :: ow)) ?_ ?_
  · rcases Bool.eq_false_or_eq_true (decide (cx0_Length < (2 : Int))) with hb4 | hb4
    · skip
      refine st_skip hf (wantN hf rfl rfl hb4) rfl (by decide) ?_ rfl
      clear hf; intro a hf
      refine st_skip hf (wantN hf rfl rfl hb4) rfl (by decide) ?_ rfl
      clear hf; intro a hf
      refine st_skip hf (wantN hf rfl rfl hb4) rfl (by decide) ?_ rfl
      clear hf; intro a hf
      refine st_pick (v := .bool true) hf rfl rfl (fun hb' => ?_) (fun hb' => ?_) (by decide) ?_
      · rfl
      · exact absurd (hb4.symm.trans hb') (by decide)
      clear hf; intro a ha hf; clear ha
      refine st_nil hf (th_n ?_)
      exact ⟨hf.sub ⟨rfl, (by rw [hb4]; rfl), trivial⟩, hp⟩
    refine st_fa (o' := 0) hf (by decide) (off := 0) (sz := 1) (by kernel_rfl) (by decide) (wantY hf rfl rfl hb4) rfl (hp.ob (i := 0) rfl) rfl ?_
    clear hf; intro a ha hf; clear ha
    refine st_ldO (u := .int .i64 cx0_Length) hf (by decide) pl3 (wantY hf rfl rfl hb4) rfl (hp.ob (i := 0) rfl) rfl ?_
    clear hf; intro a ha hf; clear ha
    refine st_igtr hf (by decide) (wantY hf rfl rfl hb4) rfl rfl ?_
    clear hf; intro a ha hf; clear ha
    refine st_pick (v := .bool (decide ((7 : Int) < cx0_Length))) hf rfl rfl (fun hb' => ?_) (fun hb' => ?_) (by decide) ?_
    · exact absurd (hb4.symm.trans hb') (by decide)
    · rfl
    clear hf; intro a ha hf; clear ha
    refine st_nil hf (th_n ?_)
    exact ⟨hf.sub ⟨rfl, (by rw [hb4]; rfl), trivial⟩, hp⟩
  rintro a w ⟨hf, hp⟩
  refine st_nil hf ?_
  refine th_n ?_
  refine wp_if hf rfl (fun hb => ?_) (fun hb => ?_)
  · replace h := ifT h hb
    refine wp_seq ?_
    refine wp_reg ?_
    refine st_assign hf rfl rfl (by decide) ?_
    clear hf; intro a ha hf; clear ha
    refine st_nil hf ?_
    refine th_n ?_
    refine wp_ret ?_
    refine th_r ?_
    obtain rfl := Option.some.inj h
    have hp : Hp _ _ _ (ow) := Hp.sel (pre := [Res.obj 24 v1 [.int .i64 cx0_Length, .int .u32 cx0_One, .int .u32 cx0_Two]]) (tail := ow) (rs' := []) hp [] (by decide) (by simp) rfl
    exact ⟨rfl, ⟨hf.sub ⟨rfl, trivial⟩, hp⟩⟩
  replace h := ifF h hb
  refine wp_skip ?_
  refine th_n ?_
  refine wp_seq ?_
  refine wp_reg ?_
  refine st_fa (o' := 0) hf (by decide) (off := 0) (sz := 1) (by kernel_rfl) (by decide) rfl rfl (hp.ob (i := 0) rfl) rfl ?_
  clear hf; intro a ha hf; clear ha
  refine st_ldO (u := .int .i64 cx0_Length) hf (by decide) pl3 rfl rfl (hp.ob (i := 0) rfl) rfl ?_
  clear hf; intro a ha hf; clear ha
  obtain ⟨hc5, h⟩ := chk h
  refine st_ishl hf (by decide) rfl rfl rfl hc5 ?_
  clear hf; intro a ha hf; clear ha
  refine st_assign hf rfl rfl (by decide) ?_
  clear hf; intro a ha hf; clear ha
  refine st_nil hf ?_
  refine th_n ?_
  refine wp_seq ?_
  refine wp_reg ?_
  refine st_fa (o' := 1) hf (by decide) (off := 1) (sz := 1) (by kernel_rfl) (by decide) rfl rfl (hp.ob (i := 0) rfl) rfl ?_
  clear hf; intro a ha hf; clear ha
  refine st_ldO (u := .int .u32 cx0_One) hf (by decide) pl22 rfl rfl (hp.ob (i := 0) rfl) rfl ?_
  clear hf; intro a ha hf; clear ha
  refine st_igeq hf (by decide) rfl rfl rfl ?_
  clear hf; intro a ha hf; clear ha
  refine st_move hf rfl rfl (by decide) ?_
  clear hf; intro a ha hf; clear ha
  refine wpList_cut 5 (fun a w => Fr 49 a [(1, optr v1 0), (3, .int .u32 (ishl .u32 (1 : Int) cx0_Length)), (23, .bool ((decide ((1 : Int) ≤ cx0_One)) && (decide (cx0_One < (ishl .u32 (1 : Int) cx0_Length)))))] ∧ Hp S w0 w (Res.obj 24 v1 [.int .i64 cx0_Length, .int .u32 cx0_One, .int .u32 cx0_Two] :: ow)) ?_ ?_
  · rcases Bool.eq_false_or_eq_true (decide ((1 : Int) ≤ cx0_One)) with hb7 | hb7
    · skip
      refine st_fa (o' := 1) hf (by decide) (off := 1) (sz := 1) (by kernel_rfl) (by decide) (wantY hf rfl rfl hb7) rfl (hp.ob (i := 0) rfl) rfl ?_
      clear hf; intro a ha hf; clear ha
      refine st_ldO (u := .int .u32 cx0_One) hf (by decide) pl22 (wantY hf rfl rfl hb7) rfl (hp.ob (i := 0) rfl) rfl ?_
      clear hf; intro a ha hf; clear ha
      refine st_move hf (wantY hf rfl rfl hb7) rfl (by decide) ?_
      clear hf; intro a ha hf; clear ha
      refine st_ilss hf (by decide) (wantY hf rfl rfl hb7) rfl rfl ?_
      clear hf; intro a ha hf; clear ha
      refine st_pick (v := .bool (decide (cx0_One < (ishl .u32 (1 : Int) cx0_Length)))) hf rfl rfl (fun hb' => ?_) (fun hb' => ?_) (by decide) ?_
      · rfl
      · exact absurd (hb7.symm.trans hb') (by decide)
      clear hf; intro a ha hf; clear ha
      refine st_nil hf (th_n ?_)
      exact ⟨hf.sub ⟨rfl, rfl, (by rw [hb7]; rfl), trivial⟩, hp⟩
    refine st_skip hf (wantN hf rfl rfl hb7) rfl (by decide) ?_ rfl
    clear hf; intro a hf
    refine st_skip hf (wantN hf rfl rfl hb7) rfl (by decide) ?_ rfl
    clear hf; intro a hf
    refine st_skip hf (wantN hf rfl rfl hb7) rfl (by decide) ?_ rfl
    clear hf; intro a hf
    refine st_skip hf (wantN hf rfl rfl hb7) rfl (by decide) ?_ rfl
    clear hf; intro a hf
    refine st_pick (v := .bool false) hf rfl rfl (fun hb' => ?_) (fun hb' => ?_) (by decide) ?_
    · exact absurd (hb7.symm.trans hb') (by decide)
    · rfl
    clear hf; intro a ha hf; clear ha
    refine st_nil hf (th_n ?_)
    exact ⟨hf.sub ⟨rfl, rfl, (by rw [hb7]; rfl), trivial⟩, hp⟩
  rintro a w ⟨hf, hp⟩
  refine st_move hf rfl rfl (by decide) ?_
  clear hf; intro a ha hf; clear ha
  refine wpList_cut 4 (fun a w => Fr 49 a [(1, optr v1 0), (3, .int .u32 (ishl .u32 (1 : Int) cx0_Length)), (28, .bool (((decide ((1 : Int) ≤ cx0_One)) && (decide (cx0_One < (ishl .u32 (1 : Int) cx0_Length)))) && (decide ((1 : Int) ≤ cx0_Two))))] ∧ Hp S w0 w (Res.obj 24 v1 [.int .i64 cx0_Length, .int .u32 cx0_One, .int .u32 cx0_Two] :: ow)) ?_ ?_
  · rcases Bool.eq_false_or_eq_true ((decide ((1 : Int) ≤ cx0_One)) && (decide (cx0_One < (ishl .u32 (1 : Int) cx0_Length)))) with hb9 | hb9
    · skip
      refine st_fa (o' := 2) hf (by decide) (off := 2) (sz := 1) (by kernel_rfl) (by decide) (wantY hf rfl rfl hb9) rfl (hp.ob (i := 0) rfl) rfl ?_
      clear hf; intro a ha hf; clear ha
      refine st_ldO (u := .int .u32 cx0_Two) hf (by decide) pl22 (wantY hf rfl rfl hb9) rfl (hp.ob (i := 0) rfl) rfl ?_
      clear hf; intro a ha hf; clear ha
      refine st_igeq hf (by decide) (wantY hf rfl rfl hb9) rfl rfl ?_
      clear hf; intro a ha hf; clear ha
      refine st_pick (v := .bool (decide ((1 : Int) ≤ cx0_Two))) hf rfl rfl (fun hb' => ?_) (fun hb' => ?_) (by decide) ?_
      · rfl
      · exact absurd (hb9.symm.trans hb') (by decide)
      clear hf; intro a ha hf; clear ha
      refine st_nil hf (th_n ?_)
      exact ⟨hf.sub ⟨rfl, rfl, (by rw [hb9]; rfl), trivial⟩, hp⟩
    refine st_skip hf (wantN hf rfl rfl hb9) rfl (by decide) ?_ rfl
    clear hf; intro a hf
    refine st_skip hf (wantN hf rfl rfl hb9) rfl (by decide) ?_ rfl
    clear hf; intro a hf
    refine st_skip hf (wantN hf rfl rfl hb9) rfl (by decide) ?_ rfl
    clear hf; intro a hf
    refine st_pick (v := .bool false) hf rfl rfl (fun hb' => ?_) (fun hb' => ?_) (by decide) ?_
    · exact absurd (hb9.symm.trans hb') (by decide)
    · rfl
    clear hf; intro a ha hf; clear ha
    refine st_nil hf (th_n ?_)
    exact ⟨hf.sub ⟨rfl, rfl, (by rw [hb9]; rfl), trivial⟩, hp⟩
  rintro a w ⟨hf, hp⟩
  refine st_move hf rfl rfl (by decide) ?_
  clear hf; intro a ha hf; clear ha
  refine wpList_cut 5 (fun a w => Fr 49 a [(1, optr v1 0), (3, .int .u32 (ishl .u32 (1 : Int) cx0_Length)), (34, .bool ((((decide ((1 : Int) ≤ cx0_One)) && (decide (cx0_One < (ishl .u32 (1 : Int) cx0_Length)))) && (decide ((1 : Int) ≤ cx0_Two))) && (decide (cx0_Two < (ishl .u32 (1 : Int) cx0_Length)))))] ∧ Hp S w0 w (Res.obj 24 v1 [.int .i64 cx0_Length, .int .u32 cx0_One, .int .u32 cx0_Two] :: ow)) ?_ ?_
  · rcases Bool.eq_false_or_eq_true (((decide ((1 : Int) ≤ cx0_One)) && (decide (cx0_One < (ishl .u32 (1 : Int) cx0_Length)))) && (decide ((1 : Int) ≤ cx0_Two))) with hb11 | hb11
    · skip
      refine st_fa (o' := 2) hf (by decide) (off := 2) (sz := 1) (by kernel_rfl) (by decide) (wantY hf rfl rfl hb11) rfl (hp.ob (i := 0) rfl) rfl ?_
      clear hf; intro a ha hf; clear ha
      refine st_ldO (u := .int .u32 cx0_Two) hf (by decide) pl22 (wantY hf rfl rfl hb11) rfl (hp.ob (i := 0) rfl) rfl ?_
      clear hf; intro a ha hf; clear ha
      refine st_move hf (wantY hf rfl rfl hb11) rfl (by decide) ?_
      clear hf; intro a ha hf; clear ha
      refine st_ilss hf (by decide) (wantY hf rfl rfl hb11) rfl rfl ?_
      clear hf; intro a ha hf; clear ha
      refine st_pick (v := .bool (decide (cx0_Two < (ishl .u32 (1 : Int) cx0_Length)))) hf rfl rfl (fun hb' => ?_) (fun hb' => ?_) (by decide) ?_
      · rfl
      · exact absurd (hb11.symm.trans hb') (by decide)
      clear hf; intro a ha hf; clear ha
      refine st_nil hf (th_n ?_)
      exact ⟨hf.sub ⟨rfl, rfl, (by rw [hb11]; rfl), trivial⟩, hp⟩
    refine st_skip hf (wantN hf rfl rfl hb11) rfl (by decide) ?_ rfl
    clear hf; intro a hf
    refine st_skip hf (wantN hf rfl rfl hb11) rfl (by decide) ?_ rfl
    clear hf; intro a hf
    refine st_skip hf (wantN hf rfl rfl hb11) rfl (by decide) ?_ rfl
    clear hf; intro a hf
    refine st_skip hf (wantN hf rfl rfl hb11) rfl (by decide) ?_ rfl
    clear hf; intro a hf
    refine st_pick (v := .bool false) hf rfl rfl (fun hb' => ?_) (fun hb' => ?_) (by decide) ?_
    · exact absurd (hb11.symm.trans hb') (by decide)
    · rfl
    clear hf; intro a ha hf; clear ha
    refine st_nil hf (th_n ?_)
    exact ⟨hf.sub ⟨rfl, rfl, (by rw [hb11]; rfl), trivial⟩, hp⟩
  rintro a w ⟨hf, hp⟩
  refine st_move hf rfl rfl (by decide) ?_
  clear hf; intro a ha hf; clear ha
  refine wpList_cut 13 (fun a w => Fr 49 a [(48, .bool (((((decide ((1 : Int) ≤ cx0_One)) && (decide (cx0_One < (ishl .u32 (1 : Int) cx0_Length)))) && (decide ((1 : Int) ≤ cx0_Two))) && (decide (cx0_Two < (ishl .u32 (1 : Int) cx0_Length)))) && ((decide ((IntKind.u32.wrap (((ishl .u32 (1 : Int) cx0_Length)).tdiv (2 : Int))) ≤ cx0_One)) || (decide ((IntKind.u32.wrap (((ishl .u32 (1 : Int) cx0_Length)).tdiv (2 : Int))) ≤ cx0_Two)))))] ∧ Hp S w0 w (Res.obj 24 v1 [.int .i64 cx0_Length, .int .u32 cx0_One, .int .u32 cx0_Two] :: ow)) ?_ ?_
  · rcases Bool.eq_false_or_eq_true ((((decide ((1 : Int) ≤ cx0_One)) && (decide (cx0_One < (ishl .u32 (1 : Int) cx0_Length)))) && (decide ((1 : Int) ≤ cx0_Two))) && (decide (cx0_Two < (ishl .u32 (1 : Int) cx0_Length)))) with hb13 | hb13
    · skip
      refine st_fa (o' := 1) hf (by decide) (off := 1) (sz := 1) (by kernel_rfl) (by decide) (wantY hf rfl rfl hb13) rfl (hp.ob (i := 0) rfl) rfl ?_
      clear hf; intro a ha hf; clear ha
      refine st_ldO (u := .int .u32 cx0_One) hf (by decide) pl22 (wantY hf rfl rfl hb13) rfl (hp.ob (i := 0) rfl) rfl ?_
      clear hf; intro a ha hf; clear ha
      refine st_move hf (wantY hf rfl rfl hb13) rfl (by decide) ?_
      clear hf; intro a ha hf; clear ha
      refine st_iquo hf (by decide) (wantY hf rfl rfl hb13) rfl rfl (by decide) ?_
      clear hf; intro a ha hf; clear ha
      refine st_igeq hf (by decide) (wantY hf rfl rfl hb13) rfl rfl ?_
      clear hf; intro a ha hf; clear ha
      refine st_move hf (wantY hf rfl rfl hb13) rfl (by decide) ?_
      clear hf; intro a ha hf; clear ha
      refine wpList_cut 6 (fun a w => Fr 49 a [(35, .bool ((((decide ((1 : Int) ≤ cx0_One)) && (decide (cx0_One < (ishl .u32 (1 : Int) cx0_Length)))) && (decide ((1 : Int) ≤ cx0_Two))) && (decide (cx0_Two < (ishl .u32 (1 : Int) cx0_Length))))), (47, .bool ((decide ((IntKind.u32.wrap (((ishl .u32 (1 : Int) cx0_Length)).tdiv (2 : Int))) ≤ cx0_One)) || (decide ((IntKind.u32.wrap (((ishl .u32 (1 : Int) cx0_Length)).tdiv (2 : Int))) ≤ cx0_Two))))] ∧ Hp S w0 w (Res.obj 24 v1 [.int .i64 cx0_Length, .int .u32 cx0_One, .int .u32 cx0_Two] :: ow)) ?_ ?_
      · rcases Bool.eq_false_or_eq_true (decide ((IntKind.u32.wrap (((ishl .u32 (1 : Int) cx0_Length)).tdiv (2 : Int))) ≤ cx0_One)) with hb15 | hb15
        · skip
          refine st_skip hf (wantN hf rfl rfl hb15) rfl (by decide) ?_ rfl
          clear hf; intro a hf
          refine st_skip hf (wantN hf rfl rfl hb15) rfl (by decide) ?_ rfl
          clear hf; intro a hf
          refine st_skip hf (wantN hf rfl rfl hb15) rfl (by decide) ?_ rfl
          clear hf; intro a hf
          refine st_skip hf (wantN hf rfl rfl hb15) rfl (by decide) ?_ rfl
          clear hf; intro a hf
          refine st_skip hf (wantN hf rfl rfl hb15) rfl (by decide) ?_ rfl
          clear hf; intro a hf
          refine st_pick (v := .bool true) hf (wantY hf rfl rfl hb13) rfl (fun hb' => ?_) (fun hb' => ?_) (by decide) ?_
          · rfl
          · exact absurd (hb15.symm.trans hb') (by decide)
          clear hf; intro a ha hf; clear ha
          refine st_nil hf (th_n ?_)
          exact ⟨hf.sub ⟨rfl, (by rw [hb15]; rfl), trivial⟩, hp⟩
        refine st_fa (o' := 2) hf (by decide) (off := 2) (sz := 1) (by kernel_rfl) (by decide) (wantY hf rfl rfl hb15) rfl (hp.ob (i := 0) rfl) rfl ?_
        clear hf; intro a ha hf; clear ha
        refine st_ldO (u := .int .u32 cx0_Two) hf (by decide) pl22 (wantY hf rfl rfl hb15) rfl (hp.ob (i := 0) rfl) rfl ?_
        clear hf; intro a ha hf; clear ha
        refine st_move hf (wantY hf rfl rfl hb15) rfl (by decide) ?_
        clear hf; intro a ha hf; clear ha
        refine st_iquo hf (by decide) (wantY hf rfl rfl hb15) rfl rfl (by decide) ?_
        clear hf; intro a ha hf; clear ha
        refine st_igeq hf (by decide) (wantY hf rfl rfl hb15) rfl rfl ?_
        clear hf; intro a ha hf; clear ha
        refine st_pick (v := .bool (decide ((IntKind.u32.wrap (((ishl .u32 (1 : Int) cx0_Length)).tdiv (2 : Int))) ≤ cx0_Two))) hf (wantY hf rfl rfl hb13) rfl (fun hb' => ?_) (fun hb' => ?_) (by decide) ?_
        · exact absurd (hb15.symm.trans hb') (by decide)
        · rfl
        clear hf; intro a ha hf; clear ha
        refine st_nil hf (th_n ?_)
        exact ⟨hf.sub ⟨rfl, (by rw [hb15]; rfl), trivial⟩, hp⟩
      rintro a w ⟨hf, hp⟩
      refine st_pick (v := .bool ((decide ((IntKind.u32.wrap (((ishl .u32 (1 : Int) cx0_Length)).tdiv (2 : Int))) ≤ cx0_One)) || (decide ((IntKind.u32.wrap (((ishl .u32 (1 : Int) cx0_Length)).tdiv (2 : Int))) ≤ cx0_Two)))) hf rfl rfl (fun hb' => ?_) (fun hb' => ?_) (by decide) ?_
      · rfl
      · exact absurd (hb13.symm.trans hb') (by decide)
      clear hf; intro a ha hf; clear ha
      refine st_nil hf (th_n ?_)
      exact ⟨hf.sub ⟨(by rw [hb13]; rfl), trivial⟩, hp⟩
    refine st_skip hf (wantN hf rfl rfl hb13) rfl (by decide) ?_ rfl
    clear hf; intro a hf
    refine st_skip hf (wantN hf rfl rfl hb13) rfl (by decide) ?_ rfl
    clear hf; intro a hf
    refine st_skip hf (wantN hf rfl rfl hb13) rfl (by decide) ?_ rfl
    clear hf; intro a hf
    refine st_skip hf (wantN hf rfl rfl hb13) rfl (by decide) ?_ rfl
    clear hf; intro a hf
    refine st_skip hf (wantN hf rfl rfl hb13) rfl (by decide) ?_ rfl
    clear hf; intro a hf
    refine st_skipU hf (wantN hf rfl rfl hb13) rfl (by decide) ?_
    clear hf; intro a hf
    refine st_skip hf (wantU hf rfl rfl) rfl (by decide) ?_ rfl
    clear hf; intro a hf
    refine st_skip hf (wantU hf rfl rfl) rfl (by decide) ?_ rfl
    clear hf; intro a hf
    refine st_skip hf (wantU hf rfl rfl) rfl (by decide) ?_ rfl
    clear hf; intro a hf
    refine st_skip hf (wantU hf rfl rfl) rfl (by decide) ?_ rfl
    clear hf; intro a hf
    refine st_skip hf (wantU hf rfl rfl) rfl (by decide) ?_ rfl
    clear hf; intro a hf
    refine st_skip hf (wantN hf rfl rfl hb13) rfl (by decide) ?_ rfl
    clear hf; intro a hf
    refine st_pick (v := .bool false) hf rfl rfl (fun hb' => ?_) (fun hb' => ?_) (by decide) ?_
    · exact absurd (hb13.symm.trans hb') (by decide)
    · rfl
    clear hf; intro a ha hf; clear ha
    refine st_nil hf (th_n ?_)
    exact ⟨hf.sub ⟨(by rw [hb13]; rfl), trivial⟩, hp⟩
  rintro a w ⟨hf, hp⟩
  refine st_assign hf rfl rfl (by decide) ?_
  clear hf; intro a ha hf; clear ha
  refine st_nil hf ?_
  refine th_n ?_
  refine wp_ret ?_
  obtain rfl := Option.some.inj h
  have hp : Hp _ _ _ (ow) := Hp.sel (pre := [Res.obj 24 v1 [.int .i64 cx0_Length, .int .u32 cx0_One, .int .u32 cx0_Two]]) (tail := ow) (rs' := []) hp [] (by decide) (by simp) rfl
  exact ⟨rfl, ⟨hf.sub ⟨rfl, trivial⟩, hp⟩⟩

noncomputable def f_foghornlaw23_codeOf (cx0_Length : Int) (cx0_One : Int) (cx0_Two : Int) : Option (Int × Int × Int) := ((f_foghornref21_May cx0_Length cx0_One cx0_Two).bind fun q5 => (if q5 = true then (some (cx0_Length, cx0_One, cx0_Two)) else (some ((3 : Int), (7 : Int), (5 : Int)))))
theorem f_foghornlaw23_codeOf_c {S : Nat → Prop} {w0 w : World} {ow : List Res} (hp : Hp S w0 w ow) (cx0_Length : Int) (cx0_One : Int) (cx0_Two : Int) {r : (Int × Int × Int)} (h : f_foghornlaw23_codeOf cx0_Length cx0_One cx0_Two = some r) :
    Calls Try.prog 27 #[.agg #[.int .i64 cx0_Length, .int .u32 cx0_One, .int .u32 cx0_Two]] w (fun e w' => e = .returned (.agg #[.int .i64 r.1, .int .u32 r.2.1, .int .u32 r.2.2]) ∧ Hp S w0 w' (ow)) := by
  unfold f_foghornlaw23_codeOf at h
  refine enter (n := 7) (args := [.agg #[.int .i64 cx0_Length, .int .u32 cx0_One, .int .u32 cx0_Two]]) Try.func27 rfl rfl (Nat.le_of_ble_eq_true rfl) fun a hf => ?_
  replace hf : Fr 7 a [(0, .agg #[.int .i64 cx0_Length, .int .u32 cx0_One, .int .u32 cx0_Two])] := hf
  refine wp_mono (Q := fun e a w => e = .ret ∧ ∃ (c0 : Value), Fr 7 a [(2, optr c0 0)] ∧ Hp S w0 w (Res.obj 24 c0 [.int .i64 r.1, .int .u32 r.2.1, .int .u32 r.2.2] :: ow)) ?_ ?_
  rotate_left
  · rintro e a w ⟨rfl, c0, hf, hp⟩
    exact retG1 hf rfl ⟨_, _, rfl, hp.ob (i := 0) rfl, .inr ⟨by kernel_rfl, rfl⟩⟩ ⟨rfl, hp.drop⟩
  refine wp_seq ?_
  refine wp_reg ?_
  refine st_boxO (cs := [.int .i64 cx0_Length, .int .u32 cx0_One, .int .u32 cx0_Two]) hf (by decide) hp rfl rfl rfl ?_
  clear hf; intro a w v1 hf hp0; clear hp; have hp := hp0; clear hp0
  replace hp : Hp _ _ _ (Res.obj 24 v1 [.int .i64 cx0_Length, .int .u32 cx0_One, .int .u32 cx0_Two] :: ow) := hp
  refine st_alloc (cs := [.int .i64 (0 : Int), .int .u32 (0 : Int), .int .u32 (0 : Int)]) (zv := .agg #[.int .i64 (0 : Int), .int .u32 (0 : Int), .int .u32 (0 : Int)]) hf (by decide) (by kernel_rfl) rfl hp rfl ?_
  clear hf; intro a w v3 hf hp0; clear hp; have hp := hp0; clear hp0
  replace hp : Hp _ _ _ (Res.obj 24 v3 [.int .i64 (0 : Int), .int .u32 (0 : Int), .int .u32 (0 : Int)] :: Res.obj 24 v1 [.int .i64 cx0_Length, .int .u32 cx0_One, .int .u32 cx0_Two] :: ow) := hp
  refine st_nil hf ?_
  refine th_n ?_
  refine wp_seq ?_
  refine wp_seq ?_
  refine wp_reg ?_
  refine st_ldOA (m := 3) (us := [.int .i64 cx0_Length, .int .u32 cx0_One, .int .u32 cx0_Two]) hf (by decide) (by kernel_rfl) rfl rfl (hp.ob (i := 1) rfl) rfl rfl ?_
  clear hf; intro a ha hf; clear ha
  obtain ⟨q5, hcall6, h⟩ := bnd h
  refine st_call hf (by decide) Try.func41 rfl rfl rfl rfl rfl (f_foghornref21_May_c hp _ _ _ hcall6) ?_
  rintro _ w ⟨rfl, hp0⟩
  clear hp; have hp := hp0; clear hp0
  replace hp : Hp _ _ _ (Res.obj 24 v3 [.int .i64 (0 : Int), .int .u32 (0 : Int), .int .u32 (0 : Int)] :: Res.obj 24 v1 [.int .i64 cx0_Length, .int .u32 cx0_One, .int .u32 cx0_Two] :: ow) := hp
  refine ⟨_, rfl, ?_⟩
  clear hf; intro a hf
  refine st_nil hf ?_
  refine th_n ?_
  refine wp_if hf rfl (fun hb => ?_) (fun hb => ?_)
  · replace h := ifT h hb
    refine wp_seq ?_
    refine wp_reg ?_
    refine st_ldOA (m := 3) (us := [.int .i64 cx0_Length, .int .u32 cx0_One, .int .u32 cx0_Two]) hf (by decide) (by kernel_rfl) rfl rfl (hp.ob (i := 1) rfl) rfl rfl ?_
    clear hf; intro a ha hf; clear ha
    refine st_stO (us := [.int .i64 cx0_Length, .int .u32 cx0_One, .int .u32 cx0_Two]) hf hp (i := 0) rfl rfl rfl rfl rfl (by rfl) (by kernel_rfl) (Nat.le_of_ble_eq_true rfl) ?_
    clear hf; intro a w hf hp0; clear hp; have hp := hp0; clear hp0
    replace hp : Hp _ _ _ (Res.obj 24 v3 [.int .i64 cx0_Length, .int .u32 cx0_One, .int .u32 cx0_Two] :: Res.obj 24 v1 [.int .i64 cx0_Length, .int .u32 cx0_One, .int .u32 cx0_Two] :: ow) := hp
    refine st_nil hf ?_
    refine th_n ?_
    refine wp_ret ?_
    refine th_r ?_
    obtain rfl := Option.some.inj h
    have hp : Hp _ _ _ (Res.obj 24 v3 [.int .i64 cx0_Length, .int .u32 cx0_One, .int .u32 cx0_Two] :: ow) := Hp.sel (pre := [Res.obj 24 v3 [.int .i64 cx0_Length, .int .u32 cx0_One, .int .u32 cx0_Two], Res.obj 24 v1 [.int .i64 cx0_Length, .int .u32 cx0_One, .int .u32 cx0_Two]]) (tail := ow) (rs' := [Res.obj 24 v3 [.int .i64 cx0_Length, .int .u32 cx0_One, .int .u32 cx0_Two]]) hp [0] (by decide) (by simp) rfl
    exact ⟨rfl, ⟨_, hf.sub ⟨rfl, trivial⟩, hp⟩⟩
  replace h := ifF h hb
  refine wp_skip ?_
  refine th_n ?_
  refine wp_seq ?_
  refine wp_reg ?_
  refine st_buildA (vals := [(0, .int .i64 (3 : Int)), (1, .int .u32 (7 : Int)), (2, .int .u32 (5 : Int))]) (cells := [.int .i64 (3 : Int), .int .u32 (7 : Int), .int .u32 (5 : Int)]) hf (by decide) rfl (by simp [hf.ev (x := (Operand.const (.int .i64 (3 : Int)))) rfl, hf.ev (x := (Operand.const (.int .u32 (7 : Int)))) rfl, hf.ev (x := (Operand.const (.int .u32 (5 : Int)))) rfl]) (fun w => by kernel_rfl) ?_
  clear hf; intro a ha hf; clear ha
  refine st_stO (us := [.int .i64 (3 : Int), .int .u32 (7 : Int), .int .u32 (5 : Int)]) hf hp (i := 0) rfl rfl rfl rfl rfl (by rfl) (by kernel_rfl) (Nat.le_of_ble_eq_true rfl) ?_
  clear hf; intro a w hf hp0; clear hp; have hp := hp0; clear hp0
  replace hp : Hp _ _ _ (Res.obj 24 v3 [.int .i64 (3 : Int), .int .u32 (7 : Int), .int .u32 (5 : Int)] :: Res.obj 24 v1 [.int .i64 cx0_Length, .int .u32 cx0_One, .int .u32 cx0_Two] :: ow) := hp
  refine st_nil hf ?_
  refine th_n ?_
  refine wp_ret ?_
  obtain rfl := Option.some.inj h
  have hp : Hp _ _ _ (Res.obj 24 v3 [.int .i64 (3 : Int), .int .u32 (7 : Int), .int .u32 (5 : Int)] :: ow) := Hp.sel (pre := [Res.obj 24 v3 [.int .i64 (3 : Int), .int .u32 (7 : Int), .int .u32 (5 : Int)], Res.obj 24 v1 [.int .i64 cx0_Length, .int .u32 cx0_One, .int .u32 cx0_Two]]) (tail := ow) (rs' := [Res.obj 24 v3 [.int .i64 (3 : Int), .int .u32 (7 : Int), .int .u32 (5 : Int)]]) hp [0] (by decide) (by simp) rfl
  exact ⟨rfl, ⟨_, hf.sub ⟨rfl, trivial⟩, hp⟩⟩

end Go.Proofs.Ytcooefnbolobaaa
