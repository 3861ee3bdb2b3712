/- The functions foghorn foghorntop.TopLeast: what each answers, as a plain function, and that its call answers it; printed by gen.py. -/
import Derived.Test.YtgdhjjdgghilhaaGreatProg
import Derived.Test.YtgdhjjdgghilhaaGreatGlUi
import Derived.KernelRfl
import Derived.Test.YtgdhjjdgghilhaaGreatG1p3
set_option linter.unusedVariables false
set_option linter.unusedSimpArgs false
set_option maxRecDepth 100000
set_option maxHeartbeats 4000000
namespace Go.Proofs.YtgdhjjdgghilhaaGreat
open GL
noncomputable def f_soft_run_1 (nd0 : (List WayC)) (ax0 : (Option Nat)) (bx1 : (Option Nat)) : Option Bool := ((ax0).bind fun n1 => ((bx1).bind fun n8 => (if (fne ((nth nd0 n1).2.2.1) ((nth nd0 n8).2.2.1)) = true then ((ax0).bind fun n15 => ((bx1).bind fun n22 => (some (flt ((nth nd0 n15).2.2.1) ((nth nd0 n22).2.2.1))))) else ((ax0).bind fun n29 => ((bx1).bind fun n36 => (if (!(decide ((nth nd0 n29).2.1 = (nth nd0 n36).2.1))) = true then ((ax0).bind fun n43 => (((nth nd0 n43).2.1).bind fun n50 => ((bx1).bind fun n57 => (((nth nd0 n57).2.1).bind fun n64 => (some (decide ((nth nd0 n50).2.2.2 < (nth nd0 n64).2.2.2))))))) else ((ax0).bind fun n71 => ((if (!((nth nd0 n71).1)) = true then ((bx1).bind fun n81 => (some ((nth nd0 n81).1))) else (some false)).bind fun z80 => (some z80)))))))))
theorem f_soft_run_1_c {S : Nat → Prop} {w0 w : World} {ow : List Res} (hp : Hp S w0 w ow) (bs : List Nat) (nd0 : List WayC) (hA : RdA S w0 76 bs nd0) (vax0 : Value) (ax0 : Option Nat) (hax0 : WP bs vax0 ax0) (vbx1 : Value) (bx1 : Option Nat) (hbx1 : WP bs vbx1 bx1) {r : Bool} (h : f_soft_run_1 nd0 ax0 bx1 = some r) :
   Calls Tryz.prog 39 #[vax0, vbx1] w (fun e w' => e = .returned (.bool r) ∧ Hp S w0 w' (ow)) := by
  unfold f_soft_run_1 at h
  refine enx (n := 58) Tryz.func39 fun a hf => ?_
  refine wp_mono (Q := fun e a w => e = .ret ∧ Fr 58 a [(4, .bool r)] ∧ Hp S w0 w (ow)) ?_ ?_
  rotate_left
  ·
   rintro e a w ⟨rfl, hf, hp⟩
   exact ret1 hf rfl rfl ⟨rfl, hp⟩
  refine go ?_; intro a hf
  obtain ⟨n1, hx2, h⟩ := bnd h
  obtain ⟨v3, bb4, y5, y6, ho7⟩ := RdA.at hA hax0 hx2
  obtain ⟨n8, hx9, h⟩ := bnd h
  obtain ⟨v10, bb11, y12, y13, ho14⟩ := RdA.at hA hbx1 hx9
  refine wp_cutN (fun a w => Fr 58 a [(0, vax0), (1, vbx1), (13, .bool (fne ((nth nd0 n1).2.2.1) ((nth nd0 n8).2.2.1)))] ∧ Hp S w0 w (ow)) ?_ ?_
  ·
   have hp := hp.same (Same.drew w)
   refine dr_begin' _ (fun w' => ∃ l, Hp S w0 w' l) [] (by kernel_rfl) ?_
   refine dv 0 hf ⟨_, hp⟩ fun a hf => ?_
   refine dr_nilE 1 rfl (by kernel_rfl) (by kernel_rfl) (by kernel_rfl) hf (by decide) rfl rfl (WP.ptr hax0 hx2) ?_
   clear hf; intro a hf
   refine dr_takeK 2 _ rfl hf rfl (fun w ⟨_, hp⟩ => st_faP (off := 2) (sz := 1) hf (by decide) (by kernel_rfl) (by decide) rfl rfl (WP.isP hax0 hx2) tk) ⟨_, hp⟩ fun a hf => ?_
   refine dr_takeK 3 _ rfl hf rfl (fun w ⟨_, hp⟩ => st_ldO (u := .float .f64 bb4) hf (by decide) pl39 rfl rfl (ho7.ob hp) rfl tk) ⟨_, hp⟩ fun a hf => ?_
   refine dv 4 hf ⟨_, hp⟩ fun a hf => ?_
   refine dr_nilE 5 rfl (by kernel_rfl) (by kernel_rfl) (by kernel_rfl) hf (by decide) rfl rfl (WP.ptr hbx1 hx9) ?_
   clear hf; intro a hf
   refine dr_takeK 6 _ rfl hf rfl (fun w ⟨_, hp⟩ => st_faP (off := 2) (sz := 1) hf (by decide) (by kernel_rfl) (by decide) rfl rfl (WP.isP hbx1 hx9) tk) ⟨_, hp⟩ fun a hf => ?_
   refine dr_takeK 7 _ rfl hf rfl (fun w ⟨_, hp⟩ => st_ldO (u := .float .f64 bb11) hf (by decide) pl39 rfl rfl (ho14.ob hp) rfl tk) ⟨_, hp⟩ fun a hf => ?_
   refine dr_takeK 8 _ rfl hf rfl (fun w ⟨_, hp⟩ => st_fcmp (r_fne (fx := (nth nd0 n1).2.2.1) (fy := (nth nd0 n8).2.2.1) y6 y13) hf (by decide) rfl rfl rfl tk) ⟨_, hp⟩ fun a hf => ?_
   refine dr_end (by kernel_rfl) ?_ _
   exact ⟨hf.sb, hp⟩
  rintro a w ⟨hf, hp⟩
  refine th_n ?_
  refine wp_if hf rfl (fun hb => ?_) (fun hb => ?_)
  ·
   replace h := ifT h hb
   refine wp_seq ?_
   obtain ⟨n15, hx16, h⟩ := bnd h
   obtain ⟨v17, bb18, y19, y20, ho21⟩ := RdA.at hA hax0 hx16
   obtain ⟨n22, hx23, h⟩ := bnd h
   obtain ⟨v24, bb25, y26, y27, ho28⟩ := RdA.at hA hbx1 hx23
   refine wp_cutN (fun a w => Fr 58 a [(4, .bool (flt ((nth nd0 n15).2.2.1) ((nth nd0 n22).2.2.1)))] ∧ Hp S w0 w (ow)) ?_ ?_
   ·
    have hp := hp.same (Same.drew w)
    refine dr_begin' _ (fun w' => ∃ l, Hp S w0 w' l) [] (by kernel_rfl) ?_
    refine dv 0 hf ⟨_, hp⟩ fun a hf => ?_
    refine dr_nilE 1 rfl (by kernel_rfl) (by kernel_rfl) (by kernel_rfl) hf (by decide) rfl rfl (WP.ptr hax0 hx16) ?_
    clear hf; intro a hf
    refine dr_takeK 2 _ rfl hf rfl (fun w ⟨_, hp⟩ => st_faP (off := 2) (sz := 1) hf (by decide) (by kernel_rfl) (by decide) rfl rfl (WP.isP hax0 hx16) tk) ⟨_, hp⟩ fun a hf => ?_
    refine dr_takeK 3 _ rfl hf rfl (fun w ⟨_, hp⟩ => st_ldO (u := .float .f64 bb18) hf (by decide) pl39 rfl rfl (ho21.ob hp) rfl tk) ⟨_, hp⟩ fun a hf => ?_
    refine dv 4 hf ⟨_, hp⟩ fun a hf => ?_
    refine dr_nilE 5 rfl (by kernel_rfl) (by kernel_rfl) (by kernel_rfl) hf (by decide) rfl rfl (WP.ptr hbx1 hx23) ?_
    clear hf; intro a hf
    refine dr_takeK 6 _ rfl hf rfl (fun w ⟨_, hp⟩ => st_faP (off := 2) (sz := 1) hf (by decide) (by kernel_rfl) (by decide) rfl rfl (WP.isP hbx1 hx23) tk) ⟨_, hp⟩ fun a hf => ?_
    refine dr_takeK 7 _ rfl hf rfl (fun w ⟨_, hp⟩ => st_ldO (u := .float .f64 bb25) hf (by decide) pl39 rfl rfl (ho28.ob hp) rfl tk) ⟨_, hp⟩ fun a hf => ?_
    refine dr_takeK 8 _ rfl hf rfl (fun w ⟨_, hp⟩ => st_fcmp (r_flt (fx := (nth nd0 n15).2.2.1) (fy := (nth nd0 n22).2.2.1) y20 y27) hf (by decide) rfl rfl rfl tk) ⟨_, hp⟩ fun a hf => ?_
    refine dv 9 hf ⟨_, hp⟩ fun a hf => ?_
    refine dr_end (by kernel_rfl) ?_ _
    exact ⟨hf.sb, hp⟩
   rintro a w ⟨hf, hp⟩
   refine goT ?_
   obtain rfl := oj h
   exact ⟨rfl, ⟨hf.sb, hp⟩⟩
  replace h := ifF h hb
  refine wp_skip ?_
  refine goT ?_
  obtain ⟨n29, hx30, h⟩ := bnd h
  obtain ⟨v31, bb32, y33, y34, ho35⟩ := RdA.at hA hax0 hx30
  obtain ⟨n36, hx37, h⟩ := bnd h
  obtain ⟨v38, bb39, y40, y41, ho42⟩ := RdA.at hA hbx1 hx37
  refine wp_cutN (fun a w => Fr 58 a [(0, vax0), (1, vbx1), (31, .bool (!(decide ((nth nd0 n29).2.1 = (nth nd0 n36).2.1))))] ∧ Hp S w0 w (ow)) ?_ ?_
  ·
   have hp := hp.same (Same.drew w)
   refine dr_begin' _ (fun w' => ∃ l, Hp S w0 w' l) [] (by kernel_rfl) ?_
   refine dv 0 hf ⟨_, hp⟩ fun a hf => ?_
   refine dr_nilE 1 rfl (by kernel_rfl) (by kernel_rfl) (by kernel_rfl) hf (by decide) rfl rfl (WP.ptr hax0 hx30) ?_
   clear hf; intro a hf
   refine dr_takeK 2 _ rfl hf rfl (fun w ⟨_, hp⟩ => st_faP (off := 1) (sz := 1) hf (by decide) (by kernel_rfl) (by decide) rfl rfl (WP.isP hax0 hx30) tk) ⟨_, hp⟩ fun a hf => ?_
   refine dr_takeK 3 _ rfl hf rfl (fun w ⟨_, hp⟩ => st_ldO (u := v31) hf (by decide) pl70 rfl rfl (ho35.ob hp) rfl tk) ⟨_, hp⟩ fun a hf => ?_
   refine dv 4 hf ⟨_, hp⟩ fun a hf => ?_
   refine dr_nilE 5 rfl (by kernel_rfl) (by kernel_rfl) (by kernel_rfl) hf (by decide) rfl rfl (WP.ptr hbx1 hx37) ?_
   clear hf; intro a hf
   refine dr_takeK 6 _ rfl hf rfl (fun w ⟨_, hp⟩ => st_faP (off := 1) (sz := 1) hf (by decide) (by kernel_rfl) (by decide) rfl rfl (WP.isP hbx1 hx37) tk) ⟨_, hp⟩ fun a hf => ?_
   refine dr_takeK 7 _ rfl hf rfl (fun w ⟨_, hp⟩ => st_ldO (u := v38) hf (by decide) pl70 rfl rfl (ho42.ob hp) rfl tk) ⟨_, hp⟩ fun a hf => ?_
   refine dr_takeK 8 _ rfl hf rfl (fun w ⟨_, hp⟩ => st_wneq hf (by decide) Tryz.underlying70 (szne (sz := 4) (by kernel_rfl) (by decide)) (hA.ara hp) rfl rfl rfl y33 y40 tk) ⟨_, hp⟩ fun a hf => ?_
   refine dr_end (by kernel_rfl) ?_ _
   exact ⟨hf.sb, hp⟩
  rintro a w ⟨hf, hp⟩
  refine th_n ?_
  refine wp_if hf rfl (fun hb => ?_) (fun hb => ?_)
  ·
   replace h := ifT h hb
   refine wp_seq ?_
   obtain ⟨n43, hx44, h⟩ := bnd h
   obtain ⟨v45, bb46, y47, y48, ho49⟩ := RdA.at hA hax0 hx44
   obtain ⟨n50, hx51, h⟩ := bnd h
   obtain ⟨v52, bb53, y54, y55, ho56⟩ := RdA.at hA y47 hx51
   obtain ⟨n57, hx58, h⟩ := bnd h
   obtain ⟨v59, bb60, y61, y62, ho63⟩ := RdA.at hA hbx1 hx58
   obtain ⟨n64, hx65, h⟩ := bnd h
   obtain ⟨v66, bb67, y68, y69, ho70⟩ := RdA.at hA y61 hx65
   refine wp_cutN (fun a w => Fr 58 a [(4, .bool (decide ((nth nd0 n50).2.2.2 < (nth nd0 n64).2.2.2)))] ∧ Hp S w0 w (ow)) ?_ ?_
   ·
    have hp := hp.same (Same.drew w)
    refine dr_begin' _ (fun w' => ∃ l, Hp S w0 w' l) [] (by kernel_rfl) ?_
    refine dv 0 hf ⟨_, hp⟩ fun a hf => ?_
    refine dr_nilE 1 rfl (by kernel_rfl) (by kernel_rfl) (by kernel_rfl) hf (by decide) rfl rfl (WP.ptr hax0 hx44) ?_
    clear hf; intro a hf
    refine dr_takeK 2 _ rfl hf rfl (fun w ⟨_, hp⟩ => st_faP (off := 1) (sz := 1) hf (by decide) (by kernel_rfl) (by decide) rfl rfl (WP.isP hax0 hx44) tk) ⟨_, hp⟩ fun a hf => ?_
    refine dr_takeK 3 _ rfl hf rfl (fun w ⟨_, hp⟩ => st_ldO (u := v45) hf (by decide) pl70 rfl rfl (ho49.ob hp) rfl tk) ⟨_, hp⟩ fun a hf => ?_
    refine dr_nilE 4 rfl (by kernel_rfl) (by kernel_rfl) (by kernel_rfl) hf (by decide) rfl rfl (WP.ptr y47 hx51) ?_
    clear hf; intro a hf
    refine dr_takeK 5 _ rfl hf rfl (fun w ⟨_, hp⟩ => st_faP (off := 3) (sz := 1) hf (by decide) (by kernel_rfl) (by decide) rfl rfl (WP.isP y47 hx51) tk) ⟨_, hp⟩ fun a hf => ?_
    refine dr_takeK 6 _ rfl hf rfl (fun w ⟨_, hp⟩ => st_ldO (u := .int .i64 ((nth nd0 n50).2.2.2)) hf (by decide) pl3 rfl rfl (ho56.ob hp) rfl tk) ⟨_, hp⟩ fun a hf => ?_
    refine dv 7 hf ⟨_, hp⟩ fun a hf => ?_
    refine dr_nilE 8 rfl (by kernel_rfl) (by kernel_rfl) (by kernel_rfl) hf (by decide) rfl rfl (WP.ptr hbx1 hx58) ?_
    clear hf; intro a hf
    refine dr_takeK 9 _ rfl hf rfl (fun w ⟨_, hp⟩ => st_faP (off := 1) (sz := 1) hf (by decide) (by kernel_rfl) (by decide) rfl rfl (WP.isP hbx1 hx58) tk) ⟨_, hp⟩ fun a hf => ?_
    refine dr_takeK 10 _ rfl hf rfl (fun w ⟨_, hp⟩ => st_ldO (u := v59) hf (by decide) pl70 rfl rfl (ho63.ob hp) rfl tk) ⟨_, hp⟩ fun a hf => ?_
    refine dr_nilE 11 rfl (by kernel_rfl) (by kernel_rfl) (by kernel_rfl) hf (by decide) rfl rfl (WP.ptr y61 hx65) ?_
    clear hf; intro a hf
    refine dr_takeK 12 _ rfl hf rfl (fun w ⟨_, hp⟩ => st_faP (off := 3) (sz := 1) hf (by decide) (by kernel_rfl) (by decide) rfl rfl (WP.isP y61 hx65) tk) ⟨_, hp⟩ fun a hf => ?_
    refine dr_takeK 13 _ rfl hf rfl (fun w ⟨_, hp⟩ => st_ldO (u := .int .i64 ((nth nd0 n64).2.2.2)) hf (by decide) pl3 rfl rfl (ho70.ob hp) rfl tk) ⟨_, hp⟩ fun a hf => ?_
    refine dv 14 hf ⟨_, hp⟩ fun a hf => ?_
    refine dv 15 hf ⟨_, hp⟩ fun a hf => ?_
    refine dr_end (by kernel_rfl) ?_ _
    exact ⟨hf.sb, hp⟩
   rintro a w ⟨hf, hp⟩
   refine goT ?_
   obtain rfl := oj h
   exact ⟨rfl, ⟨hf.sb, hp⟩⟩
  replace h := ifF h hb
  refine wp_skip ?_
  refine go ?_; intro a hf
  obtain ⟨n71, hx72, h⟩ := bnd h
  refine st_nilE hf (by decide) rfl rfl (WP.ptr hax0 hx72) fun a _ hf => ?_
  refine st_faP (off := 0) (sz := 1) hf (by decide) (by kernel_rfl) (by decide) rfl rfl (WP.isP hax0 hx72) fun a _ hf => ?_
  obtain ⟨v73, bb74, y75, y76, ho77⟩ := RdA.at hA hax0 hx72
  refine st_ldO (u := .bool ((nth nd0 n71).1)) hf (by decide) pl4 rfl rfl (ho77.ob hp) rfl fun a _ hf => ?_
  refine go ?_; intro a hf
  obtain ⟨z80, hz78, h⟩ := bnd h
  refine wpList_cut 5 (fun a w => Fr 58 a [(57, .bool z80)] ∧ Hp S w0 w (ow)) ?_ ?_
  ·
   rcases Bool.eq_false_or_eq_true (!((nth nd0 n71).1)) with hb79 | hb79
   ·
    replace hz78 := ifT hz78 hb79
    refine go ?_; intro a hf
    obtain ⟨n81, hx82, hz78⟩ := bnd hz78
    refine st_nilE hf (by decide) (wantY hf rfl rfl hb79) rfl (WP.ptr hbx1 hx82) fun a _ hf => ?_
    refine st_faP (off := 0) (sz := 1) hf (by decide) (by kernel_rfl) (by decide) (wantY hf rfl rfl hb79) rfl (WP.isP hbx1 hx82) fun a _ hf => ?_
    obtain ⟨v83, bb84, y85, y86, ho87⟩ := RdA.at hA hbx1 hx82
    refine st_ldO (u := .bool ((nth nd0 n81).1)) hf (by decide) pl4 (wantY hf rfl rfl hb79) rfl (ho87.ob hp) rfl fun a _ hf => ?_
    obtain rfl := oj hz78
    refine go ?_; intro a hf
    exact ⟨hf.sb, hp⟩
   replace hz78 := ifF hz78 hb79
   obtain rfl := oj hz78
   refine go ?_; intro a hf
   exact ⟨hf.sb, hp⟩
  rintro a w ⟨hf, hp⟩
  refine go ?_; intro a hf
  obtain rfl := oj h
  exact ⟨rfl, ⟨hf.sb, hp⟩⟩

noncomputable def f_soft_two_put (nd0 : (List WayC)) (t0 : (List ((Option Nat) × (Option Nat)))) (it0 : Int) (wx1 : (Option Nat)) : Option (List ((Option Nat) × (Option Nat))) := ((if (((gt t0 it0).1).isNone) = true then (some true) else ((f_soft_run_1 nd0 wx1 ((gt t0 it0).1)).bind fun q11 => (some q11))).bind fun z7 => (if z7 = true then (some ((t0.set (it0).toNat (wx1, (gt t0 it0).2)).set (it0).toNat ((gt (t0.set (it0).toNat (wx1, (gt t0 it0).2)) it0).1, (gt t0 it0).1))) else ((if (((gt t0 it0).2).isNone) = true then (some true) else ((f_soft_run_1 nd0 wx1 ((gt t0 it0).2)).bind fun q39 => (some q39))).bind fun z35 => (if z35 = true then (some (t0.set (it0).toNat ((gt t0 it0).1, wx1))) else (some t0)))))
theorem f_soft_two_put_c {S : Nat → Prop} {w0 w : World} {ow : List Res} (bs : List Nat) (nd0 : List WayC) (hA : RdA S w0 76 bs nd0) (vt0 : Value) (tbt0 : Nat) (t0 : List ((Option Nat) × (Option Nat))) (it0 : Int) (kt0 : 0 ≤ it0 ∧ it0 < (t0.length : Int)) (vwx1 : Value) (wx1 : Option Nat) (hwx1 : WP bs vwx1 wx1) (hp : Hp S w0 w (Res.sl (Ek.pair (Ek.wp bs) (Ek.wp bs)) tbt0 vt0 t0 :: ow)) {r : (List ((Option Nat) × (Option Nat)))} (h : f_soft_two_put nd0 t0 it0 wx1 = some r) :
   Calls Tryz.prog 40 #[eptr vt0 it0 2, vwx1, .func (.func 39) #[] #[]] w (fun e w' => e = .returned (.tuple #[]) ∧ Hp S w0 w' (Res.sl (Ek.pair (Ek.wp bs) (Ek.wp bs)) tbt0 vt0 r :: ow)) := by
  unfold f_soft_two_put at h
  refine enx (n := 51) Tryz.func40 fun a hf => ?_
  refine wp_mono (Q := fun e a w => (e = .ret ∨ e = .normal) ∧ Fr 51 a [] ∧ Hp S w0 w (Res.sl (Ek.pair (Ek.wp bs) (Ek.wp bs)) tbt0 vt0 r :: ow)) ?_ ?_
  rotate_left
  ·
   rintro e a w ⟨rfl | rfl, hf, hp⟩
   · exact ret0 hf rfl ⟨rfl, hp⟩
   · exact ret0n hf rfl ⟨rfl, hp⟩
  refine go ?_; intro a hf
  refine st_nilE hf (by decide) rfl rfl (Sl.ptr (hp.sl (i := 0) rfl) kt0.1 kt0.2) fun a _ hf => ?_
  have hc2 : 0 ≤ (0 : Int) ∧ (0 : Int) < (2 : Int) := by decide
  refine st_iaP (sz := 1) hf (by decide) Tryz.underlying72 (by kernel_rfl) rfl rfl rfl (Sl.isP (hp.sl (i := 0) rfl) kt0.1 kt0.2) hc2.1 hc2.2 fun a _ hf => ?_
  refine st_ldQW (bs := bs) (yv := (gt t0 it0).1) hf (by decide) pl70 rfl rfl (Sl.part (E := (Ek.pair (Ek.wp bs) (Ek.wp bs))) (F := (Ek.wp bs)) (o := ((0 : Int)).toNat * 1) (Sub.fst (E := (Ek.wp bs)) (F := (Ek.wp bs))) (hp.sl (i := 0) rfl) kt0.1 kt0.2) ?_
  clear hf; intro a v3 y4 ha hf; clear ha
  refine st_wnilE hf (by decide) Tryz.underlying70 rfl rfl rfl y4 fun a _ hf => ?_
  refine go ?_; intro a hf
  obtain ⟨z7, hz5, h⟩ := bnd h
  refine wpList_cut 8 (fun a w => Fr 51 a [(0, eptr vt0 it0 2), (1, vwx1), (2, .func (.func 39) #[] #[]), (20, .bool z7)] ∧ Hp S w0 w (Res.sl (Ek.pair (Ek.wp bs) (Ek.wp bs)) tbt0 vt0 t0 :: ow)) ?_ ?_
  ·
   rcases Bool.eq_false_or_eq_true (((gt t0 it0).1).isNone) with hb6 | hb6
   ·
    replace hz5 := ifT hz5 hb6
    obtain rfl := oj hz5
    refine go ?_; intro a hf
    exact ⟨hf.sb, hp⟩
   replace hz5 := ifF hz5 hb6
   refine go ?_; intro a hf
   refine st_nilE hf (by decide) (wantY hf rfl rfl hb6) rfl (Sl.ptr (hp.sl (i := 0) rfl) kt0.1 kt0.2) fun a _ hf => ?_
   have hc8 : 0 ≤ (0 : Int) ∧ (0 : Int) < (2 : Int) := by decide
   refine st_iaP (sz := 1) hf (by decide) Tryz.underlying72 (by kernel_rfl) (wantY hf rfl rfl hb6) rfl rfl (Sl.isP (hp.sl (i := 0) rfl) kt0.1 kt0.2) hc8.1 hc8.2 fun a _ hf => ?_
   refine st_ldQW (bs := bs) (yv := (gt t0 it0).1) hf (by decide) pl70 (wantY hf rfl rfl hb6) rfl (Sl.part (E := (Ek.pair (Ek.wp bs) (Ek.wp bs))) (F := (Ek.wp bs)) (o := ((0 : Int)).toNat * 1) (Sub.fst (E := (Ek.wp bs)) (F := (Ek.wp bs))) (hp.sl (i := 0) rfl) kt0.1 kt0.2) ?_
   clear hf; intro a v9 y10 ha hf; clear ha
   obtain ⟨q11, hcall12, hz5⟩ := bnd hz5
   refine st_call hf (by decide) Tryz.func39 rfl rfl (wantY hf rfl rfl hb6) rfl rfl (f_soft_run_1_c hp _ _ hA _ _ hwx1 _ _ y10 hcall12) ?_
   rintro _ w ⟨rfl, hp⟩
   replace hp : Hp _ _ _ (Res.sl (Ek.pair (Ek.wp bs) (Ek.wp bs)) tbt0 vt0 t0 :: ow) := hp
   refine ⟨_, rfl, fun a hf => ?_⟩
   obtain rfl := oj hz5
   refine go ?_; intro a hf
   exact ⟨hf.sb, hp⟩
  rintro a w ⟨hf, hp⟩
  refine go ?_; intro a hf
  refine wp_if hf rfl (fun hb => ?_) (fun hb => ?_)
  ·
   replace h := ifT h hb
   obtain ⟨S13, hp14, rd15, up16, bk17⟩ := Hp.lendS hp (i := 0) rfl
   have rl18 := rd15
   have rl19 := ((hA.now hp).mono up16)
   have fx28 := hp.sl (i := 0) rfl
   have hc20 : 0 ≤ (0 : Int) ∧ (0 : Int) < (2 : Int) := by decide
   obtain ⟨v26, y24, hl21⟩ := RdS.pinPW (p := it0) (o := ((0 : Int)).toNat * 1) (Sub.fst (E := (Ek.wp bs)) (F := (Ek.wp bs))) rl18 kt0.1 kt0.2
   have hc27 : 0 ≤ (0 : Int) ∧ (0 : Int) < (2 : Int) := by decide
   have hc29 : 0 ≤ (1 : Int) ∧ (1 : Int) < (2 : Int) := by decide
   refine wp_cutN (fun a w => Fr 51 a [(0, eptr vt0 it0 2)] ∧ Hp S w0 w (Res.sl (Ek.pair (Ek.wp bs) (Ek.wp bs)) tbt0 vt0 ((t0.set (it0).toNat (wx1, (gt t0 it0).2)).set (it0).toNat ((gt (t0.set (it0).toNat (wx1, (gt t0 it0).2)) it0).1, (gt t0 it0).1)) :: ow)) ?_ ?_
   ·
    have hp := hp14.same (Same.drew w)
    refine dr_begin' _ (fun w' => ∃ l, Hp S13 w w' l) [9, 12] (by kernel_rfl) ?_
    refine dr_takeP 0 (eptr vt0 it0 2) rfl (by kernel_rfl) (by kernel_rfl) (by kernel_rfl) rfl rfl hf (by decide) rfl (fun w => ?_) ?_
    ·
     refine st_move hf rfl rfl (by decide) ?_
     clear hf; intro a ha hf
     exact st_nil hf (th_n ⟨ha, rfl⟩)
    clear hf; intro a hf
    refine dr_takeP 1 (eptr vt0 it0 2) rfl (by kernel_rfl) (by kernel_rfl) (by kernel_rfl) rfl rfl hf (by decide) rfl (fun w => ?_) ?_
    ·
     refine st_move hf rfl rfl (by decide) ?_
     clear hf; intro a ha hf
     exact st_nil hf (th_n ⟨ha, rfl⟩)
    clear hf; intro a hf
    refine dr_takeP 2 (vwx1) rfl (by kernel_rfl) (by kernel_rfl) (by kernel_rfl) rfl rfl hf (by decide) rfl (fun w => ?_) ?_
    ·
     refine st_move hf rfl rfl (by decide) ?_
     clear hf; intro a ha hf
     exact st_nil hf (th_n ⟨ha, rfl⟩)
    clear hf; intro a hf
    refine dr_takeP 3 (eptr vt0 it0 2) rfl (by kernel_rfl) (by kernel_rfl) (by kernel_rfl) rfl rfl hf (by decide) rfl (fun w => ?_) ?_
    ·
     refine st_move hf rfl rfl (by decide) ?_
     clear hf; intro a ha hf
     exact st_nil hf (th_n ⟨ha, rfl⟩)
    clear hf; intro a hf
    refine dr_nilE 4 rfl (by kernel_rfl) (by kernel_rfl) (by kernel_rfl) hf (by decide) rfl rfl (Sl.ptr rl18.any kt0.1 kt0.2) ?_
    clear hf; intro a hf
    refine dr_takeP 5 (optr (eptr vt0 it0 2) (((0 : Int)).toNat * 1)) rfl (by kernel_rfl) (by kernel_rfl) (by kernel_rfl) rfl rfl hf (by decide) rfl (fun w => ?_) ?_
    ·
     refine st_iaP (sz := 1) hf (by decide) Tryz.underlying72 (by kernel_rfl) rfl rfl rfl (Sl.isP rl18.any kt0.1 kt0.2) hc20.1 hc20.2 ?_
     clear hf; intro a ha hf
     exact st_nil hf (th_n ⟨ha, rfl⟩)
    clear hf; intro a hf
    refine dr_take2 6 (v26) rfl (by kernel_rfl) (by kernel_rfl) (by kernel_rfl) (by kernel_rfl) (by kernel_rfl) rfl rfl hf (by decide) rfl (fun w hp => ?_) ⟨_, hp⟩ ?_
    ·
     obtain ⟨_, hp⟩ := hp
     refine st_ldP hf (by decide) pl70 rfl rfl (hl21 _ _ hp) ?_
     clear hf; intro a ha hf
     exact st_nil hf (th_n ⟨ha, rfl⟩)
    clear hf; intro a hf
    refine dr_nilE 7 rfl (by kernel_rfl) (by kernel_rfl) (by kernel_rfl) hf (by decide) rfl rfl (Sl.ptr rl18.any kt0.1 kt0.2) ?_
    clear hf; intro a hf
    refine dr_takeP 8 (optr (eptr vt0 it0 2) (((0 : Int)).toNat * 1)) rfl (by kernel_rfl) (by kernel_rfl) (by kernel_rfl) rfl rfl hf (by decide) rfl (fun w => ?_) ?_
    ·
     refine st_iaP (sz := 1) hf (by decide) Tryz.underlying72 (by kernel_rfl) rfl rfl rfl (Sl.isP rl18.any kt0.1 kt0.2) hc27.1 hc27.2 ?_
     clear hf; intro a ha hf
     exact st_nil hf (th_n ⟨ha, rfl⟩)
    clear hf; intro a hf
    refine dr_nilE 10 rfl (by kernel_rfl) (by kernel_rfl) (by kernel_rfl) hf (by decide) rfl rfl (Sl.ptr fx28 kt0.1 kt0.2) ?_
    clear hf; intro a hf
    have hp := bk17 _ _ hp
    refine dr_one 9 rfl (by kernel_rfl) ?_
    refine st_stQ (E := (Ek.pair (Ek.wp bs) (Ek.wp bs))) (F := (Ek.wp bs)) (o := ((0 : Int)).toNat * 1) (Sub.fst (E := (Ek.wp bs)) (F := (Ek.wp bs))) hf (by kernel_rfl) hp (i := 0) rfl rfl rfl rfl (wp_cells hwx1) kt0.1 kt0.2 ?_
    clear hf; intro a w hf hp0; clear hp; have hp := hp0; clear hp0
    replace hp : Hp _ _ _ (Res.sl (Ek.pair (Ek.wp bs) (Ek.wp bs)) tbt0 vt0 (t0.set (it0).toNat (wx1, (gt t0 it0).2)) :: ow) := hp
    refine st_nil hf (th_n ⟨fun hn => absurd hn (by decide), ?_⟩)
    refine dr_takeP 11 (optr (eptr vt0 it0 2) (((1 : Int)).toNat * 1)) rfl (by kernel_rfl) (by kernel_rfl) (by kernel_rfl) rfl rfl hf (by decide) rfl (fun w => ?_) ?_
    ·
     refine st_iaP (sz := 1) hf (by decide) Tryz.underlying72 (by kernel_rfl) rfl rfl rfl (Sl.isP fx28 kt0.1 kt0.2) hc29.1 hc29.2 ?_
     clear hf; intro a ha hf
     exact st_nil hf (th_n ⟨ha, rfl⟩)
    clear hf; intro a hf
    refine dr_one 12 rfl (by kernel_rfl) ?_
    refine st_stQ (E := (Ek.pair (Ek.wp bs) (Ek.wp bs))) (F := (Ek.wp bs)) (o := ((1 : Int)).toNat * 1) (Sub.snd (E := (Ek.wp bs)) (F := (Ek.wp bs))) hf (by kernel_rfl) hp (i := 0) rfl rfl rfl rfl (wp_cells y24) (show 0 ≤ it0 ∧ it0 < ((t0.set (it0).toNat (wx1, (gt t0 it0).2)).length : Int) from hset kt0).1 (show 0 ≤ it0 ∧ it0 < ((t0.set (it0).toNat (wx1, (gt t0 it0).2)).length : Int) from hset kt0).2 ?_
    clear hf; intro a w hf hp0; clear hp; have hp := hp0; clear hp0
    replace hp : Hp _ _ _ (Res.sl (Ek.pair (Ek.wp bs) (Ek.wp bs)) tbt0 vt0 ((t0.set (it0).toNat (wx1, (gt t0 it0).2)).set (it0).toNat ((gt (t0.set (it0).toNat (wx1, (gt t0 it0).2)) it0).1, (gt t0 it0).1)) :: ow) := hp
    refine st_nil hf (th_n ⟨fun hn => absurd hn (by decide), ?_⟩)
    refine dr_end (by kernel_rfl) ?_ _
    exact ⟨hf.sb, hp⟩
   rintro a w ⟨hf, hp⟩
   refine ib_n ?_
   obtain rfl := oj h
   exact ⟨(.inr rfl), ⟨hf.sub trivial, hp⟩⟩
  replace h := ifF h hb
  refine go ?_; intro a hf
  refine st_nilE hf (by decide) rfl rfl (Sl.ptr (hp.sl (i := 0) rfl) kt0.1 kt0.2) fun a _ hf => ?_
  have hc30 : 0 ≤ (1 : Int) ∧ (1 : Int) < (2 : Int) := by decide
  refine st_iaP (sz := 1) hf (by decide) Tryz.underlying72 (by kernel_rfl) rfl rfl rfl (Sl.isP (hp.sl (i := 0) rfl) kt0.1 kt0.2) hc30.1 hc30.2 fun a _ hf => ?_
  refine st_ldQW (bs := bs) (yv := (gt t0 it0).2) hf (by decide) pl70 rfl rfl (Sl.part (E := (Ek.pair (Ek.wp bs) (Ek.wp bs))) (F := (Ek.wp bs)) (o := ((1 : Int)).toNat * 1) (Sub.snd (E := (Ek.wp bs)) (F := (Ek.wp bs))) (hp.sl (i := 0) rfl) kt0.1 kt0.2) ?_
  clear hf; intro a v31 y32 ha hf; clear ha
  refine st_wnilE hf (by decide) Tryz.underlying70 rfl rfl rfl y32 fun a _ hf => ?_
  refine go ?_; intro a hf
  obtain ⟨z35, hz33, h⟩ := bnd h
  refine wpList_cut 8 (fun a w => Fr 51 a [(0, eptr vt0 it0 2), (1, vwx1), (46, .bool z35)] ∧ Hp S w0 w (Res.sl (Ek.pair (Ek.wp bs) (Ek.wp bs)) tbt0 vt0 t0 :: ow)) ?_ ?_
  ·
   rcases Bool.eq_false_or_eq_true (((gt t0 it0).2).isNone) with hb34 | hb34
   ·
    replace hz33 := ifT hz33 hb34
    obtain rfl := oj hz33
    refine go ?_; intro a hf
    exact ⟨hf.sb, hp⟩
   replace hz33 := ifF hz33 hb34
   refine go ?_; intro a hf
   refine st_nilE hf (by decide) (wantY hf rfl rfl hb34) rfl (Sl.ptr (hp.sl (i := 0) rfl) kt0.1 kt0.2) fun a _ hf => ?_
   have hc36 : 0 ≤ (1 : Int) ∧ (1 : Int) < (2 : Int) := by decide
   refine st_iaP (sz := 1) hf (by decide) Tryz.underlying72 (by kernel_rfl) (wantY hf rfl rfl hb34) rfl rfl (Sl.isP (hp.sl (i := 0) rfl) kt0.1 kt0.2) hc36.1 hc36.2 fun a _ hf => ?_
   refine st_ldQW (bs := bs) (yv := (gt t0 it0).2) hf (by decide) pl70 (wantY hf rfl rfl hb34) rfl (Sl.part (E := (Ek.pair (Ek.wp bs) (Ek.wp bs))) (F := (Ek.wp bs)) (o := ((1 : Int)).toNat * 1) (Sub.snd (E := (Ek.wp bs)) (F := (Ek.wp bs))) (hp.sl (i := 0) rfl) kt0.1 kt0.2) ?_
   clear hf; intro a v37 y38 ha hf; clear ha
   obtain ⟨q39, hcall40, hz33⟩ := bnd hz33
   refine st_call hf (by decide) Tryz.func39 rfl rfl (wantY hf rfl rfl hb34) rfl rfl (f_soft_run_1_c hp _ _ hA _ _ hwx1 _ _ y38 hcall40) ?_
   rintro _ w ⟨rfl, hp⟩
   replace hp : Hp _ _ _ (Res.sl (Ek.pair (Ek.wp bs) (Ek.wp bs)) tbt0 vt0 t0 :: ow) := hp
   refine ⟨_, rfl, fun a hf => ?_⟩
   obtain rfl := oj hz33
   refine go ?_; intro a hf
   exact ⟨hf.sb, hp⟩
  rintro a w ⟨hf, hp⟩
  refine go ?_; intro a hf
  refine wp_if hf rfl (fun hb => ?_) (fun hb => ?_)
  ·
   replace h := ifT h hb
   refine go ?_; intro a hf
   refine st_nilE hf (by decide) rfl rfl (Sl.ptr (hp.sl (i := 0) rfl) kt0.1 kt0.2) fun a _ hf => ?_
   have hc41 : 0 ≤ (1 : Int) ∧ (1 : Int) < (2 : Int) := by decide
   refine st_iaP (sz := 1) hf (by decide) Tryz.underlying72 (by kernel_rfl) rfl rfl rfl (Sl.isP (hp.sl (i := 0) rfl) kt0.1 kt0.2) hc41.1 hc41.2 fun a _ hf => ?_
   refine st_stQ (E := (Ek.pair (Ek.wp bs) (Ek.wp bs))) (F := (Ek.wp bs)) (o := ((1 : Int)).toNat * 1) (Sub.snd (E := (Ek.wp bs)) (F := (Ek.wp bs))) hf (by kernel_rfl) hp (i := 0) rfl rfl rfl rfl (wp_cells hwx1) kt0.1 kt0.2 ?_
   clear hf; intro a w hf hp0; clear hp; have hp := hp0; clear hp0
   replace hp : Hp _ _ _ (Res.sl (Ek.pair (Ek.wp bs) (Ek.wp bs)) tbt0 vt0 (t0.set (it0).toNat ((gt t0 it0).1, wx1)) :: ow) := hp
   refine goT ?_
   obtain rfl := oj h
   exact ⟨(.inr rfl), ⟨hf.sub trivial, hp⟩⟩
  replace h := ifF h hb
  refine wp_skip ?_
  refine ib_n ?_
  obtain rfl := oj h
  exact ⟨(.inr rfl), ⟨hf.sub trivial, hp⟩⟩

noncomputable def f_soft_ranked.j2 (row0 : (List ((Option Nat) × (Option Nat)))) (seats4 : (List ((Option Nat) × (Option Nat)))) (t19 : Int) (t27 : Int) (at8 : Int) (k9 : Int) : Option (((List ((Option Nat) × (Option Nat))) × Int) ⊕ (List ((Option Nat) × (Option Nat)))) := (if 0 ≤ at8 ∧ at8 < (seats4.length : Int) then (if 0 ≤ k9 ∧ k9 < 2 then (some (Sum.inl ((seats4.set (at8).toNat (pput (gt seats4 at8) k9 (gt [(gt row0 t19).1, (gt row0 t19).2] t27))), (IntKind.i64.wrap (t27 + (1 : Int)))))) else none) else none)
noncomputable def f_soft_ranked.j1 (nd0 : (List WayC)) (row0 : (List ((Option Nat) × (Option Nat)))) (seats4 : (List ((Option Nat) × (Option Nat)))) (t19 : Int) (t27 : Int) (at8 : Int) : Option (((List ((Option Nat) × (Option Nat))) × Int) ⊕ (List ((Option Nat) × (Option Nat)))) := (((gt [(gt row0 t19).1, (gt row0 t19).2] t27)).bind fun n24 => (if ((nth nd0 n24).1) = true then (f_soft_ranked.j2 row0 seats4 t19 t27 at8 (1 : Int)) else (f_soft_ranked.j2 row0 seats4 t19 t27 at8 (0 : Int))))
noncomputable def f_soft_ranked.s2c (nd0 : (List WayC)) (row0 : (List ((Option Nat) × (Option Nat)))) (t19 : Int) (seats4 : (List ((Option Nat) × (Option Nat)))) (t27 : Int) : Option (((List ((Option Nat) × (Option Nat))) × Int) ⊕ (List ((Option Nat) × (Option Nat)))) := (if (decide (t27 < (2 : Int))) = true then (if 0 ≤ t27 ∧ t27 < 2 then (if ((gt [(gt row0 t19).1, (gt row0 t19).2] t27).isNone) = true then (some (Sum.inl (seats4, (IntKind.i64.wrap (t27 + (1 : Int)))))) else (((gt [(gt row0 t19).1, (gt row0 t19).2] t27)).bind fun n31 => (if (!((nth nd0 n31).2.1).isNone) = true then (((gt [(gt row0 t19).1, (gt row0 t19).2] t27)).bind fun n38 => (((nth nd0 n38).2.1).bind fun n45 => (f_soft_ranked.j1 nd0 row0 seats4 t19 t27 ((nth nd0 n45).2.2.2)))) else (f_soft_ranked.j1 nd0 row0 seats4 t19 t27 (0 : Int))))) else none) else (some (Sum.inr seats4)))
noncomputable def f_soft_ranked.s2 (nd0 : (List WayC)) (row0 : (List ((Option Nat) × (Option Nat)))) (t19 : Int) (s : ((List ((Option Nat) × (Option Nat))) × Int)) : Option (((List ((Option Nat) × (Option Nat))) × Int) ⊕ (List ((Option Nat) × (Option Nat)))) := f_soft_ranked.s2c nd0 row0 t19 s.1 s.2
noncomputable def f_soft_ranked.s1c (nd0 : (List WayC)) (row0 : (List ((Option Nat) × (Option Nat)))) (n1 : Int) (seats4 : (List ((Option Nat) × (Option Nat)))) (t19 : Int) : Option (((List ((Option Nat) × (Option Nat))) × Int) ⊕ (List ((Option Nat) × (Option Nat)))) := (if (decide (t19 < n1)) = true then (if 0 ≤ t19 ∧ t19 < (64 : Int) then ((loop (f_soft_ranked.s2 nd0 row0 t19) (seats4, (0 : Int))).bind (fun q52 => (some (Sum.inl (q52, (IntKind.i64.wrap (t19 + (1 : Int)))))))) else none) else (some (Sum.inr seats4)))
noncomputable def f_soft_ranked.s1 (nd0 : (List WayC)) (row0 : (List ((Option Nat) × (Option Nat)))) (n1 : Int) (s : ((List ((Option Nat) × (Option Nat))) × Int)) : Option (((List ((Option Nat) × (Option Nat))) × Int) ⊕ (List ((Option Nat) × (Option Nat)))) := f_soft_ranked.s1c nd0 row0 n1 s.1 s.2
noncomputable def f_soft_ranked.s4c (q53 : (List ((Option Nat) × (Option Nat)))) (t58 : Int) (nd : (List WayC)) (rank10 : Int) (t63 : Int) : Option (((List WayC) × Int × Int) ⊕ ((List WayC) × Int)) := (if (decide (t63 < (2 : Int))) = true then (if 0 ≤ t63 ∧ t63 < 2 then (if (!(gt [(gt q53 t58).1, (gt q53 t58).2] t63).isNone) = true then (((gt [(gt q53 t58).1, (gt q53 t58).2] t63)).bind fun n68 => (some (Sum.inl ((setR nd n68 rank10), (IntKind.i64.wrap (rank10 + (1 : Int))), (IntKind.i64.wrap (t63 + (1 : Int))))))) else (some (Sum.inl (nd, rank10, (IntKind.i64.wrap (t63 + (1 : Int))))))) else none) else (some (Sum.inr (nd, rank10))))
noncomputable def f_soft_ranked.s4 (q53 : (List ((Option Nat) × (Option Nat)))) (t58 : Int) (s : ((List WayC) × Int × Int)) : Option (((List WayC) × Int × Int) ⊕ ((List WayC) × Int)) := f_soft_ranked.s4c q53 t58 s.1 s.2.1 s.2.2
noncomputable def f_soft_ranked.s3c (q53 : (List ((Option Nat) × (Option Nat)))) (nd : (List WayC)) (rank10 : Int) (t58 : Int) : Option (((List WayC) × Int × Int) ⊕ (List WayC)) := (if (decide (t58 < (q53.length : Int))) = true then (if 0 ≤ t58 ∧ t58 < (q53.length : Int) then ((loop (f_soft_ranked.s4 q53 t58) (nd, rank10, (0 : Int))).bind (fun q70 => (some (Sum.inl (q70.1, q70.2, (IntKind.i64.wrap (t58 + (1 : Int)))))))) else none) else (some (Sum.inr nd)))
noncomputable def f_soft_ranked.s3 (q53 : (List ((Option Nat) × (Option Nat)))) (s : ((List WayC) × Int × Int)) : Option (((List WayC) × Int × Int) ⊕ (List WayC)) := f_soft_ranked.s3c q53 s.1 s.2.1 s.2.2
noncomputable def f_soft_ranked (nd0 : (List WayC)) (row0 : (List ((Option Nat) × (Option Nat)))) (n1 : Int) : Option (List WayC) := (if 0 ≤ (IntKind.i64.wrap ((2 : Int) * n1)) ∧ (IntKind.i64.wrap ((2 : Int) * n1)) ≤ (IntKind.i64.wrap ((2 : Int) * n1)) ∧ (IntKind.i64.wrap ((2 : Int) * n1)) * 16 ≤ 281474976710656 then ((loop (f_soft_ranked.s1 nd0 row0 n1) ((List.replicate ((IntKind.i64.wrap ((2 : Int) * n1))).toNat ((none : Option Nat), (none : Option Nat))), (0 : Int))).bind (fun q53 => ((loop (f_soft_ranked.s3 q53) (nd0, (0 : Int), (0 : Int))).bind (fun q71 => (some q71))))) else none)
theorem f_soft_ranked_c {S : Nat → Prop} {w0 w : World} {ow : List Res} (bs : List Nat) (nd0 : List WayC) (vrow0 : Value) (row0 : List ((Option Nat) × (Option Nat))) (hrow0 : RdS (Ek.pair (Ek.wp bs) (Ek.wp bs)) S w0 (aslv vrow0 64) row0) (n1 : Int) (hp : Hp S w0 w (Res.ar 76 bs nd0 :: ow)) {r : (List WayC)} (h : f_soft_ranked nd0 row0 n1 = some r) :
   Calls Tryz.prog 41 #[vrow0, .int .i64 n1] w (fun e w' => e = .returned (.tuple #[]) ∧ Hp S w0 w' (Res.ar 76 bs r :: ow)) := by
  unfold f_soft_ranked at h
  refine enx (n := 76) Tryz.func41 fun a hf => ?_
  refine wp_mono (Q := fun e a w => (e = .ret ∨ e = .normal) ∧ Fr 76 a [] ∧ Hp S w0 w (Res.ar 76 bs r :: ow)) ?_ ?_
  rotate_left
  ·
   rintro e a w ⟨rfl | rfl, hf, hp⟩
   · exact ret0 hf rfl ⟨rfl, hp⟩
   · exact ret0n hf rfl ⟨rfl, hp⟩
  refine go ?_; intro a hf
  obtain ⟨hc2, h⟩ := chk h
  refine st_make (E := (Ek.pair (Ek.wp bs) (Ek.wp bs))) hf (by decide) (elt71 bs) Tryz.underlying127 (by decide) hp rfl rfl rfl hc2.1 hc2.2.1 hc2.2.2 ?_
  clear hf; intro a w v3 hf hp0; clear hp; have hp := hp0; clear hp0
  replace hp : Hp _ _ _ (Res.sl (Ek.pair (Ek.wp bs) (Ek.wp bs)) 71 v3 (List.replicate ((IntKind.i64.wrap ((2 : Int) * n1))).toNat ((none : Option Nat), (none : Option Nat))) :: Res.ar 76 bs nd0 :: ow) := hp
  refine go ?_; intro a hf
  obtain ⟨q53, hl, h⟩ := bnd h
  refine wp_loop_pure (f := (f_soft_ranked.s1 nd0 row0 n1)) (s := ((List.replicate ((IntKind.i64.wrap ((2 : Int) * n1))).toNat ((none : Option Nat), (none : Option Nat))), (0 : Int))) (fun s a w => ∃ (v5 : Value), Fr 76 a [(0, vrow0), (4, v5), (18, .int .i64 n1), (19, .int .i64 s.2)] ∧ Hp S w0 w (Res.sl (Ek.pair (Ek.wp bs) (Ek.wp bs)) 71 v5 s.1 :: Res.ar 76 bs nd0 :: ow)) (fun q e a w => e = .exit 0 ∧ ∃ (v7 : Value), Fr 76 a [(4, v7)] ∧ Hp S w0 w (Res.sl (Ek.pair (Ek.wp bs) (Ek.wp bs)) 71 v7 q :: Res.ar 76 bs nd0 :: ow)) ?_ hl ⟨_, hf.sb, hp⟩ ?_
  ·
   clear hl hf hp
   intro s x a w h hI
   obtain ⟨seats4, t19⟩ := s
   obtain ⟨v5, hf, hp⟩ : ∃ (v5 : Value), Fr 76 a [(0, vrow0), (4, v5), (18, .int .i64 n1), (19, .int .i64 t19)] ∧ Hp S w0 w (Res.sl (Ek.pair (Ek.wp bs) (Ek.wp bs)) 71 v5 seats4 :: Res.ar 76 bs nd0 :: ow) := hI
   replace h : f_soft_ranked.s1c nd0 row0 n1 seats4 t19 = some x := h
   unfold f_soft_ranked.s1c at h
   refine go ?_; intro a hf
   refine wp_if hf rfl (fun hb => ?_) (fun hb => ?_)
   ·
    replace h := ifT h hb
    refine wp_skip ?_
    refine go ?_; intro a hf
    refine st_nilA (E := (Ek.pair (Ek.wp bs) (Ek.wp bs))) (N := 64) hf (by decide) rfl rfl (hrow0.sl hp) fun a _ hf => ?_
    obtain ⟨hc9, h⟩ := chk h
    refine st_iaA (E := (Ek.pair (Ek.wp bs) (Ek.wp bs))) (N := 64) hf (by decide) Tryz.underlying73 (by kernel_rfl) rfl rfl rfl (hrow0.sl hp) rfl hc9.1 hc9.2 fun a _ hf => ?_
    have hc10 := aslv_ix hrow0 hc9
    refine st_ldQA (F := (Ek.pair (Ek.wp bs) (Ek.wp bs))) (yv := (gt row0 t19)) (m := 2) hf (by decide) (by kernel_rfl) rfl rfl rfl (Part.whole (hrow0.sl hp) hc10.1 hc10.2) ?_
    clear hf; intro a cs11 hr12 ha hf; clear ha
    obtain ⟨_, _, rfl, ⟨v13, rfl, y14⟩, ⟨v15, rfl, y16⟩⟩ := hr12
    replace hf : Fr _ _ ((26, .agg #[v13, v15]) :: _) := hf
    refine go ?_; intro a hf
    obtain ⟨q52, hl, h⟩ := bnd h
    refine wp_loop_pure (f := (f_soft_ranked.s2 nd0 row0 t19)) (s := (seats4, (0 : Int))) (fun s a w => ∃ (v17 : Value), Fr 76 a [(0, vrow0), (4, v17), (18, .int .i64 n1), (19, .int .i64 t19), (26, .agg #[v13, v15]), (27, .int .i64 s.2)] ∧ Hp S w0 w (Res.sl (Ek.pair (Ek.wp bs) (Ek.wp bs)) 71 v17 s.1 :: Res.ar 76 bs nd0 :: ow)) (fun q e a w => e = .exit 2 ∧ ∃ (v19 : Value), Fr 76 a [(0, vrow0), (4, v19), (18, .int .i64 n1), (19, .int .i64 t19)] ∧ Hp S w0 w (Res.sl (Ek.pair (Ek.wp bs) (Ek.wp bs)) 71 v19 q :: Res.ar 76 bs nd0 :: ow)) ?_ hl ⟨_, hf.sb, hp⟩ ?_
    ·
     clear hl hf hp
     intro s x a w h hI
     obtain ⟨seats4, t27⟩ := s
     obtain ⟨v17, hf, hp⟩ : ∃ (v17 : Value), Fr 76 a [(0, vrow0), (4, v17), (18, .int .i64 n1), (19, .int .i64 t19), (26, .agg #[v13, v15]), (27, .int .i64 t27)] ∧ Hp S w0 w (Res.sl (Ek.pair (Ek.wp bs) (Ek.wp bs)) 71 v17 seats4 :: Res.ar 76 bs nd0 :: ow) := hI
     replace h : f_soft_ranked.s2c nd0 row0 t19 seats4 t27 = some x := h
     unfold f_soft_ranked.s2c at h
     refine go ?_; intro a hf
     refine wp_if hf rfl (fun hb => ?_) (fun hb => ?_)
     ·
      replace h := ifT h hb
      refine wp_skip ?_
      refine goT ?_
      obtain ⟨hc21, h⟩ := chk h
      refine st_idx2 hf (by decide) Tryz.underlying72 pl70 (by kernel_rfl) rfl rfl rfl hc21 fun a _ hf => ?_
      refine go ?_; intro a hf
      refine st_wnilE hf (by decide) Tryz.underlying70 rfl rfl rfl (WP.sel y14 y16 hc21) fun a _ hf => ?_
      refine goT ?_
      refine wp_if hf rfl (fun hb => ?_) (fun hb => ?_)
      ·
       replace h := ifT h hb
       refine wp_exit ?_
       refine th_e ?_
       refine ib_same ?_
       refine go ?_; intro a hf
       obtain rfl := oj h
       exact rnd_l ⟨_, hf.sb, hp⟩
      replace h := ifF h hb
      refine wp_skip ?_
      refine th_n ?_
      refine wp_seq ?_
      refine wp_reg ?_
      refine st_assign hf rfl rfl (by decide) fun a _ hf => ?_
      refine st_nil hf ?_
      refine th_n ?_
      refine wp_seq_cut (fun a w => ∃ (at8 : Int), f_soft_ranked.j1 nd0 row0 seats4 t19 t27 at8 = some x ∧ Fr 76 a [(0, vrow0), (4, v17), (7, (gtv [v13, v15] t27)), (8, .int .i64 at8), (18, .int .i64 n1), (19, .int .i64 t19), (26, .agg #[v13, v15]), (27, .int .i64 t27)] ∧ Hp S w0 w (Res.ar 76 bs nd0 :: Res.sl (Ek.pair (Ek.wp bs) (Ek.wp bs)) 71 v17 seats4 :: ow)) ?_ ?_
      ·
       refine go ?_; intro a hf
       obtain ⟨n31, hx32, h⟩ := bnd h
       refine st_nilE hf (by decide) rfl rfl (WP.ptr (WP.sel y14 y16 hc21) hx32) fun a _ hf => ?_
       refine st_faP (off := 1) (sz := 1) hf (by decide) (by kernel_rfl) (by decide) rfl rfl (WP.isP (WP.sel y14 y16 hc21) hx32) fun a _ hf => ?_
       obtain ⟨v33, bb34, y35, y36, ho37⟩ := RdA.at (hp.ara (i := 1) rfl) (WP.sel y14 y16 hc21) hx32
       refine st_ldO (u := v33) hf (by decide) pl70 rfl rfl ho37 rfl fun a _ hf => ?_
       refine st_wnilN hf (by decide) Tryz.underlying70 rfl rfl rfl y35 fun a _ hf => ?_
       refine goT ?_
       refine wp_if hf rfl (fun hb => ?_) (fun hb => ?_)
       ·
        replace h := ifT h hb
        refine go ?_; intro a hf
        obtain ⟨n38, hx39, h⟩ := bnd h
        refine st_nilE hf (by decide) rfl rfl (WP.ptr (WP.sel y14 y16 hc21) hx39) fun a _ hf => ?_
        refine st_faP (off := 1) (sz := 1) hf (by decide) (by kernel_rfl) (by decide) rfl rfl (WP.isP (WP.sel y14 y16 hc21) hx39) fun a _ hf => ?_
        obtain ⟨v40, bb41, y42, y43, ho44⟩ := RdA.at (hp.ara (i := 1) rfl) (WP.sel y14 y16 hc21) hx39
        refine st_ldO (u := v40) hf (by decide) pl70 rfl rfl ho44 rfl fun a _ hf => ?_
        obtain ⟨n45, hx46, h⟩ := bnd h
        refine st_nilE hf (by decide) rfl rfl (WP.ptr y42 hx46) fun a _ hf => ?_
        refine st_faP (off := 3) (sz := 1) hf (by decide) (by kernel_rfl) (by decide) rfl rfl (WP.isP y42 hx46) fun a _ hf => ?_
        obtain ⟨v47, bb48, y49, y50, ho51⟩ := RdA.at (hp.ara (i := 1) rfl) y42 hx46
        refine st_ldO (u := .int .i64 ((nth nd0 n45).2.2.2)) hf (by decide) pl3 rfl rfl ho51 rfl fun a _ hf => ?_
        have hp : Hp _ _ _ (_ :: Res.sl (Ek.pair (Ek.wp bs) (Ek.wp bs)) 71 v17 seats4 :: ow) := (hp.pk [1, 0] 2 :)
        refine go ?_; intro a hf
        exact ⟨_, h, hf.sb, hp⟩
       replace h := ifF h hb
       refine wp_skip ?_
       have hp : Hp _ _ _ (_ :: _ :: ow) := (hp.pk [1, 0] 2 :)
       refine th_n ?_
       exact ⟨_, h, hf.sb, hp⟩
      rintro a w ⟨at8, h, hf, hp⟩
      unfold f_soft_ranked.j1 at h
      refine wp_seq ?_
      refine wp_reg ?_
      refine st_assign hf rfl rfl (by decide) fun a _ hf => ?_
      refine st_nil hf ?_
      refine th_n ?_
      refine wp_seq_cut (fun a w => ∃ (k9 : Int), f_soft_ranked.j2 row0 seats4 t19 t27 at8 k9 = some x ∧ Fr 76 a [(0, vrow0), (4, v17), (7, (gtv [v13, v15] t27)), (8, .int .i64 at8), (9, .int .i64 k9), (18, .int .i64 n1), (19, .int .i64 t19), (26, .agg #[v13, v15]), (27, .int .i64 t27)] ∧ Hp S w0 w (Res.ar 76 bs nd0 :: Res.sl (Ek.pair (Ek.wp bs) (Ek.wp bs)) 71 v17 seats4 :: ow)) ?_ ?_
      ·
       refine go ?_; intro a hf
       obtain ⟨n24, hx25, h⟩ := bnd h
       refine st_nilE hf (by decide) rfl rfl (WP.ptr (WP.sel y14 y16 hc21) hx25) fun a _ hf => ?_
       refine st_faP (off := 0) (sz := 1) hf (by decide) (by kernel_rfl) (by decide) rfl rfl (WP.isP (WP.sel y14 y16 hc21) hx25) fun a _ hf => ?_
       obtain ⟨v26, bb27, y28, y29, ho30⟩ := RdA.at (hp.ara (i := 0) rfl) (WP.sel y14 y16 hc21) hx25
       refine st_ldO (u := .bool ((nth nd0 n24).1)) hf (by decide) pl4 rfl rfl ho30 rfl fun a _ hf => ?_
       refine goT ?_
       refine wp_if hf rfl (fun hb => ?_) (fun hb => ?_)
       ·
        replace h := ifT h hb
        refine go ?_; intro a hf
        exact ⟨_, h, hf.sb, hp⟩
       replace h := ifF h hb
       refine wp_skip ?_
       refine th_n ?_
       exact ⟨_, h, hf.sb, hp⟩
      rintro a w ⟨k9, h, hf, hp⟩
      unfold f_soft_ranked.j2 at h
      refine go ?_; intro a hf
      obtain ⟨hc22, h⟩ := chk h
      refine st_index (E := (Ek.pair (Ek.wp bs) (Ek.wp bs))) hf (by decide) Tryz.underlying127 (elt71 bs) rfl rfl rfl (hp.sl (i := 1) rfl) hc22.1 hc22.2 fun a _ hf => ?_
      obtain ⟨hc23, h⟩ := chk h
      refine st_iaP (sz := 1) hf (by decide) Tryz.underlying71 (by kernel_rfl) rfl rfl rfl (Sl.isP (hp.sl (i := 1) rfl) hc22.1 hc22.2) hc23.1 hc23.2 fun a _ hf => ?_
      refine st_stQ (E := (Ek.pair (Ek.wp bs) (Ek.wp bs))) (F := (Ek.wp bs)) (o := (k9).toNat * 1) (Sub.two (F := (Ek.wp bs)) hc23) hf (by kernel_rfl) hp (i := 1) rfl rfl rfl rfl (wp_cells (WP.sel y14 y16 hc21)) hc22.1 hc22.2 ?_
      clear hf; intro a w hf hp0; clear hp; have hp := hp0; clear hp0
      replace hp : Hp _ _ _ (_ :: Res.sl (Ek.pair (Ek.wp bs) (Ek.wp bs)) 71 v17 (seats4.set (at8).toNat (pput (gt seats4 at8) k9 (gt [(gt row0 t19).1, (gt row0 t19).2] t27))) :: ow) := hp
      refine go ?_; intro a hf
      obtain rfl := oj h
      have hp : Hp _ _ _ (_ :: _ :: ow) := (hp.pk [1, 0] 2 :)
      exact rnd_l ⟨_, hf.sb, hp⟩
     replace h := ifF h hb
     refine wp_exit ?_
     refine th_e ?_
     obtain rfl := oj h
     exact rnd_r (by simp) ⟨rfl, _, hf.sb, hp⟩
    clear hl hf hp
    intro e a w hne hO
    obtain ⟨rfl, v19, hf, hp⟩ := hO
    refine ib_same ?_
    refine go ?_; intro a hf
    obtain rfl := oj h
    exact rnd_l ⟨_, hf.sb, hp⟩
   replace h := ifF h hb
   refine wp_exit ?_
   refine th_e ?_
   obtain rfl := oj h
   exact rnd_r (by simp) ⟨rfl, _, hf.sb, hp⟩
  clear hl hf hp
  intro e a w hne hO
  obtain ⟨rfl, v7, hf, hp⟩ := hO
  refine ib_same ?_
  refine go ?_; intro a hf
  refine st_len (E := (Ek.pair (Ek.wp bs) (Ek.wp bs))) hf (by decide) Tryz.underlying127 rfl rfl (hp.sl (i := 0) rfl) fun a _ hf => ?_
  refine go ?_; intro a hf
  obtain ⟨q71, hl, h⟩ := bnd h
  have hp : Hp _ _ _ (_ :: Res.sl (Ek.pair (Ek.wp bs) (Ek.wp bs)) 71 v7 q53 :: ow) := (hp.pk [1, 0] 2 :)
  refine wp_loop_pure (f := (f_soft_ranked.s3 q53)) (s := (nd0, (0 : Int), (0 : Int))) (fun s a w => Fr 76 a [(10, .int .i64 s.2.1), (56, v7), (57, .int .i64 (q53.length : Int)), (58, .int .i64 s.2.2)] ∧ Hp S w0 w (Res.ar 76 bs s.1 :: Res.sl (Ek.pair (Ek.wp bs) (Ek.wp bs)) 71 v7 q53 :: ow)) (fun q e a w => e = .exit 4 ∧ Fr 76 a [] ∧ Hp S w0 w (Res.ar 76 bs q :: ow)) ?_ hl ⟨hf.sb, hp⟩ ?_
  ·
   clear hl hf hp
   intro s x a w h hI
   obtain ⟨nd, rank10, t58⟩ := s
   obtain ⟨hf, hp⟩ : Fr 76 a [(10, .int .i64 rank10), (56, v7), (57, .int .i64 (q53.length : Int)), (58, .int .i64 t58)] ∧ Hp S w0 w (Res.ar 76 bs nd :: Res.sl (Ek.pair (Ek.wp bs) (Ek.wp bs)) 71 v7 q53 :: ow) := hI
   replace h : f_soft_ranked.s3c q53 nd rank10 t58 = some x := h
   unfold f_soft_ranked.s3c at h
   refine go ?_; intro a hf
   refine wp_if hf rfl (fun hb => ?_) (fun hb => ?_)
   ·
    replace h := ifT h hb
    refine wp_skip ?_
    refine goT ?_
    obtain ⟨hc56, h⟩ := chk h
    refine st_index (E := (Ek.pair (Ek.wp bs) (Ek.wp bs))) hf (by decide) Tryz.underlying127 (elt71 bs) rfl rfl rfl (hp.sl (i := 1) rfl) hc56.1 hc56.2 fun a _ hf => ?_
    refine st_ldQA (F := (Ek.pair (Ek.wp bs) (Ek.wp bs))) (yv := (gt q53 t58)) (m := 2) hf (by decide) (by kernel_rfl) rfl rfl rfl (Part.whole (hp.sl (i := 1) rfl) hc56.1 hc56.2) ?_
    clear hf; intro a cs57 hr58 ha hf; clear ha
    obtain ⟨_, _, rfl, ⟨v59, rfl, y60⟩, ⟨v61, rfl, y62⟩⟩ := hr58
    replace hf : Fr _ _ ((61, .agg #[v59, v61]) :: _) := hf
    refine st_alloc (cs := [.pointer none, .pointer none]) (zv := .agg #[.pointer none, .pointer none]) hf (by decide) (by kernel_rfl) rfl hp rfl ?_
    clear hf; intro a w v63 hf hp0; clear hp; have hp := hp0; clear hp0
    replace hp : Hp _ _ _ (Res.obj 71 v63 [.pointer none, .pointer none] :: Res.ar 76 bs nd :: _ :: ow) := hp
    refine st_stO (us := [v59, v61]) hf hp (i := 0) rfl rfl rfl rfl rfl (wp_ones y60 y62) (by kernel_rfl) (Nat.le_of_ble_eq_true rfl) ?_
    clear hf; intro a w hf hp0; clear hp; have hp := hp0; clear hp0
    replace hp : Hp _ _ _ (Res.obj 71 v63 [v59, v61] :: _ :: _ :: ow) := hp
    refine goT ?_
    refine st_ldOA (m := 2) (us := [v59, v61]) hf (by decide) (by kernel_rfl) rfl rfl (hp.ob (i := 0) rfl) rfl rfl fun a _ hf => ?_
    refine go ?_; intro a hf
    obtain ⟨q70, hl, h⟩ := bnd h
    have hp : Hp _ _ _ (_ :: _ :: ow) := (hp.pk [1, 2] 3 :)
    refine wp_loop_pure (f := (f_soft_ranked.s4 q53 t58)) (s := (nd, rank10, (0 : Int))) (fun s a w => Fr 76 a [(10, .int .i64 s.2.1), (56, v7), (57, .int .i64 (q53.length : Int)), (58, .int .i64 t58), (62, .agg #[v59, v61]), (63, .int .i64 s.2.2)] ∧ Hp S w0 w (Res.ar 76 bs s.1 :: Res.sl (Ek.pair (Ek.wp bs) (Ek.wp bs)) 71 v7 q53 :: ow)) (fun q e a w => e = .exit 6 ∧ Fr 76 a [(10, .int .i64 q.2), (56, v7), (57, .int .i64 (q53.length : Int)), (58, .int .i64 t58)] ∧ Hp S w0 w (Res.ar 76 bs q.1 :: Res.sl (Ek.pair (Ek.wp bs) (Ek.wp bs)) 71 v7 q53 :: ow)) ?_ hl ⟨hf.sb, hp⟩ ?_
    ·
     clear hl hf hp
     intro s x a w h hI
     obtain ⟨nd, rank10, t63⟩ := s
     obtain ⟨hf, hp⟩ : Fr 76 a [(10, .int .i64 rank10), (56, v7), (57, .int .i64 (q53.length : Int)), (58, .int .i64 t58), (62, .agg #[v59, v61]), (63, .int .i64 t63)] ∧ Hp S w0 w (Res.ar 76 bs nd :: Res.sl (Ek.pair (Ek.wp bs) (Ek.wp bs)) 71 v7 q53 :: ow) := hI
     replace h : f_soft_ranked.s4c q53 t58 nd rank10 t63 = some x := h
     unfold f_soft_ranked.s4c at h
     refine go ?_; intro a hf
     refine wp_if hf rfl (fun hb => ?_) (fun hb => ?_)
     ·
      replace h := ifT h hb
      refine wp_skip ?_
      refine goT ?_
      obtain ⟨hc67, h⟩ := chk h
      refine st_idx2 hf (by decide) Tryz.underlying71 pl70 (by kernel_rfl) rfl rfl rfl hc67 fun a _ hf => ?_
      refine go ?_; intro a hf
      refine st_wnilN hf (by decide) Tryz.underlying70 rfl rfl rfl (WP.sel y60 y62 hc67) fun a _ hf => ?_
      refine goT ?_
      refine wp_if hf rfl (fun hb => ?_) (fun hb => ?_)
      ·
       replace h := ifT h hb
       refine go ?_; intro a hf
       obtain ⟨n68, hx69, h⟩ := bnd h
       refine st_nilE hf (by decide) rfl rfl (WP.ptr (WP.sel y60 y62 hc67) hx69) fun a _ hf => ?_
       refine st_faP (off := 3) (sz := 1) hf (by decide) (by kernel_rfl) (by decide) rfl rfl (WP.isP (WP.sel y60 y62 hc67) hx69) fun a _ hf => ?_
       refine st_stRank hf hp (m := 0) rfl (WP.sel y60 y62 hc67) hx69 (by kernel_rfl) rfl rfl rfl ?_
       clear hf; intro a w hf hp0; clear hp; have hp := hp0; clear hp0
       replace hp : Hp _ _ _ (Res.ar 76 bs (setR nd n68 rank10) :: _ :: ow) := hp
       refine go ?_; intro a hf
       obtain rfl := oj h
       exact rnd_l ⟨hf.sb, hp⟩
      replace h := ifF h hb
      refine wp_skip ?_
      refine go ?_; intro a hf
      obtain rfl := oj h
      exact rnd_l ⟨hf.sb, hp⟩
     replace h := ifF h hb
     refine wp_exit ?_
     refine th_e ?_
     obtain rfl := oj h
     exact rnd_r (by simp) ⟨rfl, hf.sb, hp⟩
    clear hl hf hp
    intro e a w hne hO
    obtain ⟨rfl, hf, hp⟩ := hO
    refine ib_same ?_
    refine go ?_; intro a hf
    obtain rfl := oj h
    exact rnd_l ⟨hf.sb, hp⟩
   replace h := ifF h hb
   refine wp_exit ?_
   refine th_e ?_
   obtain rfl := oj h
   have hp : Hp _ _ _ (Res.ar 76 bs nd :: ow) := (hp.pk [0] 2 :)
   exact rnd_r (by simp) ⟨rfl, hf.sub trivial, hp⟩
  clear hl hf hp
  intro e a w hne hO
  obtain ⟨rfl, hf, hp⟩ := hO
  refine ib_same ?_
  obtain rfl := oj h
  exact ⟨(.inr rfl), ⟨hf.sub trivial, hp⟩⟩

noncomputable def f_soft_run.s4c (cL : Int) (cO : Int) (cT : Int) (l1 : (List ((Fl × Fl) × Bool))) (last2 : Int) (now10 : (List ((Option Nat) × (Option Nat)))) (t34 : Int) (t40 : Int) (t46 : Int) (nd : (List WayC)) (then13 : (List ((Option Nat) × (Option Nat)))) (t53 : Int) : Option (((List WayC) × (List ((Option Nat) × (Option Nat))) × Int) ⊕ ((List WayC) × (List ((Option Nat) × (Option Nat))))) := (if (decide (t53 < (([false, true]).length : Int))) = true then (if 0 ≤ t53 ∧ t53 < (([false, true]).length : Int) then (if ((gt ([false, true]) t53) && (decide ((IntKind.i64.wrap ((l1.length : Int) - last2)) ≤ t34))) = true then (some (Sum.inl (nd, then13, (IntKind.i64.wrap (t53 + (1 : Int)))))) else ((f_trellis_Code_Step cL cO cT t40 (gt ([false, true]) t53)).bind fun q72 => (if 0 ≤ q72.1 ∧ q72.1 < (64 : Int) then (((gt [(gt now10 t40).1, (gt now10 t40).2] t46)).bind fun n90 => ((f_soft_cost q72.2.1 q72.2.2.1 ((gt l1 t34).1) ((gt l1 t34).2)).bind fun q97 => ((f_soft_two_put (nd ++ [((gt ([false, true]) t53), (gt [(gt now10 t40).1, (gt now10 t40).2] t46), (fadd ((nth nd n90).2.2.1) q97), (0 : Int))]) then13 q72.1 (some (nd).length)).bind fun q106 => (some (Sum.inl ((nd ++ [((gt ([false, true]) t53), (gt [(gt now10 t40).1, (gt now10 t40).2] t46), (fadd ((nth nd n90).2.2.1) q97), (0 : Int))]), q106, (IntKind.i64.wrap (t53 + (1 : Int))))))))) else none))) else none) else (some (Sum.inr (nd, then13))))
noncomputable def f_soft_run.s4 (cL : Int) (cO : Int) (cT : Int) (l1 : (List ((Fl × Fl) × Bool))) (last2 : Int) (now10 : (List ((Option Nat) × (Option Nat)))) (t34 : Int) (t40 : Int) (t46 : Int) (s : ((List WayC) × (List ((Option Nat) × (Option Nat))) × Int)) : Option (((List WayC) × (List ((Option Nat) × (Option Nat))) × Int) ⊕ ((List WayC) × (List ((Option Nat) × (Option Nat))))) := f_soft_run.s4c cL cO cT l1 last2 now10 t34 t40 t46 s.1 s.2.1 s.2.2
noncomputable def f_soft_run.s3c (cL : Int) (cO : Int) (cT : Int) (l1 : (List ((Fl × Fl) × Bool))) (last2 : Int) (now10 : (List ((Option Nat) × (Option Nat)))) (t34 : Int) (t40 : Int) (nd : (List WayC)) (then13 : (List ((Option Nat) × (Option Nat)))) (t46 : Int) : Option (((List WayC) × (List ((Option Nat) × (Option Nat))) × Int) ⊕ ((List WayC) × (List ((Option Nat) × (Option Nat))))) := (if (decide (t46 < (2 : Int))) = true then (if 0 ≤ t46 ∧ t46 < 2 then (if ((gt [(gt now10 t40).1, (gt now10 t40).2] t46).isNone) = true then (some (Sum.inl (nd, then13, (IntKind.i64.wrap (t46 + (1 : Int)))))) else ((loop (f_soft_run.s4 cL cO cT l1 last2 now10 t34 t40 t46) (nd, then13, (0 : Int))).bind (fun q114 => (some (Sum.inl (q114.1, q114.2, (IntKind.i64.wrap (t46 + (1 : Int))))))))) else none) else (some (Sum.inr (nd, then13))))
noncomputable def f_soft_run.s3 (cL : Int) (cO : Int) (cT : Int) (l1 : (List ((Fl × Fl) × Bool))) (last2 : Int) (now10 : (List ((Option Nat) × (Option Nat)))) (t34 : Int) (t40 : Int) (s : ((List WayC) × (List ((Option Nat) × (Option Nat))) × Int)) : Option (((List WayC) × (List ((Option Nat) × (Option Nat))) × Int) ⊕ ((List WayC) × (List ((Option Nat) × (Option Nat))))) := f_soft_run.s3c cL cO cT l1 last2 now10 t34 t40 s.1 s.2.1 s.2.2
noncomputable def f_soft_run.s2c (cL : Int) (cO : Int) (cT : Int) (l1 : (List ((Fl × Fl) × Bool))) (last2 : Int) (q5 : (Int × Int)) (now10 : (List ((Option Nat) × (Option Nat)))) (t34 : Int) (nd : (List WayC)) (then13 : (List ((Option Nat) × (Option Nat)))) (t40 : Int) : Option (((List WayC) × (List ((Option Nat) × (Option Nat))) × Int) ⊕ ((List WayC) × (List ((Option Nat) × (Option Nat))))) := (if (decide (t40 < q5.1)) = true then (if 0 ≤ t40 ∧ t40 < (64 : Int) then ((loop (f_soft_run.s3 cL cO cT l1 last2 now10 t34 t40) (nd, then13, (0 : Int))).bind (fun q115 => (some (Sum.inl (q115.1, q115.2, (IntKind.i64.wrap (t40 + (1 : Int)))))))) else none) else (some (Sum.inr (nd, then13))))
noncomputable def f_soft_run.s2 (cL : Int) (cO : Int) (cT : Int) (l1 : (List ((Fl × Fl) × Bool))) (last2 : Int) (q5 : (Int × Int)) (now10 : (List ((Option Nat) × (Option Nat)))) (t34 : Int) (s : ((List WayC) × (List ((Option Nat) × (Option Nat))) × Int)) : Option (((List WayC) × (List ((Option Nat) × (Option Nat))) × Int) ⊕ ((List WayC) × (List ((Option Nat) × (Option Nat))))) := f_soft_run.s2c cL cO cT l1 last2 q5 now10 t34 s.1 s.2.1 s.2.2
noncomputable def f_soft_run.s1c (cL : Int) (cO : Int) (cT : Int) (l1 : (List ((Fl × Fl) × Bool))) (last2 : Int) (q5 : (Int × Int)) (nd : (List WayC)) (now10 : (List ((Option Nat) × (Option Nat)))) (t34 : Int) : Option (((List WayC) × (List ((Option Nat) × (Option Nat))) × Int) ⊕ ((List WayC) × (List ((Option Nat) × (Option Nat))))) := (if (decide (t34 < (l1.length : Int))) = true then (if 0 ≤ t34 ∧ t34 < (l1.length : Int) then ((loop (f_soft_run.s2 cL cO cT l1 last2 q5 now10 t34) (nd, (List.replicate 64 ((none : Option Nat), (none : Option Nat))), (0 : Int))).bind (fun q116 => ((f_soft_ranked q116.1 q116.2 q5.1).bind fun q117 => (some (Sum.inl (q117, q116.2, (IntKind.i64.wrap (t34 + (1 : Int))))))))) else none) else (some (Sum.inr (nd, now10))))
noncomputable def f_soft_run.s1 (cL : Int) (cO : Int) (cT : Int) (l1 : (List ((Fl × Fl) × Bool))) (last2 : Int) (q5 : (Int × Int)) (s : ((List WayC) × (List ((Option Nat) × (Option Nat))) × Int)) : Option (((List WayC) × (List ((Option Nat) × (Option Nat))) × Int) ⊕ ((List WayC) × (List ((Option Nat) × (Option Nat))))) := f_soft_run.s1c cL cO cT l1 last2 q5 s.1 s.2.1 s.2.2
noncomputable def f_soft_run (cL : Int) (cO : Int) (cT : Int) (l1 : (List ((Fl × Fl) × Bool))) (last2 : Int) : Option ((List ((Option Nat) × (Option Nat))) × (List WayC)) := ((f_trellis_Code_States cL cO cT).bind fun q5 => ((loop (f_soft_run.s1 cL cO cT l1 last2 q5) ((([] : List WayC) ++ [(false, none, (Fl.bits 0), (0 : Int))]), ((List.replicate 64 ((none : Option Nat), (none : Option Nat))).set ((0 : Int)).toNat ((some (([] : List WayC)).length), (gt (List.replicate 64 ((none : Option Nat), (none : Option Nat))) (0 : Int)).2)), (0 : Int))).bind (fun q128 => (some (q128.2, q128.1)))))
theorem f_soft_run_c {S : Nat → Prop} {w0 w : World} {ow : List Res} (hp : Hp S w0 w ow) (cL : Int) (cO : Int) (cT : Int) (vl1 : Value) (l1 : (List ((Fl × Fl) × Bool))) (hl1 : RdS (Ek.pair Ek.c128 Ek.bool) S w0 vl1 l1) (last2 : Int) {r : ((List ((Option Nat) × (Option Nat))) × (List WayC))} (h : f_soft_run cL cO cT l1 last2 = some r) :
   Calls Tryz.prog 23 #[.agg #[.int .i64 cL, .int .u32 cO, .int .u32 cT], vl1, .int .i64 last2] w (fun e w' => ∃ (u0 : List Nat) (u1 : List Value), e = .returned (.agg (u1).toArray) ∧ Ek.reps (Ek.pair (Ek.wp u0) (Ek.wp u0)) u1 r.1 ∧ List.length r.1 = 64 ∧ Hp S w0 w' (Res.ar 76 u0 r.2 :: ow)) := by
  unfold f_soft_run at h
  refine enx (n := 100) Tryz.func23 fun a hf => ?_
  refine wp_mono (Q := fun e a w => e = .ret ∧ ∃ (u0 : List Nat) (c0 : Value), Fr 100 a [(6, c0)] ∧ Hp S w0 w (Res.sl (Ek.pair (Ek.wp u0) (Ek.wp u0)) 73 (aslv c0 64) r.1 :: Res.ar 76 u0 r.2 :: ow)) ?_ ?_
  rotate_left
  ·
   rintro e a w ⟨rfl, u0, c0, hf, hp⟩
   exact retArr1 (E := (Ek.pair (Ek.wp u0) (Ek.wp u0))) (N := 64) (m := 128) hf rfl rfl (by kernel_rfl) rfl (by decide) (hp.sl (i := 0) rfl) fun cs hr hl => ⟨u0, cs, rfl, hr, hl, hp.drop⟩
  refine goT ?_
  refine st_boxO (cs := [.int .i64 cL, .int .u32 cO, .int .u32 cT]) hf (by decide) hp rfl rfl rfl ?_
  clear hf; intro a w v1 hf hp0; clear hp; have hp := hp0; clear hp0
  replace hp : Hp _ _ _ (Res.obj 27 v1 [.int .i64 cL, .int .u32 cO, .int .u32 cT] :: ow) := hp
  refine st_allocA (E := (Ek.pair (Ek.wp ([] : List Nat)) (Ek.wp ([] : List Nat)))) (N := 64) (zs := List.replicate 64 ((none : Option Nat), (none : Option Nat))) (zv := .agg ((List.replicate 64 ([.pointer none, .pointer none] : List Value)).flatten).toArray) hf (by decide) (by decide) (by decide) (by kernel_rfl) (reps_replicate (E := (Ek.pair (Ek.wp ([] : List Nat)) (Ek.wp ([] : List Nat)))) (vs := ([.pointer none, .pointer none] : List Value)) (x := ((none : Option Nat), (none : Option Nat))) ⟨[.pointer none], [.pointer none], rfl, ⟨_, rfl, WP.nil _⟩, ⟨_, rfl, WP.nil _⟩⟩ 64) (by simp) hp rfl ?_
  clear hf; intro a w v3 hf hp0; clear hp; have hp := hp0; clear hp0
  replace hp : Hp _ _ _ (Res.sl (Ek.pair (Ek.wp ([] : List Nat)) (Ek.wp ([] : List Nat))) 73 (aslv v3 64) (List.replicate 64 ((none : Option Nat), (none : Option Nat))) :: _ :: ow) := hp
  refine goT ?_
  refine st_ldOA (m := 3) (us := [.int .i64 cL, .int .u32 cO, .int .u32 cT]) hf (by decide) (by kernel_rfl) rfl rfl (hp.ob (i := 1) rfl) rfl rfl fun a _ hf => ?_
  obtain ⟨q5, hcall6, h⟩ := bnd h
  refine st_call hf (by decide) Tryz.func38 rfl rfl rfl rfl rfl (f_trellis_Code_States_c hp _ _ _ hcall6) ?_
  rintro _ w ⟨rfl, hp⟩
  replace hp : Hp _ _ _ (_ :: _ :: ow) := hp
  refine ⟨_, rfl, fun a hf => ?_⟩
  refine go ?_; intro a hf
  refine st_allocA (E := (Ek.pair (Ek.wp ([] : List Nat)) (Ek.wp ([] : List Nat)))) (N := 64) (zs := List.replicate 64 ((none : Option Nat), (none : Option Nat))) (zv := .agg ((List.replicate 64 ([.pointer none, .pointer none] : List Value)).flatten).toArray) hf (by decide) (by decide) (by decide) (by kernel_rfl) (reps_replicate (E := (Ek.pair (Ek.wp ([] : List Nat)) (Ek.wp ([] : List Nat)))) (vs := ([.pointer none, .pointer none] : List Value)) (x := ((none : Option Nat), (none : Option Nat))) ⟨[.pointer none], [.pointer none], rfl, ⟨_, rfl, WP.nil _⟩, ⟨_, rfl, WP.nil _⟩⟩ 64) (by simp) hp rfl ?_
  clear hf; intro a w v7 hf hp0; clear hp; have hp := hp0; clear hp0
  replace hp : Hp _ _ _ (Res.sl (Ek.pair (Ek.wp ([] : List Nat)) (Ek.wp ([] : List Nat))) 73 (aslv v7 64) (List.replicate 64 ((none : Option Nat), (none : Option Nat))) :: _ :: _ :: ow) := hp
  refine goT ?_
  refine st_buildA (vals := []) (cells := [.bool false, .pointer none, .float .f64 0, .int .i64 (0 : Int)]) hf (by decide) rfl (by simp []) (fun w => by kernel_rfl) fun a _ hf => ?_
  have hp := hp.arNil 76
  refine st_boxW (ah := none) (co := (Fl.bits 0)) hf (by decide) hp rfl rfl (WP.nil _) rfl ?_
  clear hf; intro a w v10 k11 y12 hf hp0; clear hp; have hp := hp0; clear hp0
  replace hp : Hp _ _ _ (Res.ar 76 (([] : List Nat) ++ [k11]) (([] : List WayC) ++ [(false, none, (Fl.bits 0), (0 : Int))]) :: Res.sl (Ek.pair (Ek.wp (([] : List Nat) ++ [k11])) (Ek.wp (([] : List Nat) ++ [k11]))) 73 (aslv v7 64) (List.replicate 64 ((none : Option Nat), (none : Option Nat))) :: Res.sl (Ek.pair (Ek.wp (([] : List Nat) ++ [k11])) (Ek.wp (([] : List Nat) ++ [k11]))) 73 (aslv v3 64) (List.replicate 64 ((none : Option Nat), (none : Option Nat))) :: _ :: ow) := hp.impL (ImpL.same (ImpL.slx rfl (pair_up (wp_up _) (wp_up _)) (ImpL.slx rfl (pair_up (wp_up _) (wp_up _)) (ImpL.same (ImpL.refl ow)))))
  have hc13 : 0 ≤ (0 : Int) ∧ (0 : Int) < (64 : Int) := by decide
  refine st_iaA (E := (Ek.pair (Ek.wp (([] : List Nat) ++ [k11])) (Ek.wp (([] : List Nat) ++ [k11])))) (N := 64) hf (by decide) Tryz.underlying73 (by kernel_rfl) rfl rfl rfl (hp.sl (i := 1) rfl) rfl hc13.1 hc13.2 fun a _ hf => ?_
  have hc15 : 0 ≤ (0 : Int) ∧ (0 : Int) < (2 : Int) := by decide
  refine st_iaP (sz := 1) hf (by decide) Tryz.underlying72 (by kernel_rfl) rfl rfl rfl (Sl.isP (hp.sl (i := 1) rfl) (aslv_ix (hp.sl (i := 1) rfl) hc13).1 (aslv_ix (hp.sl (i := 1) rfl) hc13).2) hc15.1 hc15.2 fun a _ hf => ?_
  refine st_stQ (E := (Ek.pair (Ek.wp (([] : List Nat) ++ [k11])) (Ek.wp (([] : List Nat) ++ [k11])))) (F := (Ek.wp (([] : List Nat) ++ [k11]))) (o := ((0 : Int)).toNat * 1) (Sub.fst (E := (Ek.wp (([] : List Nat) ++ [k11]))) (F := (Ek.wp (([] : List Nat) ++ [k11])))) hf (by kernel_rfl) hp (i := 1) rfl rfl rfl rfl (wp_cells y12) (aslv_ix (hp.sl (i := 1) rfl) hc13).1 (aslv_ix (hp.sl (i := 1) rfl) hc13).2 ?_
  clear hf; intro a w hf hp0; clear hp; have hp := hp0; clear hp0
  replace hp : Hp _ _ _ (_ :: Res.sl (Ek.pair (Ek.wp (([] : List Nat) ++ [k11])) (Ek.wp (([] : List Nat) ++ [k11]))) 73 (aslv v7 64) ((List.replicate 64 ((none : Option Nat), (none : Option Nat))).set ((0 : Int)).toNat ((some (([] : List WayC)).length), (gt (List.replicate 64 ((none : Option Nat), (none : Option Nat))) (0 : Int)).2)) :: _ :: _ :: ow) := hp
  refine go ?_; intro a hf
  refine st_len (E := (Ek.pair Ek.c128 Ek.bool)) hf (by decide) Tryz.underlying33 rfl rfl (hl1.sl hp) fun a _ hf => ?_
  refine go ?_; intro a hf
  obtain ⟨q128, hl, h⟩ := bnd h
  have hp : Hp _ _ _ (_ :: _ :: _ :: _ :: ow) := (hp.pk [0, 1, 3, 2] 4 :)
  refine wp_loop_pure (f := (f_soft_run.s1 cL cO cT l1 last2 q5)) (s := ((([] : List WayC) ++ [(false, none, (Fl.bits 0), (0 : Int))]), ((List.replicate 64 ((none : Option Nat), (none : Option Nat))).set ((0 : Int)).toNat ((some (([] : List WayC)).length), (gt (List.replicate 64 ((none : Option Nat), (none : Option Nat))) (0 : Int)).2)), (0 : Int))) (fun s a w => ∃ (bs17 : List Nat), Fr 100 a [(1, vl1), (2, .int .i64 last2), (3, optr v1 0), (6, v3), (7, .int .i64 q5.1), (9, .func (.func 39) #[] #[]), (10, v7), (32, vl1), (33, .int .i64 (l1.length : Int)), (34, .int .i64 s.2.2)] ∧ Hp S w0 w (Res.ar 76 bs17 s.1 :: Res.sl (Ek.pair (Ek.wp bs17) (Ek.wp bs17)) 73 (aslv v7 64) s.2.1 :: Res.obj 27 v1 [.int .i64 cL, .int .u32 cO, .int .u32 cT] :: Res.sl (Ek.pair (Ek.wp bs17) (Ek.wp bs17)) 73 (aslv v3 64) (List.replicate 64 ((none : Option Nat), (none : Option Nat))) :: ow)) (fun q e a w => e = .exit 0 ∧ ∃ (bs20 : List Nat), Fr 100 a [(6, v3), (10, v7)] ∧ Hp S w0 w (Res.ar 76 bs20 q.1 :: Res.sl (Ek.pair (Ek.wp bs20) (Ek.wp bs20)) 73 (aslv v7 64) q.2 :: Res.sl (Ek.pair (Ek.wp bs20) (Ek.wp bs20)) 73 (aslv v3 64) (List.replicate 64 ((none : Option Nat), (none : Option Nat))) :: ow)) ?_ hl ⟨_, hf.sb, hp⟩ ?_
  ·
   clear hl hf hp
   intro s x a w h hI
   obtain ⟨nd, now10, t34⟩ := s
   obtain ⟨bs17, hf, hp⟩ : ∃ (bs17 : List Nat), Fr 100 a [(1, vl1), (2, .int .i64 last2), (3, optr v1 0), (6, v3), (7, .int .i64 q5.1), (9, .func (.func 39) #[] #[]), (10, v7), (32, vl1), (33, .int .i64 (l1.length : Int)), (34, .int .i64 t34)] ∧ Hp S w0 w (Res.ar 76 bs17 nd :: Res.sl (Ek.pair (Ek.wp bs17) (Ek.wp bs17)) 73 (aslv v7 64) now10 :: Res.obj 27 v1 [.int .i64 cL, .int .u32 cO, .int .u32 cT] :: Res.sl (Ek.pair (Ek.wp bs17) (Ek.wp bs17)) 73 (aslv v3 64) (List.replicate 64 ((none : Option Nat), (none : Option Nat))) :: ow) := hI
   replace h : f_soft_run.s1c cL cO cT l1 last2 q5 nd now10 t34 = some x := h
   unfold f_soft_run.s1c at h
   refine go ?_; intro a hf
   refine wp_if hf rfl (fun hb => ?_) (fun hb => ?_)
   ·
    replace h := ifT h hb
    refine wp_skip ?_
    refine go ?_; intro a hf
    obtain ⟨hc22, h⟩ := chk h
    refine st_index (E := (Ek.pair Ek.c128 Ek.bool)) hf (by decide) Tryz.underlying33 elt37 rfl rfl rfl (hl1.sl hp) hc22.1 hc22.2 fun a _ hf => ?_
    refine st_ldQA (F := (Ek.pair Ek.c128 Ek.bool)) (yv := (gt l1 t34)) (m := 2) hf (by decide) (by kernel_rfl) rfl rfl rfl (Part.whole (hl1.sl hp) hc22.1 hc22.2) ?_
    clear hf; intro a cs23 hr24 ha hf; clear ha
    obtain ⟨_, _, rfl, ⟨bb25, bb26, rfl, y27, y28⟩, rfl⟩ := hr24
    replace hf : Fr _ _ ((38, .agg #[.complex .f64 bb25 bb26, .bool ((gt l1 t34).2)]) :: _) := hf
    refine st_alloc (cs := [.complex .f64 0 0, .bool false]) (zv := .agg #[.complex .f64 0 0, .bool false]) hf (by decide) (by kernel_rfl) rfl hp rfl ?_
    clear hf; intro a w v29 hf hp0; clear hp; have hp := hp0; clear hp0
    replace hp : Hp _ _ _ (Res.obj 37 v29 [.complex .f64 0 0, .bool false] :: Res.ar 76 bs17 nd :: Res.sl (Ek.pair (Ek.wp bs17) (Ek.wp bs17)) 73 (aslv v7 64) now10 :: _ :: Res.sl (Ek.pair (Ek.wp bs17) (Ek.wp bs17)) 73 (aslv v3 64) (List.replicate 64 ((none : Option Nat), (none : Option Nat))) :: ow) := hp
    refine go ?_; intro a hf
    refine st_stO (us := [.complex .f64 bb25 bb26, .bool ((gt l1 t34).2)]) hf hp (i := 0) rfl rfl rfl rfl rfl (by rfl) (by kernel_rfl) (Nat.le_of_ble_eq_true rfl) ?_
    clear hf; intro a w hf hp0; clear hp; have hp := hp0; clear hp0
    replace hp : Hp _ _ _ (Res.obj 37 v29 [.complex .f64 bb25 bb26, .bool ((gt l1 t34).2)] :: _ :: _ :: _ :: _ :: ow) := hp
    refine goT ?_
    refine st_allocA (E := (Ek.pair (Ek.wp bs17) (Ek.wp bs17))) (N := 64) (zs := List.replicate 64 ((none : Option Nat), (none : Option Nat))) (zv := .agg ((List.replicate 64 ([.pointer none, .pointer none] : List Value)).flatten).toArray) hf (by decide) (by decide) (by decide) (by kernel_rfl) (reps_replicate (E := (Ek.pair (Ek.wp bs17) (Ek.wp bs17))) (vs := ([.pointer none, .pointer none] : List Value)) (x := ((none : Option Nat), (none : Option Nat))) ⟨[.pointer none], [.pointer none], rfl, ⟨_, rfl, WP.nil _⟩, ⟨_, rfl, WP.nil _⟩⟩ 64) (by simp) hp rfl ?_
    clear hf; intro a w v31 hf hp0; clear hp; have hp := hp0; clear hp0
    replace hp : Hp _ _ _ (Res.sl (Ek.pair (Ek.wp bs17) (Ek.wp bs17)) 73 (aslv v31 64) (List.replicate 64 ((none : Option Nat), (none : Option Nat))) :: _ :: _ :: _ :: _ :: _ :: ow) := hp
    refine go ?_; intro a hf
    obtain ⟨q116, hl, h⟩ := bnd h
    have hp : Hp _ _ _ (_ :: _ :: _ :: _ :: _ :: _ :: ow) := (hp.pk [2, 0, 4, 5, 3, 1] 6 :)
    refine wp_loop_pure (f := (f_soft_run.s2 cL cO cT l1 last2 q5 now10 t34)) (s := (nd, (List.replicate 64 ((none : Option Nat), (none : Option Nat))), (0 : Int))) (fun s a w => ∃ (bs34 : List Nat), Fr 100 a [(1, vl1), (2, .int .i64 last2), (3, optr v1 0), (6, v3), (7, .int .i64 q5.1), (9, .func (.func 39) #[] #[]), (10, v7), (11, .int .i64 t34), (12, optr v29 0), (13, v31), (32, vl1), (33, .int .i64 (l1.length : Int)), (34, .int .i64 t34), (39, .int .i64 q5.1), (40, .int .i64 s.2.2)] ∧ Hp S w0 w (Res.ar 76 bs34 s.1 :: Res.sl (Ek.pair (Ek.wp bs34) (Ek.wp bs34)) 73 (aslv v31 64) s.2.1 :: Res.obj 27 v1 [.int .i64 cL, .int .u32 cO, .int .u32 cT] :: Res.sl (Ek.pair (Ek.wp bs34) (Ek.wp bs34)) 73 (aslv v3 64) (List.replicate 64 ((none : Option Nat), (none : Option Nat))) :: Res.sl (Ek.pair (Ek.wp bs34) (Ek.wp bs34)) 73 (aslv v7 64) now10 :: Res.obj 37 v29 [.complex .f64 bb25 bb26, .bool ((gt l1 t34).2)] :: ow)) (fun q e a w => e = .exit 2 ∧ ∃ (bs37 : List Nat), Fr 100 a [(1, vl1), (2, .int .i64 last2), (3, optr v1 0), (6, v3), (7, .int .i64 q5.1), (9, .func (.func 39) #[] #[]), (10, v7), (13, v31), (32, vl1), (33, .int .i64 (l1.length : Int)), (34, .int .i64 t34)] ∧ Hp S w0 w (Res.ar 76 bs37 q.1 :: Res.sl (Ek.pair (Ek.wp bs37) (Ek.wp bs37)) 73 (aslv v31 64) q.2 :: Res.obj 27 v1 [.int .i64 cL, .int .u32 cO, .int .u32 cT] :: Res.sl (Ek.pair (Ek.wp bs37) (Ek.wp bs37)) 73 (aslv v3 64) (List.replicate 64 ((none : Option Nat), (none : Option Nat))) :: Res.sl (Ek.pair (Ek.wp bs37) (Ek.wp bs37)) 73 (aslv v7 64) now10 :: ow)) ?_ hl ⟨_, hf.sb, hp⟩ ?_
    ·
     clear hl hf hp
     intro s x a w h hI
     obtain ⟨nd, then13, t40⟩ := s
     obtain ⟨bs34, hf, hp⟩ : ∃ (bs34 : List Nat), Fr 100 a [(1, vl1), (2, .int .i64 last2), (3, optr v1 0), (6, v3), (7, .int .i64 q5.1), (9, .func (.func 39) #[] #[]), (10, v7), (11, .int .i64 t34), (12, optr v29 0), (13, v31), (32, vl1), (33, .int .i64 (l1.length : Int)), (34, .int .i64 t34), (39, .int .i64 q5.1), (40, .int .i64 t40)] ∧ Hp S w0 w (Res.ar 76 bs34 nd :: Res.sl (Ek.pair (Ek.wp bs34) (Ek.wp bs34)) 73 (aslv v31 64) then13 :: Res.obj 27 v1 [.int .i64 cL, .int .u32 cO, .int .u32 cT] :: Res.sl (Ek.pair (Ek.wp bs34) (Ek.wp bs34)) 73 (aslv v3 64) (List.replicate 64 ((none : Option Nat), (none : Option Nat))) :: Res.sl (Ek.pair (Ek.wp bs34) (Ek.wp bs34)) 73 (aslv v7 64) now10 :: Res.obj 37 v29 [.complex .f64 bb25 bb26, .bool ((gt l1 t34).2)] :: ow) := hI
     replace h : f_soft_run.s2c cL cO cT l1 last2 q5 now10 t34 nd then13 t40 = some x := h
     unfold f_soft_run.s2c at h
     refine go ?_; intro a hf
     refine wp_if hf rfl (fun hb => ?_) (fun hb => ?_)
     ·
      replace h := ifT h hb
      refine wp_skip ?_
      refine go ?_; intro a hf
      obtain ⟨hc39, h⟩ := chk h
      refine st_iaA (E := (Ek.pair (Ek.wp bs34) (Ek.wp bs34))) (N := 64) hf (by decide) Tryz.underlying73 (by kernel_rfl) rfl rfl rfl (hp.sl (i := 4) rfl) rfl hc39.1 hc39.2 fun a _ hf => ?_
      refine st_ldQA (F := (Ek.pair (Ek.wp bs34) (Ek.wp bs34))) (yv := (gt now10 t40)) (m := 2) hf (by decide) (by kernel_rfl) rfl rfl rfl (Part.whole (hp.sl (i := 4) rfl) (aslv_ix (hp.sl (i := 4) rfl) hc39).1 (aslv_ix (hp.sl (i := 4) rfl) hc39).2) ?_
      clear hf; intro a cs41 hr42 ha hf; clear ha
      obtain ⟨_, _, rfl, ⟨v43, rfl, y44⟩, ⟨v45, rfl, y46⟩⟩ := hr42
      replace hf : Fr _ _ ((45, .agg #[v43, v45]) :: _) := hf
      refine go ?_; intro a hf
      obtain ⟨q115, hl, h⟩ := bnd h
      refine wp_loop_pure (f := (f_soft_run.s3 cL cO cT l1 last2 now10 t34 t40)) (s := (nd, then13, (0 : Int))) (fun s a w => ∃ (bs48 : List Nat), Fr 100 a [(1, vl1), (2, .int .i64 last2), (3, optr v1 0), (6, v3), (7, .int .i64 q5.1), (9, .func (.func 39) #[] #[]), (10, v7), (11, .int .i64 t34), (12, optr v29 0), (13, v31), (14, .int .i64 t40), (32, vl1), (33, .int .i64 (l1.length : Int)), (34, .int .i64 t34), (39, .int .i64 q5.1), (40, .int .i64 t40), (45, .agg #[v43, v45]), (46, .int .i64 s.2.2)] ∧ WP bs48 v43 ((gt now10 t40).1) ∧ WP bs48 v45 ((gt now10 t40).2) ∧ Hp S w0 w (Res.ar 76 bs48 s.1 :: Res.sl (Ek.pair (Ek.wp bs48) (Ek.wp bs48)) 73 (aslv v31 64) s.2.1 :: Res.obj 27 v1 [.int .i64 cL, .int .u32 cO, .int .u32 cT] :: Res.sl (Ek.pair (Ek.wp bs48) (Ek.wp bs48)) 73 (aslv v3 64) (List.replicate 64 ((none : Option Nat), (none : Option Nat))) :: Res.sl (Ek.pair (Ek.wp bs48) (Ek.wp bs48)) 73 (aslv v7 64) now10 :: Res.obj 37 v29 [.complex .f64 bb25 bb26, .bool ((gt l1 t34).2)] :: ow)) (fun q e a w => e = .exit 4 ∧ ∃ (bs53 : List Nat), Fr 100 a [(1, vl1), (2, .int .i64 last2), (3, optr v1 0), (6, v3), (7, .int .i64 q5.1), (9, .func (.func 39) #[] #[]), (10, v7), (11, .int .i64 t34), (12, optr v29 0), (13, v31), (32, vl1), (33, .int .i64 (l1.length : Int)), (34, .int .i64 t34), (39, .int .i64 q5.1), (40, .int .i64 t40)] ∧ Hp S w0 w (Res.ar 76 bs53 q.1 :: Res.sl (Ek.pair (Ek.wp bs53) (Ek.wp bs53)) 73 (aslv v31 64) q.2 :: Res.obj 27 v1 [.int .i64 cL, .int .u32 cO, .int .u32 cT] :: Res.sl (Ek.pair (Ek.wp bs53) (Ek.wp bs53)) 73 (aslv v3 64) (List.replicate 64 ((none : Option Nat), (none : Option Nat))) :: Res.sl (Ek.pair (Ek.wp bs53) (Ek.wp bs53)) 73 (aslv v7 64) now10 :: Res.obj 37 v29 [.complex .f64 bb25 bb26, .bool ((gt l1 t34).2)] :: ow)) ?_ hl ⟨_, hf.sb, y44, y46, hp⟩ ?_
      ·
       clear hl hf hp
       intro s x a w h hI
       obtain ⟨nd, then13, t46⟩ := s
       obtain ⟨bs48, hf, y50, y51, hp⟩ : ∃ (bs48 : List Nat), Fr 100 a [(1, vl1), (2, .int .i64 last2), (3, optr v1 0), (6, v3), (7, .int .i64 q5.1), (9, .func (.func 39) #[] #[]), (10, v7), (11, .int .i64 t34), (12, optr v29 0), (13, v31), (14, .int .i64 t40), (32, vl1), (33, .int .i64 (l1.length : Int)), (34, .int .i64 t34), (39, .int .i64 q5.1), (40, .int .i64 t40), (45, .agg #[v43, v45]), (46, .int .i64 t46)] ∧ WP bs48 v43 ((gt now10 t40).1) ∧ WP bs48 v45 ((gt now10 t40).2) ∧ Hp S w0 w (Res.ar 76 bs48 nd :: Res.sl (Ek.pair (Ek.wp bs48) (Ek.wp bs48)) 73 (aslv v31 64) then13 :: Res.obj 27 v1 [.int .i64 cL, .int .u32 cO, .int .u32 cT] :: Res.sl (Ek.pair (Ek.wp bs48) (Ek.wp bs48)) 73 (aslv v3 64) (List.replicate 64 ((none : Option Nat), (none : Option Nat))) :: Res.sl (Ek.pair (Ek.wp bs48) (Ek.wp bs48)) 73 (aslv v7 64) now10 :: Res.obj 37 v29 [.complex .f64 bb25 bb26, .bool ((gt l1 t34).2)] :: ow) := hI
       replace h : f_soft_run.s3c cL cO cT l1 last2 now10 t34 t40 nd then13 t46 = some x := h
       unfold f_soft_run.s3c at h
       refine go ?_; intro a hf
       refine wp_if hf rfl (fun hb => ?_) (fun hb => ?_)
       ·
        replace h := ifT h hb
        refine wp_skip ?_
        refine goT ?_
        obtain ⟨hc55, h⟩ := chk h
        refine st_idx2 hf (by decide) Tryz.underlying72 pl70 (by kernel_rfl) rfl rfl rfl hc55 fun a _ hf => ?_
        refine go ?_; intro a hf
        refine st_wnilE hf (by decide) Tryz.underlying70 rfl rfl rfl (WP.sel y50 y51 hc55) fun a _ hf => ?_
        refine goT ?_
        refine wp_if hf rfl (fun hb => ?_) (fun hb => ?_)
        ·
         replace h := ifT h hb
         refine wp_exit ?_
         refine th_e ?_
         refine ib_same ?_
         refine go ?_; intro a hf
         obtain rfl := oj h
         exact rnd_l ⟨_, hf.sb, y50, y51, hp⟩
        replace h := ifF h hb
        refine wp_skip ?_
        refine goT ?_
        refine st_build (E := Ek.bool) (xs := [false, true]) hf (by decide) elt4 Tryz.underlying22 hp (vals := #[(0, .bool false), (1, .bool true)]) (cells := #[.bool false, .bool true]) rfl (by simp [hf.ev (x := (Operand.const (.bool false))) rfl, hf.ev (x := (Operand.const (.bool true))) rfl]) (Nat.le_of_ble_eq_true rfl) (Nat.le_of_ble_eq_true rfl) (z := .bool false) (by kernel_rfl) (by kernel_rfl) rfl (reps_cons (cs := [.bool false]) rfl (reps_cons (cs := [.bool true]) rfl (reps_nil _))) ?_
        clear hf; intro a w v56 hf hp0; clear hp; have hp := hp0; clear hp0
        replace hp : Hp _ _ _ (Res.sl Ek.bool 4 v56 ([false, true]) :: Res.ar 76 bs48 nd :: Res.sl (Ek.pair (Ek.wp bs48) (Ek.wp bs48)) 73 (aslv v31 64) then13 :: _ :: Res.sl (Ek.pair (Ek.wp bs48) (Ek.wp bs48)) 73 (aslv v3 64) (List.replicate 64 ((none : Option Nat), (none : Option Nat))) :: Res.sl (Ek.pair (Ek.wp bs48) (Ek.wp bs48)) 73 (aslv v7 64) now10 :: _ :: ow) := hp
        refine st_len (E := Ek.bool) hf (by decide) Tryz.underlying22 rfl rfl (hp.sl (i := 0) rfl) fun a _ hf => ?_
        refine go ?_; intro a hf
        obtain ⟨q114, hl, h⟩ := bnd h
        have hp : Hp _ _ _ (_ :: _ :: _ :: _ :: _ :: _ :: _ :: ow) := (hp.pk [1, 2, 3, 4, 5, 6, 0] 7 :)
        refine wp_loop_pure (f := (f_soft_run.s4 cL cO cT l1 last2 now10 t34 t40 t46)) (s := (nd, then13, (0 : Int))) (fun s a w => ∃ (bs59 : List Nat), Fr 100 a [(1, vl1), (2, .int .i64 last2), (3, optr v1 0), (6, v3), (7, .int .i64 q5.1), (9, .func (.func 39) #[] #[]), (10, v7), (11, .int .i64 t34), (12, optr v29 0), (13, v31), (14, .int .i64 t40), (16, (gtv [v43, v45] t46)), (32, vl1), (33, .int .i64 (l1.length : Int)), (34, .int .i64 t34), (39, .int .i64 q5.1), (40, .int .i64 t40), (45, .agg #[v43, v45]), (46, .int .i64 t46), (51, v56), (52, .int .i64 (([false, true]).length : Int)), (53, .int .i64 s.2.2)] ∧ WP bs59 (gtv [v43, v45] t46) (gt [(gt now10 t40).1, (gt now10 t40).2] t46) ∧ WP bs59 v43 ((gt now10 t40).1) ∧ WP bs59 v45 ((gt now10 t40).2) ∧ Hp S w0 w (Res.ar 76 bs59 s.1 :: Res.sl (Ek.pair (Ek.wp bs59) (Ek.wp bs59)) 73 (aslv v31 64) s.2.1 :: Res.obj 27 v1 [.int .i64 cL, .int .u32 cO, .int .u32 cT] :: Res.sl (Ek.pair (Ek.wp bs59) (Ek.wp bs59)) 73 (aslv v3 64) (List.replicate 64 ((none : Option Nat), (none : Option Nat))) :: Res.sl (Ek.pair (Ek.wp bs59) (Ek.wp bs59)) 73 (aslv v7 64) now10 :: Res.obj 37 v29 [.complex .f64 bb25 bb26, .bool ((gt l1 t34).2)] :: Res.sl Ek.bool 4 v56 ([false, true]) :: ow)) (fun q e a w => e = .exit 6 ∧ ∃ (bs65 : List Nat), Fr 100 a [(1, vl1), (2, .int .i64 last2), (3, optr v1 0), (6, v3), (7, .int .i64 q5.1), (9, .func (.func 39) #[] #[]), (10, v7), (11, .int .i64 t34), (12, optr v29 0), (13, v31), (14, .int .i64 t40), (32, vl1), (33, .int .i64 (l1.length : Int)), (34, .int .i64 t34), (39, .int .i64 q5.1), (40, .int .i64 t40), (45, .agg #[v43, v45]), (46, .int .i64 t46)] ∧ WP bs65 v43 ((gt now10 t40).1) ∧ WP bs65 v45 ((gt now10 t40).2) ∧ Hp S w0 w (Res.ar 76 bs65 q.1 :: Res.sl (Ek.pair (Ek.wp bs65) (Ek.wp bs65)) 73 (aslv v31 64) q.2 :: Res.obj 27 v1 [.int .i64 cL, .int .u32 cO, .int .u32 cT] :: Res.sl (Ek.pair (Ek.wp bs65) (Ek.wp bs65)) 73 (aslv v3 64) (List.replicate 64 ((none : Option Nat), (none : Option Nat))) :: Res.sl (Ek.pair (Ek.wp bs65) (Ek.wp bs65)) 73 (aslv v7 64) now10 :: Res.obj 37 v29 [.complex .f64 bb25 bb26, .bool ((gt l1 t34).2)] :: ow)) ?_ hl ⟨_, hf.sb, (WP.sel y50 y51 hc55), y50, y51, hp⟩ ?_
        ·
         clear hl hf hp
         intro s x a w h hI
         obtain ⟨nd, then13, t53⟩ := s
         obtain ⟨bs59, hf, y61, y62, y63, hp⟩ : ∃ (bs59 : List Nat), Fr 100 a [(1, vl1), (2, .int .i64 last2), (3, optr v1 0), (6, v3), (7, .int .i64 q5.1), (9, .func (.func 39) #[] #[]), (10, v7), (11, .int .i64 t34), (12, optr v29 0), (13, v31), (14, .int .i64 t40), (16, (gtv [v43, v45] t46)), (32, vl1), (33, .int .i64 (l1.length : Int)), (34, .int .i64 t34), (39, .int .i64 q5.1), (40, .int .i64 t40), (45, .agg #[v43, v45]), (46, .int .i64 t46), (51, v56), (52, .int .i64 (([false, true]).length : Int)), (53, .int .i64 t53)] ∧ WP bs59 (gtv [v43, v45] t46) (gt [(gt now10 t40).1, (gt now10 t40).2] t46) ∧ WP bs59 v43 ((gt now10 t40).1) ∧ WP bs59 v45 ((gt now10 t40).2) ∧ Hp S w0 w (Res.ar 76 bs59 nd :: Res.sl (Ek.pair (Ek.wp bs59) (Ek.wp bs59)) 73 (aslv v31 64) then13 :: Res.obj 27 v1 [.int .i64 cL, .int .u32 cO, .int .u32 cT] :: Res.sl (Ek.pair (Ek.wp bs59) (Ek.wp bs59)) 73 (aslv v3 64) (List.replicate 64 ((none : Option Nat), (none : Option Nat))) :: Res.sl (Ek.pair (Ek.wp bs59) (Ek.wp bs59)) 73 (aslv v7 64) now10 :: Res.obj 37 v29 [.complex .f64 bb25 bb26, .bool ((gt l1 t34).2)] :: Res.sl Ek.bool 4 v56 ([false, true]) :: ow) := hI
         replace h : f_soft_run.s4c cL cO cT l1 last2 now10 t34 t40 t46 nd then13 t53 = some x := h
         unfold f_soft_run.s4c at h
         refine go ?_; intro a hf
         refine wp_if hf rfl (fun hb => ?_) (fun hb => ?_)
         ·
          replace h := ifT h hb
          refine wp_skip ?_
          refine goT ?_
          obtain ⟨hc69, h⟩ := chk h
          refine st_index (E := Ek.bool) hf (by decide) Tryz.underlying22 elt4 rfl rfl rfl (hp.sl (i := 6) rfl) hc69.1 hc69.2 fun a _ hf => ?_
          refine st_ldB hf (by decide) pl4 rfl rfl (hp.sl (i := 6) rfl) hc69.1 hc69.2 fun a _ hf => ?_
          refine go ?_; intro a hf
          refine wpList_cut 7 (fun a w => Fr 100 a [(1, vl1), (2, .int .i64 last2), (3, optr v1 0), (6, v3), (7, .int .i64 q5.1), (9, .func (.func 39) #[] #[]), (10, v7), (11, .int .i64 t34), (12, optr v29 0), (13, v31), (14, .int .i64 t40), (16, (gtv [v43, v45] t46)), (18, .bool (gt ([false, true]) t53)), (32, vl1), (33, .int .i64 (l1.length : Int)), (34, .int .i64 t34), (39, .int .i64 q5.1), (40, .int .i64 t40), (45, .agg #[v43, v45]), (46, .int .i64 t46), (51, v56), (52, .int .i64 (([false, true]).length : Int)), (53, .int .i64 t53), (65, .bool ((gt ([false, true]) t53) && (decide ((IntKind.i64.wrap ((l1.length : Int) - last2)) ≤ t34))))] ∧ Hp S w0 w (Res.ar 76 bs59 nd :: Res.sl (Ek.pair (Ek.wp bs59) (Ek.wp bs59)) 73 (aslv v31 64) then13 :: Res.obj 27 v1 [.int .i64 cL, .int .u32 cO, .int .u32 cT] :: Res.sl (Ek.pair (Ek.wp bs59) (Ek.wp bs59)) 73 (aslv v3 64) (List.replicate 64 ((none : Option Nat), (none : Option Nat))) :: Res.sl (Ek.pair (Ek.wp bs59) (Ek.wp bs59)) 73 (aslv v7 64) now10 :: Res.obj 37 v29 [.complex .f64 bb25 bb26, .bool ((gt l1 t34).2)] :: Res.sl Ek.bool 4 v56 ([false, true]) :: ow)) ?_ ?_
          ·
           rcases Bool.eq_false_or_eq_true (gt ([false, true]) t53) with hb71 | hb71
           ·
            refine go ?_; intro a hf
            refine st_len (E := (Ek.pair Ek.c128 Ek.bool)) hf (by decide) Tryz.underlying33 (wantY hf rfl rfl hb71) rfl (hl1.sl hp) fun a _ hf => ?_
            refine go ?_; intro a hf
            exact ⟨hf.sub ⟨rfl, rfl, rfl, rfl, rfl, rfl, rfl, rfl, rfl, rfl, rfl, rfl, rfl, rfl, rfl, rfl, rfl, rfl, rfl, rfl, rfl, rfl, rfl, (by rw [hb71]; rfl), trivial⟩, hp⟩
           refine go ?_; intro a hf
           exact ⟨hf.sub ⟨rfl, rfl, rfl, rfl, rfl, rfl, rfl, rfl, rfl, rfl, rfl, rfl, rfl, rfl, rfl, rfl, rfl, rfl, rfl, rfl, rfl, rfl, rfl, (by rw [hb71]; rfl), trivial⟩, hp⟩
          rintro a w ⟨hf, hp⟩
          refine goT ?_
          refine wp_if hf rfl (fun hb => ?_) (fun hb => ?_)
          ·
           replace h := ifT h hb
           refine wp_exit ?_
           refine th_e ?_
           refine ib_same ?_
           refine go ?_; intro a hf
           obtain rfl := oj h
           exact rnd_l ⟨_, hf.sb, y61, y62, y63, hp⟩
          replace h := ifF h hb
          refine wp_skip ?_
          refine goT ?_
          refine st_ldOA (m := 3) (us := [.int .i64 cL, .int .u32 cO, .int .u32 cT]) hf (by decide) (by kernel_rfl) rfl rfl (hp.ob (i := 2) rfl) rfl rfl fun a _ hf => ?_
          refine go ?_; intro a hf
          obtain ⟨q72, hcall73, h⟩ := bnd h
          refine st_call hf (by decide) Tryz.func26 rfl rfl rfl rfl rfl (f_trellis_Code_Step_c hp _ _ _ _ _ hcall73) ?_
          rintro _ w ⟨rfl, hp⟩
          replace hp : Hp _ _ _ (Res.ar 76 bs59 nd :: Res.sl (Ek.pair (Ek.wp bs59) (Ek.wp bs59)) 73 (aslv v31 64) then13 :: _ :: Res.sl (Ek.pair (Ek.wp bs59) (Ek.wp bs59)) 73 (aslv v3 64) (List.replicate 64 ((none : Option Nat), (none : Option Nat))) :: Res.sl (Ek.pair (Ek.wp bs59) (Ek.wp bs59)) 73 (aslv v7 64) now10 :: _ :: _ :: ow) := hp
          refine ⟨_, rfl, fun a hf => ?_⟩
          refine go ?_; intro a hf
          obtain ⟨S74, hp75, rd76, up77, bk78⟩ := Hp.lendA hp (i := 0) rfl
          obtain ⟨S79, hp80, rd81, up82, bk83⟩ := Hp.lendO hp75 (i := 4) rfl
          have rl84 := ((((hl1.now hp).mono up77).now hp75).mono up82)
          have rl85 := rd81
          have rl86 := ((rd76.now hp75).mono up82)
          have fx87 := hp.sl (i := 1) rfl
          obtain ⟨hc88, h⟩ := chk h
          obtain ⟨n90, hx91, h⟩ := bnd h
          obtain ⟨v92, bb93, y94, y95, ho96⟩ := RdA.at rl86 y61 hx91
          obtain ⟨q97, hcall98, h⟩ := bnd h
          obtain ⟨q106, hcall107, h⟩ := bnd h
          refine wp_cutN (fun a w => ∃ (k104 : Nat), Fr 100 a [(1, vl1), (2, .int .i64 last2), (3, optr v1 0), (6, v3), (7, .int .i64 q5.1), (9, .func (.func 39) #[] #[]), (10, v7), (11, .int .i64 t34), (12, optr v29 0), (13, v31), (14, .int .i64 t40), (16, (gtv [v43, v45] t46)), (32, vl1), (33, .int .i64 (l1.length : Int)), (34, .int .i64 t34), (39, .int .i64 q5.1), (40, .int .i64 t40), (45, .agg #[v43, v45]), (46, .int .i64 t46), (51, v56), (52, .int .i64 (([false, true]).length : Int)), (53, .int .i64 t53)] ∧ Hp S w0 w (Res.ar 76 (bs59 ++ [k104]) (nd ++ [((gt ([false, true]) t53), (gt [(gt now10 t40).1, (gt now10 t40).2] t46), (fadd ((nth nd n90).2.2.1) q97), (0 : Int))]) :: Res.sl (Ek.pair (Ek.wp (bs59 ++ [k104])) (Ek.wp (bs59 ++ [k104]))) 73 (aslv v31 64) q106 :: Res.obj 37 v29 [.complex .f64 bb25 bb26, .bool ((gt l1 t34).2)] :: Res.obj 27 v1 [.int .i64 cL, .int .u32 cO, .int .u32 cT] :: Res.sl (Ek.pair (Ek.wp (bs59 ++ [k104])) (Ek.wp (bs59 ++ [k104]))) 73 (aslv v3 64) (List.replicate 64 ((none : Option Nat), (none : Option Nat))) :: Res.sl (Ek.pair (Ek.wp (bs59 ++ [k104])) (Ek.wp (bs59 ++ [k104]))) 73 (aslv v7 64) now10 :: Res.sl Ek.bool 4 v56 ([false, true]) :: ow)) ?_ ?_
          ·
           have hp := hp80.same (Same.drew w)
           refine dr_begin' _ (fun w' => ∃ l, Hp S79 w w' l) [14, 16] (by kernel_rfl) ?_
           refine dr_takeP 0 (.int .i64 q72.1) rfl (by kernel_rfl) (by kernel_rfl) (by kernel_rfl) rfl rfl hf (by decide) rfl (fun w => ?_) ?_
           ·
            refine st_move hf rfl rfl (by decide) ?_
            clear hf; intro a ha hf
            exact st_nil hf (th_n ⟨ha, rfl⟩)
           clear hf; intro a hf
           refine dr_takeP 1 (eptr (aslv v31 64) q72.1 2) rfl (by kernel_rfl) (by kernel_rfl) (by kernel_rfl) rfl rfl hf (by decide) rfl (fun w => ?_) ?_
           ·
            refine st_iaA (E := (Ek.pair (Ek.wp bs59) (Ek.wp bs59))) (N := 64) hf (by decide) Tryz.underlying73 (by kernel_rfl) rfl rfl rfl fx87 rfl hc88.1 hc88.2 ?_
            clear hf; intro a ha hf
            exact st_nil hf (th_n ⟨ha, rfl⟩)
           clear hf; intro a hf
           refine dr_takeP 2 (.bool (gt ([false, true]) t53)) rfl (by kernel_rfl) (by kernel_rfl) (by kernel_rfl) rfl rfl hf (by decide) rfl (fun w => ?_) ?_
           ·
            refine st_move hf rfl rfl (by decide) ?_
            clear hf; intro a ha hf
            exact st_nil hf (th_n ⟨ha, rfl⟩)
           clear hf; intro a hf
           refine dr_takeP 3 ((gtv [v43, v45] t46)) rfl (by kernel_rfl) (by kernel_rfl) (by kernel_rfl) rfl rfl hf (by decide) rfl (fun w => ?_) ?_
           ·
            refine st_move hf rfl rfl (by decide) ?_
            clear hf; intro a ha hf
            exact st_nil hf (th_n ⟨ha, rfl⟩)
           clear hf; intro a hf
           refine dr_takeP 4 ((gtv [v43, v45] t46)) rfl (by kernel_rfl) (by kernel_rfl) (by kernel_rfl) rfl rfl hf (by decide) rfl (fun w => ?_) ?_
           ·
            refine st_move hf rfl rfl (by decide) ?_
            clear hf; intro a ha hf
            exact st_nil hf (th_n ⟨ha, rfl⟩)
           clear hf; intro a hf
           refine dr_nilE 5 rfl (by kernel_rfl) (by kernel_rfl) (by kernel_rfl) hf (by decide) rfl rfl (WP.ptr y61 hx91) ?_
           clear hf; intro a hf
           refine dr_takeP 6 (optr (gtv [v43, v45] t46) 2) rfl (by kernel_rfl) (by kernel_rfl) (by kernel_rfl) rfl rfl hf (by decide) rfl (fun w => ?_) ?_
           ·
            refine st_faP (off := 2) (sz := 1) hf (by decide) (by kernel_rfl) (by decide) rfl rfl (WP.isP y61 hx91) ?_
            clear hf; intro a ha hf
            exact st_nil hf (th_n ⟨ha, rfl⟩)
           clear hf; intro a hf
           refine dr_take2 7 (.float .f64 bb93) rfl (by kernel_rfl) (by kernel_rfl) (by kernel_rfl) (by kernel_rfl) (by kernel_rfl) rfl rfl hf (by decide) rfl (fun w hp => ?_) ⟨_, hp⟩ ?_
           ·
            obtain ⟨_, hp⟩ := hp
            refine st_ldO (u := .float .f64 bb93) hf (by decide) pl39 rfl rfl (ho96.ob hp) rfl ?_
            clear hf; intro a ha hf
            exact st_nil hf (th_n ⟨ha, rfl⟩)
           clear hf; intro a hf
           refine dr_takeP 8 (.bool q72.2.1) rfl (by kernel_rfl) (by kernel_rfl) (by kernel_rfl) rfl rfl hf (by decide) rfl (fun w => ?_) ?_
           ·
            refine st_move hf rfl rfl (by decide) ?_
            clear hf; intro a ha hf
            exact st_nil hf (th_n ⟨ha, rfl⟩)
           clear hf; intro a hf
           refine dr_takeP 9 (.bool q72.2.2.1) rfl (by kernel_rfl) (by kernel_rfl) (by kernel_rfl) rfl rfl hf (by decide) rfl (fun w => ?_) ?_
           ·
            refine st_move hf rfl rfl (by decide) ?_
            clear hf; intro a ha hf
            exact st_nil hf (th_n ⟨ha, rfl⟩)
           clear hf; intro a hf
           refine dr_take2 10 (.agg #[.complex .f64 bb25 bb26, .bool ((gt l1 t34).2)]) rfl (by kernel_rfl) (by kernel_rfl) (by kernel_rfl) (by kernel_rfl) (by kernel_rfl) rfl rfl hf (by decide) rfl (fun w hp => ?_) ⟨_, hp⟩ ?_
           ·
            obtain ⟨_, hp⟩ := hp
            refine st_ldOA (m := 2) (us := [.complex .f64 bb25 bb26, .bool ((gt l1 t34).2)]) hf (by decide) (by kernel_rfl) rfl rfl (rl85.ob hp) rfl rfl ?_
            clear hf; intro a ha hf
            exact st_nil hf (th_n ⟨ha, rfl⟩)
           clear hf; intro a hf
           refine dr_takeP 15 (.func (.func 39) #[] #[]) rfl (by kernel_rfl) (by kernel_rfl) (by kernel_rfl) rfl rfl hf (by decide) rfl (fun w => ?_) ?_
           ·
            refine st_move hf rfl rfl (by decide) ?_
            clear hf; intro a ha hf
            exact st_nil hf (th_n ⟨ha, rfl⟩)
           clear hf; intro a hf
           refine dr_one 11 rfl (by kernel_rfl) ?_
           refine st_call hf (by decide) Tryz.func27 rfl rfl rfl rfl rfl (f_soft_cost_c hp _ _ _ _ _ (show Fl.rep bb25 ((gt l1 t34).1).1 from y27) (show Fl.rep bb26 ((gt l1 t34).1).2 from y28) _ hcall98) ?_
           rintro _ w ⟨v99, rfl, y100, hp⟩
           replace hp : Hp _ _ _ (_ :: _ :: _ :: _ :: _ :: ow) := hp
           refine ⟨_, rfl, fun a hf => ?_⟩
           refine nx hf (fun _ _ => ⟨_, hp⟩) ?_
           refine dr_one 12 rfl (by kernel_rfl) ?_
           refine st_farith (op := .add) rfl hf (by decide) hp rfl rfl rfl (show Fl.rep bb93 ((nth nd n90).2.2.1) from y95) (show Fl.rep v99 q97 from y100) ?_
           clear hf; intro a w bb101 y102 hf hp0; clear hp; have hp := hp0; clear hp0
           replace hp : Hp _ _ _ (_ :: _ :: _ :: _ :: _ :: ow) := hp
           refine nx hf (fun _ _ => ⟨_, hp⟩) ?_
           refine dr_takeP 13 (.agg #[.bool (gt ([false, true]) t53), (gtv [v43, v45] t46), .float .f64 bb101, .int .i64 (0 : Int)]) rfl (by kernel_rfl) (by kernel_rfl) (by kernel_rfl) rfl rfl hf (by decide) rfl (fun w => ?_) ?_
           ·
            refine st_buildA (vals := [(0, .bool (gt ([false, true]) t53)), (1, (gtv [v43, v45] t46)), (2, .float .f64 bb101), (3, .int .i64 (0 : Int))]) (cells := [.bool (gt ([false, true]) t53), (gtv [v43, v45] t46), .float .f64 bb101, .int .i64 (0 : Int)]) hf (by decide) rfl (by simp [hf.ev (x := (Operand.tmp 77)) rfl, hf.ev (x := (Operand.tmp 78)) rfl, hf.ev (x := (Operand.tmp 87)) rfl, hf.ev (x := (Operand.const (.int .i64 (0 : Int)))) rfl]) (fun w => by obtain ⟨_, e9⟩ := (WP.sh y61); rw [e9]; kernel_rfl) ?_
            clear hf; intro a ha hf
            exact st_nil hf (th_n ⟨ha, rfl⟩)
           clear hf; intro a hf
           have hp := bk83 _ _ hp
           have hp := bk78 _ _ hp
           refine dr_one 14 rfl (by kernel_rfl) ?_
           refine st_boxW (ah := (gt [(gt now10 t40).1, (gt now10 t40).2] t46)) (co := (fadd ((nth nd n90).2.2.1) q97)) hf (by decide) hp rfl rfl y61 y102 ?_
           clear hf; intro a w v103 k104 y105 hf hp0; clear hp; have hp := hp0; clear hp0
           replace hp : Hp _ _ _ (Res.ar 76 (bs59 ++ [k104]) (nd ++ [((gt ([false, true]) t53), (gt [(gt now10 t40).1, (gt now10 t40).2] t46), (fadd ((nth nd n90).2.2.1) q97), (0 : Int))]) :: Res.obj 37 v29 [.complex .f64 bb25 bb26, .bool ((gt l1 t34).2)] :: Res.sl (Ek.pair (Ek.wp (bs59 ++ [k104])) (Ek.wp (bs59 ++ [k104]))) 73 (aslv v31 64) then13 :: _ :: Res.sl (Ek.pair (Ek.wp (bs59 ++ [k104])) (Ek.wp (bs59 ++ [k104]))) 73 (aslv v3 64) (List.replicate 64 ((none : Option Nat), (none : Option Nat))) :: Res.sl (Ek.pair (Ek.wp (bs59 ++ [k104])) (Ek.wp (bs59 ++ [k104]))) 73 (aslv v7 64) now10 :: _ :: ow) := hp.impL (ImpL.same (ImpL.same (ImpL.slx rfl (pair_up (wp_up _) (wp_up _)) (ImpL.same (ImpL.slx rfl (pair_up (wp_up _) (wp_up _)) (ImpL.slx rfl (pair_up (wp_up _) (wp_up _)) (ImpL.same (ImpL.refl ow))))))))
           refine st_nil hf (th_n ⟨fun hn => absurd hn (by decide), ?_⟩)
           refine dr_one 16 rfl (by kernel_rfl) ?_
           obtain ⟨S108, hp109, rd110, up111, bk112⟩ := Hp.lendA hp (i := 0) rfl
           have hp113 : Hp _ _ _ (Res.sl (Ek.pair (Ek.wp (bs59 ++ [k104])) (Ek.wp (bs59 ++ [k104]))) 73 (aslv v31 64) then13 :: Res.obj 37 v29 [.complex .f64 bb25 bb26, .bool ((gt l1 t34).2)] :: Res.obj 27 v1 [.int .i64 cL, .int .u32 cO, .int .u32 cT] :: Res.sl (Ek.pair (Ek.wp (bs59 ++ [k104])) (Ek.wp (bs59 ++ [k104]))) 73 (aslv v3 64) (List.replicate 64 ((none : Option Nat), (none : Option Nat))) :: Res.sl (Ek.pair (Ek.wp (bs59 ++ [k104])) (Ek.wp (bs59 ++ [k104]))) 73 (aslv v7 64) now10 :: Res.sl Ek.bool 4 v56 ([false, true]) :: ow) := (hp109.pk [1, 0, 2, 3, 4, 5] 6 :)
           refine st_call hf (by decide) Tryz.func40 rfl rfl rfl rfl rfl (f_soft_two_put_c _ _ rd110 _ _ _ _ (aslv_ix (hp.sl (i := 2) rfl) hc88) _ _ y105 hp113 hcall107) ?_
           rintro _ w ⟨rfl, hp0⟩
           have hp0 := bk112 _ _ hp0
           clear hp; have hp := hp0; clear hp0
           replace hp : Hp _ _ _ (_ :: Res.sl (Ek.pair (Ek.wp (bs59 ++ [k104])) (Ek.wp (bs59 ++ [k104]))) 73 (aslv v31 64) q106 :: _ :: _ :: _ :: _ :: _ :: ow) := hp
           refine ⟨_, rfl, fun a hf => ?_⟩
           refine st_nil hf (th_n ⟨fun hn => absurd hn (by decide), ?_⟩)
           refine dr_end (by kernel_rfl) ?_ _
           exact ⟨k104, hf.sb, hp⟩
          rintro a w ⟨k104, hf, hp⟩
          refine go ?_; intro a hf
          obtain rfl := oj h
          have hp : Hp _ _ _ (_ :: _ :: _ :: _ :: _ :: _ :: _ :: ow) := (hp.pk [0, 1, 3, 4, 5, 2, 6] 7 :)
          exact rnd_l ⟨_, hf.sb, (WP.up y61 _), (WP.up y62 _), (WP.up y63 _), hp⟩
         replace h := ifF h hb
         refine wp_exit ?_
         refine th_e ?_
         obtain rfl := oj h
         have hp : Hp _ _ _ (Res.ar 76 bs59 nd :: Res.sl (Ek.pair (Ek.wp bs59) (Ek.wp bs59)) 73 (aslv v31 64) then13 :: _ :: Res.sl (Ek.pair (Ek.wp bs59) (Ek.wp bs59)) 73 (aslv v3 64) (List.replicate 64 ((none : Option Nat), (none : Option Nat))) :: Res.sl (Ek.pair (Ek.wp bs59) (Ek.wp bs59)) 73 (aslv v7 64) now10 :: _ :: ow) := (hp.pk [0, 1, 2, 3, 4, 5] 7 :)
         exact rnd_r (by simp) ⟨rfl, _, hf.sb, y62, y63, hp⟩
        clear hl hf hp
        intro e a w hne hO
        obtain ⟨rfl, bs65, hf, y67, y68, hp⟩ := hO
        refine ib_same ?_
        refine go ?_; intro a hf
        obtain rfl := oj h
        exact rnd_l ⟨_, hf.sb, y67, y68, hp⟩
       replace h := ifF h hb
       refine wp_exit ?_
       refine th_e ?_
       obtain rfl := oj h
       exact rnd_r (by simp) ⟨rfl, _, hf.sb, hp⟩
      clear hl hf hp
      intro e a w hne hO
      obtain ⟨rfl, bs53, hf, hp⟩ := hO
      refine ib_same ?_
      refine go ?_; intro a hf
      obtain rfl := oj h
      exact rnd_l ⟨_, hf.sb, hp⟩
     replace h := ifF h hb
     refine wp_exit ?_
     refine th_e ?_
     obtain rfl := oj h
     have hp : Hp _ _ _ (Res.ar 76 bs34 nd :: Res.sl (Ek.pair (Ek.wp bs34) (Ek.wp bs34)) 73 (aslv v31 64) then13 :: _ :: Res.sl (Ek.pair (Ek.wp bs34) (Ek.wp bs34)) 73 (aslv v3 64) (List.replicate 64 ((none : Option Nat), (none : Option Nat))) :: Res.sl (Ek.pair (Ek.wp bs34) (Ek.wp bs34)) 73 (aslv v7 64) now10 :: ow) := (hp.pk [0, 1, 2, 3, 4] 6 :)
     exact rnd_r (by simp) ⟨rfl, _, hf.sb, hp⟩
    clear hl hf hp
    intro e a w hne hO
    obtain ⟨rfl, bs37, hf, hp⟩ := hO
    refine ib_same ?_
    refine go ?_; intro a hf
    obtain ⟨q117, hcall118, h⟩ := bnd h
    obtain ⟨S119, hp120, rd121, up122, bk123⟩ := Hp.lendS hp (i := 1) rfl
    have hp124 : Hp _ _ _ (Res.ar 76 bs37 q116.1 :: Res.obj 27 v1 [.int .i64 cL, .int .u32 cO, .int .u32 cT] :: Res.sl (Ek.pair (Ek.wp bs37) (Ek.wp bs37)) 73 (aslv v3 64) (List.replicate 64 ((none : Option Nat), (none : Option Nat))) :: Res.sl (Ek.pair (Ek.wp bs37) (Ek.wp bs37)) 73 (aslv v7 64) now10 :: ow) := (hp120.pk [0, 1, 2, 3] 4 :)
    refine st_call hf (by decide) Tryz.func41 rfl rfl rfl rfl rfl (f_soft_ranked_c _ _ _ _ rd121 _ hp124 hcall118) ?_
    rintro _ w ⟨rfl, hp0⟩
    have hp0 := bk123 _ _ hp0
    clear hp; have hp := hp0; clear hp0
    replace hp : Hp _ _ _ (Res.sl (Ek.pair (Ek.wp bs37) (Ek.wp bs37)) 73 (aslv v31 64) q116.2 :: Res.ar 76 bs37 q117 :: _ :: Res.sl (Ek.pair (Ek.wp bs37) (Ek.wp bs37)) 73 (aslv v3 64) (List.replicate 64 ((none : Option Nat), (none : Option Nat))) :: Res.sl (Ek.pair (Ek.wp bs37) (Ek.wp bs37)) 73 (aslv v7 64) now10 :: ow) := hp
    refine ⟨_, rfl, fun a hf => ?_⟩
    refine goT ?_
    have hl127 := aslv_len (hp.sl (i := 0) rfl)
    refine st_ldArr (E := (Ek.pair (Ek.wp bs37) (Ek.wp bs37))) (N := 64) hf (by decide) (by kernel_rfl) rfl (by decide) rfl rfl (hp.sl (i := 0) rfl) ?_
    clear hf; intro a cs125 hr126 ha hf; clear ha
    refine st_stArr hf hp (m := 4) rfl (by decide) rfl rfl rfl hr126 hl127 (by kernel_rfl) ?_
    clear hf; intro a w hf hp0; clear hp; have hp := hp0; clear hp0
    replace hp : Hp _ _ _ (_ :: _ :: _ :: _ :: Res.sl (Ek.pair (Ek.wp bs37) (Ek.wp bs37)) 73 (aslv v7 64) q116.2 :: ow) := hp
    refine go ?_; intro a hf
    obtain rfl := oj h
    have hp : Hp _ _ _ (_ :: _ :: _ :: _ :: ow) := (hp.pk [1, 4, 2, 3] 5 :)
    exact rnd_l ⟨_, hf.sb, hp⟩
   replace h := ifF h hb
   refine wp_exit ?_
   refine th_e ?_
   obtain rfl := oj h
   have hp : Hp _ _ _ (Res.ar 76 bs17 nd :: Res.sl (Ek.pair (Ek.wp bs17) (Ek.wp bs17)) 73 (aslv v7 64) now10 :: Res.sl (Ek.pair (Ek.wp bs17) (Ek.wp bs17)) 73 (aslv v3 64) (List.replicate 64 ((none : Option Nat), (none : Option Nat))) :: ow) := (hp.pk [0, 1, 3] 4 :)
   exact rnd_r (by simp) ⟨rfl, _, hf.sb, hp⟩
  clear hl hf hp
  intro e a w hne hO
  obtain ⟨rfl, bs20, hf, hp⟩ := hO
  refine ib_same ?_
  refine goT ?_
  have hl131 := aslv_len (hp.sl (i := 1) rfl)
  refine st_ldArr (E := (Ek.pair (Ek.wp bs20) (Ek.wp bs20))) (N := 64) hf (by decide) (by kernel_rfl) rfl (by decide) rfl rfl (hp.sl (i := 1) rfl) ?_
  clear hf; intro a cs129 hr130 ha hf; clear ha
  refine st_stArr hf hp (m := 2) rfl (by decide) rfl rfl rfl hr130 hl131 (by kernel_rfl) ?_
  clear hf; intro a w hf hp0; clear hp; have hp := hp0; clear hp0
  replace hp : Hp _ _ _ (Res.ar 76 bs20 q128.1 :: Res.sl (Ek.pair (Ek.wp bs20) (Ek.wp bs20)) 73 (aslv v7 64) q128.2 :: Res.sl (Ek.pair (Ek.wp bs20) (Ek.wp bs20)) 73 (aslv v3 64) q128.2 :: ow) := hp
  refine goT ?_
  obtain rfl := oj h
  have hp : Hp _ _ _ (_ :: _ :: ow) := (hp.pk [2, 0] 3 :)
  exact ⟨rfl, ⟨_, _, hf.sb, hp⟩⟩

noncomputable def f_soft_Decode.s1c (q6 : ((List ((Option Nat) × (Option Nat))) × (List WayC))) (bits10 : (List Bool)) (i11 : Int) (wx12 : (Option Nat)) : Option (((List Bool) × Int × (Option Nat)) ⊕ (List Bool)) := (if (decide ((0 : Int) ≤ i11)) = true then ((wx12).bind fun n29 => (if 0 ≤ i11 ∧ i11 < (bits10.length : Int) then ((wx12).bind fun n44 => (some (Sum.inl ((bits10.set (i11).toNat ((nth q6.2 n29).1)), (IntKind.i64.wrap (i11 - (1 : Int))), (nth q6.2 n44).2.1)))) else none)) else (some (Sum.inr bits10)))
noncomputable def f_soft_Decode.s1 (q6 : ((List ((Option Nat) × (Option Nat))) × (List WayC))) (s : ((List Bool) × Int × (Option Nat))) : Option (((List Bool) × Int × (Option Nat)) ⊕ (List Bool)) := f_soft_Decode.s1c q6 s.1 s.2.1 s.2.2
noncomputable def f_soft_Decode (cL : Int) (cO : Int) (cT : Int) (l1 : (List ((Fl × Fl) × Bool))) : Option ((List Bool) × Fl × Int) := ((f_soft_check cL cO cT l1 (IntKind.i64.wrap (cL - (1 : Int)))).bind fun q3 => (if (q3 != (0 : Int)) = true then (some ([], (Fl.bits 0), q3)) else ((f_soft_run cL cO cT l1 (IntKind.i64.wrap (cL - (1 : Int)))).bind fun q6 => (if 0 ≤ (l1.length : Int) ∧ (l1.length : Int) ≤ (l1.length : Int) ∧ (l1.length : Int) * 1 ≤ 281474976710656 then ((loop (f_soft_Decode.s1 q6) ((List.replicate ((l1.length : Int)).toNat false), (IntKind.i64.wrap ((l1.length : Int) - (1 : Int))), (gt q6.1 (0 : Int)).1)).bind (fun q51 => (if 0 ≤ (IntKind.i64.wrap ((IntKind.i64.wrap ((l1.length : Int) - cL)) + (1 : Int))) ∧ (IntKind.i64.wrap ((IntKind.i64.wrap ((l1.length : Int) - cL)) + (1 : Int))) ≤ (q51.length : Int) then (if (([] : List Bool).length + ((q51.drop 0).take (((IntKind.i64.wrap ((IntKind.i64.wrap ((l1.length : Int) - cL)) + (1 : Int)))).toNat - 0)).length) * 1 ≤ 140737488355328 then (((gt q6.1 (0 : Int)).1).bind fun n77 => (some ((([] : List Bool) ++ ((q51.drop 0).take (((IntKind.i64.wrap ((IntKind.i64.wrap ((l1.length : Int) - cL)) + (1 : Int)))).toNat - 0))), (nth q6.2 n77).2.2.1, (0 : Int)))) else none) else none))) else none))))
theorem f_soft_Decode_c {S : Nat → Prop} {w0 w : World} {ow : List Res} (hp : Hp S w0 w ow) (cL : Int) (cO : Int) (cT : Int) (vl1 : Value) (l1 : (List ((Fl × Fl) × Bool))) (hl1 : RdS (Ek.pair Ek.c128 Ek.bool) S w0 vl1 l1) {r : ((List Bool) × Fl × Int)} (h : f_soft_Decode cL cO cT l1 = some r) :
   Calls Tryz.prog 10 #[.agg #[.int .i64 cL, .int .u32 cO, .int .u32 cT], vl1] w (fun e w' => ∃ (u0 : Value) (b1 : Nat), e = .returned (.tuple #[u0, .float .f64 b1, .int .i64 r.2.2]) ∧ Fl.rep b1 r.2.1 ∧ Hp S w0 w' (Res.sl Ek.bool 4 u0 r.1 :: ow)) := by
  unfold f_soft_Decode at h
  refine enx (n := 66) Tryz.func10 fun a hf => ?_
  refine wp_mono (Q := fun e a w => e = .ret ∧ ∃ (u0 : Value) (b1 : Nat), Fr 66 a [(4, u0), (5, .float .f64 b1), (6, .int .i64 r.2.2)] ∧ Fl.rep b1 r.2.1 ∧ Hp S w0 w (Res.sl Ek.bool 4 u0 r.1 :: ow)) ?_ ?_
  rotate_left
  ·
   rintro e a w ⟨rfl, x0, x1, hf, y0, hp⟩
   exact ret3 hf rfl rfl rfl rfl ⟨x0, x1, rfl, y0, hp⟩
  refine goT ?_
  refine st_boxO (cs := [.int .i64 cL, .int .u32 cO, .int .u32 cT]) hf (by decide) hp rfl rfl rfl ?_
  clear hf; intro a w v1 hf hp0; clear hp; have hp := hp0; clear hp0
  replace hp : Hp _ _ _ (Res.obj 27 v1 [.int .i64 cL, .int .u32 cO, .int .u32 cT] :: ow) := hp
  refine go ?_; intro a hf
  refine st_ldOA (m := 3) (us := [.int .i64 cL, .int .u32 cO, .int .u32 cT]) hf (by decide) (by kernel_rfl) rfl rfl (hp.ob (i := 0) rfl) rfl rfl fun a _ hf => ?_
  refine go ?_; intro a hf
  refine st_fa (o' := 0) hf (by decide) (off := 0) (sz := 1) (by kernel_rfl) (by decide) rfl rfl (hp.ob (i := 0) rfl) rfl fun a _ hf => ?_
  refine st_ldO (u := .int .i64 cL) hf (by decide) pl3 rfl rfl (hp.ob (i := 0) rfl) rfl fun a _ hf => ?_
  refine go ?_; intro a hf
  obtain ⟨q3, hcall4, h⟩ := bnd h
  refine st_call hf (by decide) Tryz.func22 rfl rfl rfl rfl rfl (f_soft_check_c hp _ _ _ _ _ hl1 _ hcall4) ?_
  rintro _ w ⟨rfl, hp⟩
  replace hp : Hp _ _ _ (_ :: ow) := hp
  refine ⟨_, rfl, fun a hf => ?_⟩
  refine go ?_; intro a hf
  refine wp_if hf rfl (fun hb => ?_) (fun hb => ?_)
  ·
   replace h := ifT h hb
   refine go ?_; intro a hf
   obtain rfl := oj h
   have hp := hp.nil Ek.bool 4
   have hp : Hp _ _ _ (Res.sl Ek.bool 4 (.slice none 0 0) ([]) :: ow) := (hp.pk [0] 2 :)
   exact ⟨rfl, ⟨_, _, hf.sb, rfl, hp⟩⟩
  replace h := ifF h hb
  refine wp_skip ?_
  refine goT ?_
  refine st_ldOA (m := 3) (us := [.int .i64 cL, .int .u32 cO, .int .u32 cT]) hf (by decide) (by kernel_rfl) rfl rfl (hp.ob (i := 0) rfl) rfl rfl fun a _ hf => ?_
  refine go ?_; intro a hf
  refine st_fa (o' := 0) hf (by decide) (off := 0) (sz := 1) (by kernel_rfl) (by decide) rfl rfl (hp.ob (i := 0) rfl) rfl fun a _ hf => ?_
  refine st_ldO (u := .int .i64 cL) hf (by decide) pl3 rfl rfl (hp.ob (i := 0) rfl) rfl fun a _ hf => ?_
  refine go ?_; intro a hf
  obtain ⟨q6, hcall7, h⟩ := bnd h
  refine st_call hf (by decide) Tryz.func23 rfl rfl rfl rfl rfl (f_soft_run_c hp _ _ _ _ _ hl1 _ hcall7) ?_
  rintro _ w ⟨v8, v9, rfl, y10, y11, hp⟩
  replace hp : Hp _ _ _ (Res.ar 76 v8 q6.2 :: Res.obj 27 v1 [.int .i64 cL, .int .u32 cO, .int .u32 cT] :: ow) := hp
  refine ⟨_, rfl, fun a hf => ?_⟩
  refine st_allocA (E := (Ek.pair (Ek.wp v8) (Ek.wp v8))) (N := 64) (zs := List.replicate 64 ((none : Option Nat), (none : Option Nat))) (zv := .agg ((List.replicate 64 ([.pointer none, .pointer none] : List Value)).flatten).toArray) hf (by decide) (by decide) (by decide) (by kernel_rfl) (reps_replicate (E := (Ek.pair (Ek.wp v8) (Ek.wp v8))) (vs := ([.pointer none, .pointer none] : List Value)) (x := ((none : Option Nat), (none : Option Nat))) ⟨[.pointer none], [.pointer none], rfl, ⟨_, rfl, WP.nil _⟩, ⟨_, rfl, WP.nil _⟩⟩ 64) (by simp) hp rfl ?_
  clear hf; intro a w v13 hf hp0; clear hp; have hp := hp0; clear hp0
  replace hp : Hp _ _ _ (Res.sl (Ek.pair (Ek.wp v8) (Ek.wp v8)) 73 (aslv v13 64) (List.replicate 64 ((none : Option Nat), (none : Option Nat))) :: _ :: _ :: ow) := hp
  refine st_stArr hf hp (m := 0) rfl (by decide) rfl rfl rfl y10 y11 (by kernel_rfl) ?_
  clear hf; intro a w hf hp0; clear hp; have hp := hp0; clear hp0
  replace hp : Hp _ _ _ (Res.sl (Ek.pair (Ek.wp v8) (Ek.wp v8)) 73 (aslv v13 64) q6.1 :: _ :: _ :: ow) := hp
  refine goT ?_
  have hc15 : 0 ≤ (0 : Int) ∧ (0 : Int) < (64 : Int) := by decide
  refine st_iaA (E := (Ek.pair (Ek.wp v8) (Ek.wp v8))) (N := 64) hf (by decide) Tryz.underlying73 (by kernel_rfl) rfl rfl rfl (hp.sl (i := 0) rfl) rfl hc15.1 hc15.2 fun a _ hf => ?_
  have hc17 : 0 ≤ (0 : Int) ∧ (0 : Int) < (2 : Int) := by decide
  refine st_iaP (sz := 1) hf (by decide) Tryz.underlying72 (by kernel_rfl) rfl rfl rfl (Sl.isP (hp.sl (i := 0) rfl) (aslv_ix (hp.sl (i := 0) rfl) hc15).1 (aslv_ix (hp.sl (i := 0) rfl) hc15).2) hc17.1 hc17.2 fun a _ hf => ?_
  refine st_ldQW (bs := v8) (yv := (gt q6.1 (0 : Int)).1) hf (by decide) pl70 rfl rfl (Sl.part (E := (Ek.pair (Ek.wp v8) (Ek.wp v8))) (F := (Ek.wp v8)) (o := ((0 : Int)).toNat * 1) (Sub.fst (E := (Ek.wp v8)) (F := (Ek.wp v8))) (hp.sl (i := 0) rfl) (aslv_ix (hp.sl (i := 0) rfl) hc15).1 (aslv_ix (hp.sl (i := 0) rfl) hc15).2) ?_
  clear hf; intro a v18 y19 ha hf; clear ha
  refine go ?_; intro a hf
  refine st_len (E := (Ek.pair Ek.c128 Ek.bool)) hf (by decide) Tryz.underlying33 rfl rfl (hl1.sl hp) fun a _ hf => ?_
  obtain ⟨hc20, h⟩ := chk h
  refine st_make (E := Ek.bool) hf (by decide) elt4 Tryz.underlying22 (by decide) hp rfl rfl rfl hc20.1 hc20.2.1 hc20.2.2 ?_
  clear hf; intro a w v21 hf hp0; clear hp; have hp := hp0; clear hp0
  replace hp : Hp _ _ _ (Res.sl Ek.bool 4 v21 (List.replicate ((l1.length : Int)).toNat false) :: _ :: _ :: _ :: ow) := hp
  refine go ?_; intro a hf
  refine st_len (E := (Ek.pair Ek.c128 Ek.bool)) hf (by decide) Tryz.underlying33 rfl rfl (hl1.sl hp) fun a _ hf => ?_
  refine go ?_; intro a hf
  obtain ⟨q51, hl, h⟩ := bnd h
  have hp : Hp _ _ _ (_ :: _ :: _ :: ow) := (hp.pk [0, 2, 3] 4 :)
  refine wp_loop_pure (f := (f_soft_Decode.s1 q6)) (s := ((List.replicate ((l1.length : Int)).toNat false), (IntKind.i64.wrap ((l1.length : Int) - (1 : Int))), (gt q6.1 (0 : Int)).1)) (fun s a w => ∃ (v23 : Value) (v25 : Value), Fr 66 a [(1, vl1), (2, optr v1 0), (9, v18), (10, v23), (11, .int .i64 s.2.1), (12, v25)] ∧ WP v8 v25 s.2.2 ∧ Hp S w0 w (Res.sl Ek.bool 4 v23 s.1 :: Res.ar 76 v8 q6.2 :: Res.obj 27 v1 [.int .i64 cL, .int .u32 cO, .int .u32 cT] :: ow)) (fun q e a w => e = .exit 0 ∧ ∃ (v27 : Value), Fr 66 a [(1, vl1), (2, optr v1 0), (9, v18), (10, v27)] ∧ Hp S w0 w (Res.sl Ek.bool 4 v27 q :: Res.ar 76 v8 q6.2 :: Res.obj 27 v1 [.int .i64 cL, .int .u32 cO, .int .u32 cT] :: ow)) ?_ hl ⟨_, _, hf.sb, y19, hp⟩ ?_
  ·
   clear hl hf hp
   intro s x a w h hI
   obtain ⟨bits10, i11, wx12⟩ := s
   obtain ⟨v23, v25, hf, y26, hp⟩ : ∃ (v23 : Value) (v25 : Value), Fr 66 a [(1, vl1), (2, optr v1 0), (9, v18), (10, v23), (11, .int .i64 i11), (12, v25)] ∧ WP v8 v25 wx12 ∧ Hp S w0 w (Res.sl Ek.bool 4 v23 bits10 :: Res.ar 76 v8 q6.2 :: Res.obj 27 v1 [.int .i64 cL, .int .u32 cO, .int .u32 cT] :: ow) := hI
   replace h : f_soft_Decode.s1c q6 bits10 i11 wx12 = some x := h
   unfold f_soft_Decode.s1c at h
   refine go ?_; intro a hf
   refine wp_if hf rfl (fun hb => ?_) (fun hb => ?_)
   ·
    replace h := ifT h hb
    refine wp_skip ?_
    refine go ?_; intro a hf
    obtain ⟨n29, hx30, h⟩ := bnd h
    refine st_nilE hf (by decide) rfl rfl (WP.ptr y26 hx30) fun a _ hf => ?_
    refine st_faP (off := 0) (sz := 1) hf (by decide) (by kernel_rfl) (by decide) rfl rfl (WP.isP y26 hx30) fun a _ hf => ?_
    obtain ⟨v31, bb32, y33, y34, ho35⟩ := RdA.at (hp.ara (i := 1) rfl) y26 hx30
    refine st_ldO (u := .bool ((nth q6.2 n29).1)) hf (by decide) pl4 rfl rfl ho35 rfl fun a _ hf => ?_
    obtain ⟨hc36, h⟩ := chk h
    refine st_index (E := Ek.bool) hf (by decide) Tryz.underlying22 elt4 rfl rfl rfl (hp.sl (i := 0) rfl) hc36.1 hc36.2 fun a _ hf => ?_
    refine st_store (E := Ek.bool) hf elt4 hp (i := 0) rfl rfl rfl rfl rfl hc36.1 hc36.2 ?_
    clear hf; intro a w hf hp0; clear hp; have hp := hp0; clear hp0
    replace hp : Hp _ _ _ (Res.sl Ek.bool 4 v23 (bits10.set (i11).toNat ((nth q6.2 n29).1)) :: _ :: _ :: ow) := hp
    refine goT ?_
    obtain ⟨S37, hp38, rd39, up40, bk41⟩ := Hp.lendA hp (i := 1) rfl
    have rl42 := rd39
    have rl43 := ((hl1.now hp).mono up40)
    obtain ⟨n44, hx45, h⟩ := bnd h
    obtain ⟨v46, bb47, y48, y49, ho50⟩ := RdA.at rl42 y26 hx45
    refine wp_cutN (fun a w => ∃ (v46 : Value), WP v8 v46 (nth q6.2 n44).2.1 ∧ Fr 66 a [(1, vl1), (2, optr v1 0), (9, v18), (10, v23), (11, .int .i64 (IntKind.i64.wrap (i11 - (1 : Int)))), (12, v46)] ∧ Hp S w0 w (Res.ar 76 v8 q6.2 :: Res.sl Ek.bool 4 v23 (bits10.set (i11).toNat ((nth q6.2 n29).1)) :: Res.obj 27 v1 [.int .i64 cL, .int .u32 cO, .int .u32 cT] :: ow)) ?_ ?_
    ·
     have hp := hp38.same (Same.drew w)
     refine dr_begin' _ (fun w' => ∃ l, Hp S37 w w' l) [] (by kernel_rfl) ?_
     refine dv 0 hf ⟨_, hp⟩ fun a hf => ?_
     refine dv 1 hf ⟨_, hp⟩ fun a hf => ?_
     refine dv 2 hf ⟨_, hp⟩ fun a hf => ?_
     refine dr_nilE 3 rfl (by kernel_rfl) (by kernel_rfl) (by kernel_rfl) hf (by decide) rfl rfl (WP.ptr y26 hx45) ?_
     clear hf; intro a hf
     refine dr_takeK 4 _ rfl hf rfl (fun w ⟨_, hp⟩ => st_faP (off := 1) (sz := 1) hf (by decide) (by kernel_rfl) (by decide) rfl rfl (WP.isP y26 hx45) tk) ⟨_, hp⟩ fun a hf => ?_
     refine dr_takeK 5 _ rfl hf rfl (fun w ⟨_, hp⟩ => st_ldO (u := v46) hf (by decide) pl70 rfl rfl (ho50.ob hp) rfl tk) ⟨_, hp⟩ fun a hf => ?_
     refine dv 6 hf ⟨_, hp⟩ fun a hf => ?_
     refine dv 7 hf ⟨_, hp⟩ fun a hf => ?_
     refine dr_end (by kernel_rfl) ?_ _
     have hp := bk41 _ _ hp
     exact ⟨v46, y48, hf.sb, hp⟩
    rintro a w ⟨v46, y48, hf, hp⟩
    obtain rfl := oj h
    have hp : Hp _ _ _ (_ :: _ :: _ :: ow) := (hp.pk [1, 0, 2] 3 :)
    exact rnd_l ⟨_, _, hf.sb, y48, hp⟩
   replace h := ifF h hb
   refine wp_exit ?_
   refine th_e ?_
   obtain rfl := oj h
   exact rnd_r (by simp) ⟨rfl, _, hf.sb, hp⟩
  clear hl hf hp
  intro e a w hne hO
  obtain ⟨rfl, v27, hf, hp⟩ := hO
  refine ib_same ?_
  refine goT ?_
  obtain ⟨S52, hp53, rd54, up55, bk56⟩ := Hp.lendO hp (i := 2) rfl
  obtain ⟨S57, hp58, rd59, up60, bk61⟩ := Hp.lendA hp53 (i := 1) rfl
  obtain ⟨S62, hp63, rd64, up65, bk66⟩ := Hp.lendS hp58 (i := 0) rfl
  have rl67 := ((rd59.now hp58).mono up65)
  have rl68 := ((((((hl1.now hp).mono up55).now hp53).mono up60).now hp58).mono up65)
  have rl69 := ((((rd54.now hp53).mono up60).now hp58).mono up65)
  have rl70 := rd64
  obtain ⟨hc71, h⟩ := chk h
  have hc72 : 0 ≤ ((IntKind.i64.wrap ((IntKind.i64.wrap ((l1.length : Int) - cL)) + (1 : Int)))).toNat := by omega
  have hc73 : ((IntKind.i64.wrap ((IntKind.i64.wrap ((l1.length : Int) - cL)) + (1 : Int)))).toNat ≤ q51.length := by omega
  obtain ⟨hc75, h⟩ := chk h
  obtain ⟨n77, hx78, h⟩ := bnd h
  obtain ⟨v79, bb80, y81, y82, ho83⟩ := RdA.at rl67 y19 hx78
  refine wp_cutN (fun a w => ∃ (v76 : Value) (bb80 : Nat), Fl.rep bb80 (nth q6.2 n77).2.2.1 ∧ Fr 66 a [(4, v76), (5, .float .f64 bb80), (6, .int .i64 (0 : Int))] ∧ Hp S w0 w (Res.obj 27 v1 [.int .i64 cL, .int .u32 cO, .int .u32 cT] :: Res.ar 76 v8 q6.2 :: Res.sl Ek.bool 4 v27 q51 :: Res.sl Ek.bool 4 v76 (([] : List Bool) ++ ((q51.drop 0).take (((IntKind.i64.wrap ((IntKind.i64.wrap ((l1.length : Int) - cL)) + (1 : Int)))).toNat - 0))) :: ow)) ?_ ?_
  ·
   have hp := hp63.same (Same.drew w)
   refine dr_begin' _ (fun w' => ∃ l, Hp S62 w w' l) [] (by kernel_rfl) ?_
   refine dv 0 hf ⟨_, hp⟩ fun a hf => ?_
   refine dv 1 hf ⟨_, hp⟩ fun a hf => ?_
   refine dr_takeK 2 _ rfl hf rfl (fun w ⟨_, hp⟩ => st_len (E := (Ek.pair Ek.c128 Ek.bool)) hf (by decide) Tryz.underlying33 rfl rfl (rl68.sl hp) tk) ⟨_, hp⟩ fun a hf => ?_
   refine dr_takeK 3 _ rfl hf rfl (fun w ⟨_, hp⟩ => st_fa (o' := 0) hf (by decide) (off := 0) (sz := 1) (by kernel_rfl) (by decide) rfl rfl (rl69.ob hp) rfl tk) ⟨_, hp⟩ fun a hf => ?_
   refine dr_takeK 4 _ rfl hf rfl (fun w ⟨_, hp⟩ => st_ldO (u := .int .i64 cL) hf (by decide) pl3 rfl rfl (rl69.ob hp) rfl tk) ⟨_, hp⟩ fun a hf => ?_
   refine dv 5 hf ⟨_, hp⟩ fun a hf => ?_
   refine dv 6 hf ⟨_, hp⟩ fun a hf => ?_
   refine dr_takeK 7 _ rfl hf rfl (fun w ⟨_, hp⟩ => st_cutS (E := Ek.bool) hf (by decide) Tryz.underlying22 elt4 rfl rfl (rl70.sl hp) (.inl ⟨rfl, rfl⟩) (.inr ⟨_, _, rfl, evI rfl (by omega)⟩) hc72 hc73 tk) ⟨_, hp⟩ fun a hf => ?_
   refine dv 9 hf ⟨_, hp⟩ fun a hf => ?_
   refine dr_nilE 10 rfl (by kernel_rfl) (by kernel_rfl) (by kernel_rfl) hf (by decide) rfl rfl (WP.ptr y19 hx78) ?_
   clear hf; intro a hf
   refine dr_takeK 11 _ rfl hf rfl (fun w ⟨_, hp⟩ => st_faP (off := 2) (sz := 1) hf (by decide) (by kernel_rfl) (by decide) rfl rfl (WP.isP y19 hx78) tk) ⟨_, hp⟩ fun a hf => ?_
   refine dr_takeK 12 _ rfl hf rfl (fun w ⟨_, hp⟩ => st_ldO (u := .float .f64 bb80) hf (by decide) pl39 rfl rfl (ho83.ob hp) rfl tk) ⟨_, hp⟩ fun a hf => ?_
   refine dr_one 8 rfl (by kernel_rfl) ?_
   have hp := hp.nil Ek.bool 4
   refine st_append (E := Ek.bool) hf (by decide) elt4 Tryz.underlying22 (by decide) hp (i := 0) rfl rfl rfl rfl ((RdS.cut rl70 hc72 hc73).sl hp) hc75 ?_
   clear hf; intro a w v76 hf hp0; clear hp; have hp := hp0; clear hp0
   replace hp : Hp _ _ _ (Res.sl Ek.bool 4 v76 (([] : List Bool) ++ ((q51.drop 0).take (((IntKind.i64.wrap ((IntKind.i64.wrap ((l1.length : Int) - cL)) + (1 : Int)))).toNat - 0))) :: ow) := hp
   refine nx hf (fun _ _ => ⟨_, hp⟩) ?_
   refine dv 13 hf ⟨_, hp⟩ fun a hf => ?_
   refine dv 14 hf ⟨_, hp⟩ fun a hf => ?_
   refine dv 15 hf ⟨_, hp⟩ fun a hf => ?_
   refine dr_end (by kernel_rfl) ?_ _
   have hp := bk66 _ _ hp
   have hp := bk61 _ _ hp
   have hp := bk56 _ _ hp
   exact ⟨v76, bb80, y82, hf.sb, hp⟩
  rintro a w ⟨v76, bb80, y82, hf, hp⟩
  refine goT ?_
  obtain rfl := oj h
  have hp : Hp _ _ _ (_ :: ow) := (hp.pk [3] 4 :)
  exact ⟨rfl, ⟨_, _, hf.sb, y82, hp⟩⟩

noncomputable def f_soft_Path.s1c (cL : Int) (cO : Int) (cT : Int) (bits1 : (List Bool)) (l2 : (List ((Fl × Fl) × Bool))) (sum10 : Fl) (state11 : Int) (t47 : Int) : Option ((Fl × Int × Int) ⊕ Fl) := (if (decide (t47 < (l2.length : Int))) = true then (if 0 ≤ t47 ∧ t47 < (l2.length : Int) then ((if (decide (t47 < (bits1.length : Int))) = true then (if 0 ≤ t47 ∧ t47 < (bits1.length : Int) then (some (gt bits1 t47)) else none) else (some false)).bind fun z35 => ((f_trellis_Code_Step cL cO cT state11 z35).bind fun q36 => ((f_soft_cost q36.2.1 q36.2.2.1 ((gt l2 t47).1) ((gt l2 t47).2)).bind fun q38 => (some (Sum.inl ((fadd sum10 q38), q36.1, (IntKind.i64.wrap (t47 + (1 : Int))))))))) else none) else (some (Sum.inr sum10)))
noncomputable def f_soft_Path.s1 (cL : Int) (cO : Int) (cT : Int) (bits1 : (List Bool)) (l2 : (List ((Fl × Fl) × Bool))) (s : (Fl × Int × Int)) : Option ((Fl × Int × Int) ⊕ Fl) := f_soft_Path.s1c cL cO cT bits1 l2 s.1 s.2.1 s.2.2
noncomputable def f_soft_Path (cL : Int) (cO : Int) (cT : Int) (bits1 : (List Bool)) (l2 : (List ((Fl × Fl) × Bool))) : Option (Fl × Int) := ((f_trellis_Code_Check cL cO cT).bind fun q3 => (if (((q3 != (0 : Int)) || (decide ((16384 : Int) < (l2.length : Int)))) || ((IntKind.i64.wrap ((IntKind.i64.wrap ((bits1.length : Int) + cL)) - (1 : Int))) != (l2.length : Int))) = true then (some ((Fl.bits 0), (1 : Int))) else ((f_grid_Check l2).bind fun q9 => (if (q9.2 != (0 : Int)) = true then (some ((Fl.bits 0), q9.2)) else ((loop (f_soft_Path.s1 cL cO cT bits1 l2) ((Fl.bits 0), (0 : Int), (0 : Int))).bind (fun q44 => (some (q44, (0 : Int)))))))))
theorem f_soft_Path_c {S : Nat → Prop} {w0 w : World} {ow : List Res} (hp : Hp S w0 w ow) (cL : Int) (cO : Int) (cT : Int) (vbits1 : Value) (bits1 : (List Bool)) (hbits1 : RdS Ek.bool S w0 vbits1 bits1) (vl2 : Value) (l2 : (List ((Fl × Fl) × Bool))) (hl2 : RdS (Ek.pair Ek.c128 Ek.bool) S w0 vl2 l2) {r : (Fl × Int)} (h : f_soft_Path cL cO cT bits1 l2 = some r) :
   Calls Tryz.prog 11 #[.agg #[.int .i64 cL, .int .u32 cO, .int .u32 cT], vbits1, vl2] w (fun e w' => ∃ (b0 : Nat), e = .returned (.tuple #[.float .f64 b0, .int .i64 r.2]) ∧ Fl.rep b0 r.1 ∧ Hp S w0 w' (ow)) := by
  unfold f_soft_Path at h
  refine enx (n := 79) Tryz.func11 fun a hf => ?_
  refine wp_mono (Q := fun e a w => e = .ret ∧ ∃ (b0 : Nat), Fr 79 a [(6, .float .f64 b0), (7, .int .i64 r.2)] ∧ Fl.rep b0 r.1 ∧ Hp S w0 w (ow)) ?_ ?_
  rotate_left
  ·
   rintro e a w ⟨rfl, x0, hf, y0, hp⟩
   exact ret2 hf rfl rfl rfl ⟨x0, rfl, y0, hp⟩
  refine goT ?_
  refine st_boxO (cs := [.int .i64 cL, .int .u32 cO, .int .u32 cT]) hf (by decide) hp rfl rfl rfl ?_
  clear hf; intro a w v1 hf hp0; clear hp; have hp := hp0; clear hp0
  replace hp : Hp _ _ _ (Res.obj 27 v1 [.int .i64 cL, .int .u32 cO, .int .u32 cT] :: ow) := hp
  refine go ?_; intro a hf
  refine st_ldOA (m := 3) (us := [.int .i64 cL, .int .u32 cO, .int .u32 cT]) hf (by decide) (by kernel_rfl) rfl rfl (hp.ob (i := 0) rfl) rfl rfl fun a _ hf => ?_
  obtain ⟨q3, hcall4, h⟩ := bnd h
  refine st_call hf (by decide) Tryz.func24 rfl rfl rfl rfl rfl (f_trellis_Code_Check_c hp _ _ _ hcall4) ?_
  rintro _ w ⟨rfl, hp⟩
  replace hp : Hp _ _ _ (_ :: ow) := hp
  refine ⟨_, rfl, fun a hf => ?_⟩
  refine go ?_; intro a hf
  refine wpList_cut 4 (fun a w => Fr 79 a [(1, vbits1), (2, vl2), (3, optr v1 0), (25, .bool ((q3 != (0 : Int)) || (decide ((16384 : Int) < (l2.length : Int)))))] ∧ Hp S w0 w (Res.obj 27 v1 [.int .i64 cL, .int .u32 cO, .int .u32 cT] :: ow)) ?_ ?_
  ·
   rcases Bool.eq_false_or_eq_true (q3 != (0 : Int)) with hb6 | hb6
   ·
    refine go ?_; intro a hf
    exact ⟨hf.sub ⟨rfl, rfl, rfl, (by rw [hb6]; rfl), trivial⟩, hp⟩
   refine go ?_; intro a hf
   refine st_len (E := (Ek.pair Ek.c128 Ek.bool)) hf (by decide) Tryz.underlying33 (wantY hf rfl rfl hb6) rfl (hl2.sl hp) fun a _ hf => ?_
   refine go ?_; intro a hf
   exact ⟨hf.sub ⟨rfl, rfl, rfl, (by rw [hb6]; rfl), trivial⟩, hp⟩
  rintro a w ⟨hf, hp⟩
  refine go ?_; intro a hf
  refine wpList_cut 10 (fun a w => Fr 79 a [(1, vbits1), (2, vl2), (3, optr v1 0), (36, .bool (((q3 != (0 : Int)) || (decide ((16384 : Int) < (l2.length : Int)))) || ((IntKind.i64.wrap ((IntKind.i64.wrap ((bits1.length : Int) + cL)) - (1 : Int))) != (l2.length : Int))))] ∧ Hp S w0 w (Res.obj 27 v1 [.int .i64 cL, .int .u32 cO, .int .u32 cT] :: ow)) ?_ ?_
  ·
   rcases Bool.eq_false_or_eq_true ((q3 != (0 : Int)) || (decide ((16384 : Int) < (l2.length : Int)))) with hb8 | hb8
   ·
    refine go ?_; intro a hf
    exact ⟨hf.sub ⟨rfl, rfl, rfl, (by rw [hb8]; rfl), trivial⟩, hp⟩
   refine go ?_; intro a hf
   refine st_len (E := Ek.bool) hf (by decide) Tryz.underlying22 (wantY hf rfl rfl hb8) rfl (hbits1.sl hp) fun a _ hf => ?_
   refine st_fa (o' := 0) hf (by decide) (off := 0) (sz := 1) (by kernel_rfl) (by decide) (wantY hf rfl rfl hb8) rfl (hp.ob (i := 0) rfl) rfl fun a _ hf => ?_
   refine st_ldO (u := .int .i64 cL) hf (by decide) pl3 (wantY hf rfl rfl hb8) rfl (hp.ob (i := 0) rfl) rfl fun a _ hf => ?_
   refine go ?_; intro a hf
   refine st_len (E := (Ek.pair Ek.c128 Ek.bool)) hf (by decide) Tryz.underlying33 (wantY hf rfl rfl hb8) rfl (hl2.sl hp) fun a _ hf => ?_
   refine go ?_; intro a hf
   exact ⟨hf.sub ⟨rfl, rfl, rfl, (by rw [hb8]; rfl), trivial⟩, hp⟩
  rintro a w ⟨hf, hp⟩
  refine goT ?_
  refine wp_if hf rfl (fun hb => ?_) (fun hb => ?_)
  ·
   replace h := ifT h hb
   refine go ?_; intro a hf
   obtain rfl := oj h
   have hp : Hp _ _ _ (ow) := (hp.pk [] 1 :)
   exact ⟨rfl, ⟨_, hf.sb, rfl, hp⟩⟩
  replace h := ifF h hb
  refine wp_skip ?_
  refine go ?_; intro a hf
  obtain ⟨q9, hcall10, h⟩ := bnd h
  refine st_call hf (by decide) Tryz.func25 rfl rfl rfl rfl rfl (f_grid_Check_c hp _ _ hl2 hcall10) ?_
  rintro _ w ⟨rfl, hp⟩
  replace hp : Hp _ _ _ (_ :: ow) := hp
  refine ⟨_, rfl, fun a hf => ?_⟩
  refine go ?_; intro a hf
  refine wp_if hf rfl (fun hb => ?_) (fun hb => ?_)
  ·
   replace h := ifT h hb
   refine go ?_; intro a hf
   obtain rfl := oj h
   have hp : Hp _ _ _ (ow) := (hp.pk [] 1 :)
   exact ⟨rfl, ⟨_, hf.sb, rfl, hp⟩⟩
  replace h := ifF h hb
  refine wp_skip ?_
  refine go ?_; intro a hf
  refine st_len (E := (Ek.pair Ek.c128 Ek.bool)) hf (by decide) Tryz.underlying33 rfl rfl (hl2.sl hp) fun a _ hf => ?_
  refine go ?_; intro a hf
  obtain ⟨q44, hl, h⟩ := bnd h
  refine wp_loop_pure (f := (f_soft_Path.s1 cL cO cT bits1 l2)) (s := ((Fl.bits 0), (0 : Int), (0 : Int))) (fun s a w => ∃ (bb11 : Nat), Fr 79 a [(1, vbits1), (3, optr v1 0), (10, .float .f64 bb11), (11, .int .i64 s.2.1), (45, vl2), (46, .int .i64 (l2.length : Int)), (47, .int .i64 s.2.2)] ∧ Fl.rep bb11 s.1 ∧ Hp S w0 w (Res.obj 27 v1 [.int .i64 cL, .int .u32 cO, .int .u32 cT] :: ow)) (fun q e a w => e = .exit 0 ∧ ∃ (bb13 : Nat), Fr 79 a [(10, .float .f64 bb13)] ∧ Fl.rep bb13 q ∧ Hp S w0 w (ow)) ?_ hl ⟨_, hf.sb, rfl, hp⟩ ?_
  ·
   clear hl hf hp
   intro s x a w h hI
   obtain ⟨sum10, state11, t47⟩ := s
   obtain ⟨bb11, hf, y12, hp⟩ : ∃ (bb11 : Nat), Fr 79 a [(1, vbits1), (3, optr v1 0), (10, .float .f64 bb11), (11, .int .i64 state11), (45, vl2), (46, .int .i64 (l2.length : Int)), (47, .int .i64 t47)] ∧ Fl.rep bb11 sum10 ∧ Hp S w0 w (Res.obj 27 v1 [.int .i64 cL, .int .u32 cO, .int .u32 cT] :: ow) := hI
   replace h : f_soft_Path.s1c cL cO cT bits1 l2 sum10 state11 t47 = some x := h
   unfold f_soft_Path.s1c at h
   refine go ?_; intro a hf
   refine wp_if hf rfl (fun hb => ?_) (fun hb => ?_)
   ·
    replace h := ifT h hb
    refine wp_skip ?_
    refine go ?_; intro a hf
    obtain ⟨hc15, h⟩ := chk h
    refine st_index (E := (Ek.pair Ek.c128 Ek.bool)) hf (by decide) Tryz.underlying33 elt37 rfl rfl rfl (hl2.sl hp) hc15.1 hc15.2 fun a _ hf => ?_
    refine st_ldQA (F := (Ek.pair Ek.c128 Ek.bool)) (yv := (gt l2 t47)) (m := 2) hf (by decide) (by kernel_rfl) rfl rfl rfl (Part.whole (hl2.sl hp) hc15.1 hc15.2) ?_
    clear hf; intro a cs16 hr17 ha hf; clear ha
    obtain ⟨_, _, rfl, ⟨bb18, bb19, rfl, y20, y21⟩, rfl⟩ := hr17
    replace hf : Fr _ _ ((51, .agg #[.complex .f64 bb18 bb19, .bool ((gt l2 t47).2)]) :: _) := hf
    refine st_alloc (cs := [.complex .f64 0 0, .bool false]) (zv := .agg #[.complex .f64 0 0, .bool false]) hf (by decide) (by kernel_rfl) rfl hp rfl ?_
    clear hf; intro a w v22 hf hp0; clear hp; have hp := hp0; clear hp0
    replace hp : Hp _ _ _ (Res.obj 37 v22 [.complex .f64 0 0, .bool false] :: _ :: ow) := hp
    refine go ?_; intro a hf
    refine st_stO (us := [.complex .f64 bb18 bb19, .bool ((gt l2 t47).2)]) hf hp (i := 0) rfl rfl rfl rfl rfl (by rfl) (by kernel_rfl) (Nat.le_of_ble_eq_true rfl) ?_
    clear hf; intro a w hf hp0; clear hp; have hp := hp0; clear hp0
    replace hp : Hp _ _ _ (Res.obj 37 v22 [.complex .f64 bb18 bb19, .bool ((gt l2 t47).2)] :: _ :: ow) := hp
    refine goT ?_
    obtain ⟨S24, hp25, rd26, up27, bk28⟩ := Hp.lendO hp (i := 1) rfl
    have rl29 := ((hbits1.now hp).mono up27)
    have rl30 := rd26
    have rl31 := ((hl2.now hp).mono up27)
    obtain ⟨z35, hz32, h⟩ := bnd h
    obtain ⟨q36, hcall37, h⟩ := bnd h
    refine wp_cutN (fun a w => Fr 79 a [(1, vbits1), (3, optr v1 0), (10, .float .f64 bb11), (13, optr v22 0), (14, .int .i64 q36.1), (15, .bool q36.2.1), (16, .bool q36.2.2.1), (45, vl2), (46, .int .i64 (l2.length : Int)), (47, .int .i64 t47)] ∧ Hp S w0 w (Res.obj 27 v1 [.int .i64 cL, .int .u32 cO, .int .u32 cT] :: Res.obj 37 v22 [.complex .f64 bb18 bb19, .bool ((gt l2 t47).2)] :: ow)) ?_ ?_
    ·
     have hp := hp25.same (Same.drew w)
     rcases Bool.eq_false_or_eq_true (decide (t47 < (bits1.length : Int))) with hb33 | hb33
     ·
      replace hz32 := ifT hz32 hb33
      obtain ⟨hc34, hz32⟩ := chk hz32
      replace hz32 := Option.some.inj hz32
      refine dr_begin' _ (fun w' => ∃ l, Hp S24 w w' l) [] (by kernel_rfl) ?_
      refine dr_takeK 0 _ rfl hf rfl (fun w ⟨_, hp⟩ => st_ldOA (m := 3) (us := [.int .i64 cL, .int .u32 cO, .int .u32 cT]) hf (by decide) (by kernel_rfl) rfl rfl (rl30.ob hp) rfl rfl tk) ⟨_, hp⟩ fun a hf => ?_
      refine dv 1 hf ⟨_, hp⟩ fun a hf => ?_
      refine dv 2 hf ⟨_, hp⟩ fun a hf => ?_
      refine dv 3 hf ⟨_, hp⟩ fun a hf => ?_
      refine dr_takeK 4 _ rfl hf rfl (fun w ⟨_, hp⟩ => st_len (E := Ek.bool) hf (by decide) Tryz.underlying22 rfl rfl (rl29.sl hp) tk) ⟨_, hp⟩ fun a hf => ?_
      refine dv 5 hf ⟨_, hp⟩ fun a hf => ?_
      refine dv 6 hf ⟨_, hp⟩ fun a hf => ?_
      refine dvY 7 hf hb33 ⟨_, hp⟩ fun a hf => ?_
      refine dvY 8 hf hb33 ⟨_, hp⟩ fun a hf => ?_
      refine dr_takeK 9 _ rfl hf (wantY hf rfl rfl hb33) (fun w ⟨_, hp⟩ => st_index (E := Ek.bool) hf (by decide) Tryz.underlying22 elt4 (wantY hf rfl rfl hb33) rfl rfl (rl29.sl hp) hc34.1 hc34.2 tk) ⟨_, hp⟩ fun a hf => ?_
      refine dr_takeK 10 _ rfl hf (wantY hf rfl rfl hb33) (fun w ⟨_, hp⟩ => st_ldB hf (by decide) pl4 (wantY hf rfl rfl hb33) rfl (rl29.sl hp) hc34.1 hc34.2 tk) ⟨_, hp⟩ fun a hf => ?_
      refine dr_takeK 11 _ rfl hf rfl (fun w ⟨_, hp⟩ => st_pick (v := .bool z35) hf rfl rfl (fun _ => by rw [← hz32]; rfl) (fun hb' => absurd (hb33.symm.trans hb') (by decide)) (by decide) tk) ⟨_, hp⟩ fun a hf => ?_
      refine dr_one 12 rfl (by kernel_rfl) ?_
      refine st_call hf (by decide) Tryz.func26 rfl rfl rfl rfl rfl (f_trellis_Code_Step_c hp _ _ _ _ _ hcall37) ?_
      rintro _ w ⟨rfl, hp⟩
      replace hp : Hp _ _ _ (_ :: ow) := hp
      refine ⟨_, rfl, fun a hf => ?_⟩
      refine nx hf (fun _ _ => ⟨_, hp⟩) ?_
      refine dv 13 hf ⟨_, hp⟩ fun a hf => ?_
      refine dv 14 hf ⟨_, hp⟩ fun a hf => ?_
      refine dv 15 hf ⟨_, hp⟩ fun a hf => ?_
      refine dv 16 hf ⟨_, hp⟩ fun a hf => ?_
      refine dv 17 hf ⟨_, hp⟩ fun a hf => ?_
      refine dv 18 hf ⟨_, hp⟩ fun a hf => ?_
      refine dv 19 hf ⟨_, hp⟩ fun a hf => ?_
      refine dv 20 hf ⟨_, hp⟩ fun a hf => ?_
      refine dv 21 hf ⟨_, hp⟩ fun a hf => ?_
      refine dr_end (by kernel_rfl) ?_ _
      have hp := bk28 _ _ hp
      exact ⟨hf.sb, hp⟩
     skip
     replace hz32 := ifF hz32 hb33
     replace hz32 := Option.some.inj hz32
     refine dr_begin' _ (fun w' => ∃ l, Hp S24 w w' l) [] (by kernel_rfl) ?_
     refine dr_takeK 0 _ rfl hf rfl (fun w ⟨_, hp⟩ => st_ldOA (m := 3) (us := [.int .i64 cL, .int .u32 cO, .int .u32 cT]) hf (by decide) (by kernel_rfl) rfl rfl (rl30.ob hp) rfl rfl tk) ⟨_, hp⟩ fun a hf => ?_
     refine dv 1 hf ⟨_, hp⟩ fun a hf => ?_
     refine dv 2 hf ⟨_, hp⟩ fun a hf => ?_
     refine dv 3 hf ⟨_, hp⟩ fun a hf => ?_
     refine dr_takeK 4 _ rfl hf rfl (fun w ⟨_, hp⟩ => st_len (E := Ek.bool) hf (by decide) Tryz.underlying22 rfl rfl (rl29.sl hp) tk) ⟨_, hp⟩ fun a hf => ?_
     refine dv 5 hf ⟨_, hp⟩ fun a hf => ?_
     refine dv 6 hf ⟨_, hp⟩ fun a hf => ?_
     refine dr_outK 7 rfl hf rfl (wantN hf rfl rfl hb33) ⟨_, hp⟩ fun a hf => ?_
     refine dr_outK 8 rfl hf rfl (wantN hf rfl rfl hb33) ⟨_, hp⟩ fun a hf => ?_
     refine dr_outK 9 rfl hf rfl (wantN hf rfl rfl hb33) ⟨_, hp⟩ fun a hf => ?_
     refine dr_outK 10 rfl hf rfl (wantN hf rfl rfl hb33) ⟨_, hp⟩ fun a hf => ?_
     refine dr_takeK 11 _ rfl hf rfl (fun w ⟨_, hp⟩ => st_pick (v := .bool z35) hf rfl rfl (fun hb' => absurd (hb33.symm.trans hb') (by decide)) (fun _ => by rw [← hz32]; rfl) (by decide) tk) ⟨_, hp⟩ fun a hf => ?_
     refine dr_one 12 rfl (by kernel_rfl) ?_
     refine st_call hf (by decide) Tryz.func26 rfl rfl rfl rfl rfl (f_trellis_Code_Step_c hp _ _ _ _ _ hcall37) ?_
     rintro _ w ⟨rfl, hp⟩
     replace hp : Hp _ _ _ (_ :: ow) := hp
     refine ⟨_, rfl, fun a hf => ?_⟩
     refine nx hf (fun _ _ => ⟨_, hp⟩) ?_
     refine dv 13 hf ⟨_, hp⟩ fun a hf => ?_
     refine dv 14 hf ⟨_, hp⟩ fun a hf => ?_
     refine dv 15 hf ⟨_, hp⟩ fun a hf => ?_
     refine dv 16 hf ⟨_, hp⟩ fun a hf => ?_
     refine dv 17 hf ⟨_, hp⟩ fun a hf => ?_
     refine dv 18 hf ⟨_, hp⟩ fun a hf => ?_
     refine dv 19 hf ⟨_, hp⟩ fun a hf => ?_
     refine dv 20 hf ⟨_, hp⟩ fun a hf => ?_
     refine dv 21 hf ⟨_, hp⟩ fun a hf => ?_
     refine dr_end (by kernel_rfl) ?_ _
     have hp := bk28 _ _ hp
     exact ⟨hf.sb, hp⟩
    rintro a w ⟨hf, hp⟩
    refine go ?_; intro a hf
    refine st_ldOA (m := 2) (us := [.complex .f64 bb18 bb19, .bool ((gt l2 t47).2)]) hf (by decide) (by kernel_rfl) rfl rfl (hp.ob (i := 1) rfl) rfl rfl fun a _ hf => ?_
    obtain ⟨q38, hcall39, h⟩ := bnd h
    refine st_call hf (by decide) Tryz.func27 rfl rfl rfl rfl rfl (f_soft_cost_c hp _ _ _ _ _ (show Fl.rep bb18 ((gt l2 t47).1).1 from y20) (show Fl.rep bb19 ((gt l2 t47).1).2 from y21) _ hcall39) ?_
    rintro _ w ⟨v40, rfl, y41, hp⟩
    replace hp : Hp _ _ _ (Res.obj 27 v1 [.int .i64 cL, .int .u32 cO, .int .u32 cT] :: _ :: ow) := hp
    refine ⟨_, rfl, fun a hf => ?_⟩
    refine st_farith (op := .add) rfl hf (by decide) hp rfl rfl rfl (show Fl.rep bb11 sum10 from y12) (show Fl.rep v40 q38 from y41) ?_
    clear hf; intro a w bb42 y43 hf hp0; clear hp; have hp := hp0; clear hp0
    replace hp : Hp _ _ _ (_ :: _ :: ow) := hp
    refine go ?_; intro a hf
    obtain rfl := oj h
    have hp : Hp _ _ _ (_ :: ow) := (hp.pk [0] 2 :)
    exact rnd_l ⟨_, hf.sb, y43, hp⟩
   replace h := ifF h hb
   refine wp_exit ?_
   refine th_e ?_
   obtain rfl := oj h
   have hp : Hp _ _ _ (ow) := (hp.pk [] 1 :)
   exact rnd_r (by simp) ⟨rfl, _, hf.sb, y12, hp⟩
  clear hl hf hp
  intro e a w hne hO
  obtain ⟨rfl, bb13, hf, y14, hp⟩ := hO
  refine ib_same ?_
  refine go ?_; intro a hf
  obtain rfl := oj h
  exact ⟨rfl, ⟨_, hf.sb, y14, hp⟩⟩

noncomputable def f_load_carriers (n0 : Int) : Option Bool := (some ((decide ((1 : Int) ≤ n0)) && (decide (n0 ≤ (256 : Int)))))
theorem f_load_carriers_c {S : Nat → Prop} {w0 w : World} {ow : List Res} (hp : Hp S w0 w ow) (n0 : Int) {r : Bool} (h : f_load_carriers n0 = some r) :
   Calls Tryz.prog 45 #[.int .i64 n0] w (fun e w' => e = .returned (.bool r) ∧ Hp S w0 w' (ow)) := by
  unfold f_load_carriers at h
  refine enx (n := 9) Tryz.func45 fun a hf => ?_
  refine wp_mono (Q := fun e a w => e = .ret ∧ Fr 9 a [(2, .bool r)] ∧ Hp S w0 w (ow)) ?_ ?_
  rotate_left
  ·
   rintro e a w ⟨rfl, hf, hp⟩
   exact ret1 hf rfl rfl ⟨rfl, hp⟩
  refine go ?_; intro a hf
  refine wpList_cut 3 (fun a w => Fr 9 a [(8, .bool ((decide ((1 : Int) ≤ n0)) && (decide (n0 ≤ (256 : Int)))))] ∧ Hp S w0 w (ow)) ?_ ?_
  ·
   rcases Bool.eq_false_or_eq_true (decide ((1 : Int) ≤ n0)) with hb2 | hb2
   ·
    refine go ?_; intro a hf
    exact ⟨hf.sub ⟨(by rw [hb2]; rfl), trivial⟩, hp⟩
   refine go ?_; intro a hf
   exact ⟨hf.sub ⟨(by rw [hb2]; rfl), trivial⟩, hp⟩
  rintro a w ⟨hf, hp⟩
  refine go ?_; intro a hf
  obtain rfl := oj h
  exact ⟨rfl, ⟨hf.sb, hp⟩⟩

noncomputable def f_load_may_1 (wx0 : Int) : Option Bool := (some ((decide (wx0 < (1 : Int))) || (decide ((1048576 : Int) < wx0))))
theorem f_load_may_1_c {S : Nat → Prop} {w0 w : World} {ow : List Res} (hp : Hp S w0 w ow) (wx0 : Int) {r : Bool} (h : f_load_may_1 wx0 = some r) :
   Calls Tryz.prog 57 #[.int .i64 wx0] w (fun e w' => e = .returned (.bool r) ∧ Hp S w0 w' (ow)) := by
  unfold f_load_may_1 at h
  refine enx (n := 9) Tryz.func57 fun a hf => ?_
  refine wp_mono (Q := fun e a w => e = .ret ∧ Fr 9 a [(2, .bool r)] ∧ Hp S w0 w (ow)) ?_ ?_
  rotate_left
  ·
   rintro e a w ⟨rfl, hf, hp⟩
   exact ret1 hf rfl rfl ⟨rfl, hp⟩
  refine go ?_; intro a hf
  refine wpList_cut 3 (fun a w => Fr 9 a [(8, .bool ((decide (wx0 < (1 : Int))) || (decide ((1048576 : Int) < wx0))))] ∧ Hp S w0 w (ow)) ?_ ?_
  ·
   rcases Bool.eq_false_or_eq_true (decide (wx0 < (1 : Int))) with hb2 | hb2
   ·
    refine go ?_; intro a hf
    exact ⟨hf.sub ⟨(by rw [hb2]; rfl), trivial⟩, hp⟩
   refine go ?_; intro a hf
   exact ⟨hf.sub ⟨(by rw [hb2]; rfl), trivial⟩, hp⟩
  rintro a w ⟨hf, hp⟩
  refine go ?_; intro a hf
  obtain rfl := oj h
  exact ⟨rfl, ⟨hf.sb, hp⟩⟩

noncomputable def f_slices_IndexFunc_int_int.s1c (sx0 : (List Int)) (t8 : Int) : Option (Int ⊕ (Unit ⊕ Int)) := (if (decide (t8 < (sx0.length : Int))) = true then (if 0 ≤ t8 ∧ t8 < (sx0.length : Int) then ((f_load_may_1 (gt sx0 t8)).bind fun q2 => (if q2 = true then (some (Sum.inr (Sum.inr t8))) else (some (Sum.inl (IntKind.i64.wrap (t8 + (1 : Int))))))) else none) else (some (Sum.inr (Sum.inl ()))))
noncomputable def f_slices_IndexFunc_int_int.s1 (sx0 : (List Int)) (s : Int) : Option (Int ⊕ (Unit ⊕ Int)) := f_slices_IndexFunc_int_int.s1c sx0 s
noncomputable def f_slices_IndexFunc_int_int (sx0 : (List Int)) : Option Int := ((loop (f_slices_IndexFunc_int_int.s1 sx0) (0 : Int)).bind (fun q4 => sm q4 (fun q5 => (some (-1 : Int))) (fun q6 => (some q6))))
theorem f_slices_IndexFunc_int_int_c {S : Nat → Prop} {w0 w : World} {ow : List Res} (hp : Hp S w0 w ow) (vsx0 : Value) (sx0 : (List Int)) (hsx0 : RdS (Ek.int .i64) S w0 vsx0 sx0) {r : Int} (h : f_slices_IndexFunc_int_int sx0 = some r) :
   Calls Tryz.prog 74 #[vsx0, .func (.func 57) #[] #[]] w (fun e w' => e = .returned (.int .i64 r) ∧ Hp S w0 w' (ow)) := by
  unfold f_slices_IndexFunc_int_int at h
  refine enx (n := 19) Tryz.func74 fun a hf => ?_
  refine wp_mono (Q := fun e a w => e = .ret ∧ Fr 19 a [(4, .int .i64 r)] ∧ Hp S w0 w (ow)) ?_ ?_
  rotate_left
  ·
   rintro e a w ⟨rfl, hf, hp⟩
   exact ret1 hf rfl rfl ⟨rfl, hp⟩
  refine go ?_; intro a hf
  refine st_len (E := (Ek.int .i64)) hf (by decide) Tryz.underlying24 rfl rfl (hsx0.sl hp) fun a _ hf => ?_
  refine go ?_; intro a hf
  obtain ⟨q4, hl, h⟩ := bnd h
  refine wp_loop_pure (f := (f_slices_IndexFunc_int_int.s1 sx0)) (s := (0 : Int)) (fun s a w => Fr 19 a [(0, vsx0), (1, .func (.func 57) #[] #[]), (7, .int .i64 (sx0.length : Int)), (8, .int .i64 s)] ∧ Hp S w0 w (ow)) (fun q e a w => match q with | (Sum.inl q) => e = .exit 0 ∧ Fr 19 a [] ∧ Hp S w0 w (ow) | (Sum.inr q) => e = .ret ∧ Fr 19 a [(4, .int .i64 q)] ∧ Hp S w0 w (ow)) ?_ hl ⟨hf.sb, hp⟩ ?_
  ·
   clear hl hf hp
   intro s x a w h hI
   obtain ⟨t8, hs⟩ : ∃ z, z = s := ⟨s, rfl⟩; subst hs
   obtain ⟨hf, hp⟩ : Fr 19 a [(0, vsx0), (1, .func (.func 57) #[] #[]), (7, .int .i64 (sx0.length : Int)), (8, .int .i64 t8)] ∧ Hp S w0 w (ow) := hI
   replace h : f_slices_IndexFunc_int_int.s1c sx0 t8 = some x := h
   unfold f_slices_IndexFunc_int_int.s1c at h
   refine go ?_; intro a hf
   refine wp_if hf rfl (fun hb => ?_) (fun hb => ?_)
   ·
    replace h := ifT h hb
    refine wp_skip ?_
    refine go ?_; intro a hf
    obtain ⟨hc1, h⟩ := chk h
    refine st_index (E := (Ek.int .i64)) hf (by decide) Tryz.underlying24 elt3 rfl rfl rfl (hsx0.sl hp) hc1.1 hc1.2 fun a _ hf => ?_
    refine st_ldI hf (by decide) pl3 rfl rfl (hsx0.sl hp) hc1.1 hc1.2 fun a _ hf => ?_
    obtain ⟨q2, hcall3, h⟩ := bnd h
    refine st_call hf (by decide) Tryz.func57 rfl rfl rfl rfl rfl (f_load_may_1_c hp _ hcall3) ?_
    rintro _ w ⟨rfl, hp⟩
    replace hp : Hp _ _ _ (ow) := hp
    refine ⟨_, rfl, fun a hf => ?_⟩
    refine goT ?_
    refine wp_if hf rfl (fun hb => ?_) (fun hb => ?_)
    ·
     replace h := ifT h hb
     refine go ?_; intro a hf
     refine ib_r ?_
     refine th_r ?_
     obtain rfl := oj h
     exact rnd_r (by simp) ⟨rfl, ⟨hf.sb, hp⟩⟩
    replace h := ifF h hb
    refine wp_skip ?_
    refine go ?_; intro a hf
    obtain rfl := oj h
    exact rnd_l ⟨hf.sb, hp⟩
   replace h := ifF h hb
   refine wp_exit ?_
   refine th_e ?_
   obtain rfl := oj h
   exact rnd_r (by simp) ⟨rfl, hf.sub trivial, hp⟩
  clear hl hf hp
  intro e a w hne hO
  rcases q4 with q5 | q6
  ·
   replace h := smL h
   obtain ⟨rfl, hf, hp⟩ := hO
   refine ib_same ?_
   refine go ?_; intro a hf
   obtain rfl := oj h
   exact ⟨rfl, ⟨hf.sb, hp⟩⟩
  replace h := smR h
  obtain ⟨rfl, hf, hp⟩ := hO
  refine ib_r ?_
  refine th_r ?_
  obtain rfl := oj h
  exact ⟨rfl, ⟨hf.sb, hp⟩⟩

noncomputable def f_slices_ContainsFunc_int_int (sx0 : (List Int)) : Option Bool := ((f_slices_IndexFunc_int_int sx0).bind fun q1 => (some (decide ((0 : Int) ≤ q1))))
theorem f_slices_ContainsFunc_int_int_c {S : Nat → Prop} {w0 w : World} {ow : List Res} (hp : Hp S w0 w ow) (vsx0 : Value) (sx0 : (List Int)) (hsx0 : RdS (Ek.int .i64) S w0 vsx0 sx0) {r : Bool} (h : f_slices_ContainsFunc_int_int sx0 = some r) :
   Calls Tryz.prog 56 #[vsx0, .func (.func 57) #[] #[]] w (fun e w' => e = .returned (.bool r) ∧ Hp S w0 w' (ow)) := by
  unfold f_slices_ContainsFunc_int_int at h
  refine enx (n := 9) Tryz.func56 fun a hf => ?_
  refine wp_mono (Q := fun e a w => e = .ret ∧ Fr 9 a [(4, .bool r)] ∧ Hp S w0 w (ow)) ?_ ?_
  rotate_left
  ·
   rintro e a w ⟨rfl, hf, hp⟩
   exact ret1 hf rfl rfl ⟨rfl, hp⟩
  refine go ?_; intro a hf
  obtain ⟨q1, hcall2, h⟩ := bnd h
  refine st_call hf (by decide) Tryz.func74 rfl rfl rfl rfl rfl (f_slices_IndexFunc_int_int_c hp _ _ hsx0 hcall2) ?_
  rintro _ w ⟨rfl, hp⟩
  replace hp : Hp _ _ _ (ow) := hp
  refine ⟨_, rfl, fun a hf => ?_⟩
  refine go ?_; intro a hf
  obtain rfl := oj h
  exact ⟨rfl, ⟨hf.sb, hp⟩⟩

noncomputable def f_load_may (weights0 : (List Int)) : Option Bool := ((f_slices_ContainsFunc_int_int weights0).bind fun q1 => (some (!q1)))
theorem f_load_may_c {S : Nat → Prop} {w0 w : World} {ow : List Res} (hp : Hp S w0 w ow) (vw0 : Value) (weights0 : (List Int)) (hweights0 : RdS (Ek.int .i64) S w0 vw0 weights0) {r : Bool} (h : f_load_may weights0 = some r) :
   Calls Tryz.prog 46 #[vw0] w (fun e w' => e = .returned (.bool r) ∧ Hp S w0 w' (ow)) := by
  unfold f_load_may at h
  refine enx (n := 6) Tryz.func46 fun a hf => ?_
  refine wp_mono (Q := fun e a w => e = .ret ∧ Fr 6 a [(2, .bool r)] ∧ Hp S w0 w (ow)) ?_ ?_
  rotate_left
  ·
   rintro e a w ⟨rfl, hf, hp⟩
   exact ret1 hf rfl rfl ⟨rfl, hp⟩
  refine go ?_; intro a hf
  obtain ⟨q1, hcall2, h⟩ := bnd h
  refine st_call hf (by decide) Tryz.func56 rfl rfl rfl rfl rfl (f_slices_ContainsFunc_int_int_c hp _ _ hweights0 hcall2) ?_
  rintro _ w ⟨rfl, hp⟩
  replace hp : Hp _ _ _ (ow) := hp
  refine ⟨_, rfl, fun a hf => ?_⟩
  refine go ?_; intro a hf
  obtain rfl := oj h
  exact ⟨rfl, ⟨hf.sb, hp⟩⟩

noncomputable def f_slices_Clone_int_int (sx0 : (List Int)) : Option (List Int) := (if 0 < sx0.length then (if (([] : List Int).length + sx0.length) * 8 ≤ 140737488355328 then (some (([] : List Int) ++ sx0)) else none) else none)
theorem f_slices_Clone_int_int_c {S : Nat → Prop} {w0 w : World} {ow : List Res} (hp : Hp S w0 w ow) (vsx0 : Value) (sx0 : (List Int)) (hsx0 : RdS (Ek.int .i64) S w0 vsx0 sx0) {r : (List Int)} (h : f_slices_Clone_int_int sx0 = some r) :
   Calls Tryz.prog 47 #[vsx0] w (fun e w' => ∃ (u0 : Value), e = .returned (u0) ∧ Hp S w0 w' (Res.sl (Ek.int .i64) 3 u0 r :: ow)) := by
  unfold f_slices_Clone_int_int at h
  refine enx (n := 8) Tryz.func47 fun a hf => ?_
  refine wp_mono (Q := fun e a w => e = .ret ∧ ∃ (u0 : Value), Fr 8 a [(2, u0)] ∧ Hp S w0 w (Res.sl (Ek.int .i64) 3 u0 r :: ow)) ?_ ?_
  rotate_left
  ·
   rintro e a w ⟨rfl, x0, hf, hp⟩
   exact ret1 hf rfl rfl ⟨x0, rfl, hp⟩
  refine go ?_; intro a hf
  obtain ⟨hc1, h⟩ := chk h
  refine st_slnilE hf (by decide) Tryz.underlying24 rfl rfl rfl (hsx0.sl hp) hc1 fun a _ hf => ?_
  refine goT ?_
  refine wp_if hf rfl (fun hb => ?_) (fun hb => ?_)
  · exact absurd hb (by decide)
  refine wp_skip ?_
  refine goT ?_
  refine st_build0 (E := (Ek.int .i64)) hf (by decide) elt3 Tryz.underlying24 hp rfl ?_
  clear hf; intro a w v2 hf hp0; clear hp; have hp := hp0; clear hp0
  replace hp : Hp _ _ _ (Res.sl (Ek.int .i64) 3 v2 ([] : List Int) :: ow) := hp
  refine go ?_; intro a hf
  obtain ⟨hc4, h⟩ := chk h
  refine st_append (E := (Ek.int .i64)) hf (by decide) elt3 Tryz.underlying24 (by decide) hp (i := 0) rfl rfl rfl rfl (hsx0.sl hp) hc4 ?_
  clear hf; intro a w v5 hf hp0; clear hp; have hp := hp0; clear hp0
  replace hp : Hp _ _ _ (Res.sl (Ek.int .i64) 3 v5 (([] : List Int) ++ sx0) :: ow) := hp
  refine go ?_; intro a hf
  obtain rfl := oj h
  exact ⟨rfl, ⟨_, hf.sb, hp⟩⟩

noncomputable def f_points_Sizes  : Option (List Int) := (some ([(4 : Int), (16 : Int), (32 : Int), (64 : Int), (128 : Int), (256 : Int)]))
theorem f_points_Sizes_c {S : Nat → Prop} {w0 w : World} {ow : List Res} (hp : Hp S w0 w ow) {r : (List Int)} (h : f_points_Sizes = some r) :
   Calls Tryz.prog 75 #[] w (fun e w' => ∃ (u0 : Value), e = .returned (u0) ∧ Hp S w0 w' (Res.sl (Ek.int .i64) 3 u0 r :: ow)) := by
  unfold f_points_Sizes at h
  refine enx (n := 2) Tryz.func75 fun a hf => ?_
  refine wp_mono (Q := fun e a w => e = .ret ∧ ∃ (u0 : Value), Fr 2 a [(0, u0)] ∧ Hp S w0 w (Res.sl (Ek.int .i64) 3 u0 r :: ow)) ?_ ?_
  rotate_left
  ·
   rintro e a w ⟨rfl, x0, hf, hp⟩
   exact ret1 hf rfl rfl ⟨x0, rfl, hp⟩
  refine go ?_; intro a hf
  refine st_build (E := (Ek.int .i64)) (xs := [(4 : Int), (16 : Int), (32 : Int), (64 : Int), (128 : Int), (256 : Int)]) hf (by decide) elt3 Tryz.underlying24 hp (vals := #[(0, .int .i64 (4 : Int)), (1, .int .i64 (16 : Int)), (2, .int .i64 (32 : Int)), (3, .int .i64 (64 : Int)), (4, .int .i64 (128 : Int)), (5, .int .i64 (256 : Int))]) (cells := #[.int .i64 (4 : Int), .int .i64 (16 : Int), .int .i64 (32 : Int), .int .i64 (64 : Int), .int .i64 (128 : Int), .int .i64 (256 : Int)]) rfl (by simp [hf.ev (x := (Operand.const (.int .i64 (4 : Int)))) rfl, hf.ev (x := (Operand.const (.int .i64 (16 : Int)))) rfl, hf.ev (x := (Operand.const (.int .i64 (32 : Int)))) rfl, hf.ev (x := (Operand.const (.int .i64 (64 : Int)))) rfl, hf.ev (x := (Operand.const (.int .i64 (128 : Int)))) rfl, hf.ev (x := (Operand.const (.int .i64 (256 : Int)))) rfl]) (Nat.le_of_ble_eq_true rfl) (Nat.le_of_ble_eq_true rfl) (z := .int .i64 0) (by kernel_rfl) (by kernel_rfl) rfl (reps_cons (cs := [.int .i64 (4 : Int)]) rfl (reps_cons (cs := [.int .i64 (16 : Int)]) rfl (reps_cons (cs := [.int .i64 (32 : Int)]) rfl (reps_cons (cs := [.int .i64 (64 : Int)]) rfl (reps_cons (cs := [.int .i64 (128 : Int)]) rfl (reps_cons (cs := [.int .i64 (256 : Int)]) rfl (reps_nil _))))))) ?_
  clear hf; intro a w v1 hf hp0; clear hp; have hp := hp0; clear hp0
  replace hp : Hp _ _ _ (Res.sl (Ek.int .i64) 3 v1 ([(4 : Int), (16 : Int), (32 : Int), (64 : Int), (128 : Int), (256 : Int)]) :: ow) := hp
  refine go ?_; intro a hf
  obtain rfl := oj h
  exact ⟨rfl, ⟨_, hf.sb, hp⟩⟩

noncomputable def f_points_Bits (size0 : Int) : Option (Int × Int) := ((f_points_of size0).bind fun q1 => (if (!q1.2) = true then (some ((0 : Int), (1 : Int))) else (some (q1.1.1, (0 : Int)))))
theorem f_points_Bits_c {S : Nat → Prop} {w0 w : World} {ow : List Res} (hp : Hp S w0 w ow) (size0 : Int) {r : (Int × Int)} (h : f_points_Bits size0 = some r) :
   Calls Tryz.prog 76 #[.int .i64 size0] w (fun e w' => e = .returned (.tuple #[.int .i64 r.1, .int .i64 r.2]) ∧ Hp S w0 w' (ow)) := by
  unfold f_points_Bits at h
  refine enx (n := 15) Tryz.func76 fun a hf => ?_
  refine wp_mono (Q := fun e a w => e = .ret ∧ Fr 15 a [(2, .int .i64 r.1), (3, .int .i64 r.2)] ∧ Hp S w0 w (ow)) ?_ ?_
  rotate_left
  ·
   rintro e a w ⟨rfl, hf, hp⟩
   exact ret2 hf rfl rfl rfl ⟨rfl, hp⟩
  refine go ?_; intro a hf
  obtain ⟨q1, hcall2, h⟩ := bnd h
  refine st_call hf (by decide) Tryz.func31 rfl rfl rfl rfl rfl (f_points_of_c hp _ hcall2) ?_
  rintro _ w ⟨v3, rfl, hp⟩
  replace hp : Hp _ _ _ (Res.clo Tryz.prog v3 q1.1.2.2 :: ow) := hp
  refine ⟨_, rfl, fun a hf => ?_⟩
  refine go ?_; intro a hf
  refine st_alloc (cs := [.int .i64 (0 : Int), .int .i64 (0 : Int), .nilFunc]) (zv := .agg #[.int .i64 (0 : Int), .int .i64 (0 : Int), .nilFunc]) hf (by decide) (by kernel_rfl) rfl hp rfl ?_
  clear hf; intro a w v5 hf hp0; clear hp; have hp := hp0; clear hp0
  replace hp : Hp _ _ _ (Res.obj 91 v5 [.int .i64 (0 : Int), .int .i64 (0 : Int), .nilFunc] :: _ :: ow) := hp
  refine st_stO (us := [.int .i64 q1.1.1, .int .i64 q1.1.2.1, v3]) hf hp (i := 0) rfl rfl rfl rfl rfl (by simp only [List.all_cons, List.all_nil, hp.cloOne (i := 1) rfl]; rfl) (by kernel_rfl) (Nat.le_of_ble_eq_true rfl) ?_
  clear hf; intro a w hf hp0; clear hp; have hp := hp0; clear hp0
  replace hp : Hp _ _ _ (Res.obj 91 v5 [.int .i64 q1.1.1, .int .i64 q1.1.2.1, v3] :: _ :: ow) := hp
  refine go ?_; intro a hf
  refine wp_if hf rfl (fun hb => ?_) (fun hb => ?_)
  ·
   replace h := ifT h hb
   refine go ?_; intro a hf
   obtain rfl := oj h
   have hp : Hp _ _ _ (ow) := (hp.pk [] 2 :)
   exact ⟨rfl, ⟨hf.sb, hp⟩⟩
  replace h := ifF h hb
  refine wp_skip ?_
  refine goT ?_
  refine st_fa (o' := 0) hf (by decide) (off := 0) (sz := 1) (by kernel_rfl) (by decide) rfl rfl (hp.ob (i := 0) rfl) rfl fun a _ hf => ?_
  refine st_ldO (u := .int .i64 q1.1.1) hf (by decide) pl3 rfl rfl (hp.ob (i := 0) rfl) rfl fun a _ hf => ?_
  refine go ?_; intro a hf
  obtain rfl := oj h
  have hp : Hp _ _ _ (ow) := (hp.pk [] 2 :)
  exact ⟨rfl, ⟨hf.sb, hp⟩⟩

noncomputable def f_points_Energy.s1c (q1 : ((List (Fl × Fl)) × Int)) (sum6 : Int) (t16 : Int) : Option ((Int × Int) ⊕ Int) := (if (decide (t16 < (q1.1.length : Int))) = true then (if 0 ≤ t16 ∧ t16 < (q1.1.length : Int) then ((ftoi .i64 (fmul ((gt q1.1 t16).1) ((gt q1.1 t16).1))).bind fun q12 => ((ftoi .i64 (fmul ((gt q1.1 t16).2) ((gt q1.1 t16).2))).bind fun q16 => (some (Sum.inl ((IntKind.i64.wrap (sum6 + (IntKind.i64.wrap (q12 + q16)))), (IntKind.i64.wrap (t16 + (1 : Int)))))))) else none) else (some (Sum.inr sum6)))
noncomputable def f_points_Energy.s1 (q1 : ((List (Fl × Fl)) × Int)) (s : (Int × Int)) : Option ((Int × Int) ⊕ Int) := f_points_Energy.s1c q1 s.1 s.2
noncomputable def f_points_Energy (size0 : Int) : Option (Int × Int) := ((f_points_All size0).bind fun q1 => ((loop (f_points_Energy.s1 q1) ((0 : Int), (0 : Int))).bind (fun q18 => (some (q18, q1.2)))))
theorem f_points_Energy_c {S : Nat → Prop} {w0 w : World} {ow : List Res} (hp : Hp S w0 w ow) (size0 : Int) {r : (Int × Int)} (h : f_points_Energy size0 = some r) :
   Calls Tryz.prog 77 #[.int .i64 size0] w (fun e w' => e = .returned (.tuple #[.int .i64 r.1, .int .i64 r.2]) ∧ Hp S w0 w' (ow)) := by
  unfold f_points_Energy at h
  refine enx (n := 38) Tryz.func77 fun a hf => ?_
  refine wp_mono (Q := fun e a w => e = .ret ∧ Fr 38 a [(2, .int .i64 r.1), (3, .int .i64 r.2)] ∧ Hp S w0 w (ow)) ?_ ?_
  rotate_left
  ·
   rintro e a w ⟨rfl, hf, hp⟩
   exact ret2 hf rfl rfl rfl ⟨rfl, hp⟩
  refine go ?_; intro a hf
  obtain ⟨q1, hcall2, h⟩ := bnd h
  refine st_call hf (by decide) Tryz.func32 rfl rfl rfl rfl rfl (f_points_All_c hp _ hcall2) ?_
  rintro _ w ⟨v3, rfl, hp⟩
  replace hp : Hp _ _ _ (Res.sl Ek.c128 35 v3 q1.1 :: ow) := hp
  refine ⟨_, rfl, fun a hf => ?_⟩
  refine go ?_; intro a hf
  refine st_len (E := Ek.c128) hf (by decide) Tryz.underlying54 rfl rfl (hp.sl (i := 0) rfl) fun a _ hf => ?_
  refine go ?_; intro a hf
  obtain ⟨q18, hl, h⟩ := bnd h
  refine wp_loop_pure (f := (f_points_Energy.s1 q1)) (s := ((0 : Int), (0 : Int))) (fun s a w => Fr 38 a [(5, .int .i64 q1.2), (6, .int .i64 s.1), (14, v3), (15, .int .i64 (q1.1.length : Int)), (16, .int .i64 s.2)] ∧ Hp S w0 w (Res.sl Ek.c128 35 v3 q1.1 :: ow)) (fun q e a w => e = .exit 0 ∧ Fr 38 a [(5, .int .i64 q1.2), (6, .int .i64 q)] ∧ Hp S w0 w (ow)) ?_ hl ⟨hf.sb, hp⟩ ?_
  ·
   clear hl hf hp
   intro s x a w h hI
   obtain ⟨sum6, t16⟩ := s
   obtain ⟨hf, hp⟩ : Fr 38 a [(5, .int .i64 q1.2), (6, .int .i64 sum6), (14, v3), (15, .int .i64 (q1.1.length : Int)), (16, .int .i64 t16)] ∧ Hp S w0 w (Res.sl Ek.c128 35 v3 q1.1 :: ow) := hI
   replace h : f_points_Energy.s1c q1 sum6 t16 = some x := h
   unfold f_points_Energy.s1c at h
   refine go ?_; intro a hf
   refine wp_if hf rfl (fun hb => ?_) (fun hb => ?_)
   ·
    replace h := ifT h hb
    refine wp_skip ?_
    refine goT ?_
    obtain ⟨hc5, h⟩ := chk h
    refine st_index (E := Ek.c128) hf (by decide) Tryz.underlying54 elt35 rfl rfl rfl (hp.sl (i := 0) rfl) hc5.1 hc5.2 fun a _ hf => ?_
    refine st_ldC hf (by decide) pl35 rfl rfl (hp.sl (i := 0) rfl) hc5.1 hc5.2 ?_
    clear hf; intro a bb6 bb7 y8 y9 ha hf; clear ha
    refine go ?_; intro a hf
    refine st_farith (op := .mul) rfl hf (by decide) hp rfl rfl rfl (show Fl.rep bb6 ((gt q1.1 t16).1) from y8) (show Fl.rep bb6 ((gt q1.1 t16).1) from y8) ?_
    clear hf; intro a w bb10 y11 hf hp0; clear hp; have hp := hp0; clear hp0
    replace hp : Hp _ _ _ (_ :: ow) := hp
    obtain ⟨q12, hq13, h⟩ := bnd h
    refine st_conv_fi (by rw [Tryz.underlying39]; rfl) Tryz.underlying3 hf (by decide) rfl rfl (show Fl.rep bb10 (fmul ((gt q1.1 t16).1) ((gt q1.1 t16).1)) from y11) hq13 fun a _ hf => ?_
    refine go ?_; intro a hf
    refine st_farith (op := .mul) rfl hf (by decide) hp rfl rfl rfl (show Fl.rep bb7 ((gt q1.1 t16).2) from y9) (show Fl.rep bb7 ((gt q1.1 t16).2) from y9) ?_
    clear hf; intro a w bb14 y15 hf hp0; clear hp; have hp := hp0; clear hp0
    replace hp : Hp _ _ _ (_ :: ow) := hp
    obtain ⟨q16, hq17, h⟩ := bnd h
    refine st_conv_fi (by rw [Tryz.underlying39]; rfl) Tryz.underlying3 hf (by decide) rfl rfl (show Fl.rep bb14 (fmul ((gt q1.1 t16).2) ((gt q1.1 t16).2)) from y15) hq17 fun a _ hf => ?_
    refine go ?_; intro a hf
    obtain rfl := oj h
    exact rnd_l ⟨hf.sb, hp⟩
   replace h := ifF h hb
   refine wp_exit ?_
   refine th_e ?_
   obtain rfl := oj h
   have hp : Hp _ _ _ (ow) := (hp.pk [] 1 :)
   exact rnd_r (by simp) ⟨rfl, hf.sb, hp⟩
  clear hl hf hp
  intro e a w hne hO
  obtain ⟨rfl, hf, hp⟩ := hO
  refine ib_same ?_
  refine go ?_; intro a hf
  obtain rfl := oj h
  exact ⟨rfl, ⟨hf.sb, hp⟩⟩

noncomputable def f_load_energies.s1c (l1 : (List Int)) (t10 : Int) : Option (((List Int) × Int) ⊕ (List Int)) := (if (decide (t10 < (9 : Int))) = true then (if (decide ((0 : Int) < t10)) = true then (if 0 ≤ t10 ∧ t10 < (9 : Int) then (some (Sum.inl ((l1.set (t10).toNat (-1 : Int)), (IntKind.i64.wrap (t10 + (1 : Int)))))) else none) else (some (Sum.inl (l1, (IntKind.i64.wrap (t10 + (1 : Int))))))) else (some (Sum.inr l1)))
noncomputable def f_load_energies.s1  (s : ((List Int) × Int)) : Option (((List Int) × Int) ⊕ (List Int)) := f_load_energies.s1c s.1 s.2
noncomputable def f_load_energies.s2c (q10 : (List Int)) (l1 : (List Int)) (t20 : Int) : Option (((List Int) × Int) ⊕ (List Int)) := (if (decide (t20 < (q10.length : Int))) = true then (if 0 ≤ t20 ∧ t20 < (q10.length : Int) then ((f_points_Bits (gt q10 t20)).bind fun q17 => ((f_points_Energy (gt q10 t20)).bind fun q19 => (if (gt q10 t20) ≠ 0 then (if 0 ≤ q17.1 ∧ q17.1 < (9 : Int) then (some (Sum.inl ((l1.set (q17.1).toNat (IntKind.i64.wrap ((q19.1).tdiv (gt q10 t20)))), (IntKind.i64.wrap (t20 + (1 : Int)))))) else none) else none))) else none) else (some (Sum.inr l1)))
noncomputable def f_load_energies.s2 (q10 : (List Int)) (s : ((List Int) × Int)) : Option (((List Int) × Int) ⊕ (List Int)) := f_load_energies.s2c q10 s.1 s.2
noncomputable def f_load_energies  : Option (List Int) := ((loop f_load_energies.s1 ((List.replicate 9 (0 : Int)), (0 : Int))).bind (fun q9 => ((f_points_Sizes).bind fun q10 => ((loop (f_load_energies.s2 q10) (q9, (0 : Int))).bind (fun q24 => (some q24))))))
theorem f_load_energies_c {S : Nat → Prop} {w0 w : World} {ow : List Res} (hp : Hp S w0 w ow) {r : (List Int)} (h : f_load_energies = some r) :
   Calls Tryz.prog 59 #[] w (fun e w' => ∃ (u0 : List Value), e = .returned (.agg (u0).toArray) ∧ Ek.reps (Ek.int .i64) u0 r ∧ List.length r = 9 ∧ Hp S w0 w' (ow)) := by
  unfold f_load_energies at h
  refine enx (n := 41) Tryz.func59 fun a hf => ?_
  refine wp_mono (Q := fun e a w => e = .ret ∧ ∃ (c0 : Value), Fr 41 a [(0, c0)] ∧ Hp S w0 w (Res.sl (Ek.int .i64) 130 (aslv c0 9) r :: ow)) ?_ ?_
  rotate_left
  ·
   rintro e a w ⟨rfl, c0, hf, hp⟩
   exact retArr1 (E := (Ek.int .i64)) (N := 9) (m := 9) hf rfl rfl (by kernel_rfl) rfl (by decide) (hp.sl (i := 0) rfl) fun cs hr hl => ⟨cs, rfl, hr, hl, hp.drop⟩
  refine goT ?_
  refine st_allocA (E := (Ek.int .i64)) (N := 9) (zs := List.replicate 9 (0 : Int)) (zv := .agg ((List.replicate 9 ([.int .i64 0] : List Value)).flatten).toArray) hf (by decide) (by decide) (by decide) (by kernel_rfl) (reps_replicate (E := (Ek.int .i64)) (vs := ([.int .i64 0] : List Value)) (x := (0 : Int)) rfl 9) (by simp) hp rfl ?_
  clear hf; intro a w v1 hf hp0; clear hp; have hp := hp0; clear hp0
  replace hp : Hp _ _ _ (Res.sl (Ek.int .i64) 130 (aslv v1 9) (List.replicate 9 (0 : Int)) :: ow) := hp
  refine goT ?_
  refine st_buildA (vals := [(0, .int .i64 (0 : Int))]) (cells := (List.replicate 9 ([.int .i64 0] : List Value)).flatten) hf (by decide) rfl (by simp [hf.ev (x := (Operand.const (.int .i64 (0 : Int)))) rfl]) (fun w => by kernel_rfl) fun a _ hf => ?_
  refine st_allocA (E := (Ek.int .i64)) (N := 9) (zs := List.replicate 9 (0 : Int)) (zv := .agg ((List.replicate 9 ([.int .i64 0] : List Value)).flatten).toArray) hf (by decide) (by decide) (by decide) (by kernel_rfl) (reps_replicate (E := (Ek.int .i64)) (vs := ([.int .i64 0] : List Value)) (x := (0 : Int)) rfl 9) (by simp) hp rfl ?_
  clear hf; intro a w v3 hf hp0; clear hp; have hp := hp0; clear hp0
  replace hp : Hp _ _ _ (Res.sl (Ek.int .i64) 130 (aslv v3 9) (List.replicate 9 (0 : Int)) :: _ :: ow) := hp
  refine st_stArr hf hp (m := 0) rfl (by decide) rfl rfl rfl (reps_replicate (E := (Ek.int .i64)) (vs := ([.int .i64 0] : List Value)) (x := (0 : Int)) rfl 9) (by simp) (by kernel_rfl) ?_
  clear hf; intro a w hf hp0; clear hp; have hp := hp0; clear hp0
  replace hp : Hp _ _ _ (_ :: _ :: ow) := hp
  refine go ?_; intro a hf
  obtain ⟨q9, hl, h⟩ := bnd h
  refine wp_loop_pure (f := f_load_energies.s1) (s := ((List.replicate 9 (0 : Int)), (0 : Int))) (fun s a w => Fr 41 a [(0, v1), (1, v3), (10, .int .i64 s.2)] ∧ Hp S w0 w (Res.sl (Ek.int .i64) 130 (aslv v3 9) s.1 :: Res.sl (Ek.int .i64) 130 (aslv v1 9) (List.replicate 9 (0 : Int)) :: ow)) (fun q e a w => e = .exit 0 ∧ Fr 41 a [(0, v1), (1, v3)] ∧ Hp S w0 w (Res.sl (Ek.int .i64) 130 (aslv v3 9) q :: Res.sl (Ek.int .i64) 130 (aslv v1 9) (List.replicate 9 (0 : Int)) :: ow)) ?_ hl ⟨hf.sb, hp⟩ ?_
  ·
   clear hl hf hp
   intro s x a w h hI
   obtain ⟨l1, t10⟩ := s
   obtain ⟨hf, hp⟩ : Fr 41 a [(0, v1), (1, v3), (10, .int .i64 t10)] ∧ Hp S w0 w (Res.sl (Ek.int .i64) 130 (aslv v3 9) l1 :: Res.sl (Ek.int .i64) 130 (aslv v1 9) (List.replicate 9 (0 : Int)) :: ow) := hI
   replace h : f_load_energies.s1c l1 t10 = some x := h
   unfold f_load_energies.s1c at h
   refine go ?_; intro a hf
   refine wp_if hf rfl (fun hb => ?_) (fun hb => ?_)
   ·
    replace h := ifT h hb
    refine wp_skip ?_
    refine go ?_; intro a hf
    refine wp_if hf rfl (fun hb => ?_) (fun hb => ?_)
    ·
     replace h := ifT h hb
     refine go ?_; intro a hf
     obtain ⟨hc7, h⟩ := chk h
     refine st_iaA (E := (Ek.int .i64)) (N := 9) hf (by decide) Tryz.underlying130 (by kernel_rfl) rfl rfl rfl (hp.sl (i := 0) rfl) rfl hc7.1 hc7.2 fun a _ hf => ?_
     refine st_store (E := (Ek.int .i64)) hf elt3 hp (i := 0) rfl rfl rfl rfl rfl (aslv_ix (hp.sl (i := 0) rfl) hc7).1 (aslv_ix (hp.sl (i := 0) rfl) hc7).2 ?_
     clear hf; intro a w hf hp0; clear hp; have hp := hp0; clear hp0
     replace hp : Hp _ _ _ (Res.sl (Ek.int .i64) 130 (aslv v3 9) (l1.set (t10).toNat (-1 : Int)) :: _ :: ow) := hp
     refine go ?_; intro a hf
     obtain rfl := oj h
     exact rnd_l ⟨hf.sb, hp⟩
    replace h := ifF h hb
    refine wp_skip ?_
    refine go ?_; intro a hf
    obtain rfl := oj h
    exact rnd_l ⟨hf.sb, hp⟩
   replace h := ifF h hb
   refine wp_exit ?_
   refine th_e ?_
   obtain rfl := oj h
   exact rnd_r (by simp) ⟨rfl, hf.sb, hp⟩
  clear hl hf hp
  intro e a w hne hO
  obtain ⟨rfl, hf, hp⟩ := hO
  refine ib_same ?_
  refine goT ?_
  obtain ⟨q10, hcall11, h⟩ := bnd h
  refine st_call hf (by decide) Tryz.func75 rfl rfl rfl rfl rfl (f_points_Sizes_c hp  hcall11) ?_
  rintro _ w ⟨v12, rfl, hp⟩
  replace hp : Hp _ _ _ (Res.sl (Ek.int .i64) 3 v12 q10 :: Res.sl (Ek.int .i64) 130 (aslv v3 9) q9 :: _ :: ow) := hp
  refine ⟨_, rfl, fun a hf => ?_⟩
  refine st_len (E := (Ek.int .i64)) hf (by decide) Tryz.underlying24 rfl rfl (hp.sl (i := 0) rfl) fun a _ hf => ?_
  refine go ?_; intro a hf
  obtain ⟨q24, hl, h⟩ := bnd h
  have hp : Hp _ _ _ (_ :: _ :: _ :: ow) := (hp.pk [1, 2, 0] 3 :)
  refine wp_loop_pure (f := (f_load_energies.s2 q10)) (s := (q9, (0 : Int))) (fun s a w => Fr 41 a [(0, v1), (1, v3), (18, v12), (19, .int .i64 (q10.length : Int)), (20, .int .i64 s.2)] ∧ Hp S w0 w (Res.sl (Ek.int .i64) 130 (aslv v3 9) s.1 :: Res.sl (Ek.int .i64) 130 (aslv v1 9) (List.replicate 9 (0 : Int)) :: Res.sl (Ek.int .i64) 3 v12 q10 :: ow)) (fun q e a w => e = .exit 2 ∧ Fr 41 a [(0, v1), (1, v3)] ∧ Hp S w0 w (Res.sl (Ek.int .i64) 130 (aslv v3 9) q :: Res.sl (Ek.int .i64) 130 (aslv v1 9) (List.replicate 9 (0 : Int)) :: ow)) ?_ hl ⟨hf.sb, hp⟩ ?_
  ·
   clear hl hf hp
   intro s x a w h hI
   obtain ⟨l1, t20⟩ := s
   obtain ⟨hf, hp⟩ : Fr 41 a [(0, v1), (1, v3), (18, v12), (19, .int .i64 (q10.length : Int)), (20, .int .i64 t20)] ∧ Hp S w0 w (Res.sl (Ek.int .i64) 130 (aslv v3 9) l1 :: Res.sl (Ek.int .i64) 130 (aslv v1 9) (List.replicate 9 (0 : Int)) :: Res.sl (Ek.int .i64) 3 v12 q10 :: ow) := hI
   replace h : f_load_energies.s2c q10 l1 t20 = some x := h
   unfold f_load_energies.s2c at h
   refine go ?_; intro a hf
   refine wp_if hf rfl (fun hb => ?_) (fun hb => ?_)
   ·
    replace h := ifT h hb
    refine wp_skip ?_
    refine goT ?_
    obtain ⟨hc16, h⟩ := chk h
    refine st_index (E := (Ek.int .i64)) hf (by decide) Tryz.underlying24 elt3 rfl rfl rfl (hp.sl (i := 2) rfl) hc16.1 hc16.2 fun a _ hf => ?_
    refine st_ldI hf (by decide) pl3 rfl rfl (hp.sl (i := 2) rfl) hc16.1 hc16.2 fun a _ hf => ?_
    refine go ?_; intro a hf
    obtain ⟨q17, hcall18, h⟩ := bnd h
    refine st_call hf (by decide) Tryz.func76 rfl rfl rfl rfl rfl (f_points_Bits_c hp _ hcall18) ?_
    rintro _ w ⟨rfl, hp⟩
    replace hp : Hp _ _ _ (Res.sl (Ek.int .i64) 130 (aslv v3 9) l1 :: _ :: _ :: ow) := hp
    refine ⟨_, rfl, fun a hf => ?_⟩
    refine go ?_; intro a hf
    obtain ⟨q19, hcall20, h⟩ := bnd h
    refine st_call hf (by decide) Tryz.func77 rfl rfl rfl rfl rfl (f_points_Energy_c hp _ hcall20) ?_
    rintro _ w ⟨rfl, hp⟩
    replace hp : Hp _ _ _ (_ :: _ :: _ :: ow) := hp
    refine ⟨_, rfl, fun a hf => ?_⟩
    refine go ?_; intro a hf
    obtain ⟨hc21, h⟩ := chk h
    refine st_iquo hf (by decide) rfl rfl rfl hc21 fun a _ hf => ?_
    obtain ⟨hc22, h⟩ := chk h
    refine st_iaA (E := (Ek.int .i64)) (N := 9) hf (by decide) Tryz.underlying130 (by kernel_rfl) rfl rfl rfl (hp.sl (i := 0) rfl) rfl hc22.1 hc22.2 fun a _ hf => ?_
    refine st_store (E := (Ek.int .i64)) hf elt3 hp (i := 0) rfl rfl rfl rfl rfl (aslv_ix (hp.sl (i := 0) rfl) hc22).1 (aslv_ix (hp.sl (i := 0) rfl) hc22).2 ?_
    clear hf; intro a w hf hp0; clear hp; have hp := hp0; clear hp0
    replace hp : Hp _ _ _ (Res.sl (Ek.int .i64) 130 (aslv v3 9) (l1.set (q17.1).toNat (IntKind.i64.wrap ((q19.1).tdiv (gt q10 t20)))) :: _ :: _ :: ow) := hp
    refine go ?_; intro a hf
    obtain rfl := oj h
    exact rnd_l ⟨hf.sb, hp⟩
   replace h := ifF h hb
   refine wp_exit ?_
   refine th_e ?_
   obtain rfl := oj h
   have hp : Hp _ _ _ (Res.sl (Ek.int .i64) 130 (aslv v3 9) l1 :: _ :: ow) := (hp.pk [0, 1] 3 :)
   exact rnd_r (by simp) ⟨rfl, hf.sb, hp⟩
  clear hl hf hp
  intro e a w hne hO
  obtain ⟨rfl, hf, hp⟩ := hO
  refine ib_same ?_
  refine goT ?_
  have hl27 := aslv_len (hp.sl (i := 0) rfl)
  refine st_ldArr (E := (Ek.int .i64)) (N := 9) hf (by decide) (by kernel_rfl) rfl (by decide) rfl rfl (hp.sl (i := 0) rfl) ?_
  clear hf; intro a cs25 hr26 ha hf; clear ha
  refine st_stArr hf hp (m := 1) rfl (by decide) rfl rfl rfl hr26 hl27 (by kernel_rfl) ?_
  clear hf; intro a w hf hp0; clear hp; have hp := hp0; clear hp0
  replace hp : Hp _ _ _ (Res.sl (Ek.int .i64) 130 (aslv v3 9) q24 :: Res.sl (Ek.int .i64) 130 (aslv v1 9) q24 :: ow) := hp
  refine goT ?_
  obtain rfl := oj h
  have hp : Hp _ _ _ (_ :: ow) := (hp.pk [1] 2 :)
  exact ⟨rfl, ⟨_, hf.sb, hp⟩⟩

end Go.Proofs.YtgdhjjdgghilhaaGreat
