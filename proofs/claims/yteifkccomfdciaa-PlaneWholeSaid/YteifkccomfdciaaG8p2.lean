/- The functions foghorn foghornlaw03.PlaneWhole: what each answers, as a plain function, and that its call answers it; printed by gen.py. -/
import Derived.Test.YteifkccomfdciaaProg
import Derived.Test.YteifkccomfdciaaGlU
import Derived.KernelRfl
import Derived.Test.YteifkccomfdciaaG8p1
set_option linter.unusedVariables false
set_option linter.unusedSimpArgs false
set_option maxRecDepth 100000
set_option maxHeartbeats 4000000
namespace Go.Proofs.Yteifkccomfdciaa
open GL
noncomputable def f_foghornref03_Gcd.s1c (ax2c_0 : Int) (ax2c_1 : Int) (bx3c_0 : Int) (bx3c_1 : Int) : Option ((Int × Int × Int × Int) ⊕ (Int × Int)) := ((f_foghornref03_norm bx3c_0 bx3c_1).bind fun q17 => (if (q17 != (0 : Int)) = true then ((f_foghornref03_by ax2c_0 ax2c_1 bx3c_0 bx3c_1).bind fun q19 => (some (Sum.inl (bx3c_0, bx3c_1, q19.2.1, q19.2.2)))) else (some (Sum.inr (ax2c_0, ax2c_1)))))
noncomputable def f_foghornref03_Gcd.s1  (s : (Int × Int × Int × Int)) : Option ((Int × Int × Int × Int) ⊕ (Int × Int)) := f_foghornref03_Gcd.s1c s.1 s.2.1 s.2.2.1 s.2.2.2
noncomputable def f_foghornref03_Gcd.s2c (ax2c_0 : Int) (ax2c_1 : Int) (i8 : Int) : Option ((Int × Int × Int) ⊕ (Int × Int)) := (if ((decide (i8 < (4 : Int))) && (!((decide ((0 : Int) < ax2c_0)) && (decide ((0 : Int) ≤ ax2c_1))))) = true then (some (Sum.inl ((IntKind.i64.wrap (0 - ax2c_1)), ax2c_0, (IntKind.i64.wrap (i8 + (1 : Int)))))) else (some (Sum.inr (ax2c_0, ax2c_1))))
noncomputable def f_foghornref03_Gcd.s2  (s : (Int × Int × Int)) : Option ((Int × Int × Int) ⊕ (Int × Int)) := f_foghornref03_Gcd.s2c s.1 s.2.1 s.2.2
noncomputable def f_foghornref03_Gcd (ax0_Re : Int) (ax0_Im : Int) (bx1_Re : Int) (bx1_Im : Int) : Option ((Int × Int) × Int) := ((f_foghornref03_May ax0_Re ax0_Im).bind fun q7 => ((if (!q7) = true then (some true) else ((f_foghornref03_May bx1_Re bx1_Im).bind fun q12 => (some (!q12)))).bind fun z11 => (if z11 = true then (some (((0 : Int), (0 : Int)), (1 : Int))) else ((loop f_foghornref03_Gcd.s1 (ax0_Re, ax0_Im, bx1_Re, bx1_Im)).bind (fun q25 => ((loop f_foghornref03_Gcd.s2 (q25.1, q25.2, (0 : Int))).bind (fun q32 => (some ((q32.1, q32.2), (0 : Int))))))))))
theorem f_foghornref03_Gcd_c {S : Nat → Prop} {w0 w : World} {ow : List Res} (hp : Hp S w0 w ow) (ax0_Re : Int) (ax0_Im : Int) (bx1_Re : Int) (bx1_Im : Int) {r : ((Int × Int) × Int)} (h : f_foghornref03_Gcd ax0_Re ax0_Im bx1_Re bx1_Im = some r) :
    Calls Try.prog 45 #[.agg #[.int .i64 ax0_Re, .int .i64 ax0_Im], .agg #[.int .i64 bx1_Re, .int .i64 bx1_Im]] w (fun e w' => e = .returned (.tuple #[.agg #[.int .i64 r.1.1, .int .i64 r.1.2], .int .i64 r.2]) ∧ Hp S w0 w' (ow)) := by
  unfold f_foghornref03_Gcd at h
  refine enter (n := 51) (args := [.agg #[.int .i64 ax0_Re, .int .i64 ax0_Im], .agg #[.int .i64 bx1_Re, .int .i64 bx1_Im]]) Try.func45 rfl rfl (Nat.le_of_ble_eq_true rfl) fun a hf => ?_
  replace hf : Fr 51 a [(0, .agg #[.int .i64 ax0_Re, .int .i64 ax0_Im]), (1, .agg #[.int .i64 bx1_Re, .int .i64 bx1_Im])] := hf
  refine wp_mono (Q := fun e a w => e = .ret ∧ ∃ (c0 : Value), Fr 51 a [(4, optr c0 0), (5, .int .i64 r.2)] ∧ Hp S w0 w (Res.obj 74 c0 [.int .i64 r.1.1, .int .i64 r.1.2] :: ow)) ?_ ?_
  rotate_left
  · rintro e a w ⟨rfl, c0, hf, hp⟩
    exact retG2 hf rfl ⟨_, _, rfl, hp.ob (i := 0) rfl, .inr ⟨by kernel_rfl, rfl⟩⟩ rfl ⟨rfl, hp.drop⟩
  refine wp_seq ?_
  refine wp_reg ?_
  refine st_boxO (cs := [.int .i64 ax0_Re, .int .i64 ax0_Im]) hf (by decide) hp rfl rfl rfl ?_
  clear hf; intro a w v1 hf hp0; clear hp; have hp := hp0; clear hp0
  replace hp : Hp _ _ _ (Res.obj 74 v1 [.int .i64 ax0_Re, .int .i64 ax0_Im] :: ow) := hp
  refine st_boxO (cs := [.int .i64 bx1_Re, .int .i64 bx1_Im]) hf (by decide) hp rfl rfl rfl ?_
  clear hf; intro a w v3 hf hp0; clear hp; have hp := hp0; clear hp0
  replace hp : Hp _ _ _ (Res.obj 74 v3 [.int .i64 bx1_Re, .int .i64 bx1_Im] :: Res.obj 74 v1 [.int .i64 ax0_Re, .int .i64 ax0_Im] :: ow) := hp
  refine st_alloc (cs := [.int .i64 (0 : Int), .int .i64 (0 : Int)]) (zv := .agg #[.int .i64 (0 : Int), .int .i64 (0 : Int)]) hf (by decide) (by kernel_rfl) rfl hp rfl ?_
  clear hf; intro a w v5 hf hp0; clear hp; have hp := hp0; clear hp0
  replace hp : Hp _ _ _ (Res.obj 74 v5 [.int .i64 (0 : Int), .int .i64 (0 : Int)] :: Res.obj 74 v3 [.int .i64 bx1_Re, .int .i64 bx1_Im] :: Res.obj 74 v1 [.int .i64 ax0_Re, .int .i64 ax0_Im] :: ow) := hp
  refine st_assign hf rfl rfl (by decide) ?_
  clear hf; intro a ha hf; clear ha
  refine st_nil hf ?_
  refine th_n ?_
  refine wp_seq ?_
  refine wp_seq ?_
  refine wp_reg ?_
  refine st_ldOA (m := 2) (us := [.int .i64 ax0_Re, .int .i64 ax0_Im]) hf (by decide) (by kernel_rfl) rfl rfl (hp.ob (i := 2) rfl) rfl rfl ?_
  clear hf; intro a ha hf; clear ha
  obtain ⟨q7, hcall8, h⟩ := bnd h
  refine st_call hf (by decide) Try.func63 rfl rfl rfl rfl rfl (f_foghornref03_May_c hp _ _ hcall8) ?_
  rintro _ w ⟨rfl, hp0⟩
  clear hp; have hp := hp0; clear hp0
  replace hp : Hp _ _ _ (Res.obj 74 v5 [.int .i64 (0 : Int), .int .i64 (0 : Int)] :: Res.obj 74 v3 [.int .i64 bx1_Re, .int .i64 bx1_Im] :: Res.obj 74 v1 [.int .i64 ax0_Re, .int .i64 ax0_Im] :: ow) := hp
  refine ⟨_, rfl, ?_⟩
  clear hf; intro a hf
  refine st_not hf (by decide) rfl rfl ?_
  clear hf; intro a ha hf; clear ha
  refine st_move hf rfl rfl (by decide) ?_
  clear hf; intro a ha hf; clear ha
  obtain ⟨z11, hz9, h⟩ := bnd h
  refine wpList_cut 4 (fun a w => Fr 51 a [(2, optr v1 0), (3, optr v3 0), (4, optr v5 0), (16, .bool z11)] ∧ Hp S w0 w (Res.obj 74 v5 [.int .i64 (0 : Int), .int .i64 (0 : Int)] :: Res.obj 74 v3 [.int .i64 bx1_Re, .int .i64 bx1_Im] :: Res.obj 74 v1 [.int .i64 ax0_Re, .int .i64 ax0_Im] :: ow)) ?_ ?_
  · rcases Bool.eq_false_or_eq_true (!q7) with hb10 | hb10
    · skip
      replace hz9 := ifT hz9 hb10
      refine st_skip hf (wantN hf rfl rfl hb10) rfl (by decide) ?_ rfl
      clear hf; intro a hf
      refine st_skip hf (wantN hf rfl rfl hb10) rfl (by decide) ?_ rfl
      clear hf; intro a hf
      refine st_skip hf (wantN hf rfl rfl hb10) rfl (by decide) ?_ rfl
      clear hf; intro a hf
      obtain rfl := Option.some.inj hz9
      refine st_pick (v := .bool true) hf rfl rfl (fun hb' => ?_) (fun hb' => ?_) (by decide) ?_
      · rfl
      · exact absurd (hb10.symm.trans hb') (by decide)
      clear hf; intro a ha hf; clear ha
      refine st_nil hf (th_n ?_)
      exact ⟨hf.sub ⟨rfl, rfl, rfl, rfl, trivial⟩, hp⟩
    replace hz9 := ifF hz9 hb10
    refine st_ldOA (m := 2) (us := [.int .i64 bx1_Re, .int .i64 bx1_Im]) hf (by decide) (by kernel_rfl) (wantY hf rfl rfl hb10) rfl (hp.ob (i := 1) rfl) rfl rfl ?_
    clear hf; intro a ha hf; clear ha
    obtain ⟨q12, hcall13, hz9⟩ := bnd hz9
    refine st_call hf (by decide) Try.func63 rfl rfl (wantY hf rfl rfl hb10) rfl rfl (f_foghornref03_May_c hp _ _ hcall13) ?_
    rintro _ w ⟨rfl, hp0⟩
    clear hp; have hp := hp0; clear hp0
    replace hp : Hp _ _ _ (Res.obj 74 v5 [.int .i64 (0 : Int), .int .i64 (0 : Int)] :: Res.obj 74 v3 [.int .i64 bx1_Re, .int .i64 bx1_Im] :: Res.obj 74 v1 [.int .i64 ax0_Re, .int .i64 ax0_Im] :: ow) := hp
    refine ⟨_, rfl, ?_⟩
    clear hf; intro a hf
    refine st_not hf (by decide) (wantY hf rfl rfl hb10) rfl ?_
    clear hf; intro a ha hf; clear ha
    obtain rfl := Option.some.inj hz9
    refine st_pick (v := .bool (!q12)) hf rfl rfl (fun hb' => ?_) (fun hb' => ?_) (by decide) ?_
    · exact absurd (hb10.symm.trans hb') (by decide)
    · rfl
    clear hf; intro a ha hf; clear ha
    refine st_nil hf (th_n ?_)
    exact ⟨hf.sub ⟨rfl, rfl, rfl, rfl, trivial⟩, hp⟩
  rintro a w ⟨hf, hp⟩
  refine st_nil hf ?_
  refine th_n ?_
  refine wp_if hf rfl (fun hb => ?_) (fun hb => ?_)
  · replace h := ifT h hb
    refine wp_seq ?_
    refine wp_reg ?_
    refine st_buildA (vals := []) (cells := [.int .i64 (0 : Int), .int .i64 (0 : Int)]) hf (by decide) rfl (by simp []) (fun w => by kernel_rfl) ?_
    clear hf; intro a ha hf; clear ha
    refine st_stO (us := [.int .i64 (0 : Int), .int .i64 (0 : Int)]) hf hp (i := 0) rfl rfl rfl rfl rfl (by rfl) (by kernel_rfl) (Nat.le_of_ble_eq_true rfl) ?_
    clear hf; intro a w hf hp0; clear hp; have hp := hp0; clear hp0
    replace hp : Hp _ _ _ (Res.obj 74 v5 [.int .i64 (0 : Int), .int .i64 (0 : Int)] :: Res.obj 74 v3 [.int .i64 bx1_Re, .int .i64 bx1_Im] :: Res.obj 74 v1 [.int .i64 ax0_Re, .int .i64 ax0_Im] :: ow) := hp
    refine st_assign hf rfl rfl (by decide) ?_
    clear hf; intro a ha hf; clear ha
    refine st_nil hf ?_
    refine th_n ?_
    refine wp_ret ?_
    refine th_r ?_
    obtain rfl := Option.some.inj h
    have hp : Hp _ _ _ (Res.obj 74 v5 [.int .i64 (0 : Int), .int .i64 (0 : Int)] :: ow) := Hp.sel (pre := [Res.obj 74 v5 [.int .i64 (0 : Int), .int .i64 (0 : Int)], Res.obj 74 v3 [.int .i64 bx1_Re, .int .i64 bx1_Im], Res.obj 74 v1 [.int .i64 ax0_Re, .int .i64 ax0_Im]]) (tail := ow) (rs' := [Res.obj 74 v5 [.int .i64 (0 : Int), .int .i64 (0 : Int)]]) hp [0] (by decide) (by simp) rfl
    exact ⟨rfl, ⟨_, hf.sub ⟨rfl, rfl, trivial⟩, hp⟩⟩
  replace h := ifF h hb
  refine wp_skip ?_
  refine th_n ?_
  refine wp_seq ?_
  refine wp_block ?_
  obtain ⟨q25, hl, h⟩ := bnd h
  have hp : Hp _ _ _ (Res.obj 74 v1 [.int .i64 ax0_Re, .int .i64 ax0_Im] :: Res.obj 74 v3 [.int .i64 bx1_Re, .int .i64 bx1_Im] :: Res.obj 74 v5 [.int .i64 (0 : Int), .int .i64 (0 : Int)] :: ow) := Hp.sel (pre := [Res.obj 74 v5 [.int .i64 (0 : Int), .int .i64 (0 : Int)], Res.obj 74 v3 [.int .i64 bx1_Re, .int .i64 bx1_Im], Res.obj 74 v1 [.int .i64 ax0_Re, .int .i64 ax0_Im]]) (tail := ow) (rs' := [Res.obj 74 v1 [.int .i64 ax0_Re, .int .i64 ax0_Im], Res.obj 74 v3 [.int .i64 bx1_Re, .int .i64 bx1_Im], Res.obj 74 v5 [.int .i64 (0 : Int), .int .i64 (0 : Int)]]) hp [2, 1, 0] (by decide) (by simp) rfl
  refine wp_loop_pure (f := f_foghornref03_Gcd.s1) (s := (ax0_Re, ax0_Im, bx1_Re, bx1_Im)) (fun s a w => Fr 51 a [(2, optr v1 0), (3, optr v3 0), (4, optr v5 0)] ∧ Hp S w0 w (Res.obj 74 v1 [.int .i64 s.1, .int .i64 s.2.1] :: Res.obj 74 v3 [.int .i64 s.2.2.1, .int .i64 s.2.2.2] :: Res.obj 74 v5 [.int .i64 (0 : Int), .int .i64 (0 : Int)] :: ow)) (fun q e a w => e = .exit 0 ∧ Fr 51 a [(2, optr v1 0), (4, optr v5 0)] ∧ Hp S w0 w (Res.obj 74 v1 [.int .i64 q.1, .int .i64 q.2] :: Res.obj 74 v5 [.int .i64 (0 : Int), .int .i64 (0 : Int)] :: ow)) ?_ hl ⟨hf.sub ⟨rfl, rfl, rfl, trivial⟩, hp⟩ ?_
  · clear hl hf hp
    intro s x a w h hI
    obtain ⟨ax2c_0, ax2c_1, bx3c_0, bx3c_1⟩ := s
    obtain ⟨hf, hp⟩ : Fr 51 a [(2, optr v1 0), (3, optr v3 0), (4, optr v5 0)] ∧ Hp S w0 w (Res.obj 74 v1 [.int .i64 ax2c_0, .int .i64 ax2c_1] :: Res.obj 74 v3 [.int .i64 bx3c_0, .int .i64 bx3c_1] :: Res.obj 74 v5 [.int .i64 (0 : Int), .int .i64 (0 : Int)] :: ow) := hI
    replace h : f_foghornref03_Gcd.s1c ax2c_0 ax2c_1 bx3c_0 bx3c_1 = some x := h
    unfold f_foghornref03_Gcd.s1c at h
    refine wp_seq ?_
    refine wp_seq ?_
    refine wp_reg ?_
    refine st_ldOA (m := 2) (us := [.int .i64 bx3c_0, .int .i64 bx3c_1]) hf (by decide) (by kernel_rfl) rfl rfl (hp.ob (i := 1) rfl) rfl rfl ?_
    clear hf; intro a ha hf; clear ha
    obtain ⟨q17, hcall18, h⟩ := bnd h
    refine st_call hf (by decide) Try.func65 rfl rfl rfl rfl rfl (f_foghornref03_norm_c hp _ _ hcall18) ?_
    rintro _ w ⟨rfl, hp0⟩
    clear hp; have hp := hp0; clear hp0
    replace hp : Hp _ _ _ (Res.obj 74 v1 [.int .i64 ax2c_0, .int .i64 ax2c_1] :: Res.obj 74 v3 [.int .i64 bx3c_0, .int .i64 bx3c_1] :: Res.obj 74 v5 [.int .i64 (0 : Int), .int .i64 (0 : Int)] :: ow) := hp
    refine ⟨_, rfl, ?_⟩
    clear hf; intro a hf
    refine st_ineq hf (by decide) rfl rfl rfl ?_
    clear hf; intro a ha hf; clear ha
    refine st_nil hf ?_
    refine th_n ?_
    refine wp_if hf rfl (fun hb => ?_) (fun hb => ?_)
    · replace h := ifT h hb
      refine wp_skip ?_
      refine th_n ?_
      refine wp_block ?_
      refine wp_seq ?_
      refine wp_reg ?_
      refine st_ldOA (m := 2) (us := [.int .i64 ax2c_0, .int .i64 ax2c_1]) hf (by decide) (by kernel_rfl) rfl rfl (hp.ob (i := 0) rfl) rfl rfl ?_
      clear hf; intro a ha hf; clear ha
      refine st_ldOA (m := 2) (us := [.int .i64 bx3c_0, .int .i64 bx3c_1]) hf (by decide) (by kernel_rfl) rfl rfl (hp.ob (i := 1) rfl) rfl rfl ?_
      clear hf; intro a ha hf; clear ha
      obtain ⟨q19, hcall20, h⟩ := bnd h
      refine st_call hf (by decide) Try.func66 rfl rfl rfl rfl rfl (f_foghornref03_by_c hp _ _ _ _ hcall20) ?_
      rintro _ w ⟨rfl, hp0⟩
      clear hp; have hp := hp0; clear hp0
      replace hp : Hp _ _ _ (Res.obj 74 v1 [.int .i64 ax2c_0, .int .i64 ax2c_1] :: Res.obj 74 v3 [.int .i64 bx3c_0, .int .i64 bx3c_1] :: Res.obj 74 v5 [.int .i64 (0 : Int), .int .i64 (0 : Int)] :: ow) := hp
      refine ⟨_, rfl, ?_⟩
      clear hf; intro a hf
      refine st_move hf rfl rfl (by decide) ?_
      clear hf; intro a ha hf; clear ha
      refine st_extract hf (by decide) rfl rfl rfl ?_
      clear hf; intro a ha hf; clear ha
      refine st_extract hf (by decide) rfl rfl rfl ?_
      clear hf; intro a ha hf; clear ha
      refine st_alloc (cs := [.int .i64 (0 : Int), .int .i64 (0 : Int)]) (zv := .agg #[.int .i64 (0 : Int), .int .i64 (0 : Int)]) hf (by decide) (by kernel_rfl) rfl hp rfl ?_
      clear hf; intro a w v21 hf hp0; clear hp; have hp := hp0; clear hp0
      replace hp : Hp _ _ _ (Res.obj 74 v21 [.int .i64 (0 : Int), .int .i64 (0 : Int)] :: Res.obj 74 v1 [.int .i64 ax2c_0, .int .i64 ax2c_1] :: Res.obj 74 v3 [.int .i64 bx3c_0, .int .i64 bx3c_1] :: Res.obj 74 v5 [.int .i64 (0 : Int), .int .i64 (0 : Int)] :: ow) := hp
      refine st_alloc (cs := [.int .i64 (0 : Int), .int .i64 (0 : Int)]) (zv := .agg #[.int .i64 (0 : Int), .int .i64 (0 : Int)]) hf (by decide) (by kernel_rfl) rfl hp rfl ?_
      clear hf; intro a w v23 hf hp0; clear hp; have hp := hp0; clear hp0
      replace hp : Hp _ _ _ (Res.obj 74 v23 [.int .i64 (0 : Int), .int .i64 (0 : Int)] :: Res.obj 74 v21 [.int .i64 (0 : Int), .int .i64 (0 : Int)] :: Res.obj 74 v1 [.int .i64 ax2c_0, .int .i64 ax2c_1] :: Res.obj 74 v3 [.int .i64 bx3c_0, .int .i64 bx3c_1] :: Res.obj 74 v5 [.int .i64 (0 : Int), .int .i64 (0 : Int)] :: ow) := hp
      refine st_stO (us := [.int .i64 q19.1.1, .int .i64 q19.1.2]) hf hp (i := 1) rfl rfl rfl rfl rfl (by rfl) (by kernel_rfl) (Nat.le_of_ble_eq_true rfl) ?_
      clear hf; intro a w hf hp0; clear hp; have hp := hp0; clear hp0
      replace hp : Hp _ _ _ (Res.obj 74 v23 [.int .i64 (0 : Int), .int .i64 (0 : Int)] :: Res.obj 74 v21 [.int .i64 q19.1.1, .int .i64 q19.1.2] :: Res.obj 74 v1 [.int .i64 ax2c_0, .int .i64 ax2c_1] :: Res.obj 74 v3 [.int .i64 bx3c_0, .int .i64 bx3c_1] :: Res.obj 74 v5 [.int .i64 (0 : Int), .int .i64 (0 : Int)] :: ow) := hp
      refine st_stO (us := [.int .i64 q19.2.1, .int .i64 q19.2.2]) hf hp (i := 0) rfl rfl rfl rfl rfl (by rfl) (by kernel_rfl) (Nat.le_of_ble_eq_true rfl) ?_
      clear hf; intro a w hf hp0; clear hp; have hp := hp0; clear hp0
      replace hp : Hp _ _ _ (Res.obj 74 v23 [.int .i64 q19.2.1, .int .i64 q19.2.2] :: Res.obj 74 v21 [.int .i64 q19.1.1, .int .i64 q19.1.2] :: Res.obj 74 v1 [.int .i64 ax2c_0, .int .i64 ax2c_1] :: Res.obj 74 v3 [.int .i64 bx3c_0, .int .i64 bx3c_1] :: Res.obj 74 v5 [.int .i64 (0 : Int), .int .i64 (0 : Int)] :: ow) := hp
      refine st_nil hf ?_
      refine th_n ?_
      refine wp_seq ?_
      refine wp_reg ?_
      refine st_ldOA (m := 2) (us := [.int .i64 bx3c_0, .int .i64 bx3c_1]) hf (by decide) (by kernel_rfl) rfl rfl (hp.ob (i := 3) rfl) rfl rfl ?_
      clear hf; intro a ha hf; clear ha
      refine st_stO (us := [.int .i64 bx3c_0, .int .i64 bx3c_1]) hf hp (i := 2) rfl rfl rfl rfl rfl (by rfl) (by kernel_rfl) (Nat.le_of_ble_eq_true rfl) ?_
      clear hf; intro a w hf hp0; clear hp; have hp := hp0; clear hp0
      replace hp : Hp _ _ _ (Res.obj 74 v23 [.int .i64 q19.2.1, .int .i64 q19.2.2] :: Res.obj 74 v21 [.int .i64 q19.1.1, .int .i64 q19.1.2] :: Res.obj 74 v1 [.int .i64 bx3c_0, .int .i64 bx3c_1] :: Res.obj 74 v3 [.int .i64 bx3c_0, .int .i64 bx3c_1] :: Res.obj 74 v5 [.int .i64 (0 : Int), .int .i64 (0 : Int)] :: ow) := hp
      refine st_nil hf ?_
      refine th_n ?_
      refine wp_reg ?_
      refine st_ldOA (m := 2) (us := [.int .i64 q19.2.1, .int .i64 q19.2.2]) hf (by decide) (by kernel_rfl) rfl rfl (hp.ob (i := 0) rfl) rfl rfl ?_
      clear hf; intro a ha hf; clear ha
      refine st_stO (us := [.int .i64 q19.2.1, .int .i64 q19.2.2]) hf hp (i := 3) rfl rfl rfl rfl rfl (by rfl) (by kernel_rfl) (Nat.le_of_ble_eq_true rfl) ?_
      clear hf; intro a w hf hp0; clear hp; have hp := hp0; clear hp0
      replace hp : Hp _ _ _ (Res.obj 74 v23 [.int .i64 q19.2.1, .int .i64 q19.2.2] :: Res.obj 74 v21 [.int .i64 q19.1.1, .int .i64 q19.1.2] :: Res.obj 74 v1 [.int .i64 bx3c_0, .int .i64 bx3c_1] :: Res.obj 74 v3 [.int .i64 q19.2.1, .int .i64 q19.2.2] :: Res.obj 74 v5 [.int .i64 (0 : Int), .int .i64 (0 : Int)] :: ow) := hp
      refine st_nil hf ?_
      refine ib_n ?_
      obtain rfl := Option.some.inj h
      have hp : Hp _ _ _ (Res.obj 74 v1 [.int .i64 bx3c_0, .int .i64 bx3c_1] :: Res.obj 74 v3 [.int .i64 q19.2.1, .int .i64 q19.2.2] :: Res.obj 74 v5 [.int .i64 (0 : Int), .int .i64 (0 : Int)] :: ow) := Hp.sel (pre := [Res.obj 74 v23 [.int .i64 q19.2.1, .int .i64 q19.2.2], Res.obj 74 v21 [.int .i64 q19.1.1, .int .i64 q19.1.2], Res.obj 74 v1 [.int .i64 bx3c_0, .int .i64 bx3c_1], Res.obj 74 v3 [.int .i64 q19.2.1, .int .i64 q19.2.2], Res.obj 74 v5 [.int .i64 (0 : Int), .int .i64 (0 : Int)]]) (tail := ow) (rs' := [Res.obj 74 v1 [.int .i64 bx3c_0, .int .i64 bx3c_1], Res.obj 74 v3 [.int .i64 q19.2.1, .int .i64 q19.2.2], Res.obj 74 v5 [.int .i64 (0 : Int), .int .i64 (0 : Int)]]) hp [2, 3, 4] (by decide) (by simp) rfl
      exact rnd_l ⟨hf.sub ⟨rfl, rfl, rfl, trivial⟩, hp⟩
    replace h := ifF h hb
    refine wp_exit ?_
    refine th_e ?_
    obtain rfl := Option.some.inj h
    have hp : Hp _ _ _ (Res.obj 74 v1 [.int .i64 ax2c_0, .int .i64 ax2c_1] :: Res.obj 74 v5 [.int .i64 (0 : Int), .int .i64 (0 : Int)] :: ow) := Hp.sel (pre := [Res.obj 74 v1 [.int .i64 ax2c_0, .int .i64 ax2c_1], Res.obj 74 v3 [.int .i64 bx3c_0, .int .i64 bx3c_1], Res.obj 74 v5 [.int .i64 (0 : Int), .int .i64 (0 : Int)]]) (tail := ow) (rs' := [Res.obj 74 v1 [.int .i64 ax2c_0, .int .i64 ax2c_1], Res.obj 74 v5 [.int .i64 (0 : Int), .int .i64 (0 : Int)]]) hp [0, 2] (by decide) (by simp) rfl
    exact rnd_r (by simp) ⟨rfl, hf.sub ⟨rfl, rfl, trivial⟩, hp⟩
  clear hl hf hp
  intro e a w hne hO
  obtain ⟨rfl, hf, hp⟩ := hO
  refine ib_same ?_
  refine th_n ?_
  refine wp_seq ?_
  refine wp_seq ?_
  refine wp_reg ?_
  refine st_assign hf rfl rfl (by decide) ?_
  clear hf; intro a ha hf; clear ha
  refine st_nil hf ?_
  refine th_n ?_
  refine wp_block ?_
  obtain ⟨q32, hl, h⟩ := bnd h
  refine wp_loop_pure (f := f_foghornref03_Gcd.s2) (s := (q25.1, q25.2, (0 : Int))) (fun s a w => Fr 51 a [(2, optr v1 0), (4, optr v5 0), (8, .int .i64 s.2.2)] ∧ Hp S w0 w (Res.obj 74 v1 [.int .i64 s.1, .int .i64 s.2.1] :: Res.obj 74 v5 [.int .i64 (0 : Int), .int .i64 (0 : Int)] :: ow)) (fun q e a w => e = .exit 2 ∧ Fr 51 a [(2, optr v1 0), (4, optr v5 0)] ∧ Hp S w0 w (Res.obj 74 v1 [.int .i64 q.1, .int .i64 q.2] :: Res.obj 74 v5 [.int .i64 (0 : Int), .int .i64 (0 : Int)] :: ow)) ?_ hl ⟨hf.sub ⟨rfl, rfl, rfl, trivial⟩, hp⟩ ?_
  · clear hl hf hp
    intro s x a w h hI
    obtain ⟨ax2c_0, ax2c_1, i8⟩ := s
    obtain ⟨hf, hp⟩ : Fr 51 a [(2, optr v1 0), (4, optr v5 0), (8, .int .i64 i8)] ∧ Hp S w0 w (Res.obj 74 v1 [.int .i64 ax2c_0, .int .i64 ax2c_1] :: Res.obj 74 v5 [.int .i64 (0 : Int), .int .i64 (0 : Int)] :: ow) := hI
    replace h : f_foghornref03_Gcd.s2c ax2c_0 ax2c_1 i8 = some x := h
    unfold f_foghornref03_Gcd.s2c at h
    refine wp_seq ?_
    refine wp_seq ?_
    refine wp_reg ?_
    refine st_move hf rfl rfl (by decide) ?_
    clear hf; intro a ha hf; clear ha
    refine st_ilss hf (by decide) rfl rfl rfl ?_
    clear hf; intro a ha hf; clear ha
    refine st_move hf rfl rfl (by decide) ?_
    clear hf; intro a ha hf; clear ha
    refine wpList_cut 10 (fun a w => Fr 51 a [(2, optr v1 0), (4, optr v5 0), (8, .int .i64 i8), (41, .bool ((decide (i8 < (4 : Int))) && (!((decide ((0 : Int) < ax2c_0)) && (decide ((0 : Int) ≤ ax2c_1))))))] ∧ Hp S w0 w (Res.obj 74 v1 [.int .i64 ax2c_0, .int .i64 ax2c_1] :: Res.obj 74 v5 [.int .i64 (0 : Int), .int .i64 (0 : Int)] :: ow)) ?_ ?_
    · rcases Bool.eq_false_or_eq_true (decide (i8 < (4 : Int))) with hb29 | hb29
      · skip
        refine st_fa (o' := 0) hf (by decide) (off := 0) (sz := 1) (by kernel_rfl) (by decide) (wantY hf rfl rfl hb29) rfl (hp.ob (i := 0) rfl) rfl ?_
        clear hf; intro a ha hf; clear ha
        refine st_ldO (u := .int .i64 ax2c_0) hf (by decide) pl2 (wantY hf rfl rfl hb29) rfl (hp.ob (i := 0) rfl) rfl ?_
        clear hf; intro a ha hf; clear ha
        refine st_igtr hf (by decide) (wantY hf rfl rfl hb29) rfl rfl ?_
        clear hf; intro a ha hf; clear ha
        refine st_move hf (wantY hf rfl rfl hb29) rfl (by decide) ?_
        clear hf; intro a ha hf; clear ha
        refine wpList_cut 4 (fun a w => Fr 51 a [(2, optr v1 0), (4, optr v5 0), (8, .int .i64 i8), (31, .bool (decide (i8 < (4 : Int)))), (39, .bool ((decide ((0 : Int) < ax2c_0)) && (decide ((0 : Int) ≤ ax2c_1))))] ∧ Hp S w0 w (Res.obj 74 v1 [.int .i64 ax2c_0, .int .i64 ax2c_1] :: Res.obj 74 v5 [.int .i64 (0 : Int), .int .i64 (0 : Int)] :: ow)) ?_ ?_
        · rcases Bool.eq_false_or_eq_true (decide ((0 : Int) < ax2c_0)) with hb31 | hb31
          · skip
            refine st_fa (o' := 1) hf (by decide) (off := 1) (sz := 1) (by kernel_rfl) (by decide) (wantY hf rfl rfl hb31) rfl (hp.ob (i := 0) rfl) rfl ?_
            clear hf; intro a ha hf; clear ha
            refine st_ldO (u := .int .i64 ax2c_1) hf (by decide) pl2 (wantY hf rfl rfl hb31) rfl (hp.ob (i := 0) rfl) rfl ?_
            clear hf; intro a ha hf; clear ha
            refine st_igeq hf (by decide) (wantY hf rfl rfl hb31) rfl rfl ?_
            clear hf; intro a ha hf; clear ha
            refine st_pick (v := .bool (decide ((0 : Int) ≤ ax2c_1))) hf (wantY hf rfl rfl hb29) rfl (fun hb' => ?_) (fun hb' => ?_) (by decide) ?_
            · rfl
            · exact absurd (hb31.symm.trans hb') (by decide)
            clear hf; intro a ha hf; clear ha
            refine st_nil hf (th_n ?_)
            exact ⟨hf.sub ⟨rfl, rfl, rfl, rfl, (by rw [hb31]; rfl), trivial⟩, hp⟩
          refine st_skip hf (wantN hf rfl rfl hb31) rfl (by decide) ?_ rfl
          clear hf; intro a hf
          refine st_skip hf (wantN hf rfl rfl hb31) rfl (by decide) ?_ rfl
          clear hf; intro a hf
          refine st_skip hf (wantN hf rfl rfl hb31) rfl (by decide) ?_ rfl
          clear hf; intro a hf
          refine st_pick (v := .bool false) hf (wantY hf rfl rfl hb29) rfl (fun hb' => ?_) (fun hb' => ?_) (by decide) ?_
          · exact absurd (hb31.symm.trans hb') (by decide)
          · rfl
          clear hf; intro a ha hf; clear ha
          refine st_nil hf (th_n ?_)
          exact ⟨hf.sub ⟨rfl, rfl, rfl, rfl, (by rw [hb31]; rfl), trivial⟩, hp⟩
        rintro a w ⟨hf, hp⟩
        refine st_not hf (by decide) (wantY hf rfl rfl hb29) rfl ?_
        clear hf; intro a ha hf; clear ha
        refine st_pick (v := .bool (!((decide ((0 : Int) < ax2c_0)) && (decide ((0 : Int) ≤ ax2c_1))))) hf rfl rfl (fun hb' => ?_) (fun hb' => ?_) (by decide) ?_
        · rfl
        · exact absurd (hb29.symm.trans hb') (by decide)
        clear hf; intro a ha hf; clear ha
        refine st_nil hf (th_n ?_)
        exact ⟨hf.sub ⟨rfl, rfl, rfl, (by rw [hb29]; rfl), trivial⟩, hp⟩
      refine st_skip hf (wantN hf rfl rfl hb29) rfl (by decide) ?_ rfl
      clear hf; intro a hf
      refine st_skip hf (wantN hf rfl rfl hb29) rfl (by decide) ?_ rfl
      clear hf; intro a hf
      refine st_skip hf (wantN hf rfl rfl hb29) rfl (by decide) ?_ rfl
      clear hf; intro a hf
      refine st_skipU hf (wantN hf rfl rfl hb29) rfl (by decide) ?_
      clear hf; intro a hf
      refine st_skip hf (wantU hf rfl rfl) rfl (by decide) ?_ rfl
      clear hf; intro a hf
      refine st_skip hf (wantU hf rfl rfl) rfl (by decide) ?_ rfl
      clear hf; intro a hf
      refine st_skip hf (wantU hf rfl rfl) rfl (by decide) ?_ rfl
      clear hf; intro a hf
      refine st_skip hf (wantN hf rfl rfl hb29) rfl (by decide) ?_ rfl
      clear hf; intro a hf
      refine st_skip hf (wantN hf rfl rfl hb29) rfl (by decide) ?_ rfl
      clear hf; intro a hf
      refine st_pick (v := .bool false) hf rfl rfl (fun hb' => ?_) (fun hb' => ?_) (by decide) ?_
      · exact absurd (hb29.symm.trans hb') (by decide)
      · rfl
      clear hf; intro a ha hf; clear ha
      refine st_nil hf (th_n ?_)
      exact ⟨hf.sub ⟨rfl, rfl, rfl, (by rw [hb29]; rfl), trivial⟩, hp⟩
    rintro a w ⟨hf, hp⟩
    refine st_nil hf ?_
    refine th_n ?_
    refine wp_if hf rfl (fun hb => ?_) (fun hb => ?_)
    · replace h := ifT h hb
      refine wp_skip ?_
      refine th_n ?_
      refine wp_seq ?_
      refine wp_block ?_
      refine wp_reg ?_
      refine st_fa (o' := 1) hf (by decide) (off := 1) (sz := 1) (by kernel_rfl) (by decide) rfl rfl (hp.ob (i := 0) rfl) rfl ?_
      clear hf; intro a ha hf; clear ha
      refine st_ldO (u := .int .i64 ax2c_1) hf (by decide) pl2 rfl rfl (hp.ob (i := 0) rfl) rfl ?_
      clear hf; intro a ha hf; clear ha
      refine st_ineg hf (by decide) rfl rfl ?_
      clear hf; intro a ha hf; clear ha
      refine st_fa (o' := 0) hf (by decide) (off := 0) (sz := 1) (by kernel_rfl) (by decide) rfl rfl (hp.ob (i := 0) rfl) rfl ?_
      clear hf; intro a ha hf; clear ha
      refine st_ldO (u := .int .i64 ax2c_0) hf (by decide) pl2 rfl rfl (hp.ob (i := 0) rfl) rfl ?_
      clear hf; intro a ha hf; clear ha
      refine st_buildA (vals := [(0, .int .i64 (IntKind.i64.wrap (0 - ax2c_1))), (1, .int .i64 ax2c_0)]) (cells := [.int .i64 (IntKind.i64.wrap (0 - ax2c_1)), .int .i64 ax2c_0]) hf (by decide) rfl (by simp [hf.ev (x := (Operand.tmp 46)) rfl, hf.ev (x := (Operand.tmp 48)) rfl]) (fun w => by kernel_rfl) ?_
      clear hf; intro a ha hf; clear ha
      refine st_stO (us := [.int .i64 (IntKind.i64.wrap (0 - ax2c_1)), .int .i64 ax2c_0]) hf hp (i := 0) rfl rfl rfl rfl rfl (by rfl) (by kernel_rfl) (Nat.le_of_ble_eq_true rfl) ?_
      clear hf; intro a w hf hp0; clear hp; have hp := hp0; clear hp0
      replace hp : Hp _ _ _ (Res.obj 74 v1 [.int .i64 (IntKind.i64.wrap (0 - ax2c_1)), .int .i64 ax2c_0] :: Res.obj 74 v5 [.int .i64 (0 : Int), .int .i64 (0 : Int)] :: ow) := hp
      refine st_nil hf ?_
      refine ib_n ?_
      refine th_n ?_
      refine wp_reg ?_
      refine st_move hf rfl rfl (by decide) ?_
      clear hf; intro a ha hf; clear ha
      refine st_iadd hf (by decide) rfl rfl rfl ?_
      clear hf; intro a ha hf; clear ha
      refine st_assign hf rfl rfl (by decide) ?_
      clear hf; intro a ha hf; clear ha
      refine st_nil hf ?_
      obtain rfl := Option.some.inj h
      exact rnd_l ⟨hf.sub ⟨rfl, rfl, rfl, trivial⟩, hp⟩
    replace h := ifF h hb
    refine wp_exit ?_
    refine th_e ?_
    obtain rfl := Option.some.inj h
    exact rnd_r (by simp) ⟨rfl, hf.sub ⟨rfl, rfl, trivial⟩, hp⟩
  clear hl hf hp
  intro e a w hne hO
  obtain ⟨rfl, hf, hp⟩ := hO
  refine ib_same ?_
  refine th_n ?_
  refine wp_seq ?_
  refine wp_reg ?_
  refine st_ldOA (m := 2) (us := [.int .i64 q32.1, .int .i64 q32.2]) hf (by decide) (by kernel_rfl) rfl rfl (hp.ob (i := 0) rfl) rfl rfl ?_
  clear hf; intro a ha hf; clear ha
  refine st_stO (us := [.int .i64 q32.1, .int .i64 q32.2]) hf hp (i := 1) rfl rfl rfl rfl rfl (by rfl) (by kernel_rfl) (Nat.le_of_ble_eq_true rfl) ?_
  clear hf; intro a w hf hp0; clear hp; have hp := hp0; clear hp0
  replace hp : Hp _ _ _ (Res.obj 74 v1 [.int .i64 q32.1, .int .i64 q32.2] :: Res.obj 74 v5 [.int .i64 q32.1, .int .i64 q32.2] :: ow) := hp
  refine st_assign hf rfl rfl (by decide) ?_
  clear hf; intro a ha hf; clear ha
  refine st_nil hf ?_
  refine th_n ?_
  refine wp_ret ?_
  obtain rfl := Option.some.inj h
  have hp : Hp _ _ _ (Res.obj 74 v5 [.int .i64 q32.1, .int .i64 q32.2] :: ow) := Hp.sel (pre := [Res.obj 74 v1 [.int .i64 q32.1, .int .i64 q32.2], Res.obj 74 v5 [.int .i64 q32.1, .int .i64 q32.2]]) (tail := ow) (rs' := [Res.obj 74 v5 [.int .i64 q32.1, .int .i64 q32.2]]) hp [1] (by decide) (by simp) rfl
  exact ⟨rfl, ⟨_, hf.sub ⟨rfl, rfl, trivial⟩, hp⟩⟩

noncomputable def f_plane_Gauss_half (g0_Re : Int) (g0_Im : Int) : Option ((Int × Int) × Int) := (some (((IntKind.i64.wrap (((IntKind.i64.wrap ((IntKind.i64.wrap (g0_Re - (iand .i64 (IntKind.i64.wrap (g0_Re + g0_Im)) (1 : Int)))) + g0_Im))).tdiv (2 : Int))), (IntKind.i64.wrap (((IntKind.i64.wrap (g0_Im - (IntKind.i64.wrap (g0_Re - (iand .i64 (IntKind.i64.wrap (g0_Re + g0_Im)) (1 : Int))))))).tdiv (2 : Int)))), (IntKind.u32.wrap (iand .i64 (IntKind.i64.wrap (g0_Re + g0_Im)) (1 : Int)))))
theorem f_plane_Gauss_half_c {S : Nat → Prop} {w0 w : World} {ow : List Res} (hp : Hp S w0 w ow) (g0_Re : Int) (g0_Im : Int) {r : ((Int × Int) × Int)} (h : f_plane_Gauss_half g0_Re g0_Im = some r) :
    Calls Try.prog 59 #[.agg #[.int .i64 g0_Re, .int .i64 g0_Im]] w (fun e w' => e = .returned (.tuple #[.agg #[.int .i64 r.1.1, .int .i64 r.1.2], .int .u32 r.2]) ∧ Hp S w0 w' (ow)) := by
  unfold f_plane_Gauss_half at h
  refine enter (n := 31) (args := [.agg #[.int .i64 g0_Re, .int .i64 g0_Im]]) Try.func59 rfl rfl (Nat.le_of_ble_eq_true rfl) fun a hf => ?_
  replace hf : Fr 31 a [(0, .agg #[.int .i64 g0_Re, .int .i64 g0_Im])] := hf
  refine wp_mono (Q := fun e a w => e = .ret ∧ ∃ (c0 : Value), Fr 31 a [(2, optr c0 0), (3, .int .u32 r.2)] ∧ Hp S w0 w (Res.obj 56 c0 [.int .i64 r.1.1, .int .i64 r.1.2] :: ow)) ?_ ?_
  rotate_left
  · rintro e a w ⟨rfl, c0, hf, hp⟩
    exact retG2 hf rfl ⟨_, _, rfl, hp.ob (i := 0) rfl, .inr ⟨by kernel_rfl, rfl⟩⟩ rfl ⟨rfl, hp.drop⟩
  refine wp_seq ?_
  refine wp_reg ?_
  refine st_boxO (cs := [.int .i64 g0_Re, .int .i64 g0_Im]) hf (by decide) hp rfl rfl rfl ?_
  clear hf; intro a w v1 hf hp0; clear hp; have hp := hp0; clear hp0
  replace hp : Hp _ _ _ (Res.obj 56 v1 [.int .i64 g0_Re, .int .i64 g0_Im] :: ow) := hp
  refine st_alloc (cs := [.int .i64 (0 : Int), .int .i64 (0 : Int)]) (zv := .agg #[.int .i64 (0 : Int), .int .i64 (0 : Int)]) hf (by decide) (by kernel_rfl) rfl hp rfl ?_
  clear hf; intro a w v3 hf hp0; clear hp; have hp := hp0; clear hp0
  replace hp : Hp _ _ _ (Res.obj 56 v3 [.int .i64 (0 : Int), .int .i64 (0 : Int)] :: Res.obj 56 v1 [.int .i64 g0_Re, .int .i64 g0_Im] :: ow) := hp
  refine st_assign hf rfl rfl (by decide) ?_
  clear hf; intro a ha hf; clear ha
  refine st_nil hf ?_
  refine th_n ?_
  refine wp_seq ?_
  refine wp_reg ?_
  refine st_fa (o' := 0) hf (by decide) (off := 0) (sz := 1) (by kernel_rfl) (by decide) rfl rfl (hp.ob (i := 1) rfl) rfl ?_
  clear hf; intro a ha hf; clear ha
  refine st_ldO (u := .int .i64 g0_Re) hf (by decide) pl2 rfl rfl (hp.ob (i := 1) rfl) rfl ?_
  clear hf; intro a ha hf; clear ha
  refine st_fa (o' := 1) hf (by decide) (off := 1) (sz := 1) (by kernel_rfl) (by decide) rfl rfl (hp.ob (i := 1) rfl) rfl ?_
  clear hf; intro a ha hf; clear ha
  refine st_ldO (u := .int .i64 g0_Im) hf (by decide) pl2 rfl rfl (hp.ob (i := 1) rfl) rfl ?_
  clear hf; intro a ha hf; clear ha
  refine st_iadd hf (by decide) rfl rfl rfl ?_
  clear hf; intro a ha hf; clear ha
  refine st_iand hf (by decide) rfl rfl rfl ?_
  clear hf; intro a ha hf; clear ha
  refine st_assign hf rfl rfl (by decide) ?_
  clear hf; intro a ha hf; clear ha
  refine st_nil hf ?_
  refine th_n ?_
  refine wp_seq ?_
  refine wp_reg ?_
  refine st_fa (o' := 0) hf (by decide) (off := 0) (sz := 1) (by kernel_rfl) (by decide) rfl rfl (hp.ob (i := 1) rfl) rfl ?_
  clear hf; intro a ha hf; clear ha
  refine st_ldO (u := .int .i64 g0_Re) hf (by decide) pl2 rfl rfl (hp.ob (i := 1) rfl) rfl ?_
  clear hf; intro a ha hf; clear ha
  refine st_move hf rfl rfl (by decide) ?_
  clear hf; intro a ha hf; clear ha
  refine st_isub hf (by decide) rfl rfl rfl ?_
  clear hf; intro a ha hf; clear ha
  refine st_fa (o' := 0) hf (by decide) (off := 0) (sz := 1) (by kernel_rfl) (by decide) rfl rfl (hp.ob (i := 1) rfl) rfl ?_
  clear hf; intro a ha hf; clear ha
  refine st_stO (us := [.int .i64 (IntKind.i64.wrap (g0_Re - (iand .i64 (IntKind.i64.wrap (g0_Re + g0_Im)) (1 : Int))))]) hf hp (i := 1) rfl rfl rfl rfl rfl (by rfl) (by kernel_rfl) (Nat.le_of_ble_eq_true rfl) ?_
  clear hf; intro a w hf hp0; clear hp; have hp := hp0; clear hp0
  replace hp : Hp _ _ _ (Res.obj 56 v3 [.int .i64 (0 : Int), .int .i64 (0 : Int)] :: Res.obj 56 v1 [.int .i64 (IntKind.i64.wrap (g0_Re - (iand .i64 (IntKind.i64.wrap (g0_Re + g0_Im)) (1 : Int)))), .int .i64 g0_Im] :: ow) := hp
  refine st_nil hf ?_
  refine th_n ?_
  refine wp_seq ?_
  refine wp_reg ?_
  refine st_fa (o' := 0) hf (by decide) (off := 0) (sz := 1) (by kernel_rfl) (by decide) rfl rfl (hp.ob (i := 1) rfl) rfl ?_
  clear hf; intro a ha hf; clear ha
  refine st_ldO (u := .int .i64 (IntKind.i64.wrap (g0_Re - (iand .i64 (IntKind.i64.wrap (g0_Re + g0_Im)) (1 : Int))))) hf (by decide) pl2 rfl rfl (hp.ob (i := 1) rfl) rfl ?_
  clear hf; intro a ha hf; clear ha
  refine st_fa (o' := 1) hf (by decide) (off := 1) (sz := 1) (by kernel_rfl) (by decide) rfl rfl (hp.ob (i := 1) rfl) rfl ?_
  clear hf; intro a ha hf; clear ha
  refine st_ldO (u := .int .i64 g0_Im) hf (by decide) pl2 rfl rfl (hp.ob (i := 1) rfl) rfl ?_
  clear hf; intro a ha hf; clear ha
  refine st_iadd hf (by decide) rfl rfl rfl ?_
  clear hf; intro a ha hf; clear ha
  refine st_iquo hf (by decide) rfl rfl rfl (by decide) ?_
  clear hf; intro a ha hf; clear ha
  refine st_fa (o' := 1) hf (by decide) (off := 1) (sz := 1) (by kernel_rfl) (by decide) rfl rfl (hp.ob (i := 1) rfl) rfl ?_
  clear hf; intro a ha hf; clear ha
  refine st_ldO (u := .int .i64 g0_Im) hf (by decide) pl2 rfl rfl (hp.ob (i := 1) rfl) rfl ?_
  clear hf; intro a ha hf; clear ha
  refine st_fa (o' := 0) hf (by decide) (off := 0) (sz := 1) (by kernel_rfl) (by decide) rfl rfl (hp.ob (i := 1) rfl) rfl ?_
  clear hf; intro a ha hf; clear ha
  refine st_ldO (u := .int .i64 (IntKind.i64.wrap (g0_Re - (iand .i64 (IntKind.i64.wrap (g0_Re + g0_Im)) (1 : Int))))) hf (by decide) pl2 rfl rfl (hp.ob (i := 1) rfl) rfl ?_
  clear hf; intro a ha hf; clear ha
  refine st_isub hf (by decide) rfl rfl rfl ?_
  clear hf; intro a ha hf; clear ha
  refine st_iquo hf (by decide) rfl rfl rfl (by decide) ?_
  clear hf; intro a ha hf; clear ha
  refine st_buildA (vals := [(0, .int .i64 (IntKind.i64.wrap (((IntKind.i64.wrap ((IntKind.i64.wrap (g0_Re - (iand .i64 (IntKind.i64.wrap (g0_Re + g0_Im)) (1 : Int)))) + g0_Im))).tdiv (2 : Int)))), (1, .int .i64 (IntKind.i64.wrap (((IntKind.i64.wrap (g0_Im - (IntKind.i64.wrap (g0_Re - (iand .i64 (IntKind.i64.wrap (g0_Re + g0_Im)) (1 : Int))))))).tdiv (2 : Int))))]) (cells := [.int .i64 (IntKind.i64.wrap (((IntKind.i64.wrap ((IntKind.i64.wrap (g0_Re - (iand .i64 (IntKind.i64.wrap (g0_Re + g0_Im)) (1 : Int)))) + g0_Im))).tdiv (2 : Int))), .int .i64 (IntKind.i64.wrap (((IntKind.i64.wrap (g0_Im - (IntKind.i64.wrap (g0_Re - (iand .i64 (IntKind.i64.wrap (g0_Re + g0_Im)) (1 : Int))))))).tdiv (2 : Int)))]) hf (by decide) rfl (by simp [hf.ev (x := (Operand.tmp 21)) rfl, hf.ev (x := (Operand.tmp 27)) rfl]) (fun w => by kernel_rfl) ?_
  clear hf; intro a ha hf; clear ha
  refine st_move hf rfl rfl (by decide) ?_
  clear hf; intro a ha hf; clear ha
  refine st_conv_ii hf (by decide) (by rw [Try.underlying2]; rfl) Try.underlying66 rfl rfl ?_
  clear hf; intro a ha hf; clear ha
  refine st_stO (us := [.int .i64 (IntKind.i64.wrap (((IntKind.i64.wrap ((IntKind.i64.wrap (g0_Re - (iand .i64 (IntKind.i64.wrap (g0_Re + g0_Im)) (1 : Int)))) + g0_Im))).tdiv (2 : Int))), .int .i64 (IntKind.i64.wrap (((IntKind.i64.wrap (g0_Im - (IntKind.i64.wrap (g0_Re - (iand .i64 (IntKind.i64.wrap (g0_Re + g0_Im)) (1 : Int))))))).tdiv (2 : Int)))]) hf hp (i := 0) rfl rfl rfl rfl rfl (by rfl) (by kernel_rfl) (Nat.le_of_ble_eq_true rfl) ?_
  clear hf; intro a w hf hp0; clear hp; have hp := hp0; clear hp0
  replace hp : Hp _ _ _ (Res.obj 56 v3 [.int .i64 (IntKind.i64.wrap (((IntKind.i64.wrap ((IntKind.i64.wrap (g0_Re - (iand .i64 (IntKind.i64.wrap (g0_Re + g0_Im)) (1 : Int)))) + g0_Im))).tdiv (2 : Int))), .int .i64 (IntKind.i64.wrap (((IntKind.i64.wrap (g0_Im - (IntKind.i64.wrap (g0_Re - (iand .i64 (IntKind.i64.wrap (g0_Re + g0_Im)) (1 : Int))))))).tdiv (2 : Int)))] :: Res.obj 56 v1 [.int .i64 (IntKind.i64.wrap (g0_Re - (iand .i64 (IntKind.i64.wrap (g0_Re + g0_Im)) (1 : Int)))), .int .i64 g0_Im] :: ow) := hp
  refine st_assign hf rfl rfl (by decide) ?_
  clear hf; intro a ha hf; clear ha
  refine st_nil hf ?_
  refine th_n ?_
  refine wp_ret ?_
  obtain rfl := Option.some.inj h
  have hp : Hp _ _ _ (Res.obj 56 v3 [.int .i64 (IntKind.i64.wrap (((IntKind.i64.wrap ((IntKind.i64.wrap (g0_Re - (iand .i64 (IntKind.i64.wrap (g0_Re + g0_Im)) (1 : Int)))) + g0_Im))).tdiv (2 : Int))), .int .i64 (IntKind.i64.wrap (((IntKind.i64.wrap (g0_Im - (IntKind.i64.wrap (g0_Re - (iand .i64 (IntKind.i64.wrap (g0_Re + g0_Im)) (1 : Int))))))).tdiv (2 : Int)))] :: ow) := Hp.sel (pre := [Res.obj 56 v3 [.int .i64 (IntKind.i64.wrap (((IntKind.i64.wrap ((IntKind.i64.wrap (g0_Re - (iand .i64 (IntKind.i64.wrap (g0_Re + g0_Im)) (1 : Int)))) + g0_Im))).tdiv (2 : Int))), .int .i64 (IntKind.i64.wrap (((IntKind.i64.wrap (g0_Im - (IntKind.i64.wrap (g0_Re - (iand .i64 (IntKind.i64.wrap (g0_Re + g0_Im)) (1 : Int))))))).tdiv (2 : Int)))], Res.obj 56 v1 [.int .i64 (IntKind.i64.wrap (g0_Re - (iand .i64 (IntKind.i64.wrap (g0_Re + g0_Im)) (1 : Int)))), .int .i64 g0_Im]]) (tail := ow) (rs' := [Res.obj 56 v3 [.int .i64 (IntKind.i64.wrap (((IntKind.i64.wrap ((IntKind.i64.wrap (g0_Re - (iand .i64 (IntKind.i64.wrap (g0_Re + g0_Im)) (1 : Int)))) + g0_Im))).tdiv (2 : Int))), .int .i64 (IntKind.i64.wrap (((IntKind.i64.wrap (g0_Im - (IntKind.i64.wrap (g0_Re - (iand .i64 (IntKind.i64.wrap (g0_Re + g0_Im)) (1 : Int))))))).tdiv (2 : Int)))]]) hp [0] (by decide) (by simp) rfl
  exact ⟨rfl, ⟨_, hf.sub ⟨rfl, rfl, trivial⟩, hp⟩⟩

noncomputable def f_plane_Gauss_Class.s1c (depth1 : Int) (g2c_0 : Int) (g2c_1 : Int) (class6 : Int) (t21 : Int) : Option ((Int × Int × Int × Int) ⊕ Int) := (if (decide (t21 < depth1)) = true then ((f_plane_Gauss_half g2c_0 g2c_1).bind fun q10 => (if 0 ≤ t21 then (some (Sum.inl (q10.1.1, q10.1.2, (ior .u32 class6 (ishl .u32 q10.2 t21)), (IntKind.i64.wrap (t21 + (1 : Int)))))) else none)) else (some (Sum.inr class6)))
noncomputable def f_plane_Gauss_Class.s1 (depth1 : Int) (s : (Int × Int × Int × Int)) : Option ((Int × Int × Int × Int) ⊕ Int) := f_plane_Gauss_Class.s1c depth1 s.1 s.2.1 s.2.2.1 s.2.2.2
noncomputable def f_plane_Gauss_Class (g0_Re : Int) (g0_Im : Int) (depth1 : Int) : Option (Int × Int) := ((f_plane_Gauss_may g0_Re g0_Im).bind fun q3 => (if (((!q3) || (decide (depth1 < (0 : Int)))) || (decide ((30 : Int) < depth1))) = true then (some ((0 : Int), (1 : Int))) else ((loop (f_plane_Gauss_Class.s1 depth1) (g0_Re, g0_Im, (0 : Int), (0 : Int))).bind (fun q13 => (some (q13, (0 : Int)))))))
theorem f_plane_Gauss_Class_c {S : Nat → Prop} {w0 w : World} {ow : List Res} (hp : Hp S w0 w ow) (g0_Re : Int) (g0_Im : Int) (depth1 : Int) {r : (Int × Int)} (h : f_plane_Gauss_Class g0_Re g0_Im depth1 = some r) :
    Calls Try.prog 36 #[.agg #[.int .i64 g0_Re, .int .i64 g0_Im], .int .i64 depth1] w (fun e w' => e = .returned (.tuple #[.int .u32 r.1, .int .i64 r.2]) ∧ Hp S w0 w' (ow)) := by
  unfold f_plane_Gauss_Class at h
  refine enter (n := 36) (args := [.agg #[.int .i64 g0_Re, .int .i64 g0_Im], .int .i64 depth1]) Try.func36 rfl rfl (Nat.le_of_ble_eq_true rfl) fun a hf => ?_
  replace hf : Fr 36 a [(0, .agg #[.int .i64 g0_Re, .int .i64 g0_Im]), (1, .int .i64 depth1)] := hf
  refine wp_mono (Q := fun e a w => e = .ret ∧ Fr 36 a [(4, .int .u32 r.1), (5, .int .i64 r.2)] ∧ Hp S w0 w (ow)) ?_ ?_
  rotate_left
  · rintro e a w ⟨rfl, hf, hp⟩
    exact ret2 hf rfl rfl rfl ⟨rfl, hp⟩
  refine wp_seq ?_
  refine wp_reg ?_
  refine st_boxO (cs := [.int .i64 g0_Re, .int .i64 g0_Im]) hf (by decide) hp rfl rfl rfl ?_
  clear hf; intro a w v1 hf hp0; clear hp; have hp := hp0; clear hp0
  replace hp : Hp _ _ _ (Res.obj 56 v1 [.int .i64 g0_Re, .int .i64 g0_Im] :: ow) := hp
  refine st_assign hf rfl rfl (by decide) ?_
  clear hf; intro a ha hf; clear ha
  refine st_assign hf rfl rfl (by decide) ?_
  clear hf; intro a ha hf; clear ha
  refine st_nil hf ?_
  refine th_n ?_
  refine wp_seq ?_
  refine wp_seq ?_
  refine wp_reg ?_
  refine st_ldOA (m := 2) (us := [.int .i64 g0_Re, .int .i64 g0_Im]) hf (by decide) (by kernel_rfl) rfl rfl (hp.ob (i := 0) rfl) rfl rfl ?_
  clear hf; intro a ha hf; clear ha
  obtain ⟨q3, hcall4, h⟩ := bnd h
  refine st_call hf (by decide) Try.func55 rfl rfl rfl rfl rfl (f_plane_Gauss_may_c hp _ _ hcall4) ?_
  rintro _ w ⟨rfl, hp0⟩
  clear hp; have hp := hp0; clear hp0
  replace hp : Hp _ _ _ (Res.obj 56 v1 [.int .i64 g0_Re, .int .i64 g0_Im] :: ow) := hp
  refine ⟨_, rfl, ?_⟩
  clear hf; intro a hf
  refine st_not hf (by decide) rfl rfl ?_
  clear hf; intro a ha hf; clear ha
  refine st_move hf rfl rfl (by decide) ?_
  clear hf; intro a ha hf; clear ha
  refine wpList_cut 3 (fun a w => Fr 36 a [(1, .int .i64 depth1), (2, optr v1 0), (15, .bool ((!q3) || (decide (depth1 < (0 : Int)))))] ∧ Hp S w0 w (Res.obj 56 v1 [.int .i64 g0_Re, .int .i64 g0_Im] :: ow)) ?_ ?_
  · rcases Bool.eq_false_or_eq_true (!q3) with hb6 | hb6
    · skip
      refine st_skip hf (wantN hf rfl rfl hb6) rfl (by decide) ?_ rfl
      clear hf; intro a hf
      refine st_skip hf (wantN hf rfl rfl hb6) rfl (by decide) ?_ rfl
      clear hf; intro a hf
      refine st_pick (v := .bool true) hf rfl rfl (fun hb' => ?_) (fun hb' => ?_) (by decide) ?_
      · rfl
      · exact absurd (hb6.symm.trans hb') (by decide)
      clear hf; intro a ha hf; clear ha
      refine st_nil hf (th_n ?_)
      exact ⟨hf.sub ⟨rfl, rfl, (by rw [hb6]; rfl), trivial⟩, hp⟩
    refine st_move hf (wantY hf rfl rfl hb6) rfl (by decide) ?_
    clear hf; intro a ha hf; clear ha
    refine st_ilss hf (by decide) (wantY hf rfl rfl hb6) rfl rfl ?_
    clear hf; intro a ha hf; clear ha
    refine st_pick (v := .bool (decide (depth1 < (0 : Int)))) hf rfl rfl (fun hb' => ?_) (fun hb' => ?_) (by decide) ?_
    · exact absurd (hb6.symm.trans hb') (by decide)
    · rfl
    clear hf; intro a ha hf; clear ha
    refine st_nil hf (th_n ?_)
    exact ⟨hf.sub ⟨rfl, rfl, (by rw [hb6]; rfl), trivial⟩, hp⟩
  rintro a w ⟨hf, hp⟩
  refine st_move hf rfl rfl (by decide) ?_
  clear hf; intro a ha hf; clear ha
  refine wpList_cut 3 (fun a w => Fr 36 a [(1, .int .i64 depth1), (2, optr v1 0), (19, .bool (((!q3) || (decide (depth1 < (0 : Int)))) || (decide ((30 : Int) < depth1))))] ∧ Hp S w0 w (Res.obj 56 v1 [.int .i64 g0_Re, .int .i64 g0_Im] :: ow)) ?_ ?_
  · rcases Bool.eq_false_or_eq_true ((!q3) || (decide (depth1 < (0 : Int)))) with hb8 | hb8
    · skip
      refine st_skip hf (wantN hf rfl rfl hb8) rfl (by decide) ?_ rfl
      clear hf; intro a hf
      refine st_skip hf (wantN hf rfl rfl hb8) rfl (by decide) ?_ rfl
      clear hf; intro a hf
      refine st_pick (v := .bool true) hf rfl rfl (fun hb' => ?_) (fun hb' => ?_) (by decide) ?_
      · rfl
      · exact absurd (hb8.symm.trans hb') (by decide)
      clear hf; intro a ha hf; clear ha
      refine st_nil hf (th_n ?_)
      exact ⟨hf.sub ⟨rfl, rfl, (by rw [hb8]; rfl), trivial⟩, hp⟩
    refine st_move hf (wantY hf rfl rfl hb8) rfl (by decide) ?_
    clear hf; intro a ha hf; clear ha
    refine st_igtr hf (by decide) (wantY hf rfl rfl hb8) rfl rfl ?_
    clear hf; intro a ha hf; clear ha
    refine st_pick (v := .bool (decide ((30 : Int) < depth1))) hf rfl rfl (fun hb' => ?_) (fun hb' => ?_) (by decide) ?_
    · exact absurd (hb8.symm.trans hb') (by decide)
    · rfl
    clear hf; intro a ha hf; clear ha
    refine st_nil hf (th_n ?_)
    exact ⟨hf.sub ⟨rfl, rfl, (by rw [hb8]; rfl), trivial⟩, hp⟩
  rintro a w ⟨hf, hp⟩
  refine st_nil hf ?_
  refine th_n ?_
  refine wp_if hf rfl (fun hb => ?_) (fun hb => ?_)
  · replace h := ifT h hb
    refine wp_seq ?_
    refine wp_reg ?_
    refine st_assign hf rfl rfl (by decide) ?_
    clear hf; intro a ha hf; clear ha
    refine st_assign hf rfl rfl (by decide) ?_
    clear hf; intro a ha hf; clear ha
    refine st_nil hf ?_
    refine th_n ?_
    refine wp_ret ?_
    refine th_r ?_
    obtain rfl := Option.some.inj h
    have hp : Hp _ _ _ (ow) := Hp.sel (pre := [Res.obj 56 v1 [.int .i64 g0_Re, .int .i64 g0_Im]]) (tail := ow) (rs' := []) hp [] (by decide) (by simp) rfl
    exact ⟨rfl, ⟨hf.sub ⟨rfl, rfl, trivial⟩, hp⟩⟩
  replace h := ifF h hb
  refine wp_skip ?_
  refine th_n ?_
  refine wp_seq ?_
  refine wp_reg ?_
  refine st_assign hf rfl rfl (by decide) ?_
  clear hf; intro a ha hf; clear ha
  refine st_nil hf ?_
  refine th_n ?_
  refine wp_seq ?_
  refine wp_seq ?_
  refine wp_reg ?_
  refine st_move hf rfl rfl (by decide) ?_
  clear hf; intro a ha hf; clear ha
  refine st_move hf rfl rfl (by decide) ?_
  clear hf; intro a ha hf; clear ha
  refine st_nil hf ?_
  refine th_n ?_
  refine wp_block ?_
  obtain ⟨q13, hl, h⟩ := bnd h
  refine wp_loop_pure (f := (f_plane_Gauss_Class.s1 depth1)) (s := (g0_Re, g0_Im, (0 : Int), (0 : Int))) (fun s a w => Fr 36 a [(2, optr v1 0), (6, .int .u32 s.2.2.1), (20, .int .i64 depth1), (21, .int .i64 s.2.2.2)] ∧ Hp S w0 w (Res.obj 56 v1 [.int .i64 s.1, .int .i64 s.2.1] :: ow)) (fun q e a w => e = .exit 0 ∧ Fr 36 a [(6, .int .u32 q)] ∧ Hp S w0 w (ow)) ?_ hl ⟨hf.sub ⟨rfl, rfl, rfl, rfl, trivial⟩, hp⟩ ?_
  · clear hl hf hp
    intro s x a w h hI
    obtain ⟨g2c_0, g2c_1, class6, t21⟩ := s
    obtain ⟨hf, hp⟩ : Fr 36 a [(2, optr v1 0), (6, .int .u32 class6), (20, .int .i64 depth1), (21, .int .i64 t21)] ∧ Hp S w0 w (Res.obj 56 v1 [.int .i64 g2c_0, .int .i64 g2c_1] :: ow) := hI
    replace h : f_plane_Gauss_Class.s1c depth1 g2c_0 g2c_1 class6 t21 = some x := h
    unfold f_plane_Gauss_Class.s1c at h
    refine wp_seq ?_
    refine wp_reg ?_
    refine st_ilss hf (by decide) rfl rfl rfl ?_
    clear hf; intro a ha hf; clear ha
    refine st_nil hf ?_
    refine th_n ?_
    refine wp_seq ?_
    refine wp_if hf rfl (fun hb => ?_) (fun hb => ?_)
    · replace h := ifT h hb
      refine wp_skip ?_
      refine th_n ?_
      refine wp_seq ?_
      refine wp_block ?_
      refine wp_seq ?_
      refine wp_reg ?_
      refine st_move hf rfl rfl (by decide) ?_
      clear hf; intro a ha hf; clear ha
      refine st_assign hf rfl rfl (by decide) ?_
      clear hf; intro a ha hf; clear ha
      refine st_nil hf ?_
      refine th_n ?_
      refine wp_seq ?_
      refine wp_reg ?_
      refine st_assign hf rfl rfl (by decide) ?_
      clear hf; intro a ha hf; clear ha
      refine st_nil hf ?_
      refine th_n ?_
      refine wp_seq ?_
      refine wp_reg ?_
      refine st_ldOA (m := 2) (us := [.int .i64 g2c_0, .int .i64 g2c_1]) hf (by decide) (by kernel_rfl) rfl rfl (hp.ob (i := 0) rfl) rfl rfl ?_
      clear hf; intro a ha hf; clear ha
      obtain ⟨q10, hcall11, h⟩ := bnd h
      refine st_call hf (by decide) Try.func59 rfl rfl rfl rfl rfl (f_plane_Gauss_half_c hp _ _ hcall11) ?_
      rintro _ w ⟨rfl, hp0⟩
      clear hp; have hp := hp0; clear hp0
      replace hp : Hp _ _ _ (Res.obj 56 v1 [.int .i64 g2c_0, .int .i64 g2c_1] :: ow) := hp
      refine ⟨_, rfl, ?_⟩
      clear hf; intro a hf
      refine st_move hf rfl rfl (by decide) ?_
      clear hf; intro a ha hf; clear ha
      refine st_extract hf (by decide) rfl rfl rfl ?_
      clear hf; intro a ha hf; clear ha
      refine st_extract hf (by decide) rfl rfl rfl ?_
      clear hf; intro a ha hf; clear ha
      refine st_stO (us := [.int .i64 q10.1.1, .int .i64 q10.1.2]) hf hp (i := 0) rfl rfl rfl rfl rfl (by rfl) (by kernel_rfl) (Nat.le_of_ble_eq_true rfl) ?_
      clear hf; intro a w hf hp0; clear hp; have hp := hp0; clear hp0
      replace hp : Hp _ _ _ (Res.obj 56 v1 [.int .i64 q10.1.1, .int .i64 q10.1.2] :: ow) := hp
      refine st_assign hf rfl rfl (by decide) ?_
      clear hf; intro a ha hf; clear ha
      refine st_nil hf ?_
      refine th_n ?_
      refine wp_reg ?_
      refine st_move hf rfl rfl (by decide) ?_
      clear hf; intro a ha hf; clear ha
      refine st_move hf rfl rfl (by decide) ?_
      clear hf; intro a ha hf; clear ha
      refine st_move hf rfl rfl (by decide) ?_
      clear hf; intro a ha hf; clear ha
      obtain ⟨hc12, h⟩ := chk h
      refine st_ishl hf (by decide) rfl rfl rfl hc12 ?_
      clear hf; intro a ha hf; clear ha
      refine st_ior hf (by decide) rfl rfl rfl ?_
      clear hf; intro a ha hf; clear ha
      refine st_assign hf rfl rfl (by decide) ?_
      clear hf; intro a ha hf; clear ha
      refine st_nil hf ?_
      refine ib_n ?_
      refine th_n ?_
      refine wp_reg ?_
      refine st_iadd hf (by decide) rfl rfl rfl ?_
      clear hf; intro a ha hf; clear ha
      refine st_move hf rfl rfl (by decide) ?_
      clear hf; intro a ha hf; clear ha
      refine st_nil hf ?_
      obtain rfl := Option.some.inj h
      exact rnd_l ⟨hf.sub ⟨rfl, rfl, rfl, rfl, trivial⟩, hp⟩
    replace h := ifF h hb
    refine wp_exit ?_
    refine th_e ?_
    obtain rfl := Option.some.inj h
    have hp : Hp _ _ _ (ow) := Hp.sel (pre := [Res.obj 56 v1 [.int .i64 g2c_0, .int .i64 g2c_1]]) (tail := ow) (rs' := []) hp [] (by decide) (by simp) rfl
    exact rnd_r (by simp) ⟨rfl, hf.sub ⟨rfl, trivial⟩, hp⟩
  clear hl hf hp
  intro e a w hne hO
  obtain ⟨rfl, hf, hp⟩ := hO
  refine ib_same ?_
  refine th_n ?_
  refine wp_seq ?_
  refine wp_reg ?_
  refine st_move hf rfl rfl (by decide) ?_
  clear hf; intro a ha hf; clear ha
  refine st_assign hf rfl rfl (by decide) ?_
  clear hf; intro a ha hf; clear ha
  refine st_assign hf rfl rfl (by decide) ?_
  clear hf; intro a ha hf; clear ha
  refine st_nil hf ?_
  refine th_n ?_
  refine wp_ret ?_
  obtain rfl := Option.some.inj h
  exact ⟨rfl, ⟨hf.sub ⟨rfl, rfl, trivial⟩, hp⟩⟩

noncomputable def f_foghornref03_step.j1 (g0_Re : Int) (g0_Im : Int) (bit4 : Int) : Option (Int × (Int × Int)) := (some ((IntKind.u32.wrap bit4), ((IntKind.i64.wrap (((IntKind.i64.wrap ((IntKind.i64.wrap (g0_Re - bit4)) + g0_Im))).tdiv (2 : Int))), (IntKind.i64.wrap (((IntKind.i64.wrap (g0_Im - (IntKind.i64.wrap (g0_Re - bit4))))).tdiv (2 : Int))))))
noncomputable def f_foghornref03_step (g0_Re : Int) (g0_Im : Int) : Option (Int × (Int × Int)) := (if (decide ((((IntKind.i64.wrap (g0_Re + g0_Im))).tmod (2 : Int)) < (0 : Int))) = true then (f_foghornref03_step.j1 g0_Re g0_Im (IntKind.i64.wrap ((((IntKind.i64.wrap (g0_Re + g0_Im))).tmod (2 : Int)) + (2 : Int)))) else (f_foghornref03_step.j1 g0_Re g0_Im (((IntKind.i64.wrap (g0_Re + g0_Im))).tmod (2 : Int))))
theorem f_foghornref03_step_c {S : Nat → Prop} {w0 w : World} {ow : List Res} (hp : Hp S w0 w ow) (g0_Re : Int) (g0_Im : Int) {r : (Int × (Int × Int))} (h : f_foghornref03_step g0_Re g0_Im = some r) :
    Calls Try.prog 67 #[.agg #[.int .i64 g0_Re, .int .i64 g0_Im]] w (fun e w' => e = .returned (.tuple #[.int .u32 r.1, .agg #[.int .i64 r.2.1, .int .i64 r.2.2]]) ∧ Hp S w0 w' (ow)) := by
  unfold f_foghornref03_step at h
  refine enter (n := 35) (args := [.agg #[.int .i64 g0_Re, .int .i64 g0_Im]]) Try.func67 rfl rfl (Nat.le_of_ble_eq_true rfl) fun a hf => ?_
  replace hf : Fr 35 a [(0, .agg #[.int .i64 g0_Re, .int .i64 g0_Im])] := hf
  refine wp_mono (Q := fun e a w => e = .ret ∧ ∃ (c1 : Value), Fr 35 a [(2, .int .u32 r.1), (3, optr c1 0)] ∧ Hp S w0 w (Res.obj 74 c1 [.int .i64 r.2.1, .int .i64 r.2.2] :: ow)) ?_ ?_
  rotate_left
  · rintro e a w ⟨rfl, c1, hf, hp⟩
    exact retG2 hf rfl rfl ⟨_, _, rfl, hp.ob (i := 0) rfl, .inr ⟨by kernel_rfl, rfl⟩⟩ ⟨rfl, hp.drop⟩
  refine wp_seq ?_
  refine wp_reg ?_
  refine st_boxO (cs := [.int .i64 g0_Re, .int .i64 g0_Im]) hf (by decide) hp rfl rfl rfl ?_
  clear hf; intro a w v1 hf hp0; clear hp; have hp := hp0; clear hp0
  replace hp : Hp _ _ _ (Res.obj 74 v1 [.int .i64 g0_Re, .int .i64 g0_Im] :: ow) := hp
  refine st_assign hf rfl rfl (by decide) ?_
  clear hf; intro a ha hf; clear ha
  refine st_alloc (cs := [.int .i64 (0 : Int), .int .i64 (0 : Int)]) (zv := .agg #[.int .i64 (0 : Int), .int .i64 (0 : Int)]) hf (by decide) (by kernel_rfl) rfl hp rfl ?_
  clear hf; intro a w v3 hf hp0; clear hp; have hp := hp0; clear hp0
  replace hp : Hp _ _ _ (Res.obj 74 v3 [.int .i64 (0 : Int), .int .i64 (0 : Int)] :: Res.obj 74 v1 [.int .i64 g0_Re, .int .i64 g0_Im] :: ow) := hp
  refine st_nil hf ?_
  refine th_n ?_
  refine wp_seq ?_
  refine wp_reg ?_
  refine st_fa (o' := 0) hf (by decide) (off := 0) (sz := 1) (by kernel_rfl) (by decide) rfl rfl (hp.ob (i := 1) rfl) rfl ?_
  clear hf; intro a ha hf; clear ha
  refine st_ldO (u := .int .i64 g0_Re) hf (by decide) pl2 rfl rfl (hp.ob (i := 1) rfl) rfl ?_
  clear hf; intro a ha hf; clear ha
  refine st_fa (o' := 1) hf (by decide) (off := 1) (sz := 1) (by kernel_rfl) (by decide) rfl rfl (hp.ob (i := 1) rfl) rfl ?_
  clear hf; intro a ha hf; clear ha
  refine st_ldO (u := .int .i64 g0_Im) hf (by decide) pl2 rfl rfl (hp.ob (i := 1) rfl) rfl ?_
  clear hf; intro a ha hf; clear ha
  refine st_iadd hf (by decide) rfl rfl rfl ?_
  clear hf; intro a ha hf; clear ha
  refine st_irem hf (by decide) rfl rfl rfl (by decide) ?_
  clear hf; intro a ha hf; clear ha
  refine st_assign hf rfl rfl (by decide) ?_
  clear hf; intro a ha hf; clear ha
  refine st_nil hf ?_
  refine th_n ?_
  refine wp_seq_cut (fun a w => ∃ (bit4 : Int), f_foghornref03_step.j1 g0_Re g0_Im bit4 = some r ∧ Fr 35 a [(1, optr v1 0), (3, optr v3 0), (4, .int .i64 bit4)] ∧ Hp S w0 w (Res.obj 74 v1 [.int .i64 g0_Re, .int .i64 g0_Im] :: Res.obj 74 v3 [.int .i64 (0 : Int), .int .i64 (0 : Int)] :: ow)) ?_ ?_
  · skip
    refine wp_seq ?_
    refine wp_reg ?_
    refine st_move hf rfl rfl (by decide) ?_
    clear hf; intro a ha hf; clear ha
    refine st_ilss hf (by decide) rfl rfl rfl ?_
    clear hf; intro a ha hf; clear ha
    refine st_nil hf ?_
    refine th_n ?_
    refine wp_if hf rfl (fun hb => ?_) (fun hb => ?_)
    · replace h := ifT h hb
      refine wp_reg ?_
      refine st_move hf rfl rfl (by decide) ?_
      clear hf; intro a ha hf; clear ha
      refine st_iadd hf (by decide) rfl rfl rfl ?_
      clear hf; intro a ha hf; clear ha
      refine st_assign hf rfl rfl (by decide) ?_
      clear hf; intro a ha hf; clear ha
      refine st_nil hf ?_
      have hp : Hp _ _ _ (Res.obj 74 v1 [.int .i64 g0_Re, .int .i64 g0_Im] :: Res.obj 74 v3 [.int .i64 (0 : Int), .int .i64 (0 : Int)] :: ow) := Hp.sel (pre := [Res.obj 74 v3 [.int .i64 (0 : Int), .int .i64 (0 : Int)], Res.obj 74 v1 [.int .i64 g0_Re, .int .i64 g0_Im]]) (tail := ow) (rs' := [Res.obj 74 v1 [.int .i64 g0_Re, .int .i64 g0_Im], Res.obj 74 v3 [.int .i64 (0 : Int), .int .i64 (0 : Int)]]) hp [1, 0] (by decide) (by simp) rfl
      refine th_n ?_
      exact ⟨_, h, hf.sub ⟨rfl, rfl, rfl, trivial⟩, hp⟩
    replace h := ifF h hb
    refine wp_skip ?_
    have hp : Hp _ _ _ (Res.obj 74 v1 [.int .i64 g0_Re, .int .i64 g0_Im] :: Res.obj 74 v3 [.int .i64 (0 : Int), .int .i64 (0 : Int)] :: ow) := Hp.sel (pre := [Res.obj 74 v3 [.int .i64 (0 : Int), .int .i64 (0 : Int)], Res.obj 74 v1 [.int .i64 g0_Re, .int .i64 g0_Im]]) (tail := ow) (rs' := [Res.obj 74 v1 [.int .i64 g0_Re, .int .i64 g0_Im], Res.obj 74 v3 [.int .i64 (0 : Int), .int .i64 (0 : Int)]]) hp [1, 0] (by decide) (by simp) rfl
    refine th_n ?_
    exact ⟨_, h, hf.sub ⟨rfl, rfl, rfl, trivial⟩, hp⟩
  rintro a w ⟨bit4, h, hf, hp⟩
  unfold f_foghornref03_step.j1 at h
  refine wp_seq ?_
  refine wp_reg ?_
  refine st_fa (o' := 0) hf (by decide) (off := 0) (sz := 1) (by kernel_rfl) (by decide) rfl rfl (hp.ob (i := 0) rfl) rfl ?_
  clear hf; intro a ha hf; clear ha
  refine st_ldO (u := .int .i64 g0_Re) hf (by decide) pl2 rfl rfl (hp.ob (i := 0) rfl) rfl ?_
  clear hf; intro a ha hf; clear ha
  refine st_move hf rfl rfl (by decide) ?_
  clear hf; intro a ha hf; clear ha
  refine st_isub hf (by decide) rfl rfl rfl ?_
  clear hf; intro a ha hf; clear ha
  refine st_fa (o' := 0) hf (by decide) (off := 0) (sz := 1) (by kernel_rfl) (by decide) rfl rfl (hp.ob (i := 0) rfl) rfl ?_
  clear hf; intro a ha hf; clear ha
  refine st_stO (us := [.int .i64 (IntKind.i64.wrap (g0_Re - bit4))]) hf hp (i := 0) rfl rfl rfl rfl rfl (by rfl) (by kernel_rfl) (Nat.le_of_ble_eq_true rfl) ?_
  clear hf; intro a w hf hp0; clear hp; have hp := hp0; clear hp0
  replace hp : Hp _ _ _ (Res.obj 74 v1 [.int .i64 (IntKind.i64.wrap (g0_Re - bit4)), .int .i64 g0_Im] :: Res.obj 74 v3 [.int .i64 (0 : Int), .int .i64 (0 : Int)] :: ow) := hp
  refine st_nil hf ?_
  refine th_n ?_
  refine wp_seq ?_
  obtain ⟨S5, hp6, rd7, up8, bk9⟩ := Hp.lendO hp (i := 0) rfl
  have rl10 := rd7
  refine wp_cutN (fun a w => Fr 35 a [(2, .int .u32 (IntKind.u32.wrap bit4)), (3, optr v3 0)] ∧ Hp S w0 w (Res.obj 74 v1 [.int .i64 (IntKind.i64.wrap (g0_Re - bit4)), .int .i64 g0_Im] :: Res.obj 74 v3 [.int .i64 (IntKind.i64.wrap (((IntKind.i64.wrap ((IntKind.i64.wrap (g0_Re - bit4)) + g0_Im))).tdiv (2 : Int))), .int .i64 (IntKind.i64.wrap (((IntKind.i64.wrap (g0_Im - (IntKind.i64.wrap (g0_Re - bit4))))).tdiv (2 : Int)))] :: ow)) ?_ ?_
  · have hp := hp6.same (Same.drew w)
    refine dr_begin' (fun a w => Fr 35 a [(2, .int .u32 (IntKind.u32.wrap bit4)), (3, optr v3 0)] ∧ Hp S w0 w (Res.obj 74 v1 [.int .i64 (IntKind.i64.wrap (g0_Re - bit4)), .int .i64 g0_Im] :: Res.obj 74 v3 [.int .i64 (IntKind.i64.wrap (((IntKind.i64.wrap ((IntKind.i64.wrap (g0_Re - bit4)) + g0_Im))).tdiv (2 : Int))), .int .i64 (IntKind.i64.wrap (((IntKind.i64.wrap (g0_Im - (IntKind.i64.wrap (g0_Re - bit4))))).tdiv (2 : Int)))] :: ow)) (fun w' => ∃ l, Hp S5 w w' l) [] (by kernel_rfl) ?_
    refine dr_take 0 (.int .i64 bit4) rfl (by kernel_rfl) (by kernel_rfl) (by kernel_rfl) (by kernel_rfl) rfl rfl hf (by decide) rfl (fun w hp => ?_) ⟨_, hp⟩ ?_
    · obtain ⟨_, hp⟩ := hp
      refine st_move hf rfl rfl (by decide) ?_
      clear hf; intro a ha hf
      exact st_nil hf (th_n ⟨ha, rfl⟩)
    clear hf; intro a hf
    refine dr_take 1 (.int .u32 (IntKind.u32.wrap bit4)) rfl (by kernel_rfl) (by kernel_rfl) (by kernel_rfl) (by kernel_rfl) rfl rfl hf (by decide) rfl (fun w hp => ?_) ⟨_, hp⟩ ?_
    · obtain ⟨_, hp⟩ := hp
      refine st_conv_ii hf (by decide) (by rw [Try.underlying2]; rfl) Try.underlying66 rfl rfl ?_
      clear hf; intro a ha hf
      exact st_nil hf (th_n ⟨ha, rfl⟩)
    clear hf; intro a hf
    refine dr_take 2 (optr v1 0) rfl (by kernel_rfl) (by kernel_rfl) (by kernel_rfl) (by kernel_rfl) rfl rfl hf (by decide) rfl (fun w hp => ?_) ⟨_, hp⟩ ?_
    · obtain ⟨_, hp⟩ := hp
      refine st_fa (o' := 0) hf (by decide) (off := 0) (sz := 1) (by kernel_rfl) (by decide) rfl rfl (rl10.ob hp) rfl ?_
      clear hf; intro a ha hf
      exact st_nil hf (th_n ⟨ha, rfl⟩)
    clear hf; intro a hf
    refine dr_take 3 (.int .i64 (IntKind.i64.wrap (g0_Re - bit4))) rfl (by kernel_rfl) (by kernel_rfl) (by kernel_rfl) (by kernel_rfl) rfl rfl hf (by decide) rfl (fun w hp => ?_) ⟨_, hp⟩ ?_
    · obtain ⟨_, hp⟩ := hp
      refine st_ldO (u := .int .i64 (IntKind.i64.wrap (g0_Re - bit4))) hf (by decide) pl2 rfl rfl (rl10.ob hp) rfl ?_
      clear hf; intro a ha hf
      exact st_nil hf (th_n ⟨ha, rfl⟩)
    clear hf; intro a hf
    refine dr_take 4 (optr v1 1) rfl (by kernel_rfl) (by kernel_rfl) (by kernel_rfl) (by kernel_rfl) rfl rfl hf (by decide) rfl (fun w hp => ?_) ⟨_, hp⟩ ?_
    · obtain ⟨_, hp⟩ := hp
      refine st_fa (o' := 1) hf (by decide) (off := 1) (sz := 1) (by kernel_rfl) (by decide) rfl rfl (rl10.ob hp) rfl ?_
      clear hf; intro a ha hf
      exact st_nil hf (th_n ⟨ha, rfl⟩)
    clear hf; intro a hf
    refine dr_take 5 (.int .i64 g0_Im) rfl (by kernel_rfl) (by kernel_rfl) (by kernel_rfl) (by kernel_rfl) rfl rfl hf (by decide) rfl (fun w hp => ?_) ⟨_, hp⟩ ?_
    · obtain ⟨_, hp⟩ := hp
      refine st_ldO (u := .int .i64 g0_Im) hf (by decide) pl2 rfl rfl (rl10.ob hp) rfl ?_
      clear hf; intro a ha hf
      exact st_nil hf (th_n ⟨ha, rfl⟩)
    clear hf; intro a hf
    refine dr_take 6 (.int .i64 (IntKind.i64.wrap ((IntKind.i64.wrap (g0_Re - bit4)) + g0_Im))) rfl (by kernel_rfl) (by kernel_rfl) (by kernel_rfl) (by kernel_rfl) rfl rfl hf (by decide) rfl (fun w hp => ?_) ⟨_, hp⟩ ?_
    · obtain ⟨_, hp⟩ := hp
      refine st_iadd hf (by decide) rfl rfl rfl ?_
      clear hf; intro a ha hf
      exact st_nil hf (th_n ⟨ha, rfl⟩)
    clear hf; intro a hf
    refine dr_take 7 (.int .i64 (IntKind.i64.wrap (((IntKind.i64.wrap ((IntKind.i64.wrap (g0_Re - bit4)) + g0_Im))).tdiv (2 : Int)))) rfl (by kernel_rfl) (by kernel_rfl) (by kernel_rfl) (by kernel_rfl) rfl rfl hf (by decide) rfl (fun w hp => ?_) ⟨_, hp⟩ ?_
    · obtain ⟨_, hp⟩ := hp
      refine st_iquo hf (by decide) rfl rfl rfl (by decide) ?_
      clear hf; intro a ha hf
      exact st_nil hf (th_n ⟨ha, rfl⟩)
    clear hf; intro a hf
    refine dr_take 8 (optr v1 1) rfl (by kernel_rfl) (by kernel_rfl) (by kernel_rfl) (by kernel_rfl) rfl rfl hf (by decide) rfl (fun w hp => ?_) ⟨_, hp⟩ ?_
    · obtain ⟨_, hp⟩ := hp
      refine st_fa (o' := 1) hf (by decide) (off := 1) (sz := 1) (by kernel_rfl) (by decide) rfl rfl (rl10.ob hp) rfl ?_
      clear hf; intro a ha hf
      exact st_nil hf (th_n ⟨ha, rfl⟩)
    clear hf; intro a hf
    refine dr_take 9 (.int .i64 g0_Im) rfl (by kernel_rfl) (by kernel_rfl) (by kernel_rfl) (by kernel_rfl) rfl rfl hf (by decide) rfl (fun w hp => ?_) ⟨_, hp⟩ ?_
    · obtain ⟨_, hp⟩ := hp
      refine st_ldO (u := .int .i64 g0_Im) hf (by decide) pl2 rfl rfl (rl10.ob hp) rfl ?_
      clear hf; intro a ha hf
      exact st_nil hf (th_n ⟨ha, rfl⟩)
    clear hf; intro a hf
    refine dr_take 10 (optr v1 0) rfl (by kernel_rfl) (by kernel_rfl) (by kernel_rfl) (by kernel_rfl) rfl rfl hf (by decide) rfl (fun w hp => ?_) ⟨_, hp⟩ ?_
    · obtain ⟨_, hp⟩ := hp
      refine st_fa (o' := 0) hf (by decide) (off := 0) (sz := 1) (by kernel_rfl) (by decide) rfl rfl (rl10.ob hp) rfl ?_
      clear hf; intro a ha hf
      exact st_nil hf (th_n ⟨ha, rfl⟩)
    clear hf; intro a hf
    refine dr_take 11 (.int .i64 (IntKind.i64.wrap (g0_Re - bit4))) rfl (by kernel_rfl) (by kernel_rfl) (by kernel_rfl) (by kernel_rfl) rfl rfl hf (by decide) rfl (fun w hp => ?_) ⟨_, hp⟩ ?_
    · obtain ⟨_, hp⟩ := hp
      refine st_ldO (u := .int .i64 (IntKind.i64.wrap (g0_Re - bit4))) hf (by decide) pl2 rfl rfl (rl10.ob hp) rfl ?_
      clear hf; intro a ha hf
      exact st_nil hf (th_n ⟨ha, rfl⟩)
    clear hf; intro a hf
    refine dr_take 12 (.int .i64 (IntKind.i64.wrap (g0_Im - (IntKind.i64.wrap (g0_Re - bit4))))) rfl (by kernel_rfl) (by kernel_rfl) (by kernel_rfl) (by kernel_rfl) rfl rfl hf (by decide) rfl (fun w hp => ?_) ⟨_, hp⟩ ?_
    · obtain ⟨_, hp⟩ := hp
      refine st_isub hf (by decide) rfl rfl rfl ?_
      clear hf; intro a ha hf
      exact st_nil hf (th_n ⟨ha, rfl⟩)
    clear hf; intro a hf
    refine dr_take 13 (.int .i64 (IntKind.i64.wrap (((IntKind.i64.wrap (g0_Im - (IntKind.i64.wrap (g0_Re - bit4))))).tdiv (2 : Int)))) rfl (by kernel_rfl) (by kernel_rfl) (by kernel_rfl) (by kernel_rfl) rfl rfl hf (by decide) rfl (fun w hp => ?_) ⟨_, hp⟩ ?_
    · obtain ⟨_, hp⟩ := hp
      refine st_iquo hf (by decide) rfl rfl rfl (by decide) ?_
      clear hf; intro a ha hf
      exact st_nil hf (th_n ⟨ha, rfl⟩)
    clear hf; intro a hf
    refine dr_take 14 (.agg #[.int .i64 (IntKind.i64.wrap (((IntKind.i64.wrap ((IntKind.i64.wrap (g0_Re - bit4)) + g0_Im))).tdiv (2 : Int))), .int .i64 (IntKind.i64.wrap (((IntKind.i64.wrap (g0_Im - (IntKind.i64.wrap (g0_Re - bit4))))).tdiv (2 : Int)))]) rfl (by kernel_rfl) (by kernel_rfl) (by kernel_rfl) (by kernel_rfl) rfl rfl hf (by decide) rfl (fun w hp => ?_) ⟨_, hp⟩ ?_
    · obtain ⟨_, hp⟩ := hp
      refine st_buildA (vals := [(0, .int .i64 (IntKind.i64.wrap (((IntKind.i64.wrap ((IntKind.i64.wrap (g0_Re - bit4)) + g0_Im))).tdiv (2 : Int)))), (1, .int .i64 (IntKind.i64.wrap (((IntKind.i64.wrap (g0_Im - (IntKind.i64.wrap (g0_Re - bit4))))).tdiv (2 : Int))))]) (cells := [.int .i64 (IntKind.i64.wrap (((IntKind.i64.wrap ((IntKind.i64.wrap (g0_Re - bit4)) + g0_Im))).tdiv (2 : Int))), .int .i64 (IntKind.i64.wrap (((IntKind.i64.wrap (g0_Im - (IntKind.i64.wrap (g0_Re - bit4))))).tdiv (2 : Int)))]) hf (by decide) rfl (by simp [hf.ev (x := (Operand.tmp 27)) rfl, hf.ev (x := (Operand.tmp 33)) rfl]) (fun w => by kernel_rfl) ?_
      clear hf; intro a ha hf
      exact st_nil hf (th_n ⟨ha, rfl⟩)
    clear hf; intro a hf
    refine dr_take 15 (.int .u32 (IntKind.u32.wrap bit4)) rfl (by kernel_rfl) (by kernel_rfl) (by kernel_rfl) (by kernel_rfl) rfl rfl hf (by decide) rfl (fun w hp => ?_) ⟨_, hp⟩ ?_
    · obtain ⟨_, hp⟩ := hp
      refine st_assign hf rfl rfl (by decide) ?_
      clear hf; intro a ha hf
      exact st_nil hf (th_n ⟨ha, rfl⟩)
    clear hf; intro a hf
    refine dr_one 16 rfl (by kernel_rfl) ?_
    refine st_stO (us := [.int .i64 (IntKind.i64.wrap (((IntKind.i64.wrap ((IntKind.i64.wrap (g0_Re - bit4)) + g0_Im))).tdiv (2 : Int))), .int .i64 (IntKind.i64.wrap (((IntKind.i64.wrap (g0_Im - (IntKind.i64.wrap (g0_Re - bit4))))).tdiv (2 : Int)))]) hf hp (i := 0) rfl rfl rfl rfl rfl (by rfl) (by kernel_rfl) (Nat.le_of_ble_eq_true rfl) ?_
    clear hf; intro a w hf hp0; clear hp; have hp := hp0; clear hp0
    replace hp : Hp _ _ _ (Res.obj 74 v3 [.int .i64 (IntKind.i64.wrap (((IntKind.i64.wrap ((IntKind.i64.wrap (g0_Re - bit4)) + g0_Im))).tdiv (2 : Int))), .int .i64 (IntKind.i64.wrap (((IntKind.i64.wrap (g0_Im - (IntKind.i64.wrap (g0_Re - bit4))))).tdiv (2 : Int)))] :: ow) := hp
    refine st_nil hf (th_n ⟨fun _ _ => ⟨_, hp⟩, ?_⟩)
    refine dr_end (by kernel_rfl) ?_ _
    have hp := bk9 _ _ hp
    exact ⟨hf.sub ⟨rfl, rfl, trivial⟩, hp⟩
  rintro a w ⟨hf, hp⟩
  refine th_n ?_
  refine wp_ret ?_
  obtain rfl := Option.some.inj h
  have hp : Hp _ _ _ (Res.obj 74 v3 [.int .i64 (IntKind.i64.wrap (((IntKind.i64.wrap ((IntKind.i64.wrap (g0_Re - bit4)) + g0_Im))).tdiv (2 : Int))), .int .i64 (IntKind.i64.wrap (((IntKind.i64.wrap (g0_Im - (IntKind.i64.wrap (g0_Re - bit4))))).tdiv (2 : Int)))] :: ow) := Hp.sel (pre := [Res.obj 74 v1 [.int .i64 (IntKind.i64.wrap (g0_Re - bit4)), .int .i64 g0_Im], Res.obj 74 v3 [.int .i64 (IntKind.i64.wrap (((IntKind.i64.wrap ((IntKind.i64.wrap (g0_Re - bit4)) + g0_Im))).tdiv (2 : Int))), .int .i64 (IntKind.i64.wrap (((IntKind.i64.wrap (g0_Im - (IntKind.i64.wrap (g0_Re - bit4))))).tdiv (2 : Int)))]]) (tail := ow) (rs' := [Res.obj 74 v3 [.int .i64 (IntKind.i64.wrap (((IntKind.i64.wrap ((IntKind.i64.wrap (g0_Re - bit4)) + g0_Im))).tdiv (2 : Int))), .int .i64 (IntKind.i64.wrap (((IntKind.i64.wrap (g0_Im - (IntKind.i64.wrap (g0_Re - bit4))))).tdiv (2 : Int)))]]) hp [1] (by decide) (by simp) rfl
  exact ⟨rfl, ⟨_, hf.sub ⟨rfl, rfl, trivial⟩, hp⟩⟩

noncomputable def f_foghornref03_Class.s1c (depth1 : Int) (g2c_0 : Int) (g2c_1 : Int) (cx6 : Int) (wx7 : Int) (i8 : Int) : Option ((Int × Int × Int × Int × Int) ⊕ Int) := (if (decide (i8 < depth1)) = true then ((f_foghornref03_step g2c_0 g2c_1).bind fun q10 => (some (Sum.inl (q10.2.1, q10.2.2, (IntKind.u32.wrap (cx6 + (IntKind.u32.wrap (q10.1 * wx7)))), (IntKind.u32.wrap (wx7 * (2 : Int))), (IntKind.i64.wrap (i8 + (1 : Int))))))) else (some (Sum.inr cx6)))
noncomputable def f_foghornref03_Class.s1 (depth1 : Int) (s : (Int × Int × Int × Int × Int)) : Option ((Int × Int × Int × Int × Int) ⊕ Int) := f_foghornref03_Class.s1c depth1 s.1 s.2.1 s.2.2.1 s.2.2.2.1 s.2.2.2.2
noncomputable def f_foghornref03_Class (g0_Re : Int) (g0_Im : Int) (depth1 : Int) : Option (Int × Int) := ((f_foghornref03_May g0_Re g0_Im).bind fun q3 => (if (((!q3) || (decide (depth1 < (0 : Int)))) || (decide ((30 : Int) < depth1))) = true then (some ((0 : Int), (1 : Int))) else ((loop (f_foghornref03_Class.s1 depth1) (g0_Re, g0_Im, (0 : Int), (1 : Int), (0 : Int))).bind (fun q12 => (some (q12, (0 : Int)))))))
theorem f_foghornref03_Class_c {S : Nat → Prop} {w0 w : World} {ow : List Res} (hp : Hp S w0 w ow) (g0_Re : Int) (g0_Im : Int) (depth1 : Int) {r : (Int × Int)} (h : f_foghornref03_Class g0_Re g0_Im depth1 = some r) :
    Calls Try.prog 46 #[.agg #[.int .i64 g0_Re, .int .i64 g0_Im], .int .i64 depth1] w (fun e w' => e = .returned (.tuple #[.int .u32 r.1, .int .i64 r.2]) ∧ Hp S w0 w' (ow)) := by
  unfold f_foghornref03_Class at h
  refine enter (n := 39) (args := [.agg #[.int .i64 g0_Re, .int .i64 g0_Im], .int .i64 depth1]) Try.func46 rfl rfl (Nat.le_of_ble_eq_true rfl) fun a hf => ?_
  replace hf : Fr 39 a [(0, .agg #[.int .i64 g0_Re, .int .i64 g0_Im]), (1, .int .i64 depth1)] := hf
  refine wp_mono (Q := fun e a w => e = .ret ∧ Fr 39 a [(4, .int .u32 r.1), (5, .int .i64 r.2)] ∧ Hp S w0 w (ow)) ?_ ?_
  rotate_left
  · rintro e a w ⟨rfl, hf, hp⟩
    exact ret2 hf rfl rfl rfl ⟨rfl, hp⟩
  refine wp_seq ?_
  refine wp_reg ?_
  refine st_boxO (cs := [.int .i64 g0_Re, .int .i64 g0_Im]) hf (by decide) hp rfl rfl rfl ?_
  clear hf; intro a w v1 hf hp0; clear hp; have hp := hp0; clear hp0
  replace hp : Hp _ _ _ (Res.obj 74 v1 [.int .i64 g0_Re, .int .i64 g0_Im] :: ow) := hp
  refine st_assign hf rfl rfl (by decide) ?_
  clear hf; intro a ha hf; clear ha
  refine st_assign hf rfl rfl (by decide) ?_
  clear hf; intro a ha hf; clear ha
  refine st_nil hf ?_
  refine th_n ?_
  refine wp_seq ?_
  refine wp_seq ?_
  refine wp_reg ?_
  refine st_ldOA (m := 2) (us := [.int .i64 g0_Re, .int .i64 g0_Im]) hf (by decide) (by kernel_rfl) rfl rfl (hp.ob (i := 0) rfl) rfl rfl ?_
  clear hf; intro a ha hf; clear ha
  obtain ⟨q3, hcall4, h⟩ := bnd h
  refine st_call hf (by decide) Try.func63 rfl rfl rfl rfl rfl (f_foghornref03_May_c hp _ _ hcall4) ?_
  rintro _ w ⟨rfl, hp0⟩
  clear hp; have hp := hp0; clear hp0
  replace hp : Hp _ _ _ (Res.obj 74 v1 [.int .i64 g0_Re, .int .i64 g0_Im] :: ow) := hp
  refine ⟨_, rfl, ?_⟩
  clear hf; intro a hf
  refine st_not hf (by decide) rfl rfl ?_
  clear hf; intro a ha hf; clear ha
  refine st_move hf rfl rfl (by decide) ?_
  clear hf; intro a ha hf; clear ha
  refine wpList_cut 3 (fun a w => Fr 39 a [(1, .int .i64 depth1), (2, optr v1 0), (16, .bool ((!q3) || (decide (depth1 < (0 : Int)))))] ∧ Hp S w0 w (Res.obj 74 v1 [.int .i64 g0_Re, .int .i64 g0_Im] :: ow)) ?_ ?_
  · rcases Bool.eq_false_or_eq_true (!q3) with hb6 | hb6
    · skip
      refine st_skip hf (wantN hf rfl rfl hb6) rfl (by decide) ?_ rfl
      clear hf; intro a hf
      refine st_skip hf (wantN hf rfl rfl hb6) rfl (by decide) ?_ rfl
      clear hf; intro a hf
      refine st_pick (v := .bool true) hf rfl rfl (fun hb' => ?_) (fun hb' => ?_) (by decide) ?_
      · rfl
      · exact absurd (hb6.symm.trans hb') (by decide)
      clear hf; intro a ha hf; clear ha
      refine st_nil hf (th_n ?_)
      exact ⟨hf.sub ⟨rfl, rfl, (by rw [hb6]; rfl), trivial⟩, hp⟩
    refine st_move hf (wantY hf rfl rfl hb6) rfl (by decide) ?_
    clear hf; intro a ha hf; clear ha
    refine st_ilss hf (by decide) (wantY hf rfl rfl hb6) rfl rfl ?_
    clear hf; intro a ha hf; clear ha
    refine st_pick (v := .bool (decide (depth1 < (0 : Int)))) hf rfl rfl (fun hb' => ?_) (fun hb' => ?_) (by decide) ?_
    · exact absurd (hb6.symm.trans hb') (by decide)
    · rfl
    clear hf; intro a ha hf; clear ha
    refine st_nil hf (th_n ?_)
    exact ⟨hf.sub ⟨rfl, rfl, (by rw [hb6]; rfl), trivial⟩, hp⟩
  rintro a w ⟨hf, hp⟩
  refine st_move hf rfl rfl (by decide) ?_
  clear hf; intro a ha hf; clear ha
  refine wpList_cut 3 (fun a w => Fr 39 a [(1, .int .i64 depth1), (2, optr v1 0), (20, .bool (((!q3) || (decide (depth1 < (0 : Int)))) || (decide ((30 : Int) < depth1))))] ∧ Hp S w0 w (Res.obj 74 v1 [.int .i64 g0_Re, .int .i64 g0_Im] :: ow)) ?_ ?_
  · rcases Bool.eq_false_or_eq_true ((!q3) || (decide (depth1 < (0 : Int)))) with hb8 | hb8
    · skip
      refine st_skip hf (wantN hf rfl rfl hb8) rfl (by decide) ?_ rfl
      clear hf; intro a hf
      refine st_skip hf (wantN hf rfl rfl hb8) rfl (by decide) ?_ rfl
      clear hf; intro a hf
      refine st_pick (v := .bool true) hf rfl rfl (fun hb' => ?_) (fun hb' => ?_) (by decide) ?_
      · rfl
      · exact absurd (hb8.symm.trans hb') (by decide)
      clear hf; intro a ha hf; clear ha
      refine st_nil hf (th_n ?_)
      exact ⟨hf.sub ⟨rfl, rfl, (by rw [hb8]; rfl), trivial⟩, hp⟩
    refine st_move hf (wantY hf rfl rfl hb8) rfl (by decide) ?_
    clear hf; intro a ha hf; clear ha
    refine st_igtr hf (by decide) (wantY hf rfl rfl hb8) rfl rfl ?_
    clear hf; intro a ha hf; clear ha
    refine st_pick (v := .bool (decide ((30 : Int) < depth1))) hf rfl rfl (fun hb' => ?_) (fun hb' => ?_) (by decide) ?_
    · exact absurd (hb8.symm.trans hb') (by decide)
    · rfl
    clear hf; intro a ha hf; clear ha
    refine st_nil hf (th_n ?_)
    exact ⟨hf.sub ⟨rfl, rfl, (by rw [hb8]; rfl), trivial⟩, hp⟩
  rintro a w ⟨hf, hp⟩
  refine st_nil hf ?_
  refine th_n ?_
  refine wp_if hf rfl (fun hb => ?_) (fun hb => ?_)
  · replace h := ifT h hb
    refine wp_seq ?_
    refine wp_reg ?_
    refine st_assign hf rfl rfl (by decide) ?_
    clear hf; intro a ha hf; clear ha
    refine st_assign hf rfl rfl (by decide) ?_
    clear hf; intro a ha hf; clear ha
    refine st_nil hf ?_
    refine th_n ?_
    refine wp_ret ?_
    refine th_r ?_
    obtain rfl := Option.some.inj h
    have hp : Hp _ _ _ (ow) := Hp.sel (pre := [Res.obj 74 v1 [.int .i64 g0_Re, .int .i64 g0_Im]]) (tail := ow) (rs' := []) hp [] (by decide) (by simp) rfl
    exact ⟨rfl, ⟨hf.sub ⟨rfl, rfl, trivial⟩, hp⟩⟩
  replace h := ifF h hb
  refine wp_skip ?_
  refine th_n ?_
  refine wp_seq ?_
  refine wp_reg ?_
  refine st_assign hf rfl rfl (by decide) ?_
  clear hf; intro a ha hf; clear ha
  refine st_nil hf ?_
  refine th_n ?_
  refine wp_seq ?_
  refine wp_reg ?_
  refine st_assign hf rfl rfl (by decide) ?_
  clear hf; intro a ha hf; clear ha
  refine st_nil hf ?_
  refine th_n ?_
  refine wp_seq ?_
  refine wp_seq ?_
  refine wp_reg ?_
  refine st_assign hf rfl rfl (by decide) ?_
  clear hf; intro a ha hf; clear ha
  refine st_nil hf ?_
  refine th_n ?_
  refine wp_block ?_
  obtain ⟨q12, hl, h⟩ := bnd h
  refine wp_loop_pure (f := (f_foghornref03_Class.s1 depth1)) (s := (g0_Re, g0_Im, (0 : Int), (1 : Int), (0 : Int))) (fun s a w => Fr 39 a [(1, .int .i64 depth1), (2, optr v1 0), (6, .int .u32 s.2.2.1), (7, .int .u32 s.2.2.2.1), (8, .int .i64 s.2.2.2.2)] ∧ Hp S w0 w (Res.obj 74 v1 [.int .i64 s.1, .int .i64 s.2.1] :: ow)) (fun q e a w => e = .exit 0 ∧ Fr 39 a [(6, .int .u32 q)] ∧ Hp S w0 w (ow)) ?_ hl ⟨hf.sub ⟨rfl, rfl, rfl, rfl, rfl, trivial⟩, hp⟩ ?_
  · clear hl hf hp
    intro s x a w h hI
    obtain ⟨g2c_0, g2c_1, cx6, wx7, i8⟩ := s
    obtain ⟨hf, hp⟩ : Fr 39 a [(1, .int .i64 depth1), (2, optr v1 0), (6, .int .u32 cx6), (7, .int .u32 wx7), (8, .int .i64 i8)] ∧ Hp S w0 w (Res.obj 74 v1 [.int .i64 g2c_0, .int .i64 g2c_1] :: ow) := hI
    replace h : f_foghornref03_Class.s1c depth1 g2c_0 g2c_1 cx6 wx7 i8 = some x := h
    unfold f_foghornref03_Class.s1c at h
    refine wp_seq ?_
    refine wp_seq ?_
    refine wp_reg ?_
    refine st_move hf rfl rfl (by decide) ?_
    clear hf; intro a ha hf; clear ha
    refine st_move hf rfl rfl (by decide) ?_
    clear hf; intro a ha hf; clear ha
    refine st_ilss hf (by decide) rfl rfl rfl ?_
    clear hf; intro a ha hf; clear ha
    refine st_nil hf ?_
    refine th_n ?_
    refine wp_if hf rfl (fun hb => ?_) (fun hb => ?_)
    · replace h := ifT h hb
      refine wp_skip ?_
      refine th_n ?_
      refine wp_seq ?_
      refine wp_block ?_
      refine wp_seq ?_
      refine wp_reg ?_
      refine st_assign hf rfl rfl (by decide) ?_
      clear hf; intro a ha hf; clear ha
      refine st_nil hf ?_
      refine th_n ?_
      refine wp_seq ?_
      refine wp_reg ?_
      refine st_ldOA (m := 2) (us := [.int .i64 g2c_0, .int .i64 g2c_1]) hf (by decide) (by kernel_rfl) rfl rfl (hp.ob (i := 0) rfl) rfl rfl ?_
      clear hf; intro a ha hf; clear ha
      obtain ⟨q10, hcall11, h⟩ := bnd h
      refine st_call hf (by decide) Try.func67 rfl rfl rfl rfl rfl (f_foghornref03_step_c hp _ _ hcall11) ?_
      rintro _ w ⟨rfl, hp0⟩
      clear hp; have hp := hp0; clear hp0
      replace hp : Hp _ _ _ (Res.obj 74 v1 [.int .i64 g2c_0, .int .i64 g2c_1] :: ow) := hp
      refine ⟨_, rfl, ?_⟩
      clear hf; intro a hf
      refine st_move hf rfl rfl (by decide) ?_
      clear hf; intro a ha hf; clear ha
      refine st_extract hf (by decide) rfl rfl rfl ?_
      clear hf; intro a ha hf; clear ha
      refine st_extract hf (by decide) rfl rfl rfl ?_
      clear hf; intro a ha hf; clear ha
      refine st_assign hf rfl rfl (by decide) ?_
      clear hf; intro a ha hf; clear ha
      refine st_stO (us := [.int .i64 q10.2.1, .int .i64 q10.2.2]) hf hp (i := 0) rfl rfl rfl rfl rfl (by rfl) (by kernel_rfl) (Nat.le_of_ble_eq_true rfl) ?_
      clear hf; intro a w hf hp0; clear hp; have hp := hp0; clear hp0
      replace hp : Hp _ _ _ (Res.obj 74 v1 [.int .i64 q10.2.1, .int .i64 q10.2.2] :: ow) := hp
      refine st_nil hf ?_
      refine th_n ?_
      refine wp_seq ?_
      refine wp_reg ?_
      refine st_move hf rfl rfl (by decide) ?_
      clear hf; intro a ha hf; clear ha
      refine st_move hf rfl rfl (by decide) ?_
      clear hf; intro a ha hf; clear ha
      refine st_move hf rfl rfl (by decide) ?_
      clear hf; intro a ha hf; clear ha
      refine st_imul hf (by decide) rfl rfl rfl ?_
      clear hf; intro a ha hf; clear ha
      refine st_iadd hf (by decide) rfl rfl rfl ?_
      clear hf; intro a ha hf; clear ha
      refine st_assign hf rfl rfl (by decide) ?_
      clear hf; intro a ha hf; clear ha
      refine st_nil hf ?_
      refine th_n ?_
      refine wp_reg ?_
      refine st_move hf rfl rfl (by decide) ?_
      clear hf; intro a ha hf; clear ha
      refine st_imul hf (by decide) rfl rfl rfl ?_
      clear hf; intro a ha hf; clear ha
      refine st_assign hf rfl rfl (by decide) ?_
      clear hf; intro a ha hf; clear ha
      refine st_nil hf ?_
      refine ib_n ?_
      refine th_n ?_
      refine wp_reg ?_
      refine st_move hf rfl rfl (by decide) ?_
      clear hf; intro a ha hf; clear ha
      refine st_iadd hf (by decide) rfl rfl rfl ?_
      clear hf; intro a ha hf; clear ha
      refine st_assign hf rfl rfl (by decide) ?_
      clear hf; intro a ha hf; clear ha
      refine st_nil hf ?_
      obtain rfl := Option.some.inj h
      exact rnd_l ⟨hf.sub ⟨rfl, rfl, rfl, rfl, rfl, trivial⟩, hp⟩
    replace h := ifF h hb
    refine wp_exit ?_
    refine th_e ?_
    obtain rfl := Option.some.inj h
    have hp : Hp _ _ _ (ow) := Hp.sel (pre := [Res.obj 74 v1 [.int .i64 g2c_0, .int .i64 g2c_1]]) (tail := ow) (rs' := []) hp [] (by decide) (by simp) rfl
    exact rnd_r (by simp) ⟨rfl, hf.sub ⟨rfl, trivial⟩, hp⟩
  clear hl hf hp
  intro e a w hne hO
  obtain ⟨rfl, hf, hp⟩ := hO
  refine ib_same ?_
  refine th_n ?_
  refine wp_seq ?_
  refine wp_reg ?_
  refine st_move hf rfl rfl (by decide) ?_
  clear hf; intro a ha hf; clear ha
  refine st_assign hf rfl rfl (by decide) ?_
  clear hf; intro a ha hf; clear ha
  refine st_assign hf rfl rfl (by decide) ?_
  clear hf; intro a ha hf; clear ha
  refine st_nil hf ?_
  refine th_n ?_
  refine wp_ret ?_
  obtain rfl := Option.some.inj h
  exact ⟨rfl, ⟨hf.sub ⟨rfl, rfl, trivial⟩, hp⟩⟩

noncomputable def f_plane_First.s1c (class0 : Int) (g6c_0 : Int) (g6c_1 : Int) (i7 : Int) : Option ((Int × Int × Int) ⊕ (Int × Int)) := (if (decide ((0 : Int) ≤ i7)) = true then ((f_plane_Gauss_times g6c_0 g6c_1 (1 : Int) (1 : Int)).bind fun q13 => (if 0 ≤ i7 then (some (Sum.inl ((IntKind.i64.wrap (q13.1 + (IntKind.i64.wrap (iand .u32 (ishr .u32 class0 i7) (1 : Int))))), q13.2, (IntKind.i64.wrap (i7 - (1 : Int)))))) else none)) else (some (Sum.inr (g6c_0, g6c_1))))
noncomputable def f_plane_First.s1 (class0 : Int) (s : (Int × Int × Int)) : Option ((Int × Int × Int) ⊕ (Int × Int)) := f_plane_First.s1c class0 s.1 s.2.1 s.2.2
noncomputable def f_plane_First (class0 : Int) (depth1 : Int) : Option ((Int × Int) × Int) := ((if ((decide (depth1 < (0 : Int))) || (decide ((30 : Int) < depth1))) = true then (some true) else (if 0 ≤ depth1 then (some (decide ((0 : Int) < (ishr .u32 class0 depth1)))) else none)).bind fun z7 => (if z7 = true then (some (((0 : Int), (0 : Int)), (1 : Int))) else ((loop (f_plane_First.s1 class0) ((0 : Int), (0 : Int), (IntKind.i64.wrap (depth1 - (1 : Int))))).bind (fun q16 => (some ((q16.1, q16.2), (0 : Int)))))))
theorem f_plane_First_c {S : Nat → Prop} {w0 w : World} {ow : List Res} (hp : Hp S w0 w ow) (class0 : Int) (depth1 : Int) {r : ((Int × Int) × Int)} (h : f_plane_First class0 depth1 = some r) :
    Calls Try.prog 37 #[.int .u32 class0, .int .i64 depth1] w (fun e w' => e = .returned (.tuple #[.agg #[.int .i64 r.1.1, .int .i64 r.1.2], .int .i64 r.2]) ∧ Hp S w0 w' (ow)) := by
  unfold f_plane_First at h
  refine enter (n := 40) (args := [.int .u32 class0, .int .i64 depth1]) Try.func37 rfl rfl (Nat.le_of_ble_eq_true rfl) fun a hf => ?_
  replace hf : Fr 40 a [(0, .int .u32 class0), (1, .int .i64 depth1)] := hf
  refine wp_mono (Q := fun e a w => e = .ret ∧ ∃ (c0 : Value), Fr 40 a [(4, optr c0 0), (5, .int .i64 r.2)] ∧ Hp S w0 w (Res.obj 56 c0 [.int .i64 r.1.1, .int .i64 r.1.2] :: ow)) ?_ ?_
  rotate_left
  · rintro e a w ⟨rfl, c0, hf, hp⟩
    exact retG2 hf rfl ⟨_, _, rfl, hp.ob (i := 0) rfl, .inr ⟨by kernel_rfl, rfl⟩⟩ rfl ⟨rfl, hp.drop⟩
  refine wp_seq ?_
  refine wp_reg ?_
  refine st_alloc (cs := [.int .i64 (0 : Int), .int .i64 (0 : Int)]) (zv := .agg #[.int .i64 (0 : Int), .int .i64 (0 : Int)]) hf (by decide) (by kernel_rfl) rfl hp rfl ?_
  clear hf; intro a w v1 hf hp0; clear hp; have hp := hp0; clear hp0
  replace hp : Hp _ _ _ (Res.obj 56 v1 [.int .i64 (0 : Int), .int .i64 (0 : Int)] :: ow) := hp
  refine st_assign hf rfl rfl (by decide) ?_
  clear hf; intro a ha hf; clear ha
  refine st_nil hf ?_
  refine th_n ?_
  refine wp_seq ?_
  refine wp_seq ?_
  refine wp_reg ?_
  refine st_move hf rfl rfl (by decide) ?_
  clear hf; intro a ha hf; clear ha
  refine st_ilss hf (by decide) rfl rfl rfl ?_
  clear hf; intro a ha hf; clear ha
  refine st_move hf rfl rfl (by decide) ?_
  clear hf; intro a ha hf; clear ha
  refine wpList_cut 3 (fun a w => Fr 40 a [(0, .int .u32 class0), (1, .int .i64 depth1), (4, optr v1 0), (13, .bool ((decide (depth1 < (0 : Int))) || (decide ((30 : Int) < depth1))))] ∧ Hp S w0 w (Res.obj 56 v1 [.int .i64 (0 : Int), .int .i64 (0 : Int)] :: ow)) ?_ ?_
  · rcases Bool.eq_false_or_eq_true (decide (depth1 < (0 : Int))) with hb4 | hb4
    · skip
      refine st_skip hf (wantN hf rfl rfl hb4) rfl (by decide) ?_ rfl
      clear hf; intro a hf
      refine st_skip hf (wantN hf rfl rfl hb4) rfl (by decide) ?_ rfl
      clear hf; intro a hf
      refine st_pick (v := .bool true) hf rfl rfl (fun hb' => ?_) (fun hb' => ?_) (by decide) ?_
      · rfl
      · exact absurd (hb4.symm.trans hb') (by decide)
      clear hf; intro a ha hf; clear ha
      refine st_nil hf (th_n ?_)
      exact ⟨hf.sub ⟨rfl, rfl, rfl, (by rw [hb4]; rfl), trivial⟩, hp⟩
    refine st_move hf (wantY hf rfl rfl hb4) rfl (by decide) ?_
    clear hf; intro a ha hf; clear ha
    refine st_igtr hf (by decide) (wantY hf rfl rfl hb4) rfl rfl ?_
    clear hf; intro a ha hf; clear ha
    refine st_pick (v := .bool (decide ((30 : Int) < depth1))) hf rfl rfl (fun hb' => ?_) (fun hb' => ?_) (by decide) ?_
    · exact absurd (hb4.symm.trans hb') (by decide)
    · rfl
    clear hf; intro a ha hf; clear ha
    refine st_nil hf (th_n ?_)
    exact ⟨hf.sub ⟨rfl, rfl, rfl, (by rw [hb4]; rfl), trivial⟩, hp⟩
  rintro a w ⟨hf, hp⟩
  refine st_move hf rfl rfl (by decide) ?_
  clear hf; intro a ha hf; clear ha
  obtain ⟨z7, hz5, h⟩ := bnd h
  refine wpList_cut 5 (fun a w => Fr 40 a [(0, .int .u32 class0), (1, .int .i64 depth1), (4, optr v1 0), (19, .bool z7)] ∧ Hp S w0 w (Res.obj 56 v1 [.int .i64 (0 : Int), .int .i64 (0 : Int)] :: ow)) ?_ ?_
  · rcases Bool.eq_false_or_eq_true ((decide (depth1 < (0 : Int))) || (decide ((30 : Int) < depth1))) with hb6 | hb6
    · skip
      replace hz5 := ifT hz5 hb6
      refine st_skip hf (wantN hf rfl rfl hb6) rfl (by decide) ?_ rfl
      clear hf; intro a hf
      refine st_skip hf (wantN hf rfl rfl hb6) rfl (by decide) ?_ rfl
      clear hf; intro a hf
      refine st_skip hf (wantN hf rfl rfl hb6) rfl (by decide) ?_ rfl
      clear hf; intro a hf
      refine st_skip hf (wantN hf rfl rfl hb6) rfl (by decide) ?_ rfl
      clear hf; intro a hf
      obtain rfl := Option.some.inj hz5
      refine st_pick (v := .bool true) hf rfl rfl (fun hb' => ?_) (fun hb' => ?_) (by decide) ?_
      · rfl
      · exact absurd (hb6.symm.trans hb') (by decide)
      clear hf; intro a ha hf; clear ha
      refine st_nil hf (th_n ?_)
      exact ⟨hf.sub ⟨rfl, rfl, rfl, rfl, trivial⟩, hp⟩
    replace hz5 := ifF hz5 hb6
    refine st_move hf (wantY hf rfl rfl hb6) rfl (by decide) ?_
    clear hf; intro a ha hf; clear ha
    refine st_move hf (wantY hf rfl rfl hb6) rfl (by decide) ?_
    clear hf; intro a ha hf; clear ha
    obtain ⟨hc8, hz5⟩ := chk hz5
    refine st_ishr hf (by decide) (wantY hf rfl rfl hb6) rfl rfl hc8 ?_
    clear hf; intro a ha hf; clear ha
    refine st_igtr hf (by decide) (wantY hf rfl rfl hb6) rfl rfl ?_
    clear hf; intro a ha hf; clear ha
    obtain rfl := Option.some.inj hz5
    refine st_pick (v := .bool (decide ((0 : Int) < (ishr .u32 class0 depth1)))) hf rfl rfl (fun hb' => ?_) (fun hb' => ?_) (by decide) ?_
    · exact absurd (hb6.symm.trans hb') (by decide)
    · rfl
    clear hf; intro a ha hf; clear ha
    refine st_nil hf (th_n ?_)
    exact ⟨hf.sub ⟨rfl, rfl, rfl, rfl, trivial⟩, hp⟩
  rintro a w ⟨hf, hp⟩
  refine st_nil hf ?_
  refine th_n ?_
  refine wp_if hf rfl (fun hb => ?_) (fun hb => ?_)
  · replace h := ifT h hb
    refine wp_seq ?_
    refine wp_reg ?_
    refine st_buildA (vals := []) (cells := [.int .i64 (0 : Int), .int .i64 (0 : Int)]) hf (by decide) rfl (by simp []) (fun w => by kernel_rfl) ?_
    clear hf; intro a ha hf; clear ha
    refine st_stO (us := [.int .i64 (0 : Int), .int .i64 (0 : Int)]) hf hp (i := 0) rfl rfl rfl rfl rfl (by rfl) (by kernel_rfl) (Nat.le_of_ble_eq_true rfl) ?_
    clear hf; intro a w hf hp0; clear hp; have hp := hp0; clear hp0
    replace hp : Hp _ _ _ (Res.obj 56 v1 [.int .i64 (0 : Int), .int .i64 (0 : Int)] :: ow) := hp
    refine st_assign hf rfl rfl (by decide) ?_
    clear hf; intro a ha hf; clear ha
    refine st_nil hf ?_
    refine th_n ?_
    refine wp_ret ?_
    refine th_r ?_
    obtain rfl := Option.some.inj h
    exact ⟨rfl, ⟨_, hf.sub ⟨rfl, rfl, trivial⟩, hp⟩⟩
  replace h := ifF h hb
  refine wp_skip ?_
  refine th_n ?_
  refine wp_seq ?_
  refine wp_reg ?_
  refine st_alloc (cs := [.int .i64 (0 : Int), .int .i64 (0 : Int)]) (zv := .agg #[.int .i64 (0 : Int), .int .i64 (0 : Int)]) hf (by decide) (by kernel_rfl) rfl hp rfl ?_
  clear hf; intro a w v9 hf hp0; clear hp; have hp := hp0; clear hp0
  replace hp : Hp _ _ _ (Res.obj 56 v9 [.int .i64 (0 : Int), .int .i64 (0 : Int)] :: Res.obj 56 v1 [.int .i64 (0 : Int), .int .i64 (0 : Int)] :: ow) := hp
  refine st_nil hf ?_
  refine th_n ?_
  refine wp_seq ?_
  refine wp_seq ?_
  refine wp_reg ?_
  refine st_move hf rfl rfl (by decide) ?_
  clear hf; intro a ha hf; clear ha
  refine st_isub hf (by decide) rfl rfl rfl ?_
  clear hf; intro a ha hf; clear ha
  refine st_assign hf rfl rfl (by decide) ?_
  clear hf; intro a ha hf; clear ha
  refine st_nil hf ?_
  refine th_n ?_
  refine wp_block ?_
  obtain ⟨q16, hl, h⟩ := bnd h
  refine wp_loop_pure (f := (f_plane_First.s1 class0)) (s := ((0 : Int), (0 : Int), (IntKind.i64.wrap (depth1 - (1 : Int))))) (fun s a w => Fr 40 a [(0, .int .u32 class0), (4, optr v1 0), (6, optr v9 0), (7, .int .i64 s.2.2)] ∧ Hp S w0 w (Res.obj 56 v9 [.int .i64 s.1, .int .i64 s.2.1] :: Res.obj 56 v1 [.int .i64 (0 : Int), .int .i64 (0 : Int)] :: ow)) (fun q e a w => e = .exit 0 ∧ Fr 40 a [(4, optr v1 0), (6, optr v9 0)] ∧ Hp S w0 w (Res.obj 56 v9 [.int .i64 q.1, .int .i64 q.2] :: Res.obj 56 v1 [.int .i64 (0 : Int), .int .i64 (0 : Int)] :: ow)) ?_ hl ⟨hf.sub ⟨rfl, rfl, rfl, rfl, trivial⟩, hp⟩ ?_
  · clear hl hf hp
    intro s x a w h hI
    obtain ⟨g6c_0, g6c_1, i7⟩ := s
    obtain ⟨hf, hp⟩ : Fr 40 a [(0, .int .u32 class0), (4, optr v1 0), (6, optr v9 0), (7, .int .i64 i7)] ∧ Hp S w0 w (Res.obj 56 v9 [.int .i64 g6c_0, .int .i64 g6c_1] :: Res.obj 56 v1 [.int .i64 (0 : Int), .int .i64 (0 : Int)] :: ow) := hI
    replace h : f_plane_First.s1c class0 g6c_0 g6c_1 i7 = some x := h
    unfold f_plane_First.s1c at h
    refine wp_seq ?_
    refine wp_seq ?_
    refine wp_reg ?_
    refine st_move hf rfl rfl (by decide) ?_
    clear hf; intro a ha hf; clear ha
    refine st_igeq hf (by decide) rfl rfl rfl ?_
    clear hf; intro a ha hf; clear ha
    refine st_nil hf ?_
    refine th_n ?_
    refine wp_if hf rfl (fun hb => ?_) (fun hb => ?_)
    · replace h := ifT h hb
      refine wp_skip ?_
      refine th_n ?_
      refine wp_seq ?_
      refine wp_block ?_
      refine wp_seq ?_
      refine wp_reg ?_
      refine st_ldOA (m := 2) (us := [.int .i64 g6c_0, .int .i64 g6c_1]) hf (by decide) (by kernel_rfl) rfl rfl (hp.ob (i := 0) rfl) rfl rfl ?_
      clear hf; intro a ha hf; clear ha
      refine st_buildA (vals := [(0, .int .i64 (1 : Int)), (1, .int .i64 (1 : Int))]) (cells := [.int .i64 (1 : Int), .int .i64 (1 : Int)]) hf (by decide) rfl (by simp [hf.ev (x := (Operand.const (.int .i64 (1 : Int)))) rfl, hf.ev (x := (Operand.const (.int .i64 (1 : Int)))) rfl]) (fun w => by kernel_rfl) ?_
      clear hf; intro a ha hf; clear ha
      obtain ⟨q13, hcall14, h⟩ := bnd h
      refine st_call hf (by decide) Try.func56 rfl rfl rfl rfl rfl (f_plane_Gauss_times_c hp _ _ _ _ hcall14) ?_
      rintro _ w ⟨rfl, hp0⟩
      clear hp; have hp := hp0; clear hp0
      replace hp : Hp _ _ _ (Res.obj 56 v9 [.int .i64 g6c_0, .int .i64 g6c_1] :: Res.obj 56 v1 [.int .i64 (0 : Int), .int .i64 (0 : Int)] :: ow) := hp
      refine ⟨_, rfl, ?_⟩
      clear hf; intro a hf
      refine st_stO (us := [.int .i64 q13.1, .int .i64 q13.2]) hf hp (i := 0) rfl rfl rfl rfl rfl (by rfl) (by kernel_rfl) (Nat.le_of_ble_eq_true rfl) ?_
      clear hf; intro a w hf hp0; clear hp; have hp := hp0; clear hp0
      replace hp : Hp _ _ _ (Res.obj 56 v9 [.int .i64 q13.1, .int .i64 q13.2] :: Res.obj 56 v1 [.int .i64 (0 : Int), .int .i64 (0 : Int)] :: ow) := hp
      refine st_nil hf ?_
      refine th_n ?_
      obtain ⟨hc15, h⟩ := chk h
      refine wp_cutN (fun a w => Fr 40 a [(0, .int .u32 class0), (4, optr v1 0), (6, optr v9 0), (7, .int .i64 i7)] ∧ Hp S w0 w (Res.obj 56 v9 [.int .i64 (IntKind.i64.wrap (q13.1 + (IntKind.i64.wrap (iand .u32 (ishr .u32 class0 i7) (1 : Int))))), .int .i64 q13.2] :: Res.obj 56 v1 [.int .i64 (0 : Int), .int .i64 (0 : Int)] :: ow)) ?_ ?_
      · have hp := hp.same (Same.drew w)
        refine dr_begin' (fun a w => Fr 40 a [(0, .int .u32 class0), (4, optr v1 0), (6, optr v9 0), (7, .int .i64 i7)] ∧ Hp S w0 w (Res.obj 56 v9 [.int .i64 (IntKind.i64.wrap (q13.1 + (IntKind.i64.wrap (iand .u32 (ishr .u32 class0 i7) (1 : Int))))), .int .i64 q13.2] :: Res.obj 56 v1 [.int .i64 (0 : Int), .int .i64 (0 : Int)] :: ow)) (fun w' => ∃ l, Hp S w0 w' l) [] (by kernel_rfl) ?_
        refine dr_take 2 (.int .u32 class0) rfl (by kernel_rfl) (by kernel_rfl) (by kernel_rfl) (by kernel_rfl) rfl rfl hf (by decide) rfl (fun w hp => ?_) ⟨_, hp⟩ ?_
        · obtain ⟨_, hp⟩ := hp
          refine st_move hf rfl rfl (by decide) ?_
          clear hf; intro a ha hf
          exact st_nil hf (th_n ⟨ha, rfl⟩)
        clear hf; intro a hf
        refine dr_take 3 (.int .i64 i7) rfl (by kernel_rfl) (by kernel_rfl) (by kernel_rfl) (by kernel_rfl) rfl rfl hf (by decide) rfl (fun w hp => ?_) ⟨_, hp⟩ ?_
        · obtain ⟨_, hp⟩ := hp
          refine st_move hf rfl rfl (by decide) ?_
          clear hf; intro a ha hf
          exact st_nil hf (th_n ⟨ha, rfl⟩)
        clear hf; intro a hf
        refine dr_take 4 (.int .u32 (ishr .u32 class0 i7)) rfl (by kernel_rfl) (by kernel_rfl) (by kernel_rfl) (by kernel_rfl) rfl rfl hf (by decide) rfl (fun w hp => ?_) ⟨_, hp⟩ ?_
        · obtain ⟨_, hp⟩ := hp
          refine st_ishr hf (by decide) rfl rfl rfl hc15 ?_
          clear hf; intro a ha hf
          exact st_nil hf (th_n ⟨ha, rfl⟩)
        clear hf; intro a hf
        refine dr_take 5 (.int .u32 (iand .u32 (ishr .u32 class0 i7) (1 : Int))) rfl (by kernel_rfl) (by kernel_rfl) (by kernel_rfl) (by kernel_rfl) rfl rfl hf (by decide) rfl (fun w hp => ?_) ⟨_, hp⟩ ?_
        · obtain ⟨_, hp⟩ := hp
          refine st_iand hf (by decide) rfl rfl rfl ?_
          clear hf; intro a ha hf
          exact st_nil hf (th_n ⟨ha, rfl⟩)
        clear hf; intro a hf
        refine dr_take 6 (.int .i64 (IntKind.i64.wrap (iand .u32 (ishr .u32 class0 i7) (1 : Int)))) rfl (by kernel_rfl) (by kernel_rfl) (by kernel_rfl) (by kernel_rfl) rfl rfl hf (by decide) rfl (fun w hp => ?_) ⟨_, hp⟩ ?_
        · obtain ⟨_, hp⟩ := hp
          refine st_conv_ii hf (by decide) (by rw [Try.underlying66]; rfl) Try.underlying2 rfl rfl ?_
          clear hf; intro a ha hf
          exact st_nil hf (th_n ⟨ha, rfl⟩)
        clear hf; intro a hf
        refine dr_one 0 rfl (by kernel_rfl) ?_
        refine st_fa (o' := 0) hf (by decide) (off := 0) (sz := 1) (by kernel_rfl) (by decide) rfl rfl (hp.ob (i := 0) rfl) rfl ?_
        clear hf; intro a ha hf; clear ha
        refine st_nil hf (th_n ⟨fun _ _ => ⟨_, hp⟩, ?_⟩)
        refine dr_one 1 rfl (by kernel_rfl) ?_
        refine st_ldO (u := .int .i64 q13.1) hf (by decide) pl2 rfl rfl (hp.ob (i := 0) rfl) rfl ?_
        clear hf; intro a ha hf; clear ha
        refine st_nil hf (th_n ⟨fun _ _ => ⟨_, hp⟩, ?_⟩)
        refine dr_take 7 (.int .i64 (IntKind.i64.wrap (q13.1 + (IntKind.i64.wrap (iand .u32 (ishr .u32 class0 i7) (1 : Int)))))) rfl (by kernel_rfl) (by kernel_rfl) (by kernel_rfl) (by kernel_rfl) rfl rfl hf (by decide) rfl (fun w hp => ?_) ⟨_, hp⟩ ?_
        · obtain ⟨_, hp⟩ := hp
          refine st_iadd hf (by decide) rfl rfl rfl ?_
          clear hf; intro a ha hf
          exact st_nil hf (th_n ⟨ha, rfl⟩)
        clear hf; intro a hf
        refine dr_one 8 rfl (by kernel_rfl) ?_
        refine st_fa (o' := 0) hf (by decide) (off := 0) (sz := 1) (by kernel_rfl) (by decide) rfl rfl (hp.ob (i := 0) rfl) rfl ?_
        clear hf; intro a ha hf; clear ha
        refine st_nil hf (th_n ⟨fun _ _ => ⟨_, hp⟩, ?_⟩)
        refine dr_one 9 rfl (by kernel_rfl) ?_
        refine st_stO (us := [.int .i64 (IntKind.i64.wrap (q13.1 + (IntKind.i64.wrap (iand .u32 (ishr .u32 class0 i7) (1 : Int)))))]) hf hp (i := 0) rfl rfl rfl rfl rfl (by rfl) (by kernel_rfl) (Nat.le_of_ble_eq_true rfl) ?_
        clear hf; intro a w hf hp0; clear hp; have hp := hp0; clear hp0
        replace hp : Hp _ _ _ (Res.obj 56 v9 [.int .i64 (IntKind.i64.wrap (q13.1 + (IntKind.i64.wrap (iand .u32 (ishr .u32 class0 i7) (1 : Int))))), .int .i64 q13.2] :: Res.obj 56 v1 [.int .i64 (0 : Int), .int .i64 (0 : Int)] :: ow) := hp
        refine st_nil hf (th_n ⟨fun _ _ => ⟨_, hp⟩, ?_⟩)
        refine dr_end (by kernel_rfl) ?_ _
        exact ⟨hf.sub ⟨rfl, rfl, rfl, rfl, trivial⟩, hp⟩
      rintro a w ⟨hf, hp⟩
      refine ib_n ?_
      refine th_n ?_
      refine wp_reg ?_
      refine st_move hf rfl rfl (by decide) ?_
      clear hf; intro a ha hf; clear ha
      refine st_isub hf (by decide) rfl rfl rfl ?_
      clear hf; intro a ha hf; clear ha
      refine st_assign hf rfl rfl (by decide) ?_
      clear hf; intro a ha hf; clear ha
      refine st_nil hf ?_
      obtain rfl := Option.some.inj h
      exact rnd_l ⟨hf.sub ⟨rfl, rfl, rfl, rfl, trivial⟩, hp⟩
    replace h := ifF h hb
    refine wp_exit ?_
    refine th_e ?_
    obtain rfl := Option.some.inj h
    exact rnd_r (by simp) ⟨rfl, hf.sub ⟨rfl, rfl, trivial⟩, hp⟩
  clear hl hf hp
  intro e a w hne hO
  obtain ⟨rfl, hf, hp⟩ := hO
  refine ib_same ?_
  refine th_n ?_
  refine wp_seq ?_
  refine wp_reg ?_
  refine st_ldOA (m := 2) (us := [.int .i64 q16.1, .int .i64 q16.2]) hf (by decide) (by kernel_rfl) rfl rfl (hp.ob (i := 0) rfl) rfl rfl ?_
  clear hf; intro a ha hf; clear ha
  refine st_stO (us := [.int .i64 q16.1, .int .i64 q16.2]) hf hp (i := 1) rfl rfl rfl rfl rfl (by rfl) (by kernel_rfl) (Nat.le_of_ble_eq_true rfl) ?_
  clear hf; intro a w hf hp0; clear hp; have hp := hp0; clear hp0
  replace hp : Hp _ _ _ (Res.obj 56 v9 [.int .i64 q16.1, .int .i64 q16.2] :: Res.obj 56 v1 [.int .i64 q16.1, .int .i64 q16.2] :: ow) := hp
  refine st_assign hf rfl rfl (by decide) ?_
  clear hf; intro a ha hf; clear ha
  refine st_nil hf ?_
  refine th_n ?_
  refine wp_ret ?_
  obtain rfl := Option.some.inj h
  have hp : Hp _ _ _ (Res.obj 56 v1 [.int .i64 q16.1, .int .i64 q16.2] :: ow) := Hp.sel (pre := [Res.obj 56 v9 [.int .i64 q16.1, .int .i64 q16.2], Res.obj 56 v1 [.int .i64 q16.1, .int .i64 q16.2]]) (tail := ow) (rs' := [Res.obj 56 v1 [.int .i64 q16.1, .int .i64 q16.2]]) hp [1] (by decide) (by simp) rfl
  exact ⟨rfl, ⟨_, hf.sub ⟨rfl, rfl, trivial⟩, hp⟩⟩

noncomputable def f_foghornref03_First.j1 (class0 : Int) (p7c_0 : Int) (p7c_1 : Int) (i8 : Int) (sx6c_0 : Int) (sx6c_1 : Int) : Option ((Int × Int × Int × Int × Int × Int) ⊕ (Int × Int)) := ((f_foghornref03_times p7c_0 p7c_1 (1 : Int) (1 : Int)).bind fun q17 => (some (Sum.inl ((IntKind.u32.wrap ((class0).tdiv (2 : Int))), sx6c_0, sx6c_1, q17.1, q17.2, (IntKind.i64.wrap (i8 + (1 : Int)))))))
noncomputable def f_foghornref03_First.s1c (depth1 : Int) (class0 : Int) (sx6c_0 : Int) (sx6c_1 : Int) (p7c_0 : Int) (p7c_1 : Int) (i8 : Int) : Option ((Int × Int × Int × Int × Int × Int) ⊕ (Int × Int)) := (if (decide (i8 < depth1)) = true then (if (((class0).tmod (2 : Int)) == (1 : Int)) = true then (f_foghornref03_First.j1 class0 p7c_0 p7c_1 i8 (IntKind.i64.wrap (sx6c_0 + p7c_0)) (IntKind.i64.wrap (sx6c_1 + p7c_1))) else (f_foghornref03_First.j1 class0 p7c_0 p7c_1 i8 sx6c_0 sx6c_1)) else (some (Sum.inr (sx6c_0, sx6c_1))))
noncomputable def f_foghornref03_First.s1 (depth1 : Int) (s : (Int × Int × Int × Int × Int × Int)) : Option ((Int × Int × Int × Int × Int × Int) ⊕ (Int × Int)) := f_foghornref03_First.s1c depth1 s.1 s.2.1 s.2.2.1 s.2.2.2.1 s.2.2.2.2.1 s.2.2.2.2.2
noncomputable def f_foghornref03_First (class0 : Int) (depth1 : Int) : Option ((Int × Int) × Int) := ((if ((decide (depth1 < (0 : Int))) || (decide ((30 : Int) < depth1))) = true then (some true) else (if 0 ≤ depth1 then (some (decide ((ishl .u32 (1 : Int) depth1) ≤ class0))) else none)).bind fun z7 => (if z7 = true then (some (((0 : Int), (0 : Int)), (1 : Int))) else ((loop (f_foghornref03_First.s1 depth1) (class0, (0 : Int), (0 : Int), (1 : Int), (0 : Int), (0 : Int))).bind (fun q19 => (some ((q19.1, q19.2), (0 : Int)))))))
theorem f_foghornref03_First_c {S : Nat → Prop} {w0 w : World} {ow : List Res} (hp : Hp S w0 w ow) (class0 : Int) (depth1 : Int) {r : ((Int × Int) × Int)} (h : f_foghornref03_First class0 depth1 = some r) :
    Calls Try.prog 47 #[.int .u32 class0, .int .i64 depth1] w (fun e w' => e = .returned (.tuple #[.agg #[.int .i64 r.1.1, .int .i64 r.1.2], .int .i64 r.2]) ∧ Hp S w0 w' (ow)) := by
  unfold f_foghornref03_First at h
  refine enter (n := 48) (args := [.int .u32 class0, .int .i64 depth1]) Try.func47 rfl rfl (Nat.le_of_ble_eq_true rfl) fun a hf => ?_
  replace hf : Fr 48 a [(0, .int .u32 class0), (1, .int .i64 depth1)] := hf
  refine wp_mono (Q := fun e a w => e = .ret ∧ ∃ (c0 : Value), Fr 48 a [(4, optr c0 0), (5, .int .i64 r.2)] ∧ Hp S w0 w (Res.obj 74 c0 [.int .i64 r.1.1, .int .i64 r.1.2] :: ow)) ?_ ?_
  rotate_left
  · rintro e a w ⟨rfl, c0, hf, hp⟩
    exact retG2 hf rfl ⟨_, _, rfl, hp.ob (i := 0) rfl, .inr ⟨by kernel_rfl, rfl⟩⟩ rfl ⟨rfl, hp.drop⟩
  refine wp_seq ?_
  refine wp_reg ?_
  refine st_alloc (cs := [.int .i64 (0 : Int), .int .i64 (0 : Int)]) (zv := .agg #[.int .i64 (0 : Int), .int .i64 (0 : Int)]) hf (by decide) (by kernel_rfl) rfl hp rfl ?_
  clear hf; intro a w v1 hf hp0; clear hp; have hp := hp0; clear hp0
  replace hp : Hp _ _ _ (Res.obj 74 v1 [.int .i64 (0 : Int), .int .i64 (0 : Int)] :: ow) := hp
  refine st_assign hf rfl rfl (by decide) ?_
  clear hf; intro a ha hf; clear ha
  refine st_nil hf ?_
  refine th_n ?_
  refine wp_seq ?_
  refine wp_seq ?_
  refine wp_reg ?_
  refine st_move hf rfl rfl (by decide) ?_
  clear hf; intro a ha hf; clear ha
  refine st_ilss hf (by decide) rfl rfl rfl ?_
  clear hf; intro a ha hf; clear ha
  refine st_move hf rfl rfl (by decide) ?_
  clear hf; intro a ha hf; clear ha
  refine wpList_cut 3 (fun a w => Fr 48 a [(0, .int .u32 class0), (1, .int .i64 depth1), (4, optr v1 0), (14, .bool ((decide (depth1 < (0 : Int))) || (decide ((30 : Int) < depth1))))] ∧ Hp S w0 w (Res.obj 74 v1 [.int .i64 (0 : Int), .int .i64 (0 : Int)] :: ow)) ?_ ?_
  · rcases Bool.eq_false_or_eq_true (decide (depth1 < (0 : Int))) with hb4 | hb4
    · skip
      refine st_skip hf (wantN hf rfl rfl hb4) rfl (by decide) ?_ rfl
      clear hf; intro a hf
      refine st_skip hf (wantN hf rfl rfl hb4) rfl (by decide) ?_ rfl
      clear hf; intro a hf
      refine st_pick (v := .bool true) hf rfl rfl (fun hb' => ?_) (fun hb' => ?_) (by decide) ?_
      · rfl
      · exact absurd (hb4.symm.trans hb') (by decide)
      clear hf; intro a ha hf; clear ha
      refine st_nil hf (th_n ?_)
      exact ⟨hf.sub ⟨rfl, rfl, rfl, (by rw [hb4]; rfl), trivial⟩, hp⟩
    refine st_move hf (wantY hf rfl rfl hb4) rfl (by decide) ?_
    clear hf; intro a ha hf; clear ha
    refine st_igtr hf (by decide) (wantY hf rfl rfl hb4) rfl rfl ?_
    clear hf; intro a ha hf; clear ha
    refine st_pick (v := .bool (decide ((30 : Int) < depth1))) hf rfl rfl (fun hb' => ?_) (fun hb' => ?_) (by decide) ?_
    · exact absurd (hb4.symm.trans hb') (by decide)
    · rfl
    clear hf; intro a ha hf; clear ha
    refine st_nil hf (th_n ?_)
    exact ⟨hf.sub ⟨rfl, rfl, rfl, (by rw [hb4]; rfl), trivial⟩, hp⟩
  rintro a w ⟨hf, hp⟩
  refine st_move hf rfl rfl (by decide) ?_
  clear hf; intro a ha hf; clear ha
  obtain ⟨z7, hz5, h⟩ := bnd h
  refine wpList_cut 5 (fun a w => Fr 48 a [(0, .int .u32 class0), (1, .int .i64 depth1), (4, optr v1 0), (20, .bool z7)] ∧ Hp S w0 w (Res.obj 74 v1 [.int .i64 (0 : Int), .int .i64 (0 : Int)] :: ow)) ?_ ?_
  · rcases Bool.eq_false_or_eq_true ((decide (depth1 < (0 : Int))) || (decide ((30 : Int) < depth1))) with hb6 | hb6
    · skip
      replace hz5 := ifT hz5 hb6
      refine st_skip hf (wantN hf rfl rfl hb6) rfl (by decide) ?_ rfl
      clear hf; intro a hf
      refine st_skip hf (wantN hf rfl rfl hb6) rfl (by decide) ?_ rfl
      clear hf; intro a hf
      refine st_skip hf (wantN hf rfl rfl hb6) rfl (by decide) ?_ rfl
      clear hf; intro a hf
      refine st_skip hf (wantN hf rfl rfl hb6) rfl (by decide) ?_ rfl
      clear hf; intro a hf
      obtain rfl := Option.some.inj hz5
      refine st_pick (v := .bool true) hf rfl rfl (fun hb' => ?_) (fun hb' => ?_) (by decide) ?_
      · rfl
      · exact absurd (hb6.symm.trans hb') (by decide)
      clear hf; intro a ha hf; clear ha
      refine st_nil hf (th_n ?_)
      exact ⟨hf.sub ⟨rfl, rfl, rfl, rfl, trivial⟩, hp⟩
    replace hz5 := ifF hz5 hb6
    refine st_move hf (wantY hf rfl rfl hb6) rfl (by decide) ?_
    clear hf; intro a ha hf; clear ha
    refine st_move hf (wantY hf rfl rfl hb6) rfl (by decide) ?_
    clear hf; intro a ha hf; clear ha
    obtain ⟨hc8, hz5⟩ := chk hz5
    refine st_ishl hf (by decide) (wantY hf rfl rfl hb6) rfl rfl hc8 ?_
    clear hf; intro a ha hf; clear ha
    refine st_igeq hf (by decide) (wantY hf rfl rfl hb6) rfl rfl ?_
    clear hf; intro a ha hf; clear ha
    obtain rfl := Option.some.inj hz5
    refine st_pick (v := .bool (decide ((ishl .u32 (1 : Int) depth1) ≤ class0))) hf rfl rfl (fun hb' => ?_) (fun hb' => ?_) (by decide) ?_
    · exact absurd (hb6.symm.trans hb') (by decide)
    · rfl
    clear hf; intro a ha hf; clear ha
    refine st_nil hf (th_n ?_)
    exact ⟨hf.sub ⟨rfl, rfl, rfl, rfl, trivial⟩, hp⟩
  rintro a w ⟨hf, hp⟩
  refine st_nil hf ?_
  refine th_n ?_
  refine wp_if hf rfl (fun hb => ?_) (fun hb => ?_)
  · replace h := ifT h hb
    refine wp_seq ?_
    refine wp_reg ?_
    refine st_buildA (vals := []) (cells := [.int .i64 (0 : Int), .int .i64 (0 : Int)]) hf (by decide) rfl (by simp []) (fun w => by kernel_rfl) ?_
    clear hf; intro a ha hf; clear ha
    refine st_stO (us := [.int .i64 (0 : Int), .int .i64 (0 : Int)]) hf hp (i := 0) rfl rfl rfl rfl rfl (by rfl) (by kernel_rfl) (Nat.le_of_ble_eq_true rfl) ?_
    clear hf; intro a w hf hp0; clear hp; have hp := hp0; clear hp0
    replace hp : Hp _ _ _ (Res.obj 74 v1 [.int .i64 (0 : Int), .int .i64 (0 : Int)] :: ow) := hp
    refine st_assign hf rfl rfl (by decide) ?_
    clear hf; intro a ha hf; clear ha
    refine st_nil hf ?_
    refine th_n ?_
    refine wp_ret ?_
    refine th_r ?_
    obtain rfl := Option.some.inj h
    exact ⟨rfl, ⟨_, hf.sub ⟨rfl, rfl, trivial⟩, hp⟩⟩
  replace h := ifF h hb
  refine wp_skip ?_
  refine th_n ?_
  refine wp_seq ?_
  refine wp_reg ?_
  refine st_alloc (cs := [.int .i64 (0 : Int), .int .i64 (0 : Int)]) (zv := .agg #[.int .i64 (0 : Int), .int .i64 (0 : Int)]) hf (by decide) (by kernel_rfl) rfl hp rfl ?_
  clear hf; intro a w v9 hf hp0; clear hp; have hp := hp0; clear hp0
  replace hp : Hp _ _ _ (Res.obj 74 v9 [.int .i64 (0 : Int), .int .i64 (0 : Int)] :: Res.obj 74 v1 [.int .i64 (0 : Int), .int .i64 (0 : Int)] :: ow) := hp
  refine st_nil hf ?_
  refine th_n ?_
  refine wp_seq ?_
  refine wp_reg ?_
  refine st_buildA (vals := [(0, .int .i64 (1 : Int)), (1, .int .i64 (0 : Int))]) (cells := [.int .i64 (1 : Int), .int .i64 (0 : Int)]) hf (by decide) rfl (by simp [hf.ev (x := (Operand.const (.int .i64 (1 : Int)))) rfl, hf.ev (x := (Operand.const (.int .i64 (0 : Int)))) rfl]) (fun w => by kernel_rfl) ?_
  clear hf; intro a ha hf; clear ha
  refine st_alloc (cs := [.int .i64 (0 : Int), .int .i64 (0 : Int)]) (zv := .agg #[.int .i64 (0 : Int), .int .i64 (0 : Int)]) hf (by decide) (by kernel_rfl) rfl hp rfl ?_
  clear hf; intro a w v11 hf hp0; clear hp; have hp := hp0; clear hp0
  replace hp : Hp _ _ _ (Res.obj 74 v11 [.int .i64 (0 : Int), .int .i64 (0 : Int)] :: Res.obj 74 v9 [.int .i64 (0 : Int), .int .i64 (0 : Int)] :: Res.obj 74 v1 [.int .i64 (0 : Int), .int .i64 (0 : Int)] :: ow) := hp
  refine st_stO (us := [.int .i64 (1 : Int), .int .i64 (0 : Int)]) hf hp (i := 0) rfl rfl rfl rfl rfl (by rfl) (by kernel_rfl) (Nat.le_of_ble_eq_true rfl) ?_
  clear hf; intro a w hf hp0; clear hp; have hp := hp0; clear hp0
  replace hp : Hp _ _ _ (Res.obj 74 v11 [.int .i64 (1 : Int), .int .i64 (0 : Int)] :: Res.obj 74 v9 [.int .i64 (0 : Int), .int .i64 (0 : Int)] :: Res.obj 74 v1 [.int .i64 (0 : Int), .int .i64 (0 : Int)] :: ow) := hp
  refine st_nil hf ?_
  refine th_n ?_
  refine wp_seq ?_
  refine wp_seq ?_
  refine wp_reg ?_
  refine st_assign hf rfl rfl (by decide) ?_
  clear hf; intro a ha hf; clear ha
  refine st_nil hf ?_
  refine th_n ?_
  refine wp_block ?_
  obtain ⟨q19, hl, h⟩ := bnd h
  have hp : Hp _ _ _ (Res.obj 74 v9 [.int .i64 (0 : Int), .int .i64 (0 : Int)] :: Res.obj 74 v11 [.int .i64 (1 : Int), .int .i64 (0 : Int)] :: Res.obj 74 v1 [.int .i64 (0 : Int), .int .i64 (0 : Int)] :: ow) := Hp.sel (pre := [Res.obj 74 v11 [.int .i64 (1 : Int), .int .i64 (0 : Int)], Res.obj 74 v9 [.int .i64 (0 : Int), .int .i64 (0 : Int)], Res.obj 74 v1 [.int .i64 (0 : Int), .int .i64 (0 : Int)]]) (tail := ow) (rs' := [Res.obj 74 v9 [.int .i64 (0 : Int), .int .i64 (0 : Int)], Res.obj 74 v11 [.int .i64 (1 : Int), .int .i64 (0 : Int)], Res.obj 74 v1 [.int .i64 (0 : Int), .int .i64 (0 : Int)]]) hp [1, 0, 2] (by decide) (by simp) rfl
  refine wp_loop_pure (f := (f_foghornref03_First.s1 depth1)) (s := (class0, (0 : Int), (0 : Int), (1 : Int), (0 : Int), (0 : Int))) (fun s a w => Fr 48 a [(0, .int .u32 s.1), (1, .int .i64 depth1), (4, optr v1 0), (6, optr v9 0), (7, optr v11 0), (8, .int .i64 s.2.2.2.2.2)] ∧ Hp S w0 w (Res.obj 74 v9 [.int .i64 s.2.1, .int .i64 s.2.2.1] :: Res.obj 74 v11 [.int .i64 s.2.2.2.1, .int .i64 s.2.2.2.2.1] :: Res.obj 74 v1 [.int .i64 (0 : Int), .int .i64 (0 : Int)] :: ow)) (fun q e a w => e = .exit 0 ∧ Fr 48 a [(4, optr v1 0), (6, optr v9 0)] ∧ Hp S w0 w (Res.obj 74 v9 [.int .i64 q.1, .int .i64 q.2] :: Res.obj 74 v1 [.int .i64 (0 : Int), .int .i64 (0 : Int)] :: ow)) ?_ hl ⟨hf.sub ⟨rfl, rfl, rfl, rfl, rfl, rfl, trivial⟩, hp⟩ ?_
  · clear hl hf hp
    intro s x a w h hI
    obtain ⟨class0, sx6c_0, sx6c_1, p7c_0, p7c_1, i8⟩ := s
    obtain ⟨hf, hp⟩ : Fr 48 a [(0, .int .u32 class0), (1, .int .i64 depth1), (4, optr v1 0), (6, optr v9 0), (7, optr v11 0), (8, .int .i64 i8)] ∧ Hp S w0 w (Res.obj 74 v9 [.int .i64 sx6c_0, .int .i64 sx6c_1] :: Res.obj 74 v11 [.int .i64 p7c_0, .int .i64 p7c_1] :: Res.obj 74 v1 [.int .i64 (0 : Int), .int .i64 (0 : Int)] :: ow) := hI
    replace h : f_foghornref03_First.s1c depth1 class0 sx6c_0 sx6c_1 p7c_0 p7c_1 i8 = some x := h
    unfold f_foghornref03_First.s1c at h
    refine wp_seq ?_
    refine wp_seq ?_
    refine wp_reg ?_
    refine st_move hf rfl rfl (by decide) ?_
    clear hf; intro a ha hf; clear ha
    refine st_move hf rfl rfl (by decide) ?_
    clear hf; intro a ha hf; clear ha
    refine st_ilss hf (by decide) rfl rfl rfl ?_
    clear hf; intro a ha hf; clear ha
    refine st_nil hf ?_
    refine th_n ?_
    refine wp_if hf rfl (fun hb => ?_) (fun hb => ?_)
    · replace h := ifT h hb
      refine wp_skip ?_
      refine th_n ?_
      refine wp_seq ?_
      refine wp_block ?_
      refine wp_seq_cut (fun a w => ∃ (sx6c_0 : Int) (sx6c_1 : Int), f_foghornref03_First.j1 class0 p7c_0 p7c_1 i8 sx6c_0 sx6c_1 = some x ∧ Fr 48 a [(0, .int .u32 class0), (1, .int .i64 depth1), (4, optr v1 0), (6, optr v9 0), (7, optr v11 0), (8, .int .i64 i8)] ∧ Hp S w0 w (Res.obj 74 v9 [.int .i64 sx6c_0, .int .i64 sx6c_1] :: Res.obj 74 v1 [.int .i64 (0 : Int), .int .i64 (0 : Int)] :: Res.obj 74 v11 [.int .i64 p7c_0, .int .i64 p7c_1] :: ow)) ?_ ?_
      · skip
        refine wp_seq ?_
        refine wp_reg ?_
        refine st_move hf rfl rfl (by decide) ?_
        clear hf; intro a ha hf; clear ha
        refine st_irem hf (by decide) rfl rfl rfl (by decide) ?_
        clear hf; intro a ha hf; clear ha
        refine st_ieql hf (by decide) rfl rfl rfl ?_
        clear hf; intro a ha hf; clear ha
        refine st_nil hf ?_
        refine th_n ?_
        refine wp_if hf rfl (fun hb => ?_) (fun hb => ?_)
        · replace h := ifT h hb
          refine wp_reg ?_
          refine st_fa (o' := 0) hf (by decide) (off := 0) (sz := 1) (by kernel_rfl) (by decide) rfl rfl (hp.ob (i := 0) rfl) rfl ?_
          clear hf; intro a ha hf; clear ha
          refine st_ldO (u := .int .i64 sx6c_0) hf (by decide) pl2 rfl rfl (hp.ob (i := 0) rfl) rfl ?_
          clear hf; intro a ha hf; clear ha
          refine st_fa (o' := 0) hf (by decide) (off := 0) (sz := 1) (by kernel_rfl) (by decide) rfl rfl (hp.ob (i := 1) rfl) rfl ?_
          clear hf; intro a ha hf; clear ha
          refine st_ldO (u := .int .i64 p7c_0) hf (by decide) pl2 rfl rfl (hp.ob (i := 1) rfl) rfl ?_
          clear hf; intro a ha hf; clear ha
          refine st_iadd hf (by decide) rfl rfl rfl ?_
          clear hf; intro a ha hf; clear ha
          refine st_fa (o' := 1) hf (by decide) (off := 1) (sz := 1) (by kernel_rfl) (by decide) rfl rfl (hp.ob (i := 0) rfl) rfl ?_
          clear hf; intro a ha hf; clear ha
          refine st_ldO (u := .int .i64 sx6c_1) hf (by decide) pl2 rfl rfl (hp.ob (i := 0) rfl) rfl ?_
          clear hf; intro a ha hf; clear ha
          refine st_fa (o' := 1) hf (by decide) (off := 1) (sz := 1) (by kernel_rfl) (by decide) rfl rfl (hp.ob (i := 1) rfl) rfl ?_
          clear hf; intro a ha hf; clear ha
          refine st_ldO (u := .int .i64 p7c_1) hf (by decide) pl2 rfl rfl (hp.ob (i := 1) rfl) rfl ?_
          clear hf; intro a ha hf; clear ha
          refine st_iadd hf (by decide) rfl rfl rfl ?_
          clear hf; intro a ha hf; clear ha
          refine st_buildA (vals := [(0, .int .i64 (IntKind.i64.wrap (sx6c_0 + p7c_0))), (1, .int .i64 (IntKind.i64.wrap (sx6c_1 + p7c_1)))]) (cells := [.int .i64 (IntKind.i64.wrap (sx6c_0 + p7c_0)), .int .i64 (IntKind.i64.wrap (sx6c_1 + p7c_1))]) hf (by decide) rfl (by simp [hf.ev (x := (Operand.tmp 35)) rfl, hf.ev (x := (Operand.tmp 40)) rfl]) (fun w => by kernel_rfl) ?_
          clear hf; intro a ha hf; clear ha
          refine st_stO (us := [.int .i64 (IntKind.i64.wrap (sx6c_0 + p7c_0)), .int .i64 (IntKind.i64.wrap (sx6c_1 + p7c_1))]) hf hp (i := 0) rfl rfl rfl rfl rfl (by rfl) (by kernel_rfl) (Nat.le_of_ble_eq_true rfl) ?_
          clear hf; intro a w hf hp0; clear hp; have hp := hp0; clear hp0
          replace hp : Hp _ _ _ (Res.obj 74 v9 [.int .i64 (IntKind.i64.wrap (sx6c_0 + p7c_0)), .int .i64 (IntKind.i64.wrap (sx6c_1 + p7c_1))] :: Res.obj 74 v11 [.int .i64 p7c_0, .int .i64 p7c_1] :: Res.obj 74 v1 [.int .i64 (0 : Int), .int .i64 (0 : Int)] :: ow) := hp
          refine st_nil hf ?_
          have hp : Hp _ _ _ (Res.obj 74 v9 [.int .i64 (IntKind.i64.wrap (sx6c_0 + p7c_0)), .int .i64 (IntKind.i64.wrap (sx6c_1 + p7c_1))] :: Res.obj 74 v1 [.int .i64 (0 : Int), .int .i64 (0 : Int)] :: Res.obj 74 v11 [.int .i64 p7c_0, .int .i64 p7c_1] :: ow) := Hp.sel (pre := [Res.obj 74 v9 [.int .i64 (IntKind.i64.wrap (sx6c_0 + p7c_0)), .int .i64 (IntKind.i64.wrap (sx6c_1 + p7c_1))], Res.obj 74 v11 [.int .i64 p7c_0, .int .i64 p7c_1], Res.obj 74 v1 [.int .i64 (0 : Int), .int .i64 (0 : Int)]]) (tail := ow) (rs' := [Res.obj 74 v9 [.int .i64 (IntKind.i64.wrap (sx6c_0 + p7c_0)), .int .i64 (IntKind.i64.wrap (sx6c_1 + p7c_1))], Res.obj 74 v1 [.int .i64 (0 : Int), .int .i64 (0 : Int)], Res.obj 74 v11 [.int .i64 p7c_0, .int .i64 p7c_1]]) hp [0, 2, 1] (by decide) (by simp) rfl
          refine th_n ?_
          exact ⟨_, _, h, hf.sub ⟨rfl, rfl, rfl, rfl, rfl, rfl, trivial⟩, hp⟩
        replace h := ifF h hb
        refine wp_skip ?_
        have hp : Hp _ _ _ (Res.obj 74 v9 [.int .i64 sx6c_0, .int .i64 sx6c_1] :: Res.obj 74 v1 [.int .i64 (0 : Int), .int .i64 (0 : Int)] :: Res.obj 74 v11 [.int .i64 p7c_0, .int .i64 p7c_1] :: ow) := Hp.sel (pre := [Res.obj 74 v9 [.int .i64 sx6c_0, .int .i64 sx6c_1], Res.obj 74 v11 [.int .i64 p7c_0, .int .i64 p7c_1], Res.obj 74 v1 [.int .i64 (0 : Int), .int .i64 (0 : Int)]]) (tail := ow) (rs' := [Res.obj 74 v9 [.int .i64 sx6c_0, .int .i64 sx6c_1], Res.obj 74 v1 [.int .i64 (0 : Int), .int .i64 (0 : Int)], Res.obj 74 v11 [.int .i64 p7c_0, .int .i64 p7c_1]]) hp [0, 2, 1] (by decide) (by simp) rfl
        refine th_n ?_
        exact ⟨_, _, h, hf.sub ⟨rfl, rfl, rfl, rfl, rfl, rfl, trivial⟩, hp⟩
      rintro a w ⟨sx6c_0, sx6c_1, h, hf, hp⟩
      unfold f_foghornref03_First.j1 at h
      refine wp_seq ?_
      refine wp_reg ?_
      refine st_move hf rfl rfl (by decide) ?_
      clear hf; intro a ha hf; clear ha
      refine st_iquo hf (by decide) rfl rfl rfl (by decide) ?_
      clear hf; intro a ha hf; clear ha
      refine st_assign hf rfl rfl (by decide) ?_
      clear hf; intro a ha hf; clear ha
      refine st_nil hf ?_
      refine th_n ?_
      refine wp_reg ?_
      refine st_ldOA (m := 2) (us := [.int .i64 p7c_0, .int .i64 p7c_1]) hf (by decide) (by kernel_rfl) rfl rfl (hp.ob (i := 2) rfl) rfl rfl ?_
      clear hf; intro a ha hf; clear ha
      refine st_buildA (vals := [(0, .int .i64 (1 : Int)), (1, .int .i64 (1 : Int))]) (cells := [.int .i64 (1 : Int), .int .i64 (1 : Int)]) hf (by decide) rfl (by simp [hf.ev (x := (Operand.const (.int .i64 (1 : Int)))) rfl, hf.ev (x := (Operand.const (.int .i64 (1 : Int)))) rfl]) (fun w => by kernel_rfl) ?_
      clear hf; intro a ha hf; clear ha
      obtain ⟨q17, hcall18, h⟩ := bnd h
      refine st_call hf (by decide) Try.func64 rfl rfl rfl rfl rfl (f_foghornref03_times_c hp _ _ _ _ hcall18) ?_
      rintro _ w ⟨rfl, hp0⟩
      clear hp; have hp := hp0; clear hp0
      replace hp : Hp _ _ _ (Res.obj 74 v9 [.int .i64 sx6c_0, .int .i64 sx6c_1] :: Res.obj 74 v1 [.int .i64 (0 : Int), .int .i64 (0 : Int)] :: Res.obj 74 v11 [.int .i64 p7c_0, .int .i64 p7c_1] :: ow) := hp
      refine ⟨_, rfl, ?_⟩
      clear hf; intro a hf
      refine st_stO (us := [.int .i64 q17.1, .int .i64 q17.2]) hf hp (i := 2) rfl rfl rfl rfl rfl (by rfl) (by kernel_rfl) (Nat.le_of_ble_eq_true rfl) ?_
      clear hf; intro a w hf hp0; clear hp; have hp := hp0; clear hp0
      replace hp : Hp _ _ _ (Res.obj 74 v9 [.int .i64 sx6c_0, .int .i64 sx6c_1] :: Res.obj 74 v1 [.int .i64 (0 : Int), .int .i64 (0 : Int)] :: Res.obj 74 v11 [.int .i64 q17.1, .int .i64 q17.2] :: ow) := hp
      refine st_nil hf ?_
      refine ib_n ?_
      refine th_n ?_
      refine wp_reg ?_
      refine st_move hf rfl rfl (by decide) ?_
      clear hf; intro a ha hf; clear ha
      refine st_iadd hf (by decide) rfl rfl rfl ?_
      clear hf; intro a ha hf; clear ha
      refine st_assign hf rfl rfl (by decide) ?_
      clear hf; intro a ha hf; clear ha
      refine st_nil hf ?_
      obtain rfl := Option.some.inj h
      have hp : Hp _ _ _ (Res.obj 74 v9 [.int .i64 sx6c_0, .int .i64 sx6c_1] :: Res.obj 74 v11 [.int .i64 q17.1, .int .i64 q17.2] :: Res.obj 74 v1 [.int .i64 (0 : Int), .int .i64 (0 : Int)] :: ow) := Hp.sel (pre := [Res.obj 74 v9 [.int .i64 sx6c_0, .int .i64 sx6c_1], Res.obj 74 v1 [.int .i64 (0 : Int), .int .i64 (0 : Int)], Res.obj 74 v11 [.int .i64 q17.1, .int .i64 q17.2]]) (tail := ow) (rs' := [Res.obj 74 v9 [.int .i64 sx6c_0, .int .i64 sx6c_1], Res.obj 74 v11 [.int .i64 q17.1, .int .i64 q17.2], Res.obj 74 v1 [.int .i64 (0 : Int), .int .i64 (0 : Int)]]) hp [0, 2, 1] (by decide) (by simp) rfl
      exact rnd_l ⟨hf.sub ⟨rfl, rfl, rfl, rfl, rfl, rfl, trivial⟩, hp⟩
    replace h := ifF h hb
    refine wp_exit ?_
    refine th_e ?_
    obtain rfl := Option.some.inj h
    have hp : Hp _ _ _ (Res.obj 74 v9 [.int .i64 sx6c_0, .int .i64 sx6c_1] :: Res.obj 74 v1 [.int .i64 (0 : Int), .int .i64 (0 : Int)] :: ow) := Hp.sel (pre := [Res.obj 74 v9 [.int .i64 sx6c_0, .int .i64 sx6c_1], Res.obj 74 v11 [.int .i64 p7c_0, .int .i64 p7c_1], Res.obj 74 v1 [.int .i64 (0 : Int), .int .i64 (0 : Int)]]) (tail := ow) (rs' := [Res.obj 74 v9 [.int .i64 sx6c_0, .int .i64 sx6c_1], Res.obj 74 v1 [.int .i64 (0 : Int), .int .i64 (0 : Int)]]) hp [0, 2] (by decide) (by simp) rfl
    exact rnd_r (by simp) ⟨rfl, hf.sub ⟨rfl, rfl, trivial⟩, hp⟩
  clear hl hf hp
  intro e a w hne hO
  obtain ⟨rfl, hf, hp⟩ := hO
  refine ib_same ?_
  refine th_n ?_
  refine wp_seq ?_
  refine wp_reg ?_
  refine st_ldOA (m := 2) (us := [.int .i64 q19.1, .int .i64 q19.2]) hf (by decide) (by kernel_rfl) rfl rfl (hp.ob (i := 0) rfl) rfl rfl ?_
  clear hf; intro a ha hf; clear ha
  refine st_stO (us := [.int .i64 q19.1, .int .i64 q19.2]) hf hp (i := 1) rfl rfl rfl rfl rfl (by rfl) (by kernel_rfl) (Nat.le_of_ble_eq_true rfl) ?_
  clear hf; intro a w hf hp0; clear hp; have hp := hp0; clear hp0
  replace hp : Hp _ _ _ (Res.obj 74 v9 [.int .i64 q19.1, .int .i64 q19.2] :: Res.obj 74 v1 [.int .i64 q19.1, .int .i64 q19.2] :: ow) := hp
  refine st_assign hf rfl rfl (by decide) ?_
  clear hf; intro a ha hf; clear ha
  refine st_nil hf ?_
  refine th_n ?_
  refine wp_ret ?_
  obtain rfl := Option.some.inj h
  have hp : Hp _ _ _ (Res.obj 74 v1 [.int .i64 q19.1, .int .i64 q19.2] :: ow) := Hp.sel (pre := [Res.obj 74 v9 [.int .i64 q19.1, .int .i64 q19.2], Res.obj 74 v1 [.int .i64 q19.1, .int .i64 q19.2]]) (tail := ow) (rs' := [Res.obj 74 v1 [.int .i64 q19.1, .int .i64 q19.2]]) hp [1] (by decide) (by simp) rfl
  exact ⟨rfl, ⟨_, hf.sub ⟨rfl, rfl, trivial⟩, hp⟩⟩

noncomputable def f_plane_Gauss_Depth.s1c (n4 : Int) (next5c_0 : Int) (next5c_1 : Int) (bit6 : Int) : Option ((Int × Int × Int × Int) ⊕ Int) := (if (bit6 == (0 : Int)) = true then ((f_plane_Gauss_half next5c_0 next5c_1).bind fun q13 => (some (Sum.inl ((IntKind.i64.wrap (n4 + (1 : Int))), q13.1.1, q13.1.2, q13.2)))) else (some (Sum.inr n4)))
noncomputable def f_plane_Gauss_Depth.s1  (s : (Int × Int × Int × Int)) : Option ((Int × Int × Int × Int) ⊕ Int) := f_plane_Gauss_Depth.s1c s.1 s.2.1 s.2.2.1 s.2.2.2
noncomputable def f_plane_Gauss_Depth (g0_Re : Int) (g0_Im : Int) : Option (Int × Int) := ((f_plane_Gauss_may g0_Re g0_Im).bind fun q3 => (if (!q3) = true then (some ((0 : Int), (1 : Int))) else (if ((g0_Re == (0 : Int)) && ((g0_Im == (0 : Int)) && true)) = true then (some ((0 : Int), (6 : Int))) else ((f_plane_Gauss_half g0_Re g0_Im).bind fun q5 => ((loop f_plane_Gauss_Depth.s1 ((0 : Int), q5.1.1, q5.1.2, q5.2)).bind (fun q15 => (some (q15, (0 : Int)))))))))
theorem f_plane_Gauss_Depth_c {S : Nat → Prop} {w0 w : World} {ow : List Res} (hp : Hp S w0 w ow) (g0_Re : Int) (g0_Im : Int) {r : (Int × Int)} (h : f_plane_Gauss_Depth g0_Re g0_Im = some r) :
    Calls Try.prog 38 #[.agg #[.int .i64 g0_Re, .int .i64 g0_Im]] w (fun e w' => e = .returned (.tuple #[.int .i64 r.1, .int .i64 r.2]) ∧ Hp S w0 w' (ow)) := by
  unfold f_plane_Gauss_Depth at h
  refine enter (n := 31) (args := [.agg #[.int .i64 g0_Re, .int .i64 g0_Im]]) Try.func38 rfl rfl (Nat.le_of_ble_eq_true rfl) fun a hf => ?_
  replace hf : Fr 31 a [(0, .agg #[.int .i64 g0_Re, .int .i64 g0_Im])] := hf
  refine wp_mono (Q := fun e a w => e = .ret ∧ Fr 31 a [(2, .int .i64 r.1), (3, .int .i64 r.2)] ∧ Hp S w0 w (ow)) ?_ ?_
  rotate_left
  · rintro e a w ⟨rfl, hf, hp⟩
    exact ret2 hf rfl rfl rfl ⟨rfl, hp⟩
  refine wp_seq ?_
  refine wp_reg ?_
  refine st_boxO (cs := [.int .i64 g0_Re, .int .i64 g0_Im]) hf (by decide) hp rfl rfl rfl ?_
  clear hf; intro a w v1 hf hp0; clear hp; have hp := hp0; clear hp0
  replace hp : Hp _ _ _ (Res.obj 56 v1 [.int .i64 g0_Re, .int .i64 g0_Im] :: ow) := hp
  refine st_assign hf rfl rfl (by decide) ?_
  clear hf; intro a ha hf; clear ha
  refine st_assign hf rfl rfl (by decide) ?_
  clear hf; intro a ha hf; clear ha
  refine st_nil hf ?_
  refine th_n ?_
  refine wp_seq ?_
  refine wp_block ?_
  refine wp_seq ?_
  refine wp_reg ?_
  refine st_ldOA (m := 2) (us := [.int .i64 g0_Re, .int .i64 g0_Im]) hf (by decide) (by kernel_rfl) rfl rfl (hp.ob (i := 0) rfl) rfl rfl ?_
  clear hf; intro a ha hf; clear ha
  obtain ⟨q3, hcall4, h⟩ := bnd h
  refine st_call hf (by decide) Try.func55 rfl rfl rfl rfl rfl (f_plane_Gauss_may_c hp _ _ hcall4) ?_
  rintro _ w ⟨rfl, hp0⟩
  clear hp; have hp := hp0; clear hp0
  replace hp : Hp _ _ _ (Res.obj 56 v1 [.int .i64 g0_Re, .int .i64 g0_Im] :: ow) := hp
  refine ⟨_, rfl, ?_⟩
  clear hf; intro a hf
  refine st_not hf (by decide) rfl rfl ?_
  clear hf; intro a ha hf; clear ha
  refine st_assign hf rfl rfl (by decide) ?_
  clear hf; intro a ha hf; clear ha
  refine st_nil hf ?_
  refine th_n ?_
  refine wp_if hf rfl (fun hb => ?_) (fun hb => ?_)
  · replace h := ifT h hb
    refine wp_seq ?_
    refine wp_reg ?_
    refine st_assign hf rfl rfl (by decide) ?_
    clear hf; intro a ha hf; clear ha
    refine st_assign hf rfl rfl (by decide) ?_
    clear hf; intro a ha hf; clear ha
    refine st_nil hf ?_
    refine th_n ?_
    refine wp_ret ?_
    refine ib_r ?_
    refine th_r ?_
    obtain rfl := Option.some.inj h
    have hp : Hp _ _ _ (ow) := Hp.sel (pre := [Res.obj 56 v1 [.int .i64 g0_Re, .int .i64 g0_Im]]) (tail := ow) (rs' := []) hp [] (by decide) (by simp) rfl
    exact ⟨rfl, ⟨hf.sub ⟨rfl, rfl, trivial⟩, hp⟩⟩
  replace h := ifF h hb
  refine wp_seq ?_
  refine wp_reg ?_
  refine st_ldOA (m := 2) (us := [.int .i64 g0_Re, .int .i64 g0_Im]) hf (by decide) (by kernel_rfl) rfl rfl (hp.ob (i := 0) rfl) rfl rfl ?_
  clear hf; intro a ha hf; clear ha
  refine st_buildA (vals := []) (cells := [.int .i64 (0 : Int), .int .i64 (0 : Int)]) hf (by decide) rfl (by simp []) (fun w => by kernel_rfl) ?_
  clear hf; intro a ha hf; clear ha
  refine st_eqA (xs := [.int .i64 g0_Re, .int .i64 g0_Im]) (ys := [.int .i64 (0 : Int), .int .i64 (0 : Int)]) hf (by decide) (by kernel_rfl) (by kernel_rfl) (by kernel_rfl) (by kernel_rfl) rfl rfl rfl (b := ((g0_Re == (0 : Int)) && ((g0_Im == (0 : Int)) && true))) rfl ?_
  clear hf; intro a ha hf; clear ha
  refine st_assign hf rfl rfl (by decide) ?_
  clear hf; intro a ha hf; clear ha
  refine st_nil hf ?_
  refine th_n ?_
  refine wp_if hf rfl (fun hb => ?_) (fun hb => ?_)
  · replace h := ifT h hb
    refine wp_seq ?_
    refine wp_reg ?_
    refine st_assign hf rfl rfl (by decide) ?_
    clear hf; intro a ha hf; clear ha
    refine st_assign hf rfl rfl (by decide) ?_
    clear hf; intro a ha hf; clear ha
    refine st_nil hf ?_
    refine th_n ?_
    refine wp_ret ?_
    refine ib_r ?_
    refine th_r ?_
    obtain rfl := Option.some.inj h
    have hp : Hp _ _ _ (ow) := Hp.sel (pre := [Res.obj 56 v1 [.int .i64 g0_Re, .int .i64 g0_Im]]) (tail := ow) (rs' := []) hp [] (by decide) (by simp) rfl
    exact ⟨rfl, ⟨hf.sub ⟨rfl, rfl, trivial⟩, hp⟩⟩
  replace h := ifF h hb
  refine wp_skip ?_
  refine ib_n ?_
  refine th_n ?_
  refine wp_seq ?_
  refine wp_reg ?_
  refine st_assign hf rfl rfl (by decide) ?_
  clear hf; intro a ha hf; clear ha
  refine st_nil hf ?_
  refine th_n ?_
  refine wp_seq ?_
  refine wp_seq ?_
  refine wp_reg ?_
  refine st_ldOA (m := 2) (us := [.int .i64 g0_Re, .int .i64 g0_Im]) hf (by decide) (by kernel_rfl) rfl rfl (hp.ob (i := 0) rfl) rfl rfl ?_
  clear hf; intro a ha hf; clear ha
  obtain ⟨q5, hcall6, h⟩ := bnd h
  refine st_call hf (by decide) Try.func59 rfl rfl rfl rfl rfl (f_plane_Gauss_half_c hp _ _ hcall6) ?_
  rintro _ w ⟨rfl, hp0⟩
  clear hp; have hp := hp0; clear hp0
  replace hp : Hp _ _ _ (Res.obj 56 v1 [.int .i64 g0_Re, .int .i64 g0_Im] :: ow) := hp
  refine ⟨_, rfl, ?_⟩
  clear hf; intro a hf
  refine st_move hf rfl rfl (by decide) ?_
  clear hf; intro a ha hf; clear ha
  refine st_extract hf (by decide) rfl rfl rfl ?_
  clear hf; intro a ha hf; clear ha
  refine st_extract hf (by decide) rfl rfl rfl ?_
  clear hf; intro a ha hf; clear ha
  refine st_alloc (cs := [.int .i64 (0 : Int), .int .i64 (0 : Int)]) (zv := .agg #[.int .i64 (0 : Int), .int .i64 (0 : Int)]) hf (by decide) (by kernel_rfl) rfl hp rfl ?_
  clear hf; intro a w v7 hf hp0; clear hp; have hp := hp0; clear hp0
  replace hp : Hp _ _ _ (Res.obj 56 v7 [.int .i64 (0 : Int), .int .i64 (0 : Int)] :: Res.obj 56 v1 [.int .i64 g0_Re, .int .i64 g0_Im] :: ow) := hp
  refine st_stO (us := [.int .i64 q5.1.1, .int .i64 q5.1.2]) hf hp (i := 0) rfl rfl rfl rfl rfl (by rfl) (by kernel_rfl) (Nat.le_of_ble_eq_true rfl) ?_
  clear hf; intro a w hf hp0; clear hp; have hp := hp0; clear hp0
  replace hp : Hp _ _ _ (Res.obj 56 v7 [.int .i64 q5.1.1, .int .i64 q5.1.2] :: Res.obj 56 v1 [.int .i64 g0_Re, .int .i64 g0_Im] :: ow) := hp
  refine st_assign hf rfl rfl (by decide) ?_
  clear hf; intro a ha hf; clear ha
  refine st_nil hf ?_
  refine th_n ?_
  refine wp_block ?_
  obtain ⟨q15, hl, h⟩ := bnd h
  have hp : Hp _ _ _ (Res.obj 56 v7 [.int .i64 q5.1.1, .int .i64 q5.1.2] :: ow) := Hp.sel (pre := [Res.obj 56 v7 [.int .i64 q5.1.1, .int .i64 q5.1.2], Res.obj 56 v1 [.int .i64 g0_Re, .int .i64 g0_Im]]) (tail := ow) (rs' := [Res.obj 56 v7 [.int .i64 q5.1.1, .int .i64 q5.1.2]]) hp [0] (by decide) (by simp) rfl
  refine wp_loop_pure (f := f_plane_Gauss_Depth.s1) (s := ((0 : Int), q5.1.1, q5.1.2, q5.2)) (fun s a w => ∃ (v9 : Value), Fr 31 a [(4, .int .i64 s.1), (5, optr v9 0), (6, .int .u32 s.2.2.2)] ∧ Hp S w0 w (Res.obj 56 v9 [.int .i64 s.2.1, .int .i64 s.2.2.1] :: ow)) (fun q e a w => e = .exit 1 ∧ Fr 31 a [(4, .int .i64 q)] ∧ Hp S w0 w (ow)) ?_ hl ⟨_, hf.sub ⟨rfl, rfl, rfl, trivial⟩, hp⟩ ?_
  · clear hl hf hp
    intro s x a w h hI
    obtain ⟨n4, next5c_0, next5c_1, bit6⟩ := s
    obtain ⟨v9, hf, hp⟩ : ∃ (v9 : Value), Fr 31 a [(4, .int .i64 n4), (5, optr v9 0), (6, .int .u32 bit6)] ∧ Hp S w0 w (Res.obj 56 v9 [.int .i64 next5c_0, .int .i64 next5c_1] :: ow) := hI
    replace h : f_plane_Gauss_Depth.s1c n4 next5c_0 next5c_1 bit6 = some x := h
    unfold f_plane_Gauss_Depth.s1c at h
    refine wp_seq ?_
    refine wp_seq ?_
    refine wp_reg ?_
    refine st_move hf rfl rfl (by decide) ?_
    clear hf; intro a ha hf; clear ha
    refine st_ieql hf (by decide) rfl rfl rfl ?_
    clear hf; intro a ha hf; clear ha
    refine st_nil hf ?_
    refine th_n ?_
    refine wp_if hf rfl (fun hb => ?_) (fun hb => ?_)
    · replace h := ifT h hb
      refine wp_skip ?_
      refine th_n ?_
      refine wp_seq ?_
      refine wp_block ?_
      refine wp_reg ?_
      refine st_move hf rfl rfl (by decide) ?_
      clear hf; intro a ha hf; clear ha
      refine st_iadd hf (by decide) rfl rfl rfl ?_
      clear hf; intro a ha hf; clear ha
      refine st_assign hf rfl rfl (by decide) ?_
      clear hf; intro a ha hf; clear ha
      refine st_nil hf ?_
      refine ib_n ?_
      refine th_n ?_
      refine wp_seq ?_
      refine wp_seq ?_
      refine wp_reg ?_
      refine st_ldOA (m := 2) (us := [.int .i64 next5c_0, .int .i64 next5c_1]) hf (by decide) (by kernel_rfl) rfl rfl (hp.ob (i := 0) rfl) rfl rfl ?_
      clear hf; intro a ha hf; clear ha
      refine st_nil hf ?_
      refine th_n ?_
      refine wp_reg ?_
      refine st_alloc (cs := [.int .i64 (0 : Int), .int .i64 (0 : Int)]) (zv := .agg #[.int .i64 (0 : Int), .int .i64 (0 : Int)]) hf (by decide) (by kernel_rfl) rfl hp rfl ?_
      clear hf; intro a w v11 hf hp0; clear hp; have hp := hp0; clear hp0
      replace hp : Hp _ _ _ (Res.obj 56 v11 [.int .i64 (0 : Int), .int .i64 (0 : Int)] :: Res.obj 56 v9 [.int .i64 next5c_0, .int .i64 next5c_1] :: ow) := hp
      refine st_stO (us := [.int .i64 next5c_0, .int .i64 next5c_1]) hf hp (i := 0) rfl rfl rfl rfl rfl (by rfl) (by kernel_rfl) (Nat.le_of_ble_eq_true rfl) ?_
      clear hf; intro a w hf hp0; clear hp; have hp := hp0; clear hp0
      replace hp : Hp _ _ _ (Res.obj 56 v11 [.int .i64 next5c_0, .int .i64 next5c_1] :: Res.obj 56 v9 [.int .i64 next5c_0, .int .i64 next5c_1] :: ow) := hp
      refine st_nil hf ?_
      refine th_n ?_
      refine wp_reg ?_
      refine st_ldOA (m := 2) (us := [.int .i64 next5c_0, .int .i64 next5c_1]) hf (by decide) (by kernel_rfl) rfl rfl (hp.ob (i := 0) rfl) rfl rfl ?_
      clear hf; intro a ha hf; clear ha
      obtain ⟨q13, hcall14, h⟩ := bnd h
      refine st_call hf (by decide) Try.func59 rfl rfl rfl rfl rfl (f_plane_Gauss_half_c hp _ _ hcall14) ?_
      rintro _ w ⟨rfl, hp0⟩
      clear hp; have hp := hp0; clear hp0
      replace hp : Hp _ _ _ (Res.obj 56 v11 [.int .i64 next5c_0, .int .i64 next5c_1] :: Res.obj 56 v9 [.int .i64 next5c_0, .int .i64 next5c_1] :: ow) := hp
      refine ⟨_, rfl, ?_⟩
      clear hf; intro a hf
      refine st_move hf rfl rfl (by decide) ?_
      clear hf; intro a ha hf; clear ha
      refine st_extract hf (by decide) rfl rfl rfl ?_
      clear hf; intro a ha hf; clear ha
      refine st_extract hf (by decide) rfl rfl rfl ?_
      clear hf; intro a ha hf; clear ha
      refine st_stO (us := [.int .i64 q13.1.1, .int .i64 q13.1.2]) hf hp (i := 0) rfl rfl rfl rfl rfl (by rfl) (by kernel_rfl) (Nat.le_of_ble_eq_true rfl) ?_
      clear hf; intro a w hf hp0; clear hp; have hp := hp0; clear hp0
      replace hp : Hp _ _ _ (Res.obj 56 v11 [.int .i64 q13.1.1, .int .i64 q13.1.2] :: Res.obj 56 v9 [.int .i64 next5c_0, .int .i64 next5c_1] :: ow) := hp
      refine st_assign hf rfl rfl (by decide) ?_
      clear hf; intro a ha hf; clear ha
      refine st_nil hf ?_
      obtain rfl := Option.some.inj h
      have hp : Hp _ _ _ (Res.obj 56 v11 [.int .i64 q13.1.1, .int .i64 q13.1.2] :: ow) := Hp.sel (pre := [Res.obj 56 v11 [.int .i64 q13.1.1, .int .i64 q13.1.2], Res.obj 56 v9 [.int .i64 next5c_0, .int .i64 next5c_1]]) (tail := ow) (rs' := [Res.obj 56 v11 [.int .i64 q13.1.1, .int .i64 q13.1.2]]) hp [0] (by decide) (by simp) rfl
      exact rnd_l ⟨_, hf.sub ⟨rfl, rfl, rfl, trivial⟩, hp⟩
    replace h := ifF h hb
    refine wp_exit ?_
    refine th_e ?_
    obtain rfl := Option.some.inj h
    have hp : Hp _ _ _ (ow) := Hp.sel (pre := [Res.obj 56 v9 [.int .i64 next5c_0, .int .i64 next5c_1]]) (tail := ow) (rs' := []) hp [] (by decide) (by simp) rfl
    exact rnd_r (by simp) ⟨rfl, hf.sub ⟨rfl, trivial⟩, hp⟩
  clear hl hf hp
  intro e a w hne hO
  obtain ⟨rfl, hf, hp⟩ := hO
  refine ib_same ?_
  refine th_n ?_
  refine wp_seq ?_
  refine wp_reg ?_
  refine st_move hf rfl rfl (by decide) ?_
  clear hf; intro a ha hf; clear ha
  refine st_assign hf rfl rfl (by decide) ?_
  clear hf; intro a ha hf; clear ha
  refine st_assign hf rfl rfl (by decide) ?_
  clear hf; intro a ha hf; clear ha
  refine st_nil hf ?_
  refine th_n ?_
  refine wp_ret ?_
  obtain rfl := Option.some.inj h
  exact ⟨rfl, ⟨hf.sub ⟨rfl, rfl, trivial⟩, hp⟩⟩

noncomputable def f_foghornref03_Depth.s1c (g1c_0 : Int) (g1c_1 : Int) (n4 : Int) : Option ((Int × Int × Int) ⊕ (Int × Int)) := ((f_foghornref03_step g1c_0 g1c_1).bind fun q8 => (if (q8.1 == (1 : Int)) = true then (some (Sum.inr (n4, (0 : Int)))) else (some (Sum.inl (q8.2.1, q8.2.2, (IntKind.i64.wrap (n4 + (1 : Int))))))))
noncomputable def f_foghornref03_Depth.s1  (s : (Int × Int × Int)) : Option ((Int × Int × Int) ⊕ (Int × Int)) := f_foghornref03_Depth.s1c s.1 s.2.1 s.2.2
noncomputable def f_foghornref03_Depth (g0_Re : Int) (g0_Im : Int) : Option (Int × Int) := ((f_foghornref03_May g0_Re g0_Im).bind fun q3 => (if (!q3) = true then (some ((0 : Int), (1 : Int))) else ((f_foghornref03_norm g0_Re g0_Im).bind fun q5 => (if (q5 == (0 : Int)) = true then (some ((0 : Int), (6 : Int))) else ((loop f_foghornref03_Depth.s1 (g0_Re, g0_Im, (0 : Int))).bind (fun q12 => (some (q12.1, q12.2))))))))
theorem f_foghornref03_Depth_c {S : Nat → Prop} {w0 w : World} {ow : List Res} (hp : Hp S w0 w ow) (g0_Re : Int) (g0_Im : Int) {r : (Int × Int)} (h : f_foghornref03_Depth g0_Re g0_Im = some r) :
    Calls Try.prog 48 #[.agg #[.int .i64 g0_Re, .int .i64 g0_Im]] w (fun e w' => e = .returned (.tuple #[.int .i64 r.1, .int .i64 r.2]) ∧ Hp S w0 w' (ow)) := by
  unfold f_foghornref03_Depth at h
  refine enter (n := 24) (args := [.agg #[.int .i64 g0_Re, .int .i64 g0_Im]]) Try.func48 rfl rfl (Nat.le_of_ble_eq_true rfl) fun a hf => ?_
  replace hf : Fr 24 a [(0, .agg #[.int .i64 g0_Re, .int .i64 g0_Im])] := hf
  refine wp_mono (Q := fun e a w => e = .ret ∧ Fr 24 a [(2, .int .i64 r.1), (3, .int .i64 r.2)] ∧ Hp S w0 w (ow)) ?_ ?_
  rotate_left
  · rintro e a w ⟨rfl, hf, hp⟩
    exact ret2 hf rfl rfl rfl ⟨rfl, hp⟩
  refine wp_seq ?_
  refine wp_reg ?_
  refine st_boxO (cs := [.int .i64 g0_Re, .int .i64 g0_Im]) hf (by decide) hp rfl rfl rfl ?_
  clear hf; intro a w v1 hf hp0; clear hp; have hp := hp0; clear hp0
  replace hp : Hp _ _ _ (Res.obj 74 v1 [.int .i64 g0_Re, .int .i64 g0_Im] :: ow) := hp
  refine st_assign hf rfl rfl (by decide) ?_
  clear hf; intro a ha hf; clear ha
  refine st_assign hf rfl rfl (by decide) ?_
  clear hf; intro a ha hf; clear ha
  refine st_nil hf ?_
  refine th_n ?_
  refine wp_seq ?_
  refine wp_seq ?_
  refine wp_reg ?_
  refine st_ldOA (m := 2) (us := [.int .i64 g0_Re, .int .i64 g0_Im]) hf (by decide) (by kernel_rfl) rfl rfl (hp.ob (i := 0) rfl) rfl rfl ?_
  clear hf; intro a ha hf; clear ha
  obtain ⟨q3, hcall4, h⟩ := bnd h
  refine st_call hf (by decide) Try.func63 rfl rfl rfl rfl rfl (f_foghornref03_May_c hp _ _ hcall4) ?_
  rintro _ w ⟨rfl, hp0⟩
  clear hp; have hp := hp0; clear hp0
  replace hp : Hp _ _ _ (Res.obj 74 v1 [.int .i64 g0_Re, .int .i64 g0_Im] :: ow) := hp
  refine ⟨_, rfl, ?_⟩
  clear hf; intro a hf
  refine st_not hf (by decide) rfl rfl ?_
  clear hf; intro a ha hf; clear ha
  refine st_nil hf ?_
  refine th_n ?_
  refine wp_if hf rfl (fun hb => ?_) (fun hb => ?_)
  · replace h := ifT h hb
    refine wp_seq ?_
    refine wp_reg ?_
    refine st_assign hf rfl rfl (by decide) ?_
    clear hf; intro a ha hf; clear ha
    refine st_assign hf rfl rfl (by decide) ?_
    clear hf; intro a ha hf; clear ha
    refine st_nil hf ?_
    refine th_n ?_
    refine wp_ret ?_
    refine th_r ?_
    obtain rfl := Option.some.inj h
    have hp : Hp _ _ _ (ow) := Hp.sel (pre := [Res.obj 74 v1 [.int .i64 g0_Re, .int .i64 g0_Im]]) (tail := ow) (rs' := []) hp [] (by decide) (by simp) rfl
    exact ⟨rfl, ⟨hf.sub ⟨rfl, rfl, trivial⟩, hp⟩⟩
  replace h := ifF h hb
  refine wp_skip ?_
  refine th_n ?_
  refine wp_seq ?_
  refine wp_seq ?_
  refine wp_reg ?_
  refine st_ldOA (m := 2) (us := [.int .i64 g0_Re, .int .i64 g0_Im]) hf (by decide) (by kernel_rfl) rfl rfl (hp.ob (i := 0) rfl) rfl rfl ?_
  clear hf; intro a ha hf; clear ha
  obtain ⟨q5, hcall6, h⟩ := bnd h
  refine st_call hf (by decide) Try.func65 rfl rfl rfl rfl rfl (f_foghornref03_norm_c hp _ _ hcall6) ?_
  rintro _ w ⟨rfl, hp0⟩
  clear hp; have hp := hp0; clear hp0
  replace hp : Hp _ _ _ (Res.obj 74 v1 [.int .i64 g0_Re, .int .i64 g0_Im] :: ow) := hp
  refine ⟨_, rfl, ?_⟩
  clear hf; intro a hf
  refine st_ieql hf (by decide) rfl rfl rfl ?_
  clear hf; intro a ha hf; clear ha
  refine st_nil hf ?_
  refine th_n ?_
  refine wp_if hf rfl (fun hb => ?_) (fun hb => ?_)
  · replace h := ifT h hb
    refine wp_seq ?_
    refine wp_reg ?_
    refine st_assign hf rfl rfl (by decide) ?_
    clear hf; intro a ha hf; clear ha
    refine st_assign hf rfl rfl (by decide) ?_
    clear hf; intro a ha hf; clear ha
    refine st_nil hf ?_
    refine th_n ?_
    refine wp_ret ?_
    refine th_r ?_
    obtain rfl := Option.some.inj h
    have hp : Hp _ _ _ (ow) := Hp.sel (pre := [Res.obj 74 v1 [.int .i64 g0_Re, .int .i64 g0_Im]]) (tail := ow) (rs' := []) hp [] (by decide) (by simp) rfl
    exact ⟨rfl, ⟨hf.sub ⟨rfl, rfl, trivial⟩, hp⟩⟩
  replace h := ifF h hb
  refine wp_skip ?_
  refine th_n ?_
  refine wp_seq ?_
  refine wp_reg ?_
  refine st_assign hf rfl rfl (by decide) ?_
  clear hf; intro a ha hf; clear ha
  refine st_nil hf ?_
  refine th_n ?_
  refine wp_block ?_
  obtain ⟨q12, hl, h⟩ := bnd h
  refine wp_loop_pure (f := f_foghornref03_Depth.s1) (s := (g0_Re, g0_Im, (0 : Int))) (fun s a w => Fr 24 a [(1, optr v1 0), (4, .int .i64 s.2.2)] ∧ Hp S w0 w (Res.obj 74 v1 [.int .i64 s.1, .int .i64 s.2.1] :: ow)) (fun q e a w => e = .ret ∧ Fr 24 a [(2, .int .i64 q.1), (3, .int .i64 q.2)] ∧ Hp S w0 w (ow)) ?_ hl ⟨hf.sub ⟨rfl, rfl, trivial⟩, hp⟩ ?_
  · clear hl hf hp
    intro s x a w h hI
    obtain ⟨g1c_0, g1c_1, n4⟩ := s
    obtain ⟨hf, hp⟩ : Fr 24 a [(1, optr v1 0), (4, .int .i64 n4)] ∧ Hp S w0 w (Res.obj 74 v1 [.int .i64 g1c_0, .int .i64 g1c_1] :: ow) := hI
    replace h : f_foghornref03_Depth.s1c g1c_0 g1c_1 n4 = some x := h
    unfold f_foghornref03_Depth.s1c at h
    refine wp_block ?_
    refine wp_seq ?_
    refine wp_reg ?_
    refine st_ldOA (m := 2) (us := [.int .i64 g1c_0, .int .i64 g1c_1]) hf (by decide) (by kernel_rfl) rfl rfl (hp.ob (i := 0) rfl) rfl rfl ?_
    clear hf; intro a ha hf; clear ha
    obtain ⟨q8, hcall9, h⟩ := bnd h
    refine st_call hf (by decide) Try.func67 rfl rfl rfl rfl rfl (f_foghornref03_step_c hp _ _ hcall9) ?_
    rintro _ w ⟨rfl, hp0⟩
    clear hp; have hp := hp0; clear hp0
    replace hp : Hp _ _ _ (Res.obj 74 v1 [.int .i64 g1c_0, .int .i64 g1c_1] :: ow) := hp
    refine ⟨_, rfl, ?_⟩
    clear hf; intro a hf
    refine st_move hf rfl rfl (by decide) ?_
    clear hf; intro a ha hf; clear ha
    refine st_extract hf (by decide) rfl rfl rfl ?_
    clear hf; intro a ha hf; clear ha
    refine st_extract hf (by decide) rfl rfl rfl ?_
    clear hf; intro a ha hf; clear ha
    refine st_alloc (cs := [.int .i64 (0 : Int), .int .i64 (0 : Int)]) (zv := .agg #[.int .i64 (0 : Int), .int .i64 (0 : Int)]) hf (by decide) (by kernel_rfl) rfl hp rfl ?_
    clear hf; intro a w v10 hf hp0; clear hp; have hp := hp0; clear hp0
    replace hp : Hp _ _ _ (Res.obj 74 v10 [.int .i64 (0 : Int), .int .i64 (0 : Int)] :: Res.obj 74 v1 [.int .i64 g1c_0, .int .i64 g1c_1] :: ow) := hp
    refine st_assign hf rfl rfl (by decide) ?_
    clear hf; intro a ha hf; clear ha
    refine st_stO (us := [.int .i64 q8.2.1, .int .i64 q8.2.2]) hf hp (i := 0) rfl rfl rfl rfl rfl (by rfl) (by kernel_rfl) (Nat.le_of_ble_eq_true rfl) ?_
    clear hf; intro a w hf hp0; clear hp; have hp := hp0; clear hp0
    replace hp : Hp _ _ _ (Res.obj 74 v10 [.int .i64 q8.2.1, .int .i64 q8.2.2] :: Res.obj 74 v1 [.int .i64 g1c_0, .int .i64 g1c_1] :: ow) := hp
    refine st_nil hf ?_
    refine th_n ?_
    refine wp_seq ?_
    refine wp_seq ?_
    refine wp_reg ?_
    refine st_move hf rfl rfl (by decide) ?_
    clear hf; intro a ha hf; clear ha
    refine st_ieql hf (by decide) rfl rfl rfl ?_
    clear hf; intro a ha hf; clear ha
    refine st_nil hf ?_
    refine th_n ?_
    refine wp_if hf rfl (fun hb => ?_) (fun hb => ?_)
    · replace h := ifT h hb
      refine wp_seq ?_
      refine wp_reg ?_
      refine st_move hf rfl rfl (by decide) ?_
      clear hf; intro a ha hf; clear ha
      refine st_assign hf rfl rfl (by decide) ?_
      clear hf; intro a ha hf; clear ha
      refine st_assign hf rfl rfl (by decide) ?_
      clear hf; intro a ha hf; clear ha
      refine st_nil hf ?_
      refine th_n ?_
      refine wp_ret ?_
      refine th_r ?_
      refine ib_r ?_
      obtain rfl := Option.some.inj h
      have hp : Hp _ _ _ (ow) := Hp.sel (pre := [Res.obj 74 v10 [.int .i64 q8.2.1, .int .i64 q8.2.2], Res.obj 74 v1 [.int .i64 g1c_0, .int .i64 g1c_1]]) (tail := ow) (rs' := []) hp [] (by decide) (by simp) rfl
      exact rnd_r (by simp) ⟨rfl, ⟨hf.sub ⟨rfl, rfl, trivial⟩, hp⟩⟩
    replace h := ifF h hb
    refine wp_skip ?_
    refine th_n ?_
    refine wp_seq ?_
    refine wp_reg ?_
    refine st_ldOA (m := 2) (us := [.int .i64 q8.2.1, .int .i64 q8.2.2]) hf (by decide) (by kernel_rfl) rfl rfl (hp.ob (i := 0) rfl) rfl rfl ?_
    clear hf; intro a ha hf; clear ha
    refine st_stO (us := [.int .i64 q8.2.1, .int .i64 q8.2.2]) hf hp (i := 1) rfl rfl rfl rfl rfl (by rfl) (by kernel_rfl) (Nat.le_of_ble_eq_true rfl) ?_
    clear hf; intro a w hf hp0; clear hp; have hp := hp0; clear hp0
    replace hp : Hp _ _ _ (Res.obj 74 v10 [.int .i64 q8.2.1, .int .i64 q8.2.2] :: Res.obj 74 v1 [.int .i64 q8.2.1, .int .i64 q8.2.2] :: ow) := hp
    refine st_nil hf ?_
    refine th_n ?_
    refine wp_reg ?_
    refine st_move hf rfl rfl (by decide) ?_
    clear hf; intro a ha hf; clear ha
    refine st_iadd hf (by decide) rfl rfl rfl ?_
    clear hf; intro a ha hf; clear ha
    refine st_assign hf rfl rfl (by decide) ?_
    clear hf; intro a ha hf; clear ha
    refine st_nil hf ?_
    refine ib_n ?_
    obtain rfl := Option.some.inj h
    have hp : Hp _ _ _ (Res.obj 74 v1 [.int .i64 q8.2.1, .int .i64 q8.2.2] :: ow) := Hp.sel (pre := [Res.obj 74 v10 [.int .i64 q8.2.1, .int .i64 q8.2.2], Res.obj 74 v1 [.int .i64 q8.2.1, .int .i64 q8.2.2]]) (tail := ow) (rs' := [Res.obj 74 v1 [.int .i64 q8.2.1, .int .i64 q8.2.2]]) hp [1] (by decide) (by simp) rfl
    exact rnd_l ⟨hf.sub ⟨rfl, rfl, trivial⟩, hp⟩
  clear hl hf hp
  intro e a w hne hO
  obtain ⟨rfl, hf, hp⟩ := hO
  refine ib_r ?_
  obtain rfl := Option.some.inj h
  exact ⟨rfl, ⟨hf.sub ⟨rfl, rfl, trivial⟩, hp⟩⟩

noncomputable def f_foghornlaw03_number (p0_0 : Fl) (p0_1 : Fl) : Option (Fl × Fl) := (some (p0_0, p0_1))
theorem f_foghornlaw03_number_c {S : Nat → Prop} {w0 w : World} {ow : List Res} (hp : Hp S w0 w ow) (bp0_0 : Nat) (p0_0 : Fl) (hp0_0 : p0_0.rep bp0_0) (bp0_1 : Nat) (p0_1 : Fl) (hp0_1 : p0_1.rep bp0_1) {r : (Fl × Fl)} (h : f_foghornlaw03_number p0_0 p0_1 = some r) :
    Calls Try.prog 11 #[.agg #[.float .f64 bp0_0, .float .f64 bp0_1]] w (fun e w' => ∃ (b0 : Nat) (b1 : Nat), e = .returned (.complex .f64 b0 b1) ∧ Fl.rep b0 r.1 ∧ Fl.rep b1 r.2 ∧ Hp S w0 w' (ow)) := by
  unfold f_foghornlaw03_number at h
  refine enter (n := 8) (args := [.agg #[.float .f64 bp0_0, .float .f64 bp0_1]]) Try.func11 rfl rfl (Nat.le_of_ble_eq_true rfl) fun a hf => ?_
  replace hf : Fr 8 a [(0, .agg #[.float .f64 bp0_0, .float .f64 bp0_1])] := hf
  refine wp_mono (Q := fun e a w => e = .ret ∧ ∃ (b0 : Nat) (b1 : Nat), Fr 8 a [(2, .complex .f64 b0 b1)] ∧ Fl.rep b0 r.1 ∧ Fl.rep b1 r.2 ∧ Hp S w0 w (ow)) ?_ ?_
  rotate_left
  · rintro e a w ⟨rfl, x0, x1, hf, y0, y1, hp⟩
    exact ret1 hf rfl rfl ⟨x0, x1, rfl, y0, y1, hp⟩
  refine wp_seq ?_
  refine wp_reg ?_
  refine st_boxO (cs := [.float .f64 bp0_0, .float .f64 bp0_1]) hf (by decide) hp rfl rfl rfl ?_
  clear hf; intro a w v1 hf hp0; clear hp; have hp := hp0; clear hp0
  replace hp : Hp _ _ _ (Res.obj 23 v1 [.float .f64 bp0_0, .float .f64 bp0_1] :: ow) := hp
  refine st_assign hf rfl rfl (by decide) ?_
  clear hf; intro a ha hf; clear ha
  refine st_nil hf ?_
  refine th_n ?_
  refine wp_seq ?_
  refine wp_reg ?_
  refine st_ia (o' := 0) hf (by decide) Try.underlying23 (sz := 1) (by kernel_rfl) rfl rfl rfl (hp.ob (i := 0) rfl) (by decide) (by decide) rfl ?_
  clear hf; intro a ha hf; clear ha
  refine st_ldO (u := .float .f64 bp0_0) hf (by decide) pl22 rfl rfl (hp.ob (i := 0) rfl) rfl ?_
  clear hf; intro a ha hf; clear ha
  refine st_ia (o' := 1) hf (by decide) Try.underlying23 (sz := 1) (by kernel_rfl) rfl rfl rfl (hp.ob (i := 0) rfl) (by decide) (by decide) rfl ?_
  clear hf; intro a ha hf; clear ha
  refine st_ldO (u := .float .f64 bp0_1) hf (by decide) pl22 rfl rfl (hp.ob (i := 0) rfl) rfl ?_
  clear hf; intro a ha hf; clear ha
  refine st_complex hf (by decide) rfl rfl rfl ?_
  clear hf; intro a ha hf; clear ha
  refine st_assign hf rfl rfl (by decide) ?_
  clear hf; intro a ha hf; clear ha
  refine st_nil hf ?_
  refine th_n ?_
  refine wp_ret ?_
  obtain rfl := Option.some.inj h
  have hp : Hp _ _ _ (ow) := Hp.sel (pre := [Res.obj 23 v1 [.float .f64 bp0_0, .float .f64 bp0_1]]) (tail := ow) (rs' := []) hp [] (by decide) (by simp) rfl
  exact ⟨rfl, ⟨_, _, hf.sub ⟨rfl, trivial⟩, hp0_0, hp0_1, hp⟩⟩

noncomputable def f_math_Abs (xx0 : Fl) : Option Fl := ((fbits xx0).bind fun q1 => (some (Fl.bits ((iandn .u64 q1 (9223372036854775808 : Int))).toNat)))
theorem f_math_Abs_c {S : Nat → Prop} {w0 w : World} {ow : List Res} (hp : Hp S w0 w ow) (bxx0 : Nat) (xx0 : Fl) (hxx0 : xx0.rep bxx0) {r : Fl} (h : f_math_Abs xx0 = some r) :
    Calls Try.prog 61 #[.float .f64 bxx0] w (fun e w' => ∃ (b0 : Nat), e = .returned (.float .f64 b0) ∧ Fl.rep b0 r ∧ Hp S w0 w' (ow)) := by
  unfold f_math_Abs at h
  refine enter (n := 7) (args := [.float .f64 bxx0]) Try.func61 rfl rfl (Nat.le_of_ble_eq_true rfl) fun a hf => ?_
  replace hf : Fr 7 a [(0, .float .f64 bxx0)] := hf
  refine wp_mono (Q := fun e a w => e = .ret ∧ ∃ (b0 : Nat), Fr 7 a [(2, .float .f64 b0)] ∧ Fl.rep b0 r ∧ Hp S w0 w (ow)) ?_ ?_
  rotate_left
  · rintro e a w ⟨rfl, x0, hf, y0, hp⟩
    exact ret1 hf rfl rfl ⟨x0, rfl, y0, hp⟩
  refine wp_seq ?_
  refine wp_reg ?_
  refine st_assign hf rfl rfl (by decide) ?_
  clear hf; intro a ha hf; clear ha
  refine st_nil hf ?_
  refine th_n ?_
  refine wp_seq ?_
  refine wp_reg ?_
  refine st_move hf rfl rfl (by decide) ?_
  clear hf; intro a ha hf; clear ha
  obtain ⟨q1, hq2, h⟩ := bnd h
  refine st_extern (ex := Extern.MathFloatBits.float64bits) (r := .int .u64 (bxx0 : Int)) (f := 73) (vs := [.float .f64 bxx0]) hf (by decide) Try.func73 rfl rfl (by kernel_rfl) (by kernel_rfl) rfl rfl rfl rfl ?_
  clear hf; intro a ha hf; clear ha
  have he3 := fbits_rep hxx0 hq2; rw [← he3] at hf
  refine st_iandn hf (by decide) rfl rfl rfl ?_
  clear hf; intro a ha hf; clear ha
  refine st_extern (ex := Extern.MathFloatBits.float64frombits) (r := .float .f64 ((iandn .u64 q1 (9223372036854775808 : Int))).toNat) (f := 72) (vs := [.int .u64 (iandn .u64 q1 (9223372036854775808 : Int))]) hf (by decide) Try.func72 rfl rfl (by kernel_rfl) (by kernel_rfl) rfl rfl rfl rfl ?_
  clear hf; intro a ha hf; clear ha
  refine st_assign hf rfl rfl (by decide) ?_
  clear hf; intro a ha hf; clear ha
  refine st_nil hf ?_
  refine th_n ?_
  refine wp_ret ?_
  obtain rfl := Option.some.inj h
  exact ⟨rfl, ⟨_, hf.sub ⟨rfl, trivial⟩, rfl, hp⟩⟩

noncomputable def f_math_Trunc (xx0 : Fl) : Option Fl := (some (fint Ieee.Toward.zero xx0))
theorem f_math_Trunc_c {S : Nat → Prop} {w0 w : World} {ow : List Res} (hp : Hp S w0 w ow) (bxx0 : Nat) (xx0 : Fl) (hxx0 : xx0.rep bxx0) {r : Fl} (h : f_math_Trunc xx0 = some r) :
    Calls Try.prog 62 #[.float .f64 bxx0] w (fun e w' => ∃ (b0 : Nat), e = .returned (.float .f64 b0) ∧ Fl.rep b0 r ∧ Hp S w0 w' (ow)) := by
  unfold f_math_Trunc at h
  refine enter (n := 7) (args := [.float .f64 bxx0]) Try.func62 rfl rfl (Nat.le_of_ble_eq_true rfl) fun a hf => ?_
  replace hf : Fr 7 a [(0, .float .f64 bxx0)] := hf
  refine wp_mono (Q := fun e a w => e = .ret ∧ ∃ (b0 : Nat), Fr 7 a [(2, .float .f64 b0)] ∧ Fl.rep b0 r ∧ Hp S w0 w (ow)) ?_ ?_
  rotate_left
  · rintro e a w ⟨rfl, x0, hf, y0, hp⟩
    exact ret1 hf rfl rfl ⟨x0, rfl, y0, hp⟩
  refine wp_seq ?_
  refine wp_reg ?_
  refine st_assign hf rfl rfl (by decide) ?_
  clear hf; intro a ha hf; clear ha
  refine st_nil hf ?_
  refine th_n ?_
  refine wp_seq ?_
  refine wp_if hf rfl (fun hb => ?_) (fun hb => ?_)
  rotate_left
  · exact absurd hb (by decide)
  refine wp_seq ?_
  refine wp_reg ?_
  refine st_move hf rfl rfl (by decide) ?_
  clear hf; intro a ha hf; clear ha
  refine st_fint (fx := xx0) (nm := "math.archTrunc") (way := Ieee.Toward.zero) (f := 74) hf (by decide) hp Try.func74 rfl rfl (by kernel_rfl) (by kernel_rfl) rfl rfl rfl hxx0 ?_
  clear hf; intro a w bb1 y2 hf hp0; clear hp; have hp := hp0; clear hp0
  replace hp : Hp _ _ _ (ow) := hp
  refine st_assign hf rfl rfl (by decide) ?_
  clear hf; intro a ha hf; clear ha
  refine st_nil hf ?_
  refine th_n ?_
  refine wp_ret ?_
  refine th_r ?_
  obtain rfl := Option.some.inj h
  exact ⟨rfl, ⟨_, hf.sub ⟨rfl, trivial⟩, y2, hp⟩⟩

noncomputable def f_plane_Whole_1 (xx0 : Fl) : Option Bool := ((f_math_Abs xx0).bind fun q1 => ((if (fle q1 (Fl.bits 4742290407621132288)) = true then ((f_math_Trunc xx0).bind fun q8 => (some (feq q8 xx0))) else (some false)).bind fun z7 => (some z7)))
theorem f_plane_Whole_1_c {S : Nat → Prop} {w0 w : World} {ow : List Res} (hp : Hp S w0 w ow) (bxx0 : Nat) (xx0 : Fl) (hxx0 : xx0.rep bxx0) {r : Bool} (h : f_plane_Whole_1 xx0 = some r) :
    Calls Try.prog 60 #[.float .f64 bxx0] w (fun e w' => e = .returned (.bool r) ∧ Hp S w0 w' (ow)) := by
  unfold f_plane_Whole_1 at h
  refine enter (n := 12) (args := [.float .f64 bxx0]) Try.func60 rfl rfl (Nat.le_of_ble_eq_true rfl) fun a hf => ?_
  replace hf : Fr 12 a [(0, .float .f64 bxx0)] := hf
  refine wp_mono (Q := fun e a w => e = .ret ∧ Fr 12 a [(2, .bool r)] ∧ Hp S w0 w (ow)) ?_ ?_
  rotate_left
  · rintro e a w ⟨rfl, hf, hp⟩
    exact ret1 hf rfl rfl ⟨rfl, hp⟩
  refine wp_seq ?_
  refine wp_reg ?_
  refine st_assign hf rfl rfl (by decide) ?_
  clear hf; intro a ha hf; clear ha
  refine st_nil hf ?_
  refine th_n ?_
  refine wp_seq ?_
  refine wp_reg ?_
  refine st_move hf rfl rfl (by decide) ?_
  clear hf; intro a ha hf; clear ha
  obtain ⟨q1, hcall2, h⟩ := bnd h
  refine st_call hf (by decide) Try.func61 rfl rfl rfl rfl rfl (f_math_Abs_c hp _ _ (show Fl.rep bxx0 xx0 from hxx0) hcall2) ?_
  rintro _ w ⟨v3, rfl, y4, hp0⟩
  clear hp; have hp := hp0; clear hp0
  replace hp : Hp _ _ _ (ow) := hp
  refine ⟨_, rfl, ?_⟩
  clear hf; intro a hf
  refine st_fcmp (r_fle (fx := q1) (fy := (Fl.bits 4742290407621132288)) y4 rfl) hf (by decide) rfl rfl rfl ?_
  clear hf; intro a ha hf; clear ha
  refine st_move hf rfl rfl (by decide) ?_
  clear hf; intro a ha hf; clear ha
  obtain ⟨z7, hz5, h⟩ := bnd h
  refine wpList_cut 5 (fun a w => Fr 12 a [(11, .bool z7)] ∧ Hp S w0 w (ow)) ?_ ?_
  · rcases Bool.eq_false_or_eq_true (fle q1 (Fl.bits 4742290407621132288)) with hb6 | hb6
    · skip
      replace hz5 := ifT hz5 hb6
      refine st_move hf (wantY hf rfl rfl hb6) rfl (by decide) ?_
      clear hf; intro a ha hf; clear ha
      obtain ⟨q8, hcall9, hz5⟩ := bnd hz5
      refine st_call hf (by decide) Try.func62 rfl rfl (wantY hf rfl rfl hb6) rfl rfl (f_math_Trunc_c hp _ _ (show Fl.rep bxx0 xx0 from hxx0) hcall9) ?_
      rintro _ w ⟨v10, rfl, y11, hp0⟩
      clear hp; have hp := hp0; clear hp0
      replace hp : Hp _ _ _ (ow) := hp
      refine ⟨_, rfl, ?_⟩
      clear hf; intro a hf
      refine st_move hf (wantY hf rfl rfl hb6) rfl (by decide) ?_
      clear hf; intro a ha hf; clear ha
      refine st_fcmp (r_feq (fx := q8) (fy := xx0) y11 hxx0) hf (by decide) (wantY hf rfl rfl hb6) rfl rfl ?_
      clear hf; intro a ha hf; clear ha
      obtain rfl := Option.some.inj hz5
      refine st_pick (v := .bool (feq q8 xx0)) hf rfl rfl (fun hb' => ?_) (fun hb' => ?_) (by decide) ?_
      · rfl
      · exact absurd (hb6.symm.trans hb') (by decide)
      clear hf; intro a ha hf; clear ha
      refine st_nil hf (th_n ?_)
      exact ⟨hf.sub ⟨rfl, trivial⟩, hp⟩
    replace hz5 := ifF hz5 hb6
    refine st_skip hf (wantN hf rfl rfl hb6) rfl (by decide) ?_ rfl
    clear hf; intro a hf
    refine st_skip hf (wantN hf rfl rfl hb6) rfl (by decide) ?_ rfl
    clear hf; intro a hf
    refine st_skip hf (wantN hf rfl rfl hb6) rfl (by decide) ?_ rfl
    clear hf; intro a hf
    refine st_skip hf (wantN hf rfl rfl hb6) rfl (by decide) ?_ rfl
    clear hf; intro a hf
    obtain rfl := Option.some.inj hz5
    refine st_pick (v := .bool false) hf rfl rfl (fun hb' => ?_) (fun hb' => ?_) (by decide) ?_
    · exact absurd (hb6.symm.trans hb') (by decide)
    · rfl
    clear hf; intro a ha hf; clear ha
    refine st_nil hf (th_n ?_)
    exact ⟨hf.sub ⟨rfl, trivial⟩, hp⟩
  rintro a w ⟨hf, hp⟩
  refine st_assign hf rfl rfl (by decide) ?_
  clear hf; intro a ha hf; clear ha
  refine st_nil hf ?_
  refine th_n ?_
  refine wp_ret ?_
  obtain rfl := Option.some.inj h
  exact ⟨rfl, ⟨hf.sub ⟨rfl, trivial⟩, hp⟩⟩

noncomputable def f_plane_Whole (zx0 : (Fl × Fl)) : Option ((Int × Int) × Int) := ((f_plane_Whole_1 zx0.1).bind fun q3 => ((if (!q3) = true then (some true) else ((f_plane_Whole_1 zx0.2).bind fun q8 => (some (!q8)))).bind fun z7 => (if z7 = true then (some (((0 : Int), (0 : Int)), (1 : Int))) else ((ftoi .i64 zx0.1).bind fun q10 => ((ftoi .i64 zx0.2).bind fun q12 => (some ((q10, q12), (0 : Int))))))))
theorem f_plane_Whole_c {S : Nat → Prop} {w0 w : World} {ow : List Res} (hp : Hp S w0 w ow) (bzx0 czx0 : Nat) (zx0 : Fl × Fl) (hzx0 : zx0.1.rep bzx0) (kzx0 : zx0.2.rep czx0) {r : ((Int × Int) × Int)} (h : f_plane_Whole zx0 = some r) :
    Calls Try.prog 39 #[.complex .f64 bzx0 czx0] w (fun e w' => e = .returned (.tuple #[.agg #[.int .i64 r.1.1, .int .i64 r.1.2], .int .i64 r.2]) ∧ Hp S w0 w' (ow)) := by
  unfold f_plane_Whole at h
  refine enter (n := 25) (args := [.complex .f64 bzx0 czx0]) Try.func39 rfl rfl (Nat.le_of_ble_eq_true rfl) fun a hf => ?_
  replace hf : Fr 25 a [(0, .complex .f64 bzx0 czx0)] := hf
  refine wp_mono (Q := fun e a w => e = .ret ∧ ∃ (c0 : Value), Fr 25 a [(2, optr c0 0), (3, .int .i64 r.2)] ∧ Hp S w0 w (Res.obj 56 c0 [.int .i64 r.1.1, .int .i64 r.1.2] :: ow)) ?_ ?_
  rotate_left
  · rintro e a w ⟨rfl, c0, hf, hp⟩
    exact retG2 hf rfl ⟨_, _, rfl, hp.ob (i := 0) rfl, .inr ⟨by kernel_rfl, rfl⟩⟩ rfl ⟨rfl, hp.drop⟩
  refine wp_seq ?_
  refine wp_reg ?_
  refine st_alloc (cs := [.int .i64 (0 : Int), .int .i64 (0 : Int)]) (zv := .agg #[.int .i64 (0 : Int), .int .i64 (0 : Int)]) hf (by decide) (by kernel_rfl) rfl hp rfl ?_
  clear hf; intro a w v1 hf hp0; clear hp; have hp := hp0; clear hp0
  replace hp : Hp _ _ _ (Res.obj 56 v1 [.int .i64 (0 : Int), .int .i64 (0 : Int)] :: ow) := hp
  refine st_assign hf rfl rfl (by decide) ?_
  clear hf; intro a ha hf; clear ha
  refine st_nil hf ?_
  refine th_n ?_
  refine wp_seq ?_
  refine wp_reg ?_
  refine st_assign hf rfl rfl (by decide) ?_
  clear hf; intro a ha hf; clear ha
  refine st_nil hf ?_
  refine th_n ?_
  refine wp_seq ?_
  refine wp_seq ?_
  refine wp_reg ?_
  refine st_move hf rfl rfl (by decide) ?_
  clear hf; intro a ha hf; clear ha
  refine st_move hf rfl rfl (by decide) ?_
  clear hf; intro a ha hf; clear ha
  refine st_real hf (by decide) rfl rfl ?_
  clear hf; intro a ha hf; clear ha
  obtain ⟨q3, hcall4, h⟩ := bnd h
  refine st_call hf (by decide) Try.func60 rfl rfl rfl rfl rfl (f_plane_Whole_1_c hp _ _ (show Fl.rep bzx0 zx0.1 from hzx0) hcall4) ?_
  rintro _ w ⟨rfl, hp0⟩
  clear hp; have hp := hp0; clear hp0
  replace hp : Hp _ _ _ (Res.obj 56 v1 [.int .i64 (0 : Int), .int .i64 (0 : Int)] :: ow) := hp
  refine ⟨_, rfl, ?_⟩
  clear hf; intro a hf
  refine st_not hf (by decide) rfl rfl ?_
  clear hf; intro a ha hf; clear ha
  refine st_move hf rfl rfl (by decide) ?_
  clear hf; intro a ha hf; clear ha
  obtain ⟨z7, hz5, h⟩ := bnd h
  refine wpList_cut 6 (fun a w => Fr 25 a [(0, .complex .f64 bzx0 czx0), (2, optr v1 0), (16, .bool z7)] ∧ Hp S w0 w (Res.obj 56 v1 [.int .i64 (0 : Int), .int .i64 (0 : Int)] :: ow)) ?_ ?_
  · rcases Bool.eq_false_or_eq_true (!q3) with hb6 | hb6
    · skip
      replace hz5 := ifT hz5 hb6
      refine st_skip hf (wantN hf rfl rfl hb6) rfl (by decide) ?_ rfl
      clear hf; intro a hf
      refine st_skip hf (wantN hf rfl rfl hb6) rfl (by decide) ?_ rfl
      clear hf; intro a hf
      refine st_skip hf (wantN hf rfl rfl hb6) rfl (by decide) ?_ rfl
      clear hf; intro a hf
      refine st_skip hf (wantN hf rfl rfl hb6) rfl (by decide) ?_ rfl
      clear hf; intro a hf
      refine st_skip hf (wantN hf rfl rfl hb6) rfl (by decide) ?_ rfl
      clear hf; intro a hf
      obtain rfl := Option.some.inj hz5
      refine st_pick (v := .bool true) hf rfl rfl (fun hb' => ?_) (fun hb' => ?_) (by decide) ?_
      · rfl
      · exact absurd (hb6.symm.trans hb') (by decide)
      clear hf; intro a ha hf; clear ha
      refine st_nil hf (th_n ?_)
      exact ⟨hf.sub ⟨rfl, rfl, rfl, trivial⟩, hp⟩
    replace hz5 := ifF hz5 hb6
    refine st_move hf (wantY hf rfl rfl hb6) rfl (by decide) ?_
    clear hf; intro a ha hf; clear ha
    refine st_move hf (wantY hf rfl rfl hb6) rfl (by decide) ?_
    clear hf; intro a ha hf; clear ha
    refine st_imag hf (by decide) (wantY hf rfl rfl hb6) rfl ?_
    clear hf; intro a ha hf; clear ha
    obtain ⟨q8, hcall9, hz5⟩ := bnd hz5
    refine st_call hf (by decide) Try.func60 rfl rfl (wantY hf rfl rfl hb6) rfl rfl (f_plane_Whole_1_c hp _ _ (show Fl.rep czx0 zx0.2 from kzx0) hcall9) ?_
    rintro _ w ⟨rfl, hp0⟩
    clear hp; have hp := hp0; clear hp0
    replace hp : Hp _ _ _ (Res.obj 56 v1 [.int .i64 (0 : Int), .int .i64 (0 : Int)] :: ow) := hp
    refine ⟨_, rfl, ?_⟩
    clear hf; intro a hf
    refine st_not hf (by decide) (wantY hf rfl rfl hb6) rfl ?_
    clear hf; intro a ha hf; clear ha
    obtain rfl := Option.some.inj hz5
    refine st_pick (v := .bool (!q8)) hf rfl rfl (fun hb' => ?_) (fun hb' => ?_) (by decide) ?_
    · exact absurd (hb6.symm.trans hb') (by decide)
    · rfl
    clear hf; intro a ha hf; clear ha
    refine st_nil hf (th_n ?_)
    exact ⟨hf.sub ⟨rfl, rfl, rfl, trivial⟩, hp⟩
  rintro a w ⟨hf, hp⟩
  refine st_nil hf ?_
  refine th_n ?_
  refine wp_if hf rfl (fun hb => ?_) (fun hb => ?_)
  · replace h := ifT h hb
    refine wp_seq ?_
    refine wp_reg ?_
    refine st_buildA (vals := []) (cells := [.int .i64 (0 : Int), .int .i64 (0 : Int)]) hf (by decide) rfl (by simp []) (fun w => by kernel_rfl) ?_
    clear hf; intro a ha hf; clear ha
    refine st_stO (us := [.int .i64 (0 : Int), .int .i64 (0 : Int)]) hf hp (i := 0) rfl rfl rfl rfl rfl (by rfl) (by kernel_rfl) (Nat.le_of_ble_eq_true rfl) ?_
    clear hf; intro a w hf hp0; clear hp; have hp := hp0; clear hp0
    replace hp : Hp _ _ _ (Res.obj 56 v1 [.int .i64 (0 : Int), .int .i64 (0 : Int)] :: ow) := hp
    refine st_assign hf rfl rfl (by decide) ?_
    clear hf; intro a ha hf; clear ha
    refine st_nil hf ?_
    refine th_n ?_
    refine wp_ret ?_
    refine th_r ?_
    obtain rfl := Option.some.inj h
    exact ⟨rfl, ⟨_, hf.sub ⟨rfl, rfl, trivial⟩, hp⟩⟩
  replace h := ifF h hb
  refine wp_skip ?_
  refine th_n ?_
  refine wp_seq ?_
  refine wp_reg ?_
  refine st_move hf rfl rfl (by decide) ?_
  clear hf; intro a ha hf; clear ha
  refine st_real hf (by decide) rfl rfl ?_
  clear hf; intro a ha hf; clear ha
  obtain ⟨q10, hq11, h⟩ := bnd h
  refine st_conv_fi (by rw [Try.underlying22]; rfl) Try.underlying2 hf (by decide) rfl rfl (show Fl.rep bzx0 zx0.1 from hzx0) hq11 ?_
  clear hf; intro a ha hf; clear ha
  refine st_move hf rfl rfl (by decide) ?_
  clear hf; intro a ha hf; clear ha
  refine st_imag hf (by decide) rfl rfl ?_
  clear hf; intro a ha hf; clear ha
  obtain ⟨q12, hq13, h⟩ := bnd h
  refine st_conv_fi (by rw [Try.underlying22]; rfl) Try.underlying2 hf (by decide) rfl rfl (show Fl.rep czx0 zx0.2 from kzx0) hq13 ?_
  clear hf; intro a ha hf; clear ha
  refine st_buildA (vals := [(0, .int .i64 q10), (1, .int .i64 q12)]) (cells := [.int .i64 q10, .int .i64 q12]) hf (by decide) rfl (by simp [hf.ev (x := (Operand.tmp 20)) rfl, hf.ev (x := (Operand.tmp 23)) rfl]) (fun w => by kernel_rfl) ?_
  clear hf; intro a ha hf; clear ha
  refine st_stO (us := [.int .i64 q10, .int .i64 q12]) hf hp (i := 0) rfl rfl rfl rfl rfl (by rfl) (by kernel_rfl) (Nat.le_of_ble_eq_true rfl) ?_
  clear hf; intro a w hf hp0; clear hp; have hp := hp0; clear hp0
  replace hp : Hp _ _ _ (Res.obj 56 v1 [.int .i64 q10, .int .i64 q12] :: ow) := hp
  refine st_assign hf rfl rfl (by decide) ?_
  clear hf; intro a ha hf; clear ha
  refine st_nil hf ?_
  refine th_n ?_
  refine wp_ret ?_
  obtain rfl := Option.some.inj h
  exact ⟨rfl, ⟨_, hf.sub ⟨rfl, rfl, trivial⟩, hp⟩⟩

noncomputable def f_math_Floor (xx0 : Fl) : Option Fl := (some (fint Ieee.Toward.down xx0))
theorem f_math_Floor_c {S : Nat → Prop} {w0 w : World} {ow : List Res} (hp : Hp S w0 w ow) (bxx0 : Nat) (xx0 : Fl) (hxx0 : xx0.rep bxx0) {r : Fl} (h : f_math_Floor xx0 = some r) :
    Calls Try.prog 77 #[.float .f64 bxx0] w (fun e w' => ∃ (b0 : Nat), e = .returned (.float .f64 b0) ∧ Fl.rep b0 r ∧ Hp S w0 w' (ow)) := by
  unfold f_math_Floor at h
  refine enter (n := 7) (args := [.float .f64 bxx0]) Try.func77 rfl rfl (Nat.le_of_ble_eq_true rfl) fun a hf => ?_
  replace hf : Fr 7 a [(0, .float .f64 bxx0)] := hf
  refine wp_mono (Q := fun e a w => e = .ret ∧ ∃ (b0 : Nat), Fr 7 a [(2, .float .f64 b0)] ∧ Fl.rep b0 r ∧ Hp S w0 w (ow)) ?_ ?_
  rotate_left
  · rintro e a w ⟨rfl, x0, hf, y0, hp⟩
    exact ret1 hf rfl rfl ⟨x0, rfl, y0, hp⟩
  refine wp_seq ?_
  refine wp_reg ?_
  refine st_assign hf rfl rfl (by decide) ?_
  clear hf; intro a ha hf; clear ha
  refine st_nil hf ?_
  refine th_n ?_
  refine wp_seq ?_
  refine wp_if hf rfl (fun hb => ?_) (fun hb => ?_)
  rotate_left
  · exact absurd hb (by decide)
  refine wp_seq ?_
  refine wp_reg ?_
  refine st_move hf rfl rfl (by decide) ?_
  clear hf; intro a ha hf; clear ha
  refine st_fint (fx := xx0) (nm := "math.archFloor") (way := Ieee.Toward.down) (f := 79) hf (by decide) hp Try.func79 rfl rfl (by kernel_rfl) (by kernel_rfl) rfl rfl rfl hxx0 ?_
  clear hf; intro a w bb1 y2 hf hp0; clear hp; have hp := hp0; clear hp0
  replace hp : Hp _ _ _ (ow) := hp
  refine st_assign hf rfl rfl (by decide) ?_
  clear hf; intro a ha hf; clear ha
  refine st_nil hf ?_
  refine th_n ?_
  refine wp_ret ?_
  refine th_r ?_
  obtain rfl := Option.some.inj h
  exact ⟨rfl, ⟨_, hf.sub ⟨rfl, trivial⟩, y2, hp⟩⟩

noncomputable def f_foghornref03_whole (xx0 : Fl) : Option (Int × Bool) := ((if (!((fge xx0 (Fl.bits 13965662444475908096)) && (fle xx0 (Fl.bits 4742290407621132288)))) = true then (some true) else ((f_math_Floor xx0).bind fun q6 => (some (fne q6 xx0)))).bind fun z5 => (if z5 = true then (some ((0 : Int), false)) else ((ftoi .i64 xx0).bind fun q10 => (some (q10, true)))))
theorem f_foghornref03_whole_c {S : Nat → Prop} {w0 w : World} {ow : List Res} (hp : Hp S w0 w ow) (bxx0 : Nat) (xx0 : Fl) (hxx0 : xx0.rep bxx0) {r : (Int × Bool)} (h : f_foghornref03_whole xx0 = some r) :
    Calls Try.prog 68 #[.float .f64 bxx0] w (fun e w' => e = .returned (.tuple #[.int .i64 r.1, .bool r.2]) ∧ Hp S w0 w' (ow)) := by
  unfold f_foghornref03_whole at h
  refine enter (n := 19) (args := [.float .f64 bxx0]) Try.func68 rfl rfl (Nat.le_of_ble_eq_true rfl) fun a hf => ?_
  replace hf : Fr 19 a [(0, .float .f64 bxx0)] := hf
  refine wp_mono (Q := fun e a w => e = .ret ∧ Fr 19 a [(2, .int .i64 r.1), (3, .bool r.2)] ∧ Hp S w0 w (ow)) ?_ ?_
  rotate_left
  · rintro e a w ⟨rfl, hf, hp⟩
    exact ret2 hf rfl rfl rfl ⟨rfl, hp⟩
  refine wp_seq ?_
  refine wp_reg ?_
  refine st_assign hf rfl rfl (by decide) ?_
  clear hf; intro a ha hf; clear ha
  refine st_assign hf rfl rfl (by decide) ?_
  clear hf; intro a ha hf; clear ha
  refine st_nil hf ?_
  refine th_n ?_
  refine wp_seq ?_
  refine wp_seq ?_
  refine wp_reg ?_
  refine st_move hf rfl rfl (by decide) ?_
  clear hf; intro a ha hf; clear ha
  refine st_fcmp (r_fge (fx := xx0) (fy := (Fl.bits 13965662444475908096)) hxx0 rfl) hf (by decide) rfl rfl rfl ?_
  clear hf; intro a ha hf; clear ha
  refine st_move hf rfl rfl (by decide) ?_
  clear hf; intro a ha hf; clear ha
  refine wpList_cut 3 (fun a w => Fr 19 a [(0, .float .f64 bxx0), (9, .bool ((fge xx0 (Fl.bits 13965662444475908096)) && (fle xx0 (Fl.bits 4742290407621132288))))] ∧ Hp S w0 w (ow)) ?_ ?_
  · rcases Bool.eq_false_or_eq_true (fge xx0 (Fl.bits 13965662444475908096)) with hb2 | hb2
    · skip
      refine st_move hf (wantY hf rfl rfl hb2) rfl (by decide) ?_
      clear hf; intro a ha hf; clear ha
      refine st_fcmp (r_fle (fx := xx0) (fy := (Fl.bits 4742290407621132288)) hxx0 rfl) hf (by decide) (wantY hf rfl rfl hb2) rfl rfl ?_
      clear hf; intro a ha hf; clear ha
      refine st_pick (v := .bool (fle xx0 (Fl.bits 4742290407621132288))) hf rfl rfl (fun hb' => ?_) (fun hb' => ?_) (by decide) ?_
      · rfl
      · exact absurd (hb2.symm.trans hb') (by decide)
      clear hf; intro a ha hf; clear ha
      refine st_nil hf (th_n ?_)
      exact ⟨hf.sub ⟨rfl, (by rw [hb2]; rfl), trivial⟩, hp⟩
    refine st_skip hf (wantN hf rfl rfl hb2) rfl (by decide) ?_ rfl
    clear hf; intro a hf
    refine st_skip hf (wantN hf rfl rfl hb2) rfl (by decide) ?_ rfl
    clear hf; intro a hf
    refine st_pick (v := .bool false) hf rfl rfl (fun hb' => ?_) (fun hb' => ?_) (by decide) ?_
    · exact absurd (hb2.symm.trans hb') (by decide)
    · rfl
    clear hf; intro a ha hf; clear ha
    refine st_nil hf (th_n ?_)
    exact ⟨hf.sub ⟨rfl, (by rw [hb2]; rfl), trivial⟩, hp⟩
  rintro a w ⟨hf, hp⟩
  refine st_not hf (by decide) rfl rfl ?_
  clear hf; intro a ha hf; clear ha
  refine st_move hf rfl rfl (by decide) ?_
  clear hf; intro a ha hf; clear ha
  obtain ⟨z5, hz3, h⟩ := bnd h
  refine wpList_cut 5 (fun a w => Fr 19 a [(0, .float .f64 bxx0), (16, .bool z5)] ∧ Hp S w0 w (ow)) ?_ ?_
  · rcases Bool.eq_false_or_eq_true (!((fge xx0 (Fl.bits 13965662444475908096)) && (fle xx0 (Fl.bits 4742290407621132288)))) with hb4 | hb4
    · skip
      replace hz3 := ifT hz3 hb4
      refine st_skip hf (wantN hf rfl rfl hb4) rfl (by decide) ?_ rfl
      clear hf; intro a hf
      refine st_skip hf (wantN hf rfl rfl hb4) rfl (by decide) ?_ rfl
      clear hf; intro a hf
      refine st_skip hf (wantN hf rfl rfl hb4) rfl (by decide) ?_ rfl
      clear hf; intro a hf
      refine st_skip hf (wantN hf rfl rfl hb4) rfl (by decide) ?_ rfl
      clear hf; intro a hf
      obtain rfl := Option.some.inj hz3
      refine st_pick (v := .bool true) hf rfl rfl (fun hb' => ?_) (fun hb' => ?_) (by decide) ?_
      · rfl
      · exact absurd (hb4.symm.trans hb') (by decide)
      clear hf; intro a ha hf; clear ha
      refine st_nil hf (th_n ?_)
      exact ⟨hf.sub ⟨rfl, rfl, trivial⟩, hp⟩
    replace hz3 := ifF hz3 hb4
    refine st_move hf (wantY hf rfl rfl hb4) rfl (by decide) ?_
    clear hf; intro a ha hf; clear ha
    obtain ⟨q6, hcall7, hz3⟩ := bnd hz3
    refine st_call hf (by decide) Try.func77 rfl rfl (wantY hf rfl rfl hb4) rfl rfl (f_math_Floor_c hp _ _ (show Fl.rep bxx0 xx0 from hxx0) hcall7) ?_
    rintro _ w ⟨v8, rfl, y9, hp0⟩
    clear hp; have hp := hp0; clear hp0
    replace hp : Hp _ _ _ (ow) := hp
    refine ⟨_, rfl, ?_⟩
    clear hf; intro a hf
    refine st_move hf (wantY hf rfl rfl hb4) rfl (by decide) ?_
    clear hf; intro a ha hf; clear ha
    refine st_fcmp (r_fne (fx := q6) (fy := xx0) y9 hxx0) hf (by decide) (wantY hf rfl rfl hb4) rfl rfl ?_
    clear hf; intro a ha hf; clear ha
    obtain rfl := Option.some.inj hz3
    refine st_pick (v := .bool (fne q6 xx0)) hf rfl rfl (fun hb' => ?_) (fun hb' => ?_) (by decide) ?_
    · exact absurd (hb4.symm.trans hb') (by decide)
    · rfl
    clear hf; intro a ha hf; clear ha
    refine st_nil hf (th_n ?_)
    exact ⟨hf.sub ⟨rfl, rfl, trivial⟩, hp⟩
  rintro a w ⟨hf, hp⟩
  refine st_nil hf ?_
  refine th_n ?_
  refine wp_if hf rfl (fun hb => ?_) (fun hb => ?_)
  · replace h := ifT h hb
    refine wp_seq ?_
    refine wp_reg ?_
    refine st_assign hf rfl rfl (by decide) ?_
    clear hf; intro a ha hf; clear ha
    refine st_assign hf rfl rfl (by decide) ?_
    clear hf; intro a ha hf; clear ha
    refine st_nil hf ?_
    refine th_n ?_
    refine wp_ret ?_
    refine th_r ?_
    obtain rfl := Option.some.inj h
    exact ⟨rfl, ⟨hf.sub ⟨rfl, rfl, trivial⟩, hp⟩⟩
  replace h := ifF h hb
  refine wp_skip ?_
  refine th_n ?_
  refine wp_seq ?_
  refine wp_reg ?_
  refine st_move hf rfl rfl (by decide) ?_
  clear hf; intro a ha hf; clear ha
  obtain ⟨q10, hq11, h⟩ := bnd h
  refine st_conv_fi (by rw [Try.underlying22]; rfl) Try.underlying2 hf (by decide) rfl rfl (show Fl.rep bxx0 xx0 from hxx0) hq11 ?_
  clear hf; intro a ha hf; clear ha
  refine st_assign hf rfl rfl (by decide) ?_
  clear hf; intro a ha hf; clear ha
  refine st_assign hf rfl rfl (by decide) ?_
  clear hf; intro a ha hf; clear ha
  refine st_nil hf ?_
  refine th_n ?_
  refine wp_ret ?_
  obtain rfl := Option.some.inj h
  exact ⟨rfl, ⟨hf.sub ⟨rfl, rfl, trivial⟩, hp⟩⟩

noncomputable def f_foghornref03_Whole (zx0 : (Fl × Fl)) : Option ((Int × Int) × Int) := ((f_foghornref03_whole zx0.1).bind fun q3 => ((f_foghornref03_whole zx0.2).bind fun q5 => (if ((!q3.2) || (!q5.2)) = true then (some (((0 : Int), (0 : Int)), (1 : Int))) else (some ((q3.1, q5.1), (0 : Int))))))
theorem f_foghornref03_Whole_c {S : Nat → Prop} {w0 w : World} {ow : List Res} (hp : Hp S w0 w ow) (bzx0 czx0 : Nat) (zx0 : Fl × Fl) (hzx0 : zx0.1.rep bzx0) (kzx0 : zx0.2.rep czx0) {r : ((Int × Int) × Int)} (h : f_foghornref03_Whole zx0 = some r) :
    Calls Try.prog 49 #[.complex .f64 bzx0 czx0] w (fun e w' => e = .returned (.tuple #[.agg #[.int .i64 r.1.1, .int .i64 r.1.2], .int .i64 r.2]) ∧ Hp S w0 w' (ow)) := by
  unfold f_foghornref03_Whole at h
  refine enter (n := 30) (args := [.complex .f64 bzx0 czx0]) Try.func49 rfl rfl (Nat.le_of_ble_eq_true rfl) fun a hf => ?_
  replace hf : Fr 30 a [(0, .complex .f64 bzx0 czx0)] := hf
  refine wp_mono (Q := fun e a w => e = .ret ∧ ∃ (c0 : Value), Fr 30 a [(2, optr c0 0), (3, .int .i64 r.2)] ∧ Hp S w0 w (Res.obj 74 c0 [.int .i64 r.1.1, .int .i64 r.1.2] :: ow)) ?_ ?_
  rotate_left
  · rintro e a w ⟨rfl, c0, hf, hp⟩
    exact retG2 hf rfl ⟨_, _, rfl, hp.ob (i := 0) rfl, .inr ⟨by kernel_rfl, rfl⟩⟩ rfl ⟨rfl, hp.drop⟩
  refine wp_seq ?_
  refine wp_reg ?_
  refine st_alloc (cs := [.int .i64 (0 : Int), .int .i64 (0 : Int)]) (zv := .agg #[.int .i64 (0 : Int), .int .i64 (0 : Int)]) hf (by decide) (by kernel_rfl) rfl hp rfl ?_
  clear hf; intro a w v1 hf hp0; clear hp; have hp := hp0; clear hp0
  replace hp : Hp _ _ _ (Res.obj 74 v1 [.int .i64 (0 : Int), .int .i64 (0 : Int)] :: ow) := hp
  refine st_assign hf rfl rfl (by decide) ?_
  clear hf; intro a ha hf; clear ha
  refine st_nil hf ?_
  refine th_n ?_
  refine wp_seq ?_
  refine wp_reg ?_
  refine st_move hf rfl rfl (by decide) ?_
  clear hf; intro a ha hf; clear ha
  refine st_real hf (by decide) rfl rfl ?_
  clear hf; intro a ha hf; clear ha
  obtain ⟨q3, hcall4, h⟩ := bnd h
  refine st_call hf (by decide) Try.func68 rfl rfl rfl rfl rfl (f_foghornref03_whole_c hp _ _ (show Fl.rep bzx0 zx0.1 from hzx0) hcall4) ?_
  rintro _ w ⟨rfl, hp0⟩
  clear hp; have hp := hp0; clear hp0
  replace hp : Hp _ _ _ (Res.obj 74 v1 [.int .i64 (0 : Int), .int .i64 (0 : Int)] :: ow) := hp
  refine ⟨_, rfl, ?_⟩
  clear hf; intro a hf
  refine st_move hf rfl rfl (by decide) ?_
  clear hf; intro a ha hf; clear ha
  refine st_extract hf (by decide) rfl rfl rfl ?_
  clear hf; intro a ha hf; clear ha
  refine st_extract hf (by decide) rfl rfl rfl ?_
  clear hf; intro a ha hf; clear ha
  refine st_assign hf rfl rfl (by decide) ?_
  clear hf; intro a ha hf; clear ha
  refine st_assign hf rfl rfl (by decide) ?_
  clear hf; intro a ha hf; clear ha
  refine st_nil hf ?_
  refine th_n ?_
  refine wp_seq ?_
  refine wp_reg ?_
  refine st_move hf rfl rfl (by decide) ?_
  clear hf; intro a ha hf; clear ha
  refine st_imag hf (by decide) rfl rfl ?_
  clear hf; intro a ha hf; clear ha
  obtain ⟨q5, hcall6, h⟩ := bnd h
  refine st_call hf (by decide) Try.func68 rfl rfl rfl rfl rfl (f_foghornref03_whole_c hp _ _ (show Fl.rep czx0 zx0.2 from kzx0) hcall6) ?_
  rintro _ w ⟨rfl, hp0⟩
  clear hp; have hp := hp0; clear hp0
  replace hp : Hp _ _ _ (Res.obj 74 v1 [.int .i64 (0 : Int), .int .i64 (0 : Int)] :: ow) := hp
  refine ⟨_, rfl, ?_⟩
  clear hf; intro a hf
  refine st_move hf rfl rfl (by decide) ?_
  clear hf; intro a ha hf; clear ha
  refine st_extract hf (by decide) rfl rfl rfl ?_
  clear hf; intro a ha hf; clear ha
  refine st_extract hf (by decide) rfl rfl rfl ?_
  clear hf; intro a ha hf; clear ha
  refine st_assign hf rfl rfl (by decide) ?_
  clear hf; intro a ha hf; clear ha
  refine st_assign hf rfl rfl (by decide) ?_
  clear hf; intro a ha hf; clear ha
  refine st_nil hf ?_
  refine th_n ?_
  refine wp_seq ?_
  refine wp_seq ?_
  refine wp_reg ?_
  refine st_move hf rfl rfl (by decide) ?_
  clear hf; intro a ha hf; clear ha
  refine st_not hf (by decide) rfl rfl ?_
  clear hf; intro a ha hf; clear ha
  refine st_move hf rfl rfl (by decide) ?_
  clear hf; intro a ha hf; clear ha
  refine wpList_cut 3 (fun a w => Fr 30 a [(2, optr v1 0), (4, .int .i64 q3.1), (6, .int .i64 q5.1), (25, .bool ((!q3.2) || (!q5.2)))] ∧ Hp S w0 w (Res.obj 74 v1 [.int .i64 (0 : Int), .int .i64 (0 : Int)] :: ow)) ?_ ?_
  · rcases Bool.eq_false_or_eq_true (!q3.2) with hb8 | hb8
    · skip
      refine st_skip hf (wantN hf rfl rfl hb8) rfl (by decide) ?_ rfl
      clear hf; intro a hf
      refine st_skip hf (wantN hf rfl rfl hb8) rfl (by decide) ?_ rfl
      clear hf; intro a hf
      refine st_pick (v := .bool true) hf rfl rfl (fun hb' => ?_) (fun hb' => ?_) (by decide) ?_
      · rfl
      · exact absurd (hb8.symm.trans hb') (by decide)
      clear hf; intro a ha hf; clear ha
      refine st_nil hf (th_n ?_)
      exact ⟨hf.sub ⟨rfl, rfl, rfl, (by rw [hb8]; rfl), trivial⟩, hp⟩
    refine st_move hf (wantY hf rfl rfl hb8) rfl (by decide) ?_
    clear hf; intro a ha hf; clear ha
    refine st_not hf (by decide) (wantY hf rfl rfl hb8) rfl ?_
    clear hf; intro a ha hf; clear ha
    refine st_pick (v := .bool (!q5.2)) hf rfl rfl (fun hb' => ?_) (fun hb' => ?_) (by decide) ?_
    · exact absurd (hb8.symm.trans hb') (by decide)
    · rfl
    clear hf; intro a ha hf; clear ha
    refine st_nil hf (th_n ?_)
    exact ⟨hf.sub ⟨rfl, rfl, rfl, (by rw [hb8]; rfl), trivial⟩, hp⟩
  rintro a w ⟨hf, hp⟩
  refine st_nil hf ?_
  refine th_n ?_
  refine wp_if hf rfl (fun hb => ?_) (fun hb => ?_)
  · replace h := ifT h hb
    refine wp_seq ?_
    refine wp_reg ?_
    refine st_buildA (vals := []) (cells := [.int .i64 (0 : Int), .int .i64 (0 : Int)]) hf (by decide) rfl (by simp []) (fun w => by kernel_rfl) ?_
    clear hf; intro a ha hf; clear ha
    refine st_stO (us := [.int .i64 (0 : Int), .int .i64 (0 : Int)]) hf hp (i := 0) rfl rfl rfl rfl rfl (by rfl) (by kernel_rfl) (Nat.le_of_ble_eq_true rfl) ?_
    clear hf; intro a w hf hp0; clear hp; have hp := hp0; clear hp0
    replace hp : Hp _ _ _ (Res.obj 74 v1 [.int .i64 (0 : Int), .int .i64 (0 : Int)] :: ow) := hp
    refine st_assign hf rfl rfl (by decide) ?_
    clear hf; intro a ha hf; clear ha
    refine st_nil hf ?_
    refine th_n ?_
    refine wp_ret ?_
    refine th_r ?_
    obtain rfl := Option.some.inj h
    exact ⟨rfl, ⟨_, hf.sub ⟨rfl, rfl, trivial⟩, hp⟩⟩
  replace h := ifF h hb
  refine wp_skip ?_
  refine th_n ?_
  refine wp_seq ?_
  refine wp_reg ?_
  refine st_move hf rfl rfl (by decide) ?_
  clear hf; intro a ha hf; clear ha
  refine st_move hf rfl rfl (by decide) ?_
  clear hf; intro a ha hf; clear ha
  refine st_buildA (vals := [(0, .int .i64 q3.1), (1, .int .i64 q5.1)]) (cells := [.int .i64 q3.1, .int .i64 q5.1]) hf (by decide) rfl (by simp [hf.ev (x := (Operand.tmp 27)) rfl, hf.ev (x := (Operand.tmp 28)) rfl]) (fun w => by kernel_rfl) ?_
  clear hf; intro a ha hf; clear ha
  refine st_stO (us := [.int .i64 q3.1, .int .i64 q5.1]) hf hp (i := 0) rfl rfl rfl rfl rfl (by rfl) (by kernel_rfl) (Nat.le_of_ble_eq_true rfl) ?_
  clear hf; intro a w hf hp0; clear hp; have hp := hp0; clear hp0
  replace hp : Hp _ _ _ (Res.obj 74 v1 [.int .i64 q3.1, .int .i64 q5.1] :: ow) := hp
  refine st_assign hf rfl rfl (by decide) ?_
  clear hf; intro a ha hf; clear ha
  refine st_nil hf ?_
  refine th_n ?_
  refine wp_ret ?_
  obtain rfl := Option.some.inj h
  exact ⟨rfl, ⟨_, hf.sub ⟨rfl, rfl, trivial⟩, hp⟩⟩

noncomputable def f_plane_Gauss_Number (g0_Re : Int) (g0_Im : Int) : Option (Fl × Fl) := (some ((fofi g0_Re), (fofi g0_Im)))
theorem f_plane_Gauss_Number_c {S : Nat → Prop} {w0 w : World} {ow : List Res} (hp : Hp S w0 w ow) (g0_Re : Int) (g0_Im : Int) {r : (Fl × Fl)} (h : f_plane_Gauss_Number g0_Re g0_Im = some r) :
    Calls Try.prog 50 #[.agg #[.int .i64 g0_Re, .int .i64 g0_Im]] w (fun e w' => ∃ (b0 : Nat) (b1 : Nat), e = .returned (.complex .f64 b0 b1) ∧ Fl.rep b0 r.1 ∧ Fl.rep b1 r.2 ∧ Hp S w0 w' (ow)) := by
  unfold f_plane_Gauss_Number at h
  refine enter (n := 10) (args := [.agg #[.int .i64 g0_Re, .int .i64 g0_Im]]) Try.func50 rfl rfl (Nat.le_of_ble_eq_true rfl) fun a hf => ?_
  replace hf : Fr 10 a [(0, .agg #[.int .i64 g0_Re, .int .i64 g0_Im])] := hf
  refine wp_mono (Q := fun e a w => e = .ret ∧ ∃ (b0 : Nat) (b1 : Nat), Fr 10 a [(2, .complex .f64 b0 b1)] ∧ Fl.rep b0 r.1 ∧ Fl.rep b1 r.2 ∧ Hp S w0 w (ow)) ?_ ?_
  rotate_left
  · rintro e a w ⟨rfl, x0, x1, hf, y0, y1, hp⟩
    exact ret1 hf rfl rfl ⟨x0, x1, rfl, y0, y1, hp⟩
  refine wp_seq ?_
  refine wp_reg ?_
  refine st_boxO (cs := [.int .i64 g0_Re, .int .i64 g0_Im]) hf (by decide) hp rfl rfl rfl ?_
  clear hf; intro a w v1 hf hp0; clear hp; have hp := hp0; clear hp0
  replace hp : Hp _ _ _ (Res.obj 56 v1 [.int .i64 g0_Re, .int .i64 g0_Im] :: ow) := hp
  refine st_assign hf rfl rfl (by decide) ?_
  clear hf; intro a ha hf; clear ha
  refine st_nil hf ?_
  refine th_n ?_
  refine wp_seq ?_
  refine wp_reg ?_
  refine st_fa (o' := 0) hf (by decide) (off := 0) (sz := 1) (by kernel_rfl) (by decide) rfl rfl (hp.ob (i := 0) rfl) rfl ?_
  clear hf; intro a ha hf; clear ha
  refine st_ldO (u := .int .i64 g0_Re) hf (by decide) pl2 rfl rfl (hp.ob (i := 0) rfl) rfl ?_
  clear hf; intro a ha hf; clear ha
  refine st_conv_if Try.underlying2 Try.underlying22 hf (by decide) rfl rfl ?_
  clear hf; intro a ha hf; clear ha
  refine st_fa (o' := 1) hf (by decide) (off := 1) (sz := 1) (by kernel_rfl) (by decide) rfl rfl (hp.ob (i := 0) rfl) rfl ?_
  clear hf; intro a ha hf; clear ha
  refine st_ldO (u := .int .i64 g0_Im) hf (by decide) pl2 rfl rfl (hp.ob (i := 0) rfl) rfl ?_
  clear hf; intro a ha hf; clear ha
  refine st_conv_if Try.underlying2 Try.underlying22 hf (by decide) rfl rfl ?_
  clear hf; intro a ha hf; clear ha
  refine st_complex hf (by decide) rfl rfl rfl ?_
  clear hf; intro a ha hf; clear ha
  refine st_assign hf rfl rfl (by decide) ?_
  clear hf; intro a ha hf; clear ha
  refine st_nil hf ?_
  refine th_n ?_
  refine wp_ret ?_
  obtain rfl := Option.some.inj h
  have hp : Hp _ _ _ (ow) := Hp.sel (pre := [Res.obj 56 v1 [.int .i64 g0_Re, .int .i64 g0_Im]]) (tail := ow) (rs' := []) hp [] (by decide) (by simp) rfl
  exact ⟨rfl, ⟨_, _, hf.sub ⟨rfl, trivial⟩, rfl, rfl, hp⟩⟩

noncomputable def f_plane_Mul (ax0 : (Fl × Fl)) (bx1 : (Fl × Fl)) : Option (Fl × Fl) := (some ((fsub (fmul ax0.1 bx1.1) (fmul ax0.2 bx1.2)), (fadd (fmul ax0.1 bx1.2) (fmul ax0.2 bx1.1))))
theorem f_plane_Mul_c {S : Nat → Prop} {w0 w : World} {ow : List Res} (hp : Hp S w0 w ow) (bax0 cax0 : Nat) (ax0 : Fl × Fl) (hax0 : ax0.1.rep bax0) (kax0 : ax0.2.rep cax0) (bbx1 cbx1 : Nat) (bx1 : Fl × Fl) (hbx1 : bx1.1.rep bbx1) (kbx1 : bx1.2.rep cbx1) {r : (Fl × Fl)} (h : f_plane_Mul ax0 bx1 = some r) :
    Calls Try.prog 13 #[.complex .f64 bax0 cax0, .complex .f64 bbx1 cbx1] w (fun e w' => ∃ (b0 : Nat) (b1 : Nat), e = .returned (.complex .f64 b0 b1) ∧ Fl.rep b0 r.1 ∧ Fl.rep b1 r.2 ∧ Hp S w0 w' (ow)) := by
  unfold f_plane_Mul at h
  refine enter (n := 32) (args := [.complex .f64 bax0 cax0, .complex .f64 bbx1 cbx1]) Try.func13 rfl rfl (Nat.le_of_ble_eq_true rfl) fun a hf => ?_
  replace hf : Fr 32 a [(0, .complex .f64 bax0 cax0), (1, .complex .f64 bbx1 cbx1)] := hf
  refine wp_mono (Q := fun e a w => e = .ret ∧ ∃ (b0 : Nat) (b1 : Nat), Fr 32 a [(4, .complex .f64 b0 b1)] ∧ Fl.rep b0 r.1 ∧ Fl.rep b1 r.2 ∧ Hp S w0 w (ow)) ?_ ?_
  rotate_left
  · rintro e a w ⟨rfl, x0, x1, hf, y0, y1, hp⟩
    exact ret1 hf rfl rfl ⟨x0, x1, rfl, y0, y1, hp⟩
  refine wp_seq ?_
  refine wp_reg ?_
  refine st_assign hf rfl rfl (by decide) ?_
  clear hf; intro a ha hf; clear ha
  refine st_nil hf ?_
  refine th_n ?_
  refine wp_seq ?_
  refine wp_reg ?_
  refine st_move hf rfl rfl (by decide) ?_
  clear hf; intro a ha hf; clear ha
  refine st_real hf (by decide) rfl rfl ?_
  clear hf; intro a ha hf; clear ha
  refine st_move hf rfl rfl (by decide) ?_
  clear hf; intro a ha hf; clear ha
  refine st_real hf (by decide) rfl rfl ?_
  clear hf; intro a ha hf; clear ha
  refine st_farith (op := .mul) rfl hf (by decide) hp rfl rfl rfl (show Fl.rep bax0 ax0.1 from hax0) (show Fl.rep bbx1 bx1.1 from hbx1) ?_
  clear hf; intro a w bb1 y2 hf hp0; clear hp; have hp := hp0; clear hp0
  replace hp : Hp _ _ _ (ow) := hp
  refine st_move hf rfl rfl (by decide) ?_
  clear hf; intro a ha hf; clear ha
  refine st_imag hf (by decide) rfl rfl ?_
  clear hf; intro a ha hf; clear ha
  refine st_move hf rfl rfl (by decide) ?_
  clear hf; intro a ha hf; clear ha
  refine st_imag hf (by decide) rfl rfl ?_
  clear hf; intro a ha hf; clear ha
  refine st_farith (op := .mul) rfl hf (by decide) hp rfl rfl rfl (show Fl.rep cax0 ax0.2 from kax0) (show Fl.rep cbx1 bx1.2 from kbx1) ?_
  clear hf; intro a w bb3 y4 hf hp0; clear hp; have hp := hp0; clear hp0
  replace hp : Hp _ _ _ (ow) := hp
  refine st_farith (op := .sub) rfl hf (by decide) hp rfl rfl rfl (show Fl.rep bb1 (fmul ax0.1 bx1.1) from y2) (show Fl.rep bb3 (fmul ax0.2 bx1.2) from y4) ?_
  clear hf; intro a w bb5 y6 hf hp0; clear hp; have hp := hp0; clear hp0
  replace hp : Hp _ _ _ (ow) := hp
  refine st_assign hf rfl rfl (by decide) ?_
  clear hf; intro a ha hf; clear ha
  refine st_nil hf ?_
  refine th_n ?_
  refine wp_seq ?_
  refine wp_reg ?_
  refine st_move hf rfl rfl (by decide) ?_
  clear hf; intro a ha hf; clear ha
  refine st_real hf (by decide) rfl rfl ?_
  clear hf; intro a ha hf; clear ha
  refine st_move hf rfl rfl (by decide) ?_
  clear hf; intro a ha hf; clear ha
  refine st_imag hf (by decide) rfl rfl ?_
  clear hf; intro a ha hf; clear ha
  refine st_farith (op := .mul) rfl hf (by decide) hp rfl rfl rfl (show Fl.rep bax0 ax0.1 from hax0) (show Fl.rep cbx1 bx1.2 from kbx1) ?_
  clear hf; intro a w bb7 y8 hf hp0; clear hp; have hp := hp0; clear hp0
  replace hp : Hp _ _ _ (ow) := hp
  refine st_move hf rfl rfl (by decide) ?_
  clear hf; intro a ha hf; clear ha
  refine st_imag hf (by decide) rfl rfl ?_
  clear hf; intro a ha hf; clear ha
  refine st_move hf rfl rfl (by decide) ?_
  clear hf; intro a ha hf; clear ha
  refine st_real hf (by decide) rfl rfl ?_
  clear hf; intro a ha hf; clear ha
  refine st_farith (op := .mul) rfl hf (by decide) hp rfl rfl rfl (show Fl.rep cax0 ax0.2 from kax0) (show Fl.rep bbx1 bx1.1 from hbx1) ?_
  clear hf; intro a w bb9 y10 hf hp0; clear hp; have hp := hp0; clear hp0
  replace hp : Hp _ _ _ (ow) := hp
  refine st_farith (op := .add) rfl hf (by decide) hp rfl rfl rfl (show Fl.rep bb7 (fmul ax0.1 bx1.2) from y8) (show Fl.rep bb9 (fmul ax0.2 bx1.1) from y10) ?_
  clear hf; intro a w bb11 y12 hf hp0; clear hp; have hp := hp0; clear hp0
  replace hp : Hp _ _ _ (ow) := hp
  refine st_assign hf rfl rfl (by decide) ?_
  clear hf; intro a ha hf; clear ha
  refine st_nil hf ?_
  refine th_n ?_
  refine wp_seq ?_
  refine wp_reg ?_
  refine st_move hf rfl rfl (by decide) ?_
  clear hf; intro a ha hf; clear ha
  refine st_move hf rfl rfl (by decide) ?_
  clear hf; intro a ha hf; clear ha
  refine st_complex hf (by decide) rfl rfl rfl ?_
  clear hf; intro a ha hf; clear ha
  refine st_assign hf rfl rfl (by decide) ?_
  clear hf; intro a ha hf; clear ha
  refine st_nil hf ?_
  refine th_n ?_
  refine wp_ret ?_
  obtain rfl := Option.some.inj h
  exact ⟨rfl, ⟨_, _, hf.sub ⟨rfl, trivial⟩, y6, y12, hp⟩⟩

noncomputable def f_plane_Turn (zx0 : (Fl × Fl)) (quarters1 : Int) : Option (Fl × Fl) := (if ((iand .i64 quarters1 (3 : Int)) == (1 : Int)) = true then (some ((fneg zx0.2), zx0.1)) else (if ((iand .i64 quarters1 (3 : Int)) == (2 : Int)) = true then (some ((fneg zx0.1), (fneg zx0.2))) else (if ((iand .i64 quarters1 (3 : Int)) == (3 : Int)) = true then (some (zx0.2, (fneg zx0.1))) else (some zx0))))
theorem f_plane_Turn_c {S : Nat → Prop} {w0 w : World} {ow : List Res} (hp : Hp S w0 w ow) (bzx0 czx0 : Nat) (zx0 : Fl × Fl) (hzx0 : zx0.1.rep bzx0) (kzx0 : zx0.2.rep czx0) (quarters1 : Int) {r : (Fl × Fl)} (h : f_plane_Turn zx0 quarters1 = some r) :
    Calls Try.prog 15 #[.complex .f64 bzx0 czx0, .int .i64 quarters1] w (fun e w' => ∃ (b0 : Nat) (b1 : Nat), e = .returned (.complex .f64 b0 b1) ∧ Fl.rep b0 r.1 ∧ Fl.rep b1 r.2 ∧ Hp S w0 w' (ow)) := by
  unfold f_plane_Turn at h
  refine enter (n := 33) (args := [.complex .f64 bzx0 czx0, .int .i64 quarters1]) Try.func15 rfl rfl (Nat.le_of_ble_eq_true rfl) fun a hf => ?_
  replace hf : Fr 33 a [(0, .complex .f64 bzx0 czx0), (1, .int .i64 quarters1)] := hf
  refine wp_mono (Q := fun e a w => e = .ret ∧ ∃ (b0 : Nat) (b1 : Nat), Fr 33 a [(4, .complex .f64 b0 b1)] ∧ Fl.rep b0 r.1 ∧ Fl.rep b1 r.2 ∧ Hp S w0 w (ow)) ?_ ?_
  rotate_left
  · rintro e a w ⟨rfl, x0, x1, hf, y0, y1, hp⟩
    exact ret1 hf rfl rfl ⟨x0, x1, rfl, y0, y1, hp⟩
  refine wp_seq ?_
  refine wp_reg ?_
  refine st_assign hf rfl rfl (by decide) ?_
  clear hf; intro a ha hf; clear ha
  refine st_nil hf ?_
  refine th_n ?_
  refine wp_seq ?_
  refine wp_seq ?_
  refine wp_reg ?_
  refine st_move hf rfl rfl (by decide) ?_
  clear hf; intro a ha hf; clear ha
  refine st_iand hf (by decide) rfl rfl rfl ?_
  clear hf; intro a ha hf; clear ha
  refine st_nil hf ?_
  refine th_n ?_
  refine wp_block ?_
  refine wp_seq ?_
  refine wp_reg ?_
  refine st_ieql hf (by decide) rfl rfl rfl ?_
  clear hf; intro a ha hf; clear ha
  refine st_assign hf rfl rfl (by decide) ?_
  clear hf; intro a ha hf; clear ha
  refine st_nil hf ?_
  refine th_n ?_
  refine wp_if hf rfl (fun hb => ?_) (fun hb => ?_)
  · replace h := ifT h hb
    refine wp_seq ?_
    refine wp_reg ?_
    refine st_move hf rfl rfl (by decide) ?_
    clear hf; intro a ha hf; clear ha
    refine st_imag hf (by decide) rfl rfl ?_
    clear hf; intro a ha hf; clear ha
    refine st_fneg hf (by decide) rfl rfl ?_
    clear hf; intro a ha hf; clear ha
    refine st_move hf rfl rfl (by decide) ?_
    clear hf; intro a ha hf; clear ha
    refine st_real hf (by decide) rfl rfl ?_
    clear hf; intro a ha hf; clear ha
    refine st_complex hf (by decide) rfl rfl rfl ?_
    clear hf; intro a ha hf; clear ha
    refine st_assign hf rfl rfl (by decide) ?_
    clear hf; intro a ha hf; clear ha
    refine st_nil hf ?_
    refine th_n ?_
    refine wp_ret ?_
    refine ib_r ?_
    refine th_r ?_
    obtain rfl := Option.some.inj h
    exact ⟨rfl, ⟨_, _, hf.sub ⟨rfl, trivial⟩, (fneg_rep kzx0), hzx0, hp⟩⟩
  replace h := ifF h hb
  refine wp_seq ?_
  refine wp_reg ?_
  refine st_ieql hf (by decide) rfl rfl rfl ?_
  clear hf; intro a ha hf; clear ha
  refine st_assign hf rfl rfl (by decide) ?_
  clear hf; intro a ha hf; clear ha
  refine st_nil hf ?_
  refine th_n ?_
  refine wp_if hf rfl (fun hb => ?_) (fun hb => ?_)
  · replace h := ifT h hb
    refine wp_seq ?_
    refine wp_reg ?_
    refine st_move hf rfl rfl (by decide) ?_
    clear hf; intro a ha hf; clear ha
    refine st_real hf (by decide) rfl rfl ?_
    clear hf; intro a ha hf; clear ha
    refine st_fneg hf (by decide) rfl rfl ?_
    clear hf; intro a ha hf; clear ha
    refine st_move hf rfl rfl (by decide) ?_
    clear hf; intro a ha hf; clear ha
    refine st_imag hf (by decide) rfl rfl ?_
    clear hf; intro a ha hf; clear ha
    refine st_fneg hf (by decide) rfl rfl ?_
    clear hf; intro a ha hf; clear ha
    refine st_complex hf (by decide) rfl rfl rfl ?_
    clear hf; intro a ha hf; clear ha
    refine st_assign hf rfl rfl (by decide) ?_
    clear hf; intro a ha hf; clear ha
    refine st_nil hf ?_
    refine th_n ?_
    refine wp_ret ?_
    refine ib_r ?_
    refine th_r ?_
    obtain rfl := Option.some.inj h
    exact ⟨rfl, ⟨_, _, hf.sub ⟨rfl, trivial⟩, (fneg_rep hzx0), (fneg_rep kzx0), hp⟩⟩
  replace h := ifF h hb
  refine wp_seq ?_
  refine wp_reg ?_
  refine st_ieql hf (by decide) rfl rfl rfl ?_
  clear hf; intro a ha hf; clear ha
  refine st_assign hf rfl rfl (by decide) ?_
  clear hf; intro a ha hf; clear ha
  refine st_nil hf ?_
  refine th_n ?_
  refine wp_if hf rfl (fun hb => ?_) (fun hb => ?_)
  · replace h := ifT h hb
    refine wp_seq ?_
    refine wp_reg ?_
    refine st_move hf rfl rfl (by decide) ?_
    clear hf; intro a ha hf; clear ha
    refine st_imag hf (by decide) rfl rfl ?_
    clear hf; intro a ha hf; clear ha
    refine st_move hf rfl rfl (by decide) ?_
    clear hf; intro a ha hf; clear ha
    refine st_real hf (by decide) rfl rfl ?_
    clear hf; intro a ha hf; clear ha
    refine st_fneg hf (by decide) rfl rfl ?_
    clear hf; intro a ha hf; clear ha
    refine st_complex hf (by decide) rfl rfl rfl ?_
    clear hf; intro a ha hf; clear ha
    refine st_assign hf rfl rfl (by decide) ?_
    clear hf; intro a ha hf; clear ha
    refine st_nil hf ?_
    refine th_n ?_
    refine wp_ret ?_
    refine ib_r ?_
    refine th_r ?_
    obtain rfl := Option.some.inj h
    exact ⟨rfl, ⟨_, _, hf.sub ⟨rfl, trivial⟩, kzx0, (fneg_rep hzx0), hp⟩⟩
  replace h := ifF h hb
  refine wp_skip ?_
  refine ib_n ?_
  refine th_n ?_
  refine wp_seq ?_
  refine wp_reg ?_
  refine st_move hf rfl rfl (by decide) ?_
  clear hf; intro a ha hf; clear ha
  refine st_assign hf rfl rfl (by decide) ?_
  clear hf; intro a ha hf; clear ha
  refine st_nil hf ?_
  refine th_n ?_
  refine wp_ret ?_
  obtain rfl := Option.some.inj h
  exact ⟨rfl, ⟨_, _, hf.sub ⟨rfl, trivial⟩, hzx0, kzx0, hp⟩⟩

noncomputable def f_foghornlaw03_awake  : Option Bool := ((f_plane_Gauss_Class (3 : Int) (2 : Int) (3 : Int)).bind fun q1 => ((f_plane_Mul (Fl.bits 4607182418800017408, Fl.bits 4611686018427387904) (Fl.bits 4613937818241073152, Fl.bits 13830554455654793216)).bind fun q3 => ((if (ceq q3 (Fl.bits 4617315517961601024, Fl.bits 4617315517961601024)) = true then ((f_plane_Turn (Fl.bits 4607182418800017408, Fl.bits 4611686018427387904) (1 : Int)).bind fun q12 => (some (ceq q12 (Fl.bits 13835058055282163712, Fl.bits 4607182418800017408)))) else (some false)).bind fun z11 => (some ((z11 && (q1.2 == (0 : Int))) && (q1.1 == (1 : Int)))))))
theorem f_foghornlaw03_awake_c {S : Nat → Prop} {w0 w : World} {ow : List Res} (hp : Hp S w0 w ow) {r : Bool} (h : f_foghornlaw03_awake = some r) :
    Calls Try.prog 24 #[] w (fun e w' => e = .returned (.bool r) ∧ Hp S w0 w' (ow)) := by
  unfold f_foghornlaw03_awake at h
  refine enter (n := 22) (args := []) Try.func24 rfl rfl (Nat.le_of_ble_eq_true rfl) fun a hf => ?_
  replace hf : Fr 22 a [] := hf
  refine wp_mono (Q := fun e a w => e = .ret ∧ Fr 22 a [(0, .bool r)] ∧ Hp S w0 w (ow)) ?_ ?_
  rotate_left
  · rintro e a w ⟨rfl, hf, hp⟩
    exact ret1 hf rfl rfl ⟨rfl, hp⟩
  refine wp_seq ?_
  refine wp_reg ?_
  refine st_assign hf rfl rfl (by decide) ?_
  clear hf; intro a ha hf; clear ha
  refine st_nil hf ?_
  refine th_n ?_
  refine wp_seq ?_
  refine wp_reg ?_
  refine st_buildA (vals := [(0, .int .i64 (3 : Int)), (1, .int .i64 (2 : Int))]) (cells := [.int .i64 (3 : Int), .int .i64 (2 : Int)]) hf (by decide) rfl (by simp [hf.ev (x := (Operand.const (.int .i64 (3 : Int)))) rfl, hf.ev (x := (Operand.const (.int .i64 (2 : Int)))) rfl]) (fun w => by kernel_rfl) ?_
  clear hf; intro a ha hf; clear ha
  obtain ⟨q1, hcall2, h⟩ := bnd h
  refine st_call hf (by decide) Try.func36 rfl rfl rfl rfl rfl (f_plane_Gauss_Class_c hp _ _ _ hcall2) ?_
  rintro _ w ⟨rfl, hp0⟩
  clear hp; have hp := hp0; clear hp0
  replace hp : Hp _ _ _ (ow) := hp
  refine ⟨_, rfl, ?_⟩
  clear hf; intro a hf
  refine st_move hf rfl rfl (by decide) ?_
  clear hf; intro a ha hf; clear ha
  refine st_extract hf (by decide) rfl rfl rfl ?_
  clear hf; intro a ha hf; clear ha
  refine st_extract hf (by decide) rfl rfl rfl ?_
  clear hf; intro a ha hf; clear ha
  refine st_assign hf rfl rfl (by decide) ?_
  clear hf; intro a ha hf; clear ha
  refine st_assign hf rfl rfl (by decide) ?_
  clear hf; intro a ha hf; clear ha
  refine st_nil hf ?_
  refine th_n ?_
  refine wp_seq ?_
  refine wp_reg ?_
  obtain ⟨q3, hcall4, h⟩ := bnd h
  refine st_call hf (by decide) Try.func13 rfl rfl rfl rfl rfl (f_plane_Mul_c hp _ _ _ (show Fl.rep 4607182418800017408 ((Fl.bits 4607182418800017408, Fl.bits 4611686018427387904)).1 from rfl) (show Fl.rep 4611686018427387904 ((Fl.bits 4607182418800017408, Fl.bits 4611686018427387904)).2 from rfl) _ _ _ (show Fl.rep 4613937818241073152 ((Fl.bits 4613937818241073152, Fl.bits 13830554455654793216)).1 from rfl) (show Fl.rep 13830554455654793216 ((Fl.bits 4613937818241073152, Fl.bits 13830554455654793216)).2 from rfl) hcall4) ?_
  rintro _ w ⟨v5, v6, rfl, y7, y8, hp0⟩
  clear hp; have hp := hp0; clear hp0
  replace hp : Hp _ _ _ (ow) := hp
  refine ⟨_, rfl, ?_⟩
  clear hf; intro a hf
  refine st_ccmp (r_ceq (x := q3) (y := (Fl.bits 4617315517961601024, Fl.bits 4617315517961601024)) y7 y8 rfl rfl) hf (by decide) rfl rfl rfl ?_
  clear hf; intro a ha hf; clear ha
  refine st_move hf rfl rfl (by decide) ?_
  clear hf; intro a ha hf; clear ha
  obtain ⟨z11, hz9, h⟩ := bnd h
  refine wpList_cut 3 (fun a w => Fr 22 a [(1, .int .u32 q1.1), (2, .int .i64 q1.2), (13, .bool z11)] ∧ Hp S w0 w (ow)) ?_ ?_
  · rcases Bool.eq_false_or_eq_true (ceq q3 (Fl.bits 4617315517961601024, Fl.bits 4617315517961601024)) with hb10 | hb10
    · skip
      replace hz9 := ifT hz9 hb10
      obtain ⟨q12, hcall13, hz9⟩ := bnd hz9
      refine st_call hf (by decide) Try.func15 rfl rfl (wantY hf rfl rfl hb10) rfl rfl (f_plane_Turn_c hp _ _ _ (show Fl.rep 4607182418800017408 ((Fl.bits 4607182418800017408, Fl.bits 4611686018427387904)).1 from rfl) (show Fl.rep 4611686018427387904 ((Fl.bits 4607182418800017408, Fl.bits 4611686018427387904)).2 from rfl) _ hcall13) ?_
      rintro _ w ⟨v14, v15, rfl, y16, y17, hp0⟩
      clear hp; have hp := hp0; clear hp0
      replace hp : Hp _ _ _ (ow) := hp
      refine ⟨_, rfl, ?_⟩
      clear hf; intro a hf
      refine st_ccmp (r_ceq (x := q12) (y := (Fl.bits 13835058055282163712, Fl.bits 4607182418800017408)) y16 y17 rfl rfl) hf (by decide) (wantY hf rfl rfl hb10) rfl rfl ?_
      clear hf; intro a ha hf; clear ha
      obtain rfl := Option.some.inj hz9
      refine st_pick (v := .bool (ceq q12 (Fl.bits 13835058055282163712, Fl.bits 4607182418800017408))) hf rfl rfl (fun hb' => ?_) (fun hb' => ?_) (by decide) ?_
      · rfl
      · exact absurd (hb10.symm.trans hb') (by decide)
      clear hf; intro a ha hf; clear ha
      refine st_nil hf (th_n ?_)
      exact ⟨hf.sub ⟨rfl, rfl, rfl, trivial⟩, hp⟩
    replace hz9 := ifF hz9 hb10
    refine st_skip hf (wantN hf rfl rfl hb10) rfl (by decide) ?_ rfl
    clear hf; intro a hf
    refine st_skip hf (wantN hf rfl rfl hb10) rfl (by decide) ?_ rfl
    clear hf; intro a hf
    obtain rfl := Option.some.inj hz9
    refine st_pick (v := .bool false) hf rfl rfl (fun hb' => ?_) (fun hb' => ?_) (by decide) ?_
    · exact absurd (hb10.symm.trans hb') (by decide)
    · rfl
    clear hf; intro a ha hf; clear ha
    refine st_nil hf (th_n ?_)
    exact ⟨hf.sub ⟨rfl, rfl, rfl, trivial⟩, hp⟩
  rintro a w ⟨hf, hp⟩
  refine st_move hf rfl rfl (by decide) ?_
  clear hf; intro a ha hf; clear ha
  refine wpList_cut 3 (fun a w => Fr 22 a [(1, .int .u32 q1.1), (17, .bool (z11 && (q1.2 == (0 : Int))))] ∧ Hp S w0 w (ow)) ?_ ?_
  · rcases Bool.eq_false_or_eq_true z11 with hb19 | hb19
    · skip
      refine st_move hf (wantY hf rfl rfl hb19) rfl (by decide) ?_
      clear hf; intro a ha hf; clear ha
      refine st_ieql hf (by decide) (wantY hf rfl rfl hb19) rfl rfl ?_
      clear hf; intro a ha hf; clear ha
      refine st_pick (v := .bool (q1.2 == (0 : Int))) hf rfl rfl (fun hb' => ?_) (fun hb' => ?_) (by decide) ?_
      · rfl
      · exact absurd (hb19.symm.trans hb') (by decide)
      clear hf; intro a ha hf; clear ha
      refine st_nil hf (th_n ?_)
      exact ⟨hf.sub ⟨rfl, (by rw [hb19]; rfl), trivial⟩, hp⟩
    refine st_skip hf (wantN hf rfl rfl hb19) rfl (by decide) ?_ rfl
    clear hf; intro a hf
    refine st_skip hf (wantN hf rfl rfl hb19) rfl (by decide) ?_ rfl
    clear hf; intro a hf
    refine st_pick (v := .bool false) hf rfl rfl (fun hb' => ?_) (fun hb' => ?_) (by decide) ?_
    · exact absurd (hb19.symm.trans hb') (by decide)
    · rfl
    clear hf; intro a ha hf; clear ha
    refine st_nil hf (th_n ?_)
    exact ⟨hf.sub ⟨rfl, (by rw [hb19]; rfl), trivial⟩, hp⟩
  rintro a w ⟨hf, hp⟩
  refine st_move hf rfl rfl (by decide) ?_
  clear hf; intro a ha hf; clear ha
  refine wpList_cut 3 (fun a w => Fr 22 a [(21, .bool ((z11 && (q1.2 == (0 : Int))) && (q1.1 == (1 : Int))))] ∧ Hp S w0 w (ow)) ?_ ?_
  · rcases Bool.eq_false_or_eq_true (z11 && (q1.2 == (0 : Int))) with hb21 | hb21
    · skip
      refine st_move hf (wantY hf rfl rfl hb21) rfl (by decide) ?_
      clear hf; intro a ha hf; clear ha
      refine st_ieql hf (by decide) (wantY hf rfl rfl hb21) rfl rfl ?_
      clear hf; intro a ha hf; clear ha
      refine st_pick (v := .bool (q1.1 == (1 : Int))) hf rfl rfl (fun hb' => ?_) (fun hb' => ?_) (by decide) ?_
      · rfl
      · exact absurd (hb21.symm.trans hb') (by decide)
      clear hf; intro a ha hf; clear ha
      refine st_nil hf (th_n ?_)
      exact ⟨hf.sub ⟨(by rw [hb21]; rfl), trivial⟩, hp⟩
    refine st_skip hf (wantN hf rfl rfl hb21) rfl (by decide) ?_ rfl
    clear hf; intro a hf
    refine st_skip hf (wantN hf rfl rfl hb21) rfl (by decide) ?_ rfl
    clear hf; intro a hf
    refine st_pick (v := .bool false) hf rfl rfl (fun hb' => ?_) (fun hb' => ?_) (by decide) ?_
    · exact absurd (hb21.symm.trans hb') (by decide)
    · rfl
    clear hf; intro a ha hf; clear ha
    refine st_nil hf (th_n ?_)
    exact ⟨hf.sub ⟨(by rw [hb21]; rfl), trivial⟩, hp⟩
  rintro a w ⟨hf, hp⟩
  refine st_assign hf rfl rfl (by decide) ?_
  clear hf; intro a ha hf; clear ha
  refine st_nil hf ?_
  refine th_n ?_
  refine wp_ret ?_
  obtain rfl := Option.some.inj h
  exact ⟨rfl, ⟨hf.sub ⟨rfl, trivial⟩, hp⟩⟩

end Go.Proofs.Yteifkccomfdciaa
