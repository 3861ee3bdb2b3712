/- The functions foghorn foghornlaw03.PlaneWhole: what each answers, as a plain function, and that its call answers it; printed by gen.py. -/
import Derived.Test.YteifkccomfdciaaProg
import Derived.Test.YteifkccomfdciaaGlU
import Derived.KernelRfl
set_option linter.unusedVariables false
set_option linter.unusedSimpArgs false
set_option maxRecDepth 100000
set_option maxHeartbeats 4000000
namespace Go.Proofs.Yteifkccomfdciaa
open GL
theorem pl2 : Plain Try.prog 2 := ⟨⟨_, Try.underlying2, trivial⟩⟩
theorem pl3 : Plain Try.prog 3 := ⟨⟨_, Try.underlying3, trivial⟩⟩
theorem pl22 : Plain Try.prog 22 := ⟨⟨_, Try.underlying22, trivial⟩⟩
theorem pl66 : Plain Try.prog 66 := ⟨⟨_, Try.underlying66, trivial⟩⟩
noncomputable def f_foghornlaw03_own (g0_Re : Int) (g0_Im : Int) : Option (Int × Int) := (some (g0_Re, g0_Im))
theorem f_foghornlaw03_own_c {S : Nat → Prop} {w0 w : World} {ow : List Res} (hp : Hp S w0 w ow) (g0_Re : Int) (g0_Im : Int) {r : (Int × Int)} (h : f_foghornlaw03_own g0_Re g0_Im = some r) :
    Calls Try.prog 40 #[.agg #[.int .i64 g0_Re, .int .i64 g0_Im]] w (fun e w' => e = .returned (.agg #[.int .i64 r.1, .int .i64 r.2]) ∧ Hp S w0 w' (ow)) := by
  unfold f_foghornlaw03_own at h
  refine enter (n := 8) (args := [.agg #[.int .i64 g0_Re, .int .i64 g0_Im]]) Try.func40 rfl rfl (Nat.le_of_ble_eq_true rfl) fun a hf => ?_
  replace hf : Fr 8 a [(0, .agg #[.int .i64 g0_Re, .int .i64 g0_Im])] := hf
  refine wp_mono (Q := fun e a w => e = .ret ∧ ∃ (c0 : Value), Fr 8 a [(2, optr c0 0)] ∧ Hp S w0 w (Res.obj 56 c0 [.int .i64 r.1, .int .i64 r.2] :: ow)) ?_ ?_
  rotate_left
  · rintro e a w ⟨rfl, c0, hf, hp⟩
    exact retG1 hf rfl ⟨_, _, rfl, hp.ob (i := 0) rfl, .inr ⟨by kernel_rfl, rfl⟩⟩ ⟨rfl, hp.drop⟩
  refine wp_seq ?_
  refine wp_reg ?_
  refine st_boxO (cs := [.int .i64 g0_Re, .int .i64 g0_Im]) hf (by decide) hp rfl rfl rfl ?_
  clear hf; intro a w v1 hf hp0; clear hp; have hp := hp0; clear hp0
  replace hp : Hp _ _ _ (Res.obj 74 v1 [.int .i64 g0_Re, .int .i64 g0_Im] :: ow) := hp
  refine st_alloc (cs := [.int .i64 (0 : Int), .int .i64 (0 : Int)]) (zv := .agg #[.int .i64 (0 : Int), .int .i64 (0 : Int)]) hf (by decide) (by kernel_rfl) rfl hp rfl ?_
  clear hf; intro a w v3 hf hp0; clear hp; have hp := hp0; clear hp0
  replace hp : Hp _ _ _ (Res.obj 56 v3 [.int .i64 (0 : Int), .int .i64 (0 : Int)] :: Res.obj 74 v1 [.int .i64 g0_Re, .int .i64 g0_Im] :: ow) := hp
  refine st_nil hf ?_
  refine th_n ?_
  refine wp_seq ?_
  refine wp_reg ?_
  refine st_fa (o' := 0) hf (by decide) (off := 0) (sz := 1) (by kernel_rfl) (by decide) rfl rfl (hp.ob (i := 1) rfl) rfl ?_
  clear hf; intro a ha hf; clear ha
  refine st_ldO (u := .int .i64 g0_Re) hf (by decide) pl2 rfl rfl (hp.ob (i := 1) rfl) rfl ?_
  clear hf; intro a ha hf; clear ha
  refine st_fa (o' := 1) hf (by decide) (off := 1) (sz := 1) (by kernel_rfl) (by decide) rfl rfl (hp.ob (i := 1) rfl) rfl ?_
  clear hf; intro a ha hf; clear ha
  refine st_ldO (u := .int .i64 g0_Im) hf (by decide) pl2 rfl rfl (hp.ob (i := 1) rfl) rfl ?_
  clear hf; intro a ha hf; clear ha
  refine st_buildA (vals := [(0, .int .i64 g0_Re), (1, .int .i64 g0_Im)]) (cells := [.int .i64 g0_Re, .int .i64 g0_Im]) hf (by decide) rfl (by simp [hf.ev (x := (Operand.tmp 4)) rfl, hf.ev (x := (Operand.tmp 6)) rfl]) (fun w => by kernel_rfl) ?_
  clear hf; intro a ha hf; clear ha
  refine st_stO (us := [.int .i64 g0_Re, .int .i64 g0_Im]) hf hp (i := 0) rfl rfl rfl rfl rfl (by rfl) (by kernel_rfl) (Nat.le_of_ble_eq_true rfl) ?_
  clear hf; intro a w hf hp0; clear hp; have hp := hp0; clear hp0
  replace hp : Hp _ _ _ (Res.obj 56 v3 [.int .i64 g0_Re, .int .i64 g0_Im] :: Res.obj 74 v1 [.int .i64 g0_Re, .int .i64 g0_Im] :: ow) := hp
  refine st_nil hf ?_
  refine th_n ?_
  refine wp_ret ?_
  obtain rfl := Option.some.inj h
  have hp : Hp _ _ _ (Res.obj 56 v3 [.int .i64 g0_Re, .int .i64 g0_Im] :: ow) := Hp.sel (pre := [Res.obj 56 v3 [.int .i64 g0_Re, .int .i64 g0_Im], Res.obj 74 v1 [.int .i64 g0_Re, .int .i64 g0_Im]]) (tail := ow) (rs' := [Res.obj 56 v3 [.int .i64 g0_Re, .int .i64 g0_Im]]) hp [0] (by decide) (by simp) rfl
  exact ⟨rfl, ⟨_, hf.sub ⟨rfl, trivial⟩, hp⟩⟩

noncomputable def f_plane_Gauss_may (g0_Re : Int) (g0_Im : Int) : Option Bool := (some ((((decide ((-1073741824 : Int) ≤ g0_Re)) && (decide (g0_Re ≤ (1073741824 : Int)))) && (decide ((-1073741824 : Int) ≤ g0_Im))) && (decide (g0_Im ≤ (1073741824 : Int)))))
theorem f_plane_Gauss_may_c {S : Nat → Prop} {w0 w : World} {ow : List Res} (hp : Hp S w0 w ow) (g0_Re : Int) (g0_Im : Int) {r : Bool} (h : f_plane_Gauss_may g0_Re g0_Im = some r) :
    Calls Try.prog 55 #[.agg #[.int .i64 g0_Re, .int .i64 g0_Im]] w (fun e w' => e = .returned (.bool r) ∧ Hp S w0 w' (ow)) := by
  unfold f_plane_Gauss_may at h
  refine enter (n := 21) (args := [.agg #[.int .i64 g0_Re, .int .i64 g0_Im]]) Try.func55 rfl rfl (Nat.le_of_ble_eq_true rfl) fun a hf => ?_
  replace hf : Fr 21 a [(0, .agg #[.int .i64 g0_Re, .int .i64 g0_Im])] := hf
  refine wp_mono (Q := fun e a w => e = .ret ∧ Fr 21 a [(2, .bool r)] ∧ Hp S w0 w (ow)) ?_ ?_
  rotate_left
  · rintro e a w ⟨rfl, hf, hp⟩
    exact ret1 hf rfl rfl ⟨rfl, hp⟩
  refine wp_seq ?_
  refine wp_reg ?_
  refine st_boxO (cs := [.int .i64 g0_Re, .int .i64 g0_Im]) hf (by decide) hp rfl rfl rfl ?_
  clear hf; intro a w v1 hf hp0; clear hp; have hp := hp0; clear hp0
  replace hp : Hp _ _ _ (Res.obj 56 v1 [.int .i64 g0_Re, .int .i64 g0_Im] :: ow) := hp
  refine st_assign hf rfl rfl (by decide) ?_
  clear hf; intro a ha hf; clear ha
  refine st_nil hf ?_
  refine th_n ?_
  refine wp_seq ?_
  refine wp_reg ?_
  refine st_fa (o' := 0) hf (by decide) (off := 0) (sz := 1) (by kernel_rfl) (by decide) rfl rfl (hp.ob (i := 0) rfl) rfl ?_
  clear hf; intro a ha hf; clear ha
  refine st_ldO (u := .int .i64 g0_Re) hf (by decide) pl2 rfl rfl (hp.ob (i := 0) rfl) rfl ?_
  clear hf; intro a ha hf; clear ha
  refine st_igeq hf (by decide) rfl rfl rfl ?_
  clear hf; intro a ha hf; clear ha
  refine st_move hf rfl rfl (by decide) ?_
  clear hf; intro a ha hf; clear ha
  refine wpList_cut 4 (fun a w => Fr 21 a [(1, optr v1 0), (10, .bool ((decide ((-1073741824 : Int) ≤ g0_Re)) && (decide (g0_Re ≤ (1073741824 : Int)))))] ∧ Hp S w0 w (Res.obj 56 v1 [.int .i64 g0_Re, .int .i64 g0_Im] :: ow)) ?_ ?_
  · rcases Bool.eq_false_or_eq_true (decide ((-1073741824 : Int) ≤ g0_Re)) with hb4 | hb4
    · skip
      refine st_fa (o' := 0) hf (by decide) (off := 0) (sz := 1) (by kernel_rfl) (by decide) (wantY hf rfl rfl hb4) rfl (hp.ob (i := 0) rfl) rfl ?_
      clear hf; intro a ha hf; clear ha
      refine st_ldO (u := .int .i64 g0_Re) hf (by decide) pl2 (wantY hf rfl rfl hb4) rfl (hp.ob (i := 0) rfl) rfl ?_
      clear hf; intro a ha hf; clear ha
      refine st_ileq hf (by decide) (wantY hf rfl rfl hb4) rfl rfl ?_
      clear hf; intro a ha hf; clear ha
      refine st_pick (v := .bool (decide (g0_Re ≤ (1073741824 : Int)))) hf rfl rfl (fun hb' => ?_) (fun hb' => ?_) (by decide) ?_
      · rfl
      · exact absurd (hb4.symm.trans hb') (by decide)
      clear hf; intro a ha hf; clear ha
      refine st_nil hf (th_n ?_)
      exact ⟨hf.sub ⟨rfl, (by rw [hb4]; rfl), trivial⟩, hp⟩
    refine st_skip hf (wantN hf rfl rfl hb4) rfl (by decide) ?_ rfl
    clear hf; intro a hf
    refine st_skip hf (wantN hf rfl rfl hb4) rfl (by decide) ?_ rfl
    clear hf; intro a hf
    refine st_skip hf (wantN hf rfl rfl hb4) rfl (by decide) ?_ rfl
    clear hf; intro a hf
    refine st_pick (v := .bool false) hf rfl rfl (fun hb' => ?_) (fun hb' => ?_) (by decide) ?_
    · exact absurd (hb4.symm.trans hb') (by decide)
    · rfl
    clear hf; intro a ha hf; clear ha
    refine st_nil hf (th_n ?_)
    exact ⟨hf.sub ⟨rfl, (by rw [hb4]; rfl), trivial⟩, hp⟩
  rintro a w ⟨hf, hp⟩
  refine st_move hf rfl rfl (by decide) ?_
  clear hf; intro a ha hf; clear ha
  refine wpList_cut 4 (fun a w => Fr 21 a [(1, optr v1 0), (15, .bool (((decide ((-1073741824 : Int) ≤ g0_Re)) && (decide (g0_Re ≤ (1073741824 : Int)))) && (decide ((-1073741824 : Int) ≤ g0_Im))))] ∧ Hp S w0 w (Res.obj 56 v1 [.int .i64 g0_Re, .int .i64 g0_Im] :: ow)) ?_ ?_
  · rcases Bool.eq_false_or_eq_true ((decide ((-1073741824 : Int) ≤ g0_Re)) && (decide (g0_Re ≤ (1073741824 : Int)))) with hb6 | hb6
    · skip
      refine st_fa (o' := 1) hf (by decide) (off := 1) (sz := 1) (by kernel_rfl) (by decide) (wantY hf rfl rfl hb6) rfl (hp.ob (i := 0) rfl) rfl ?_
      clear hf; intro a ha hf; clear ha
      refine st_ldO (u := .int .i64 g0_Im) hf (by decide) pl2 (wantY hf rfl rfl hb6) rfl (hp.ob (i := 0) rfl) rfl ?_
      clear hf; intro a ha hf; clear ha
      refine st_igeq hf (by decide) (wantY hf rfl rfl hb6) rfl rfl ?_
      clear hf; intro a ha hf; clear ha
      refine st_pick (v := .bool (decide ((-1073741824 : Int) ≤ g0_Im))) hf rfl rfl (fun hb' => ?_) (fun hb' => ?_) (by decide) ?_
      · rfl
      · exact absurd (hb6.symm.trans hb') (by decide)
      clear hf; intro a ha hf; clear ha
      refine st_nil hf (th_n ?_)
      exact ⟨hf.sub ⟨rfl, (by rw [hb6]; rfl), trivial⟩, hp⟩
    refine st_skip hf (wantN hf rfl rfl hb6) rfl (by decide) ?_ rfl
    clear hf; intro a hf
    refine st_skip hf (wantN hf rfl rfl hb6) rfl (by decide) ?_ rfl
    clear hf; intro a hf
    refine st_skip hf (wantN hf rfl rfl hb6) rfl (by decide) ?_ rfl
    clear hf; intro a hf
    refine st_pick (v := .bool false) hf rfl rfl (fun hb' => ?_) (fun hb' => ?_) (by decide) ?_
    · exact absurd (hb6.symm.trans hb') (by decide)
    · rfl
    clear hf; intro a ha hf; clear ha
    refine st_nil hf (th_n ?_)
    exact ⟨hf.sub ⟨rfl, (by rw [hb6]; rfl), trivial⟩, hp⟩
  rintro a w ⟨hf, hp⟩
  refine st_move hf rfl rfl (by decide) ?_
  clear hf; intro a ha hf; clear ha
  refine wpList_cut 4 (fun a w => Fr 21 a [(20, .bool ((((decide ((-1073741824 : Int) ≤ g0_Re)) && (decide (g0_Re ≤ (1073741824 : Int)))) && (decide ((-1073741824 : Int) ≤ g0_Im))) && (decide (g0_Im ≤ (1073741824 : Int)))))] ∧ Hp S w0 w (Res.obj 56 v1 [.int .i64 g0_Re, .int .i64 g0_Im] :: ow)) ?_ ?_
  · rcases Bool.eq_false_or_eq_true (((decide ((-1073741824 : Int) ≤ g0_Re)) && (decide (g0_Re ≤ (1073741824 : Int)))) && (decide ((-1073741824 : Int) ≤ g0_Im))) with hb8 | hb8
    · skip
      refine st_fa (o' := 1) hf (by decide) (off := 1) (sz := 1) (by kernel_rfl) (by decide) (wantY hf rfl rfl hb8) rfl (hp.ob (i := 0) rfl) rfl ?_
      clear hf; intro a ha hf; clear ha
      refine st_ldO (u := .int .i64 g0_Im) hf (by decide) pl2 (wantY hf rfl rfl hb8) rfl (hp.ob (i := 0) rfl) rfl ?_
      clear hf; intro a ha hf; clear ha
      refine st_ileq hf (by decide) (wantY hf rfl rfl hb8) rfl rfl ?_
      clear hf; intro a ha hf; clear ha
      refine st_pick (v := .bool (decide (g0_Im ≤ (1073741824 : Int)))) hf rfl rfl (fun hb' => ?_) (fun hb' => ?_) (by decide) ?_
      · rfl
      · exact absurd (hb8.symm.trans hb') (by decide)
      clear hf; intro a ha hf; clear ha
      refine st_nil hf (th_n ?_)
      exact ⟨hf.sub ⟨(by rw [hb8]; rfl), trivial⟩, hp⟩
    refine st_skip hf (wantN hf rfl rfl hb8) rfl (by decide) ?_ rfl
    clear hf; intro a hf
    refine st_skip hf (wantN hf rfl rfl hb8) rfl (by decide) ?_ rfl
    clear hf; intro a hf
    refine st_skip hf (wantN hf rfl rfl hb8) rfl (by decide) ?_ rfl
    clear hf; intro a hf
    refine st_pick (v := .bool false) hf rfl rfl (fun hb' => ?_) (fun hb' => ?_) (by decide) ?_
    · exact absurd (hb8.symm.trans hb') (by decide)
    · rfl
    clear hf; intro a ha hf; clear ha
    refine st_nil hf (th_n ?_)
    exact ⟨hf.sub ⟨(by rw [hb8]; rfl), trivial⟩, hp⟩
  rintro a w ⟨hf, hp⟩
  refine st_assign hf rfl rfl (by decide) ?_
  clear hf; intro a ha hf; clear ha
  refine st_nil hf ?_
  refine th_n ?_
  refine wp_ret ?_
  obtain rfl := Option.some.inj h
  have hp : Hp _ _ _ (ow) := Hp.sel (pre := [Res.obj 56 v1 [.int .i64 g0_Re, .int .i64 g0_Im]]) (tail := ow) (rs' := []) hp [] (by decide) (by simp) rfl
  exact ⟨rfl, ⟨hf.sub ⟨rfl, trivial⟩, hp⟩⟩

noncomputable def f_plane_Gauss_times (g0_Re : Int) (g0_Im : Int) (o1_Re : Int) (o1_Im : Int) : Option (Int × Int) := (some ((IntKind.i64.wrap ((IntKind.i64.wrap (g0_Re * o1_Re)) - (IntKind.i64.wrap (g0_Im * o1_Im)))), (IntKind.i64.wrap ((IntKind.i64.wrap (g0_Re * o1_Im)) + (IntKind.i64.wrap (g0_Im * o1_Re))))))
theorem f_plane_Gauss_times_c {S : Nat → Prop} {w0 w : World} {ow : List Res} (hp : Hp S w0 w ow) (g0_Re : Int) (g0_Im : Int) (o1_Re : Int) (o1_Im : Int) {r : (Int × Int)} (h : f_plane_Gauss_times g0_Re g0_Im o1_Re o1_Im = some r) :
    Calls Try.prog 56 #[.agg #[.int .i64 g0_Re, .int .i64 g0_Im], .agg #[.int .i64 o1_Re, .int .i64 o1_Im]] w (fun e w' => e = .returned (.agg #[.int .i64 r.1, .int .i64 r.2]) ∧ Hp S w0 w' (ow)) := by
  unfold f_plane_Gauss_times at h
  refine enter (n := 28) (args := [.agg #[.int .i64 g0_Re, .int .i64 g0_Im], .agg #[.int .i64 o1_Re, .int .i64 o1_Im]]) Try.func56 rfl rfl (Nat.le_of_ble_eq_true rfl) fun a hf => ?_
  replace hf : Fr 28 a [(0, .agg #[.int .i64 g0_Re, .int .i64 g0_Im]), (1, .agg #[.int .i64 o1_Re, .int .i64 o1_Im])] := hf
  refine wp_mono (Q := fun e a w => e = .ret ∧ ∃ (c0 : Value), Fr 28 a [(4, optr c0 0)] ∧ Hp S w0 w (Res.obj 56 c0 [.int .i64 r.1, .int .i64 r.2] :: ow)) ?_ ?_
  rotate_left
  · rintro e a w ⟨rfl, c0, hf, hp⟩
    exact retG1 hf rfl ⟨_, _, rfl, hp.ob (i := 0) rfl, .inr ⟨by kernel_rfl, rfl⟩⟩ ⟨rfl, hp.drop⟩
  refine wp_seq ?_
  refine wp_reg ?_
  refine st_boxO (cs := [.int .i64 g0_Re, .int .i64 g0_Im]) hf (by decide) hp rfl rfl rfl ?_
  clear hf; intro a w v1 hf hp0; clear hp; have hp := hp0; clear hp0
  replace hp : Hp _ _ _ (Res.obj 56 v1 [.int .i64 g0_Re, .int .i64 g0_Im] :: ow) := hp
  refine st_boxO (cs := [.int .i64 o1_Re, .int .i64 o1_Im]) hf (by decide) hp rfl rfl rfl ?_
  clear hf; intro a w v3 hf hp0; clear hp; have hp := hp0; clear hp0
  replace hp : Hp _ _ _ (Res.obj 56 v3 [.int .i64 o1_Re, .int .i64 o1_Im] :: Res.obj 56 v1 [.int .i64 g0_Re, .int .i64 g0_Im] :: ow) := hp
  refine st_alloc (cs := [.int .i64 (0 : Int), .int .i64 (0 : Int)]) (zv := .agg #[.int .i64 (0 : Int), .int .i64 (0 : Int)]) hf (by decide) (by kernel_rfl) rfl hp rfl ?_
  clear hf; intro a w v5 hf hp0; clear hp; have hp := hp0; clear hp0
  replace hp : Hp _ _ _ (Res.obj 56 v5 [.int .i64 (0 : Int), .int .i64 (0 : Int)] :: Res.obj 56 v3 [.int .i64 o1_Re, .int .i64 o1_Im] :: Res.obj 56 v1 [.int .i64 g0_Re, .int .i64 g0_Im] :: ow) := hp
  refine st_nil hf ?_
  refine th_n ?_
  refine wp_seq ?_
  refine wp_reg ?_
  refine st_fa (o' := 0) hf (by decide) (off := 0) (sz := 1) (by kernel_rfl) (by decide) rfl rfl (hp.ob (i := 2) rfl) rfl ?_
  clear hf; intro a ha hf; clear ha
  refine st_ldO (u := .int .i64 g0_Re) hf (by decide) pl2 rfl rfl (hp.ob (i := 2) rfl) rfl ?_
  clear hf; intro a ha hf; clear ha
  refine st_fa (o' := 0) hf (by decide) (off := 0) (sz := 1) (by kernel_rfl) (by decide) rfl rfl (hp.ob (i := 1) rfl) rfl ?_
  clear hf; intro a ha hf; clear ha
  refine st_ldO (u := .int .i64 o1_Re) hf (by decide) pl2 rfl rfl (hp.ob (i := 1) rfl) rfl ?_
  clear hf; intro a ha hf; clear ha
  refine st_imul hf (by decide) rfl rfl rfl ?_
  clear hf; intro a ha hf; clear ha
  refine st_fa (o' := 1) hf (by decide) (off := 1) (sz := 1) (by kernel_rfl) (by decide) rfl rfl (hp.ob (i := 2) rfl) rfl ?_
  clear hf; intro a ha hf; clear ha
  refine st_ldO (u := .int .i64 g0_Im) hf (by decide) pl2 rfl rfl (hp.ob (i := 2) rfl) rfl ?_
  clear hf; intro a ha hf; clear ha
  refine st_fa (o' := 1) hf (by decide) (off := 1) (sz := 1) (by kernel_rfl) (by decide) rfl rfl (hp.ob (i := 1) rfl) rfl ?_
  clear hf; intro a ha hf; clear ha
  refine st_ldO (u := .int .i64 o1_Im) hf (by decide) pl2 rfl rfl (hp.ob (i := 1) rfl) rfl ?_
  clear hf; intro a ha hf; clear ha
  refine st_imul hf (by decide) rfl rfl rfl ?_
  clear hf; intro a ha hf; clear ha
  refine st_isub hf (by decide) rfl rfl rfl ?_
  clear hf; intro a ha hf; clear ha
  refine st_fa (o' := 0) hf (by decide) (off := 0) (sz := 1) (by kernel_rfl) (by decide) rfl rfl (hp.ob (i := 2) rfl) rfl ?_
  clear hf; intro a ha hf; clear ha
  refine st_ldO (u := .int .i64 g0_Re) hf (by decide) pl2 rfl rfl (hp.ob (i := 2) rfl) rfl ?_
  clear hf; intro a ha hf; clear ha
  refine st_fa (o' := 1) hf (by decide) (off := 1) (sz := 1) (by kernel_rfl) (by decide) rfl rfl (hp.ob (i := 1) rfl) rfl ?_
  clear hf; intro a ha hf; clear ha
  refine st_ldO (u := .int .i64 o1_Im) hf (by decide) pl2 rfl rfl (hp.ob (i := 1) rfl) rfl ?_
  clear hf; intro a ha hf; clear ha
  refine st_imul hf (by decide) rfl rfl rfl ?_
  clear hf; intro a ha hf; clear ha
  refine st_fa (o' := 1) hf (by decide) (off := 1) (sz := 1) (by kernel_rfl) (by decide) rfl rfl (hp.ob (i := 2) rfl) rfl ?_
  clear hf; intro a ha hf; clear ha
  refine st_ldO (u := .int .i64 g0_Im) hf (by decide) pl2 rfl rfl (hp.ob (i := 2) rfl) rfl ?_
  clear hf; intro a ha hf; clear ha
  refine st_fa (o' := 0) hf (by decide) (off := 0) (sz := 1) (by kernel_rfl) (by decide) rfl rfl (hp.ob (i := 1) rfl) rfl ?_
  clear hf; intro a ha hf; clear ha
  refine st_ldO (u := .int .i64 o1_Re) hf (by decide) pl2 rfl rfl (hp.ob (i := 1) rfl) rfl ?_
  clear hf; intro a ha hf; clear ha
  refine st_imul hf (by decide) rfl rfl rfl ?_
  clear hf; intro a ha hf; clear ha
  refine st_iadd hf (by decide) rfl rfl rfl ?_
  clear hf; intro a ha hf; clear ha
  refine st_buildA (vals := [(0, .int .i64 (IntKind.i64.wrap ((IntKind.i64.wrap (g0_Re * o1_Re)) - (IntKind.i64.wrap (g0_Im * o1_Im))))), (1, .int .i64 (IntKind.i64.wrap ((IntKind.i64.wrap (g0_Re * o1_Im)) + (IntKind.i64.wrap (g0_Im * o1_Re)))))]) (cells := [.int .i64 (IntKind.i64.wrap ((IntKind.i64.wrap (g0_Re * o1_Re)) - (IntKind.i64.wrap (g0_Im * o1_Im)))), .int .i64 (IntKind.i64.wrap ((IntKind.i64.wrap (g0_Re * o1_Im)) + (IntKind.i64.wrap (g0_Im * o1_Re))))]) hf (by decide) rfl (by simp [hf.ev (x := (Operand.tmp 15)) rfl, hf.ev (x := (Operand.tmp 26)) rfl]) (fun w => by kernel_rfl) ?_
  clear hf; intro a ha hf; clear ha
  refine st_stO (us := [.int .i64 (IntKind.i64.wrap ((IntKind.i64.wrap (g0_Re * o1_Re)) - (IntKind.i64.wrap (g0_Im * o1_Im)))), .int .i64 (IntKind.i64.wrap ((IntKind.i64.wrap (g0_Re * o1_Im)) + (IntKind.i64.wrap (g0_Im * o1_Re))))]) hf hp (i := 0) rfl rfl rfl rfl rfl (by rfl) (by kernel_rfl) (Nat.le_of_ble_eq_true rfl) ?_
  clear hf; intro a w hf hp0; clear hp; have hp := hp0; clear hp0
  replace hp : Hp _ _ _ (Res.obj 56 v5 [.int .i64 (IntKind.i64.wrap ((IntKind.i64.wrap (g0_Re * o1_Re)) - (IntKind.i64.wrap (g0_Im * o1_Im)))), .int .i64 (IntKind.i64.wrap ((IntKind.i64.wrap (g0_Re * o1_Im)) + (IntKind.i64.wrap (g0_Im * o1_Re))))] :: Res.obj 56 v3 [.int .i64 o1_Re, .int .i64 o1_Im] :: Res.obj 56 v1 [.int .i64 g0_Re, .int .i64 g0_Im] :: ow) := hp
  refine st_nil hf ?_
  refine th_n ?_
  refine wp_ret ?_
  obtain rfl := Option.some.inj h
  have hp : Hp _ _ _ (Res.obj 56 v5 [.int .i64 (IntKind.i64.wrap ((IntKind.i64.wrap (g0_Re * o1_Re)) - (IntKind.i64.wrap (g0_Im * o1_Im)))), .int .i64 (IntKind.i64.wrap ((IntKind.i64.wrap (g0_Re * o1_Im)) + (IntKind.i64.wrap (g0_Im * o1_Re))))] :: ow) := Hp.sel (pre := [Res.obj 56 v5 [.int .i64 (IntKind.i64.wrap ((IntKind.i64.wrap (g0_Re * o1_Re)) - (IntKind.i64.wrap (g0_Im * o1_Im)))), .int .i64 (IntKind.i64.wrap ((IntKind.i64.wrap (g0_Re * o1_Im)) + (IntKind.i64.wrap (g0_Im * o1_Re))))], Res.obj 56 v3 [.int .i64 o1_Re, .int .i64 o1_Im], Res.obj 56 v1 [.int .i64 g0_Re, .int .i64 g0_Im]]) (tail := ow) (rs' := [Res.obj 56 v5 [.int .i64 (IntKind.i64.wrap ((IntKind.i64.wrap (g0_Re * o1_Re)) - (IntKind.i64.wrap (g0_Im * o1_Im)))), .int .i64 (IntKind.i64.wrap ((IntKind.i64.wrap (g0_Re * o1_Im)) + (IntKind.i64.wrap (g0_Im * o1_Re))))]]) hp [0] (by decide) (by simp) rfl
  exact ⟨rfl, ⟨_, hf.sub ⟨rfl, trivial⟩, hp⟩⟩

noncomputable def f_plane_Gauss_Times (g0_Re : Int) (g0_Im : Int) (o1_Re : Int) (o1_Im : Int) : Option ((Int × Int) × Int) := ((f_plane_Gauss_may g0_Re g0_Im).bind fun q7 => ((if (!q7) = true then (some true) else ((f_plane_Gauss_may o1_Re o1_Im).bind fun q12 => (some (!q12)))).bind fun z11 => (if z11 = true then (some (((0 : Int), (0 : Int)), (1 : Int))) else ((f_plane_Gauss_times g0_Re g0_Im o1_Re o1_Im).bind fun q14 => (some ((q14.1, q14.2), (0 : Int)))))))
theorem f_plane_Gauss_Times_c {S : Nat → Prop} {w0 w : World} {ow : List Res} (hp : Hp S w0 w ow) (g0_Re : Int) (g0_Im : Int) (o1_Re : Int) (o1_Im : Int) {r : ((Int × Int) × Int)} (h : f_plane_Gauss_Times g0_Re g0_Im o1_Re o1_Im = some r) :
    Calls Try.prog 31 #[.agg #[.int .i64 g0_Re, .int .i64 g0_Im], .agg #[.int .i64 o1_Re, .int .i64 o1_Im]] w (fun e w' => e = .returned (.tuple #[.agg #[.int .i64 r.1.1, .int .i64 r.1.2], .int .i64 r.2]) ∧ Hp S w0 w' (ow)) := by
  unfold f_plane_Gauss_Times at h
  refine enter (n := 18) (args := [.agg #[.int .i64 g0_Re, .int .i64 g0_Im], .agg #[.int .i64 o1_Re, .int .i64 o1_Im]]) Try.func31 rfl rfl (Nat.le_of_ble_eq_true rfl) fun a hf => ?_
  replace hf : Fr 18 a [(0, .agg #[.int .i64 g0_Re, .int .i64 g0_Im]), (1, .agg #[.int .i64 o1_Re, .int .i64 o1_Im])] := hf
  refine wp_mono (Q := fun e a w => e = .ret ∧ ∃ (c0 : Value), Fr 18 a [(4, optr c0 0), (5, .int .i64 r.2)] ∧ Hp S w0 w (Res.obj 56 c0 [.int .i64 r.1.1, .int .i64 r.1.2] :: ow)) ?_ ?_
  rotate_left
  · rintro e a w ⟨rfl, c0, hf, hp⟩
    exact retG2 hf rfl ⟨_, _, rfl, hp.ob (i := 0) rfl, .inr ⟨by kernel_rfl, rfl⟩⟩ rfl ⟨rfl, hp.drop⟩
  refine wp_seq ?_
  refine wp_reg ?_
  refine st_boxO (cs := [.int .i64 g0_Re, .int .i64 g0_Im]) hf (by decide) hp rfl rfl rfl ?_
  clear hf; intro a w v1 hf hp0; clear hp; have hp := hp0; clear hp0
  replace hp : Hp _ _ _ (Res.obj 56 v1 [.int .i64 g0_Re, .int .i64 g0_Im] :: ow) := hp
  refine st_boxO (cs := [.int .i64 o1_Re, .int .i64 o1_Im]) hf (by decide) hp rfl rfl rfl ?_
  clear hf; intro a w v3 hf hp0; clear hp; have hp := hp0; clear hp0
  replace hp : Hp _ _ _ (Res.obj 56 v3 [.int .i64 o1_Re, .int .i64 o1_Im] :: Res.obj 56 v1 [.int .i64 g0_Re, .int .i64 g0_Im] :: ow) := hp
  refine st_alloc (cs := [.int .i64 (0 : Int), .int .i64 (0 : Int)]) (zv := .agg #[.int .i64 (0 : Int), .int .i64 (0 : Int)]) hf (by decide) (by kernel_rfl) rfl hp rfl ?_
  clear hf; intro a w v5 hf hp0; clear hp; have hp := hp0; clear hp0
  replace hp : Hp _ _ _ (Res.obj 56 v5 [.int .i64 (0 : Int), .int .i64 (0 : Int)] :: Res.obj 56 v3 [.int .i64 o1_Re, .int .i64 o1_Im] :: Res.obj 56 v1 [.int .i64 g0_Re, .int .i64 g0_Im] :: ow) := hp
  refine st_assign hf rfl rfl (by decide) ?_
  clear hf; intro a ha hf; clear ha
  refine st_nil hf ?_
  refine th_n ?_
  refine wp_seq ?_
  refine wp_seq ?_
  refine wp_reg ?_
  refine st_ldOA (m := 2) (us := [.int .i64 g0_Re, .int .i64 g0_Im]) hf (by decide) (by kernel_rfl) rfl rfl (hp.ob (i := 2) rfl) rfl rfl ?_
  clear hf; intro a ha hf; clear ha
  obtain ⟨q7, hcall8, h⟩ := bnd h
  refine st_call hf (by decide) Try.func55 rfl rfl rfl rfl rfl (f_plane_Gauss_may_c hp _ _ hcall8) ?_
  rintro _ w ⟨rfl, hp0⟩
  clear hp; have hp := hp0; clear hp0
  replace hp : Hp _ _ _ (Res.obj 56 v5 [.int .i64 (0 : Int), .int .i64 (0 : Int)] :: Res.obj 56 v3 [.int .i64 o1_Re, .int .i64 o1_Im] :: Res.obj 56 v1 [.int .i64 g0_Re, .int .i64 g0_Im] :: ow) := hp
  refine ⟨_, rfl, ?_⟩
  clear hf; intro a hf
  refine st_not hf (by decide) rfl rfl ?_
  clear hf; intro a ha hf; clear ha
  refine st_move hf rfl rfl (by decide) ?_
  clear hf; intro a ha hf; clear ha
  obtain ⟨z11, hz9, h⟩ := bnd h
  refine wpList_cut 4 (fun a w => Fr 18 a [(2, optr v1 0), (3, optr v3 0), (4, optr v5 0), (13, .bool z11)] ∧ Hp S w0 w (Res.obj 56 v5 [.int .i64 (0 : Int), .int .i64 (0 : Int)] :: Res.obj 56 v3 [.int .i64 o1_Re, .int .i64 o1_Im] :: Res.obj 56 v1 [.int .i64 g0_Re, .int .i64 g0_Im] :: ow)) ?_ ?_
  · rcases Bool.eq_false_or_eq_true (!q7) with hb10 | hb10
    · skip
      replace hz9 := ifT hz9 hb10
      refine st_skip hf (wantN hf rfl rfl hb10) rfl (by decide) ?_ rfl
      clear hf; intro a hf
      refine st_skip hf (wantN hf rfl rfl hb10) rfl (by decide) ?_ rfl
      clear hf; intro a hf
      refine st_skip hf (wantN hf rfl rfl hb10) rfl (by decide) ?_ rfl
      clear hf; intro a hf
      obtain rfl := Option.some.inj hz9
      refine st_pick (v := .bool true) hf rfl rfl (fun hb' => ?_) (fun hb' => ?_) (by decide) ?_
      · rfl
      · exact absurd (hb10.symm.trans hb') (by decide)
      clear hf; intro a ha hf; clear ha
      refine st_nil hf (th_n ?_)
      exact ⟨hf.sub ⟨rfl, rfl, rfl, rfl, trivial⟩, hp⟩
    replace hz9 := ifF hz9 hb10
    refine st_ldOA (m := 2) (us := [.int .i64 o1_Re, .int .i64 o1_Im]) hf (by decide) (by kernel_rfl) (wantY hf rfl rfl hb10) rfl (hp.ob (i := 1) rfl) rfl rfl ?_
    clear hf; intro a ha hf; clear ha
    obtain ⟨q12, hcall13, hz9⟩ := bnd hz9
    refine st_call hf (by decide) Try.func55 rfl rfl (wantY hf rfl rfl hb10) rfl rfl (f_plane_Gauss_may_c hp _ _ hcall13) ?_
    rintro _ w ⟨rfl, hp0⟩
    clear hp; have hp := hp0; clear hp0
    replace hp : Hp _ _ _ (Res.obj 56 v5 [.int .i64 (0 : Int), .int .i64 (0 : Int)] :: Res.obj 56 v3 [.int .i64 o1_Re, .int .i64 o1_Im] :: Res.obj 56 v1 [.int .i64 g0_Re, .int .i64 g0_Im] :: ow) := hp
    refine ⟨_, rfl, ?_⟩
    clear hf; intro a hf
    refine st_not hf (by decide) (wantY hf rfl rfl hb10) rfl ?_
    clear hf; intro a ha hf; clear ha
    obtain rfl := Option.some.inj hz9
    refine st_pick (v := .bool (!q12)) hf rfl rfl (fun hb' => ?_) (fun hb' => ?_) (by decide) ?_
    · exact absurd (hb10.symm.trans hb') (by decide)
    · rfl
    clear hf; intro a ha hf; clear ha
    refine st_nil hf (th_n ?_)
    exact ⟨hf.sub ⟨rfl, rfl, rfl, rfl, trivial⟩, hp⟩
  rintro a w ⟨hf, hp⟩
  refine st_nil hf ?_
  refine th_n ?_
  refine wp_if hf rfl (fun hb => ?_) (fun hb => ?_)
  · replace h := ifT h hb
    refine wp_seq ?_
    refine wp_reg ?_
    refine st_buildA (vals := []) (cells := [.int .i64 (0 : Int), .int .i64 (0 : Int)]) hf (by decide) rfl (by simp []) (fun w => by kernel_rfl) ?_
    clear hf; intro a ha hf; clear ha
    refine st_stO (us := [.int .i64 (0 : Int), .int .i64 (0 : Int)]) hf hp (i := 0) rfl rfl rfl rfl rfl (by rfl) (by kernel_rfl) (Nat.le_of_ble_eq_true rfl) ?_
    clear hf; intro a w hf hp0; clear hp; have hp := hp0; clear hp0
    replace hp : Hp _ _ _ (Res.obj 56 v5 [.int .i64 (0 : Int), .int .i64 (0 : Int)] :: Res.obj 56 v3 [.int .i64 o1_Re, .int .i64 o1_Im] :: Res.obj 56 v1 [.int .i64 g0_Re, .int .i64 g0_Im] :: ow) := hp
    refine st_assign hf rfl rfl (by decide) ?_
    clear hf; intro a ha hf; clear ha
    refine st_nil hf ?_
    refine th_n ?_
    refine wp_ret ?_
    refine th_r ?_
    obtain rfl := Option.some.inj h
    have hp : Hp _ _ _ (Res.obj 56 v5 [.int .i64 (0 : Int), .int .i64 (0 : Int)] :: ow) := Hp.sel (pre := [Res.obj 56 v5 [.int .i64 (0 : Int), .int .i64 (0 : Int)], Res.obj 56 v3 [.int .i64 o1_Re, .int .i64 o1_Im], Res.obj 56 v1 [.int .i64 g0_Re, .int .i64 g0_Im]]) (tail := ow) (rs' := [Res.obj 56 v5 [.int .i64 (0 : Int), .int .i64 (0 : Int)]]) hp [0] (by decide) (by simp) rfl
    exact ⟨rfl, ⟨_, hf.sub ⟨rfl, rfl, trivial⟩, hp⟩⟩
  replace h := ifF h hb
  refine wp_skip ?_
  refine th_n ?_
  refine wp_seq ?_
  refine wp_reg ?_
  refine st_ldOA (m := 2) (us := [.int .i64 g0_Re, .int .i64 g0_Im]) hf (by decide) (by kernel_rfl) rfl rfl (hp.ob (i := 2) rfl) rfl rfl ?_
  clear hf; intro a ha hf; clear ha
  refine st_ldOA (m := 2) (us := [.int .i64 o1_Re, .int .i64 o1_Im]) hf (by decide) (by kernel_rfl) rfl rfl (hp.ob (i := 1) rfl) rfl rfl ?_
  clear hf; intro a ha hf; clear ha
  obtain ⟨q14, hcall15, h⟩ := bnd h
  refine st_call hf (by decide) Try.func56 rfl rfl rfl rfl rfl (f_plane_Gauss_times_c hp _ _ _ _ hcall15) ?_
  rintro _ w ⟨rfl, hp0⟩
  clear hp; have hp := hp0; clear hp0
  replace hp : Hp _ _ _ (Res.obj 56 v5 [.int .i64 (0 : Int), .int .i64 (0 : Int)] :: Res.obj 56 v3 [.int .i64 o1_Re, .int .i64 o1_Im] :: Res.obj 56 v1 [.int .i64 g0_Re, .int .i64 g0_Im] :: ow) := hp
  refine ⟨_, rfl, ?_⟩
  clear hf; intro a hf
  refine st_stO (us := [.int .i64 q14.1, .int .i64 q14.2]) hf hp (i := 0) rfl rfl rfl rfl rfl (by rfl) (by kernel_rfl) (Nat.le_of_ble_eq_true rfl) ?_
  clear hf; intro a w hf hp0; clear hp; have hp := hp0; clear hp0
  replace hp : Hp _ _ _ (Res.obj 56 v5 [.int .i64 q14.1, .int .i64 q14.2] :: Res.obj 56 v3 [.int .i64 o1_Re, .int .i64 o1_Im] :: Res.obj 56 v1 [.int .i64 g0_Re, .int .i64 g0_Im] :: ow) := hp
  refine st_assign hf rfl rfl (by decide) ?_
  clear hf; intro a ha hf; clear ha
  refine st_nil hf ?_
  refine th_n ?_
  refine wp_ret ?_
  obtain rfl := Option.some.inj h
  have hp : Hp _ _ _ (Res.obj 56 v5 [.int .i64 q14.1, .int .i64 q14.2] :: ow) := Hp.sel (pre := [Res.obj 56 v5 [.int .i64 q14.1, .int .i64 q14.2], Res.obj 56 v3 [.int .i64 o1_Re, .int .i64 o1_Im], Res.obj 56 v1 [.int .i64 g0_Re, .int .i64 g0_Im]]) (tail := ow) (rs' := [Res.obj 56 v5 [.int .i64 q14.1, .int .i64 q14.2]]) hp [0] (by decide) (by simp) rfl
  exact ⟨rfl, ⟨_, hf.sub ⟨rfl, rfl, trivial⟩, hp⟩⟩

noncomputable def f_foghornref03_May (g0_Re : Int) (g0_Im : Int) : Option Bool := (some ((((decide ((-1073741824 : Int) ≤ g0_Re)) && (decide (g0_Re ≤ (1073741824 : Int)))) && (decide ((-1073741824 : Int) ≤ g0_Im))) && (decide (g0_Im ≤ (1073741824 : Int)))))
theorem f_foghornref03_May_c {S : Nat → Prop} {w0 w : World} {ow : List Res} (hp : Hp S w0 w ow) (g0_Re : Int) (g0_Im : Int) {r : Bool} (h : f_foghornref03_May g0_Re g0_Im = some r) :
    Calls Try.prog 63 #[.agg #[.int .i64 g0_Re, .int .i64 g0_Im]] w (fun e w' => e = .returned (.bool r) ∧ Hp S w0 w' (ow)) := by
  unfold f_foghornref03_May at h
  refine enter (n := 21) (args := [.agg #[.int .i64 g0_Re, .int .i64 g0_Im]]) Try.func63 rfl rfl (Nat.le_of_ble_eq_true rfl) fun a hf => ?_
  replace hf : Fr 21 a [(0, .agg #[.int .i64 g0_Re, .int .i64 g0_Im])] := hf
  refine wp_mono (Q := fun e a w => e = .ret ∧ Fr 21 a [(2, .bool r)] ∧ Hp S w0 w (ow)) ?_ ?_
  rotate_left
  · rintro e a w ⟨rfl, hf, hp⟩
    exact ret1 hf rfl rfl ⟨rfl, hp⟩
  refine wp_seq ?_
  refine wp_reg ?_
  refine st_boxO (cs := [.int .i64 g0_Re, .int .i64 g0_Im]) hf (by decide) hp rfl rfl rfl ?_
  clear hf; intro a w v1 hf hp0; clear hp; have hp := hp0; clear hp0
  replace hp : Hp _ _ _ (Res.obj 74 v1 [.int .i64 g0_Re, .int .i64 g0_Im] :: ow) := hp
  refine st_assign hf rfl rfl (by decide) ?_
  clear hf; intro a ha hf; clear ha
  refine st_nil hf ?_
  refine th_n ?_
  refine wp_seq ?_
  refine wp_reg ?_
  refine st_fa (o' := 0) hf (by decide) (off := 0) (sz := 1) (by kernel_rfl) (by decide) rfl rfl (hp.ob (i := 0) rfl) rfl ?_
  clear hf; intro a ha hf; clear ha
  refine st_ldO (u := .int .i64 g0_Re) hf (by decide) pl2 rfl rfl (hp.ob (i := 0) rfl) rfl ?_
  clear hf; intro a ha hf; clear ha
  refine st_igeq hf (by decide) rfl rfl rfl ?_
  clear hf; intro a ha hf; clear ha
  refine st_move hf rfl rfl (by decide) ?_
  clear hf; intro a ha hf; clear ha
  refine wpList_cut 4 (fun a w => Fr 21 a [(1, optr v1 0), (10, .bool ((decide ((-1073741824 : Int) ≤ g0_Re)) && (decide (g0_Re ≤ (1073741824 : Int)))))] ∧ Hp S w0 w (Res.obj 74 v1 [.int .i64 g0_Re, .int .i64 g0_Im] :: ow)) ?_ ?_
  · rcases Bool.eq_false_or_eq_true (decide ((-1073741824 : Int) ≤ g0_Re)) with hb4 | hb4
    · skip
      refine st_fa (o' := 0) hf (by decide) (off := 0) (sz := 1) (by kernel_rfl) (by decide) (wantY hf rfl rfl hb4) rfl (hp.ob (i := 0) rfl) rfl ?_
      clear hf; intro a ha hf; clear ha
      refine st_ldO (u := .int .i64 g0_Re) hf (by decide) pl2 (wantY hf rfl rfl hb4) rfl (hp.ob (i := 0) rfl) rfl ?_
      clear hf; intro a ha hf; clear ha
      refine st_ileq hf (by decide) (wantY hf rfl rfl hb4) rfl rfl ?_
      clear hf; intro a ha hf; clear ha
      refine st_pick (v := .bool (decide (g0_Re ≤ (1073741824 : Int)))) hf rfl rfl (fun hb' => ?_) (fun hb' => ?_) (by decide) ?_
      · rfl
      · exact absurd (hb4.symm.trans hb') (by decide)
      clear hf; intro a ha hf; clear ha
      refine st_nil hf (th_n ?_)
      exact ⟨hf.sub ⟨rfl, (by rw [hb4]; rfl), trivial⟩, hp⟩
    refine st_skip hf (wantN hf rfl rfl hb4) rfl (by decide) ?_ rfl
    clear hf; intro a hf
    refine st_skip hf (wantN hf rfl rfl hb4) rfl (by decide) ?_ rfl
    clear hf; intro a hf
    refine st_skip hf (wantN hf rfl rfl hb4) rfl (by decide) ?_ rfl
    clear hf; intro a hf
    refine st_pick (v := .bool false) hf rfl rfl (fun hb' => ?_) (fun hb' => ?_) (by decide) ?_
    · exact absurd (hb4.symm.trans hb') (by decide)
    · rfl
    clear hf; intro a ha hf; clear ha
    refine st_nil hf (th_n ?_)
    exact ⟨hf.sub ⟨rfl, (by rw [hb4]; rfl), trivial⟩, hp⟩
  rintro a w ⟨hf, hp⟩
  refine st_move hf rfl rfl (by decide) ?_
  clear hf; intro a ha hf; clear ha
  refine wpList_cut 4 (fun a w => Fr 21 a [(1, optr v1 0), (15, .bool (((decide ((-1073741824 : Int) ≤ g0_Re)) && (decide (g0_Re ≤ (1073741824 : Int)))) && (decide ((-1073741824 : Int) ≤ g0_Im))))] ∧ Hp S w0 w (Res.obj 74 v1 [.int .i64 g0_Re, .int .i64 g0_Im] :: ow)) ?_ ?_
  · rcases Bool.eq_false_or_eq_true ((decide ((-1073741824 : Int) ≤ g0_Re)) && (decide (g0_Re ≤ (1073741824 : Int)))) with hb6 | hb6
    · skip
      refine st_fa (o' := 1) hf (by decide) (off := 1) (sz := 1) (by kernel_rfl) (by decide) (wantY hf rfl rfl hb6) rfl (hp.ob (i := 0) rfl) rfl ?_
      clear hf; intro a ha hf; clear ha
      refine st_ldO (u := .int .i64 g0_Im) hf (by decide) pl2 (wantY hf rfl rfl hb6) rfl (hp.ob (i := 0) rfl) rfl ?_
      clear hf; intro a ha hf; clear ha
      refine st_igeq hf (by decide) (wantY hf rfl rfl hb6) rfl rfl ?_
      clear hf; intro a ha hf; clear ha
      refine st_pick (v := .bool (decide ((-1073741824 : Int) ≤ g0_Im))) hf rfl rfl (fun hb' => ?_) (fun hb' => ?_) (by decide) ?_
      · rfl
      · exact absurd (hb6.symm.trans hb') (by decide)
      clear hf; intro a ha hf; clear ha
      refine st_nil hf (th_n ?_)
      exact ⟨hf.sub ⟨rfl, (by rw [hb6]; rfl), trivial⟩, hp⟩
    refine st_skip hf (wantN hf rfl rfl hb6) rfl (by decide) ?_ rfl
    clear hf; intro a hf
    refine st_skip hf (wantN hf rfl rfl hb6) rfl (by decide) ?_ rfl
    clear hf; intro a hf
    refine st_skip hf (wantN hf rfl rfl hb6) rfl (by decide) ?_ rfl
    clear hf; intro a hf
    refine st_pick (v := .bool false) hf rfl rfl (fun hb' => ?_) (fun hb' => ?_) (by decide) ?_
    · exact absurd (hb6.symm.trans hb') (by decide)
    · rfl
    clear hf; intro a ha hf; clear ha
    refine st_nil hf (th_n ?_)
    exact ⟨hf.sub ⟨rfl, (by rw [hb6]; rfl), trivial⟩, hp⟩
  rintro a w ⟨hf, hp⟩
  refine st_move hf rfl rfl (by decide) ?_
  clear hf; intro a ha hf; clear ha
  refine wpList_cut 4 (fun a w => Fr 21 a [(20, .bool ((((decide ((-1073741824 : Int) ≤ g0_Re)) && (decide (g0_Re ≤ (1073741824 : Int)))) && (decide ((-1073741824 : Int) ≤ g0_Im))) && (decide (g0_Im ≤ (1073741824 : Int)))))] ∧ Hp S w0 w (Res.obj 74 v1 [.int .i64 g0_Re, .int .i64 g0_Im] :: ow)) ?_ ?_
  · rcases Bool.eq_false_or_eq_true (((decide ((-1073741824 : Int) ≤ g0_Re)) && (decide (g0_Re ≤ (1073741824 : Int)))) && (decide ((-1073741824 : Int) ≤ g0_Im))) with hb8 | hb8
    · skip
      refine st_fa (o' := 1) hf (by decide) (off := 1) (sz := 1) (by kernel_rfl) (by decide) (wantY hf rfl rfl hb8) rfl (hp.ob (i := 0) rfl) rfl ?_
      clear hf; intro a ha hf; clear ha
      refine st_ldO (u := .int .i64 g0_Im) hf (by decide) pl2 (wantY hf rfl rfl hb8) rfl (hp.ob (i := 0) rfl) rfl ?_
      clear hf; intro a ha hf; clear ha
      refine st_ileq hf (by decide) (wantY hf rfl rfl hb8) rfl rfl ?_
      clear hf; intro a ha hf; clear ha
      refine st_pick (v := .bool (decide (g0_Im ≤ (1073741824 : Int)))) hf rfl rfl (fun hb' => ?_) (fun hb' => ?_) (by decide) ?_
      · rfl
      · exact absurd (hb8.symm.trans hb') (by decide)
      clear hf; intro a ha hf; clear ha
      refine st_nil hf (th_n ?_)
      exact ⟨hf.sub ⟨(by rw [hb8]; rfl), trivial⟩, hp⟩
    refine st_skip hf (wantN hf rfl rfl hb8) rfl (by decide) ?_ rfl
    clear hf; intro a hf
    refine st_skip hf (wantN hf rfl rfl hb8) rfl (by decide) ?_ rfl
    clear hf; intro a hf
    refine st_skip hf (wantN hf rfl rfl hb8) rfl (by decide) ?_ rfl
    clear hf; intro a hf
    refine st_pick (v := .bool false) hf rfl rfl (fun hb' => ?_) (fun hb' => ?_) (by decide) ?_
    · exact absurd (hb8.symm.trans hb') (by decide)
    · rfl
    clear hf; intro a ha hf; clear ha
    refine st_nil hf (th_n ?_)
    exact ⟨hf.sub ⟨(by rw [hb8]; rfl), trivial⟩, hp⟩
  rintro a w ⟨hf, hp⟩
  refine st_assign hf rfl rfl (by decide) ?_
  clear hf; intro a ha hf; clear ha
  refine st_nil hf ?_
  refine th_n ?_
  refine wp_ret ?_
  obtain rfl := Option.some.inj h
  have hp : Hp _ _ _ (ow) := Hp.sel (pre := [Res.obj 74 v1 [.int .i64 g0_Re, .int .i64 g0_Im]]) (tail := ow) (rs' := []) hp [] (by decide) (by simp) rfl
  exact ⟨rfl, ⟨hf.sub ⟨rfl, trivial⟩, hp⟩⟩

noncomputable def f_foghornref03_times (ax0_Re : Int) (ax0_Im : Int) (bx1_Re : Int) (bx1_Im : Int) : Option (Int × Int) := (some ((IntKind.i64.wrap ((IntKind.i64.wrap (ax0_Re * bx1_Re)) - (IntKind.i64.wrap (ax0_Im * bx1_Im)))), (IntKind.i64.wrap ((IntKind.i64.wrap (ax0_Re * bx1_Im)) + (IntKind.i64.wrap (ax0_Im * bx1_Re))))))
theorem f_foghornref03_times_c {S : Nat → Prop} {w0 w : World} {ow : List Res} (hp : Hp S w0 w ow) (ax0_Re : Int) (ax0_Im : Int) (bx1_Re : Int) (bx1_Im : Int) {r : (Int × Int)} (h : f_foghornref03_times ax0_Re ax0_Im bx1_Re bx1_Im = some r) :
    Calls Try.prog 64 #[.agg #[.int .i64 ax0_Re, .int .i64 ax0_Im], .agg #[.int .i64 bx1_Re, .int .i64 bx1_Im]] w (fun e w' => e = .returned (.agg #[.int .i64 r.1, .int .i64 r.2]) ∧ Hp S w0 w' (ow)) := by
  unfold f_foghornref03_times at h
  refine enter (n := 28) (args := [.agg #[.int .i64 ax0_Re, .int .i64 ax0_Im], .agg #[.int .i64 bx1_Re, .int .i64 bx1_Im]]) Try.func64 rfl rfl (Nat.le_of_ble_eq_true rfl) fun a hf => ?_
  replace hf : Fr 28 a [(0, .agg #[.int .i64 ax0_Re, .int .i64 ax0_Im]), (1, .agg #[.int .i64 bx1_Re, .int .i64 bx1_Im])] := hf
  refine wp_mono (Q := fun e a w => e = .ret ∧ ∃ (c0 : Value), Fr 28 a [(4, optr c0 0)] ∧ Hp S w0 w (Res.obj 74 c0 [.int .i64 r.1, .int .i64 r.2] :: ow)) ?_ ?_
  rotate_left
  · rintro e a w ⟨rfl, c0, hf, hp⟩
    exact retG1 hf rfl ⟨_, _, rfl, hp.ob (i := 0) rfl, .inr ⟨by kernel_rfl, rfl⟩⟩ ⟨rfl, hp.drop⟩
  refine wp_seq ?_
  refine wp_reg ?_
  refine st_boxO (cs := [.int .i64 ax0_Re, .int .i64 ax0_Im]) hf (by decide) hp rfl rfl rfl ?_
  clear hf; intro a w v1 hf hp0; clear hp; have hp := hp0; clear hp0
  replace hp : Hp _ _ _ (Res.obj 74 v1 [.int .i64 ax0_Re, .int .i64 ax0_Im] :: ow) := hp
  refine st_boxO (cs := [.int .i64 bx1_Re, .int .i64 bx1_Im]) hf (by decide) hp rfl rfl rfl ?_
  clear hf; intro a w v3 hf hp0; clear hp; have hp := hp0; clear hp0
  replace hp : Hp _ _ _ (Res.obj 74 v3 [.int .i64 bx1_Re, .int .i64 bx1_Im] :: Res.obj 74 v1 [.int .i64 ax0_Re, .int .i64 ax0_Im] :: ow) := hp
  refine st_alloc (cs := [.int .i64 (0 : Int), .int .i64 (0 : Int)]) (zv := .agg #[.int .i64 (0 : Int), .int .i64 (0 : Int)]) hf (by decide) (by kernel_rfl) rfl hp rfl ?_
  clear hf; intro a w v5 hf hp0; clear hp; have hp := hp0; clear hp0
  replace hp : Hp _ _ _ (Res.obj 74 v5 [.int .i64 (0 : Int), .int .i64 (0 : Int)] :: Res.obj 74 v3 [.int .i64 bx1_Re, .int .i64 bx1_Im] :: Res.obj 74 v1 [.int .i64 ax0_Re, .int .i64 ax0_Im] :: ow) := hp
  refine st_nil hf ?_
  refine th_n ?_
  refine wp_seq ?_
  refine wp_reg ?_
  refine st_fa (o' := 0) hf (by decide) (off := 0) (sz := 1) (by kernel_rfl) (by decide) rfl rfl (hp.ob (i := 2) rfl) rfl ?_
  clear hf; intro a ha hf; clear ha
  refine st_ldO (u := .int .i64 ax0_Re) hf (by decide) pl2 rfl rfl (hp.ob (i := 2) rfl) rfl ?_
  clear hf; intro a ha hf; clear ha
  refine st_fa (o' := 0) hf (by decide) (off := 0) (sz := 1) (by kernel_rfl) (by decide) rfl rfl (hp.ob (i := 1) rfl) rfl ?_
  clear hf; intro a ha hf; clear ha
  refine st_ldO (u := .int .i64 bx1_Re) hf (by decide) pl2 rfl rfl (hp.ob (i := 1) rfl) rfl ?_
  clear hf; intro a ha hf; clear ha
  refine st_imul hf (by decide) rfl rfl rfl ?_
  clear hf; intro a ha hf; clear ha
  refine st_fa (o' := 1) hf (by decide) (off := 1) (sz := 1) (by kernel_rfl) (by decide) rfl rfl (hp.ob (i := 2) rfl) rfl ?_
  clear hf; intro a ha hf; clear ha
  refine st_ldO (u := .int .i64 ax0_Im) hf (by decide) pl2 rfl rfl (hp.ob (i := 2) rfl) rfl ?_
  clear hf; intro a ha hf; clear ha
  refine st_fa (o' := 1) hf (by decide) (off := 1) (sz := 1) (by kernel_rfl) (by decide) rfl rfl (hp.ob (i := 1) rfl) rfl ?_
  clear hf; intro a ha hf; clear ha
  refine st_ldO (u := .int .i64 bx1_Im) hf (by decide) pl2 rfl rfl (hp.ob (i := 1) rfl) rfl ?_
  clear hf; intro a ha hf; clear ha
  refine st_imul hf (by decide) rfl rfl rfl ?_
  clear hf; intro a ha hf; clear ha
  refine st_isub hf (by decide) rfl rfl rfl ?_
  clear hf; intro a ha hf; clear ha
  refine st_fa (o' := 0) hf (by decide) (off := 0) (sz := 1) (by kernel_rfl) (by decide) rfl rfl (hp.ob (i := 2) rfl) rfl ?_
  clear hf; intro a ha hf; clear ha
  refine st_ldO (u := .int .i64 ax0_Re) hf (by decide) pl2 rfl rfl (hp.ob (i := 2) rfl) rfl ?_
  clear hf; intro a ha hf; clear ha
  refine st_fa (o' := 1) hf (by decide) (off := 1) (sz := 1) (by kernel_rfl) (by decide) rfl rfl (hp.ob (i := 1) rfl) rfl ?_
  clear hf; intro a ha hf; clear ha
  refine st_ldO (u := .int .i64 bx1_Im) hf (by decide) pl2 rfl rfl (hp.ob (i := 1) rfl) rfl ?_
  clear hf; intro a ha hf; clear ha
  refine st_imul hf (by decide) rfl rfl rfl ?_
  clear hf; intro a ha hf; clear ha
  refine st_fa (o' := 1) hf (by decide) (off := 1) (sz := 1) (by kernel_rfl) (by decide) rfl rfl (hp.ob (i := 2) rfl) rfl ?_
  clear hf; intro a ha hf; clear ha
  refine st_ldO (u := .int .i64 ax0_Im) hf (by decide) pl2 rfl rfl (hp.ob (i := 2) rfl) rfl ?_
  clear hf; intro a ha hf; clear ha
  refine st_fa (o' := 0) hf (by decide) (off := 0) (sz := 1) (by kernel_rfl) (by decide) rfl rfl (hp.ob (i := 1) rfl) rfl ?_
  clear hf; intro a ha hf; clear ha
  refine st_ldO (u := .int .i64 bx1_Re) hf (by decide) pl2 rfl rfl (hp.ob (i := 1) rfl) rfl ?_
  clear hf; intro a ha hf; clear ha
  refine st_imul hf (by decide) rfl rfl rfl ?_
  clear hf; intro a ha hf; clear ha
  refine st_iadd hf (by decide) rfl rfl rfl ?_
  clear hf; intro a ha hf; clear ha
  refine st_buildA (vals := [(0, .int .i64 (IntKind.i64.wrap ((IntKind.i64.wrap (ax0_Re * bx1_Re)) - (IntKind.i64.wrap (ax0_Im * bx1_Im))))), (1, .int .i64 (IntKind.i64.wrap ((IntKind.i64.wrap (ax0_Re * bx1_Im)) + (IntKind.i64.wrap (ax0_Im * bx1_Re)))))]) (cells := [.int .i64 (IntKind.i64.wrap ((IntKind.i64.wrap (ax0_Re * bx1_Re)) - (IntKind.i64.wrap (ax0_Im * bx1_Im)))), .int .i64 (IntKind.i64.wrap ((IntKind.i64.wrap (ax0_Re * bx1_Im)) + (IntKind.i64.wrap (ax0_Im * bx1_Re))))]) hf (by decide) rfl (by simp [hf.ev (x := (Operand.tmp 15)) rfl, hf.ev (x := (Operand.tmp 26)) rfl]) (fun w => by kernel_rfl) ?_
  clear hf; intro a ha hf; clear ha
  refine st_stO (us := [.int .i64 (IntKind.i64.wrap ((IntKind.i64.wrap (ax0_Re * bx1_Re)) - (IntKind.i64.wrap (ax0_Im * bx1_Im)))), .int .i64 (IntKind.i64.wrap ((IntKind.i64.wrap (ax0_Re * bx1_Im)) + (IntKind.i64.wrap (ax0_Im * bx1_Re))))]) hf hp (i := 0) rfl rfl rfl rfl rfl (by rfl) (by kernel_rfl) (Nat.le_of_ble_eq_true rfl) ?_
  clear hf; intro a w hf hp0; clear hp; have hp := hp0; clear hp0
  replace hp : Hp _ _ _ (Res.obj 74 v5 [.int .i64 (IntKind.i64.wrap ((IntKind.i64.wrap (ax0_Re * bx1_Re)) - (IntKind.i64.wrap (ax0_Im * bx1_Im)))), .int .i64 (IntKind.i64.wrap ((IntKind.i64.wrap (ax0_Re * bx1_Im)) + (IntKind.i64.wrap (ax0_Im * bx1_Re))))] :: Res.obj 74 v3 [.int .i64 bx1_Re, .int .i64 bx1_Im] :: Res.obj 74 v1 [.int .i64 ax0_Re, .int .i64 ax0_Im] :: ow) := hp
  refine st_nil hf ?_
  refine th_n ?_
  refine wp_ret ?_
  obtain rfl := Option.some.inj h
  have hp : Hp _ _ _ (Res.obj 74 v5 [.int .i64 (IntKind.i64.wrap ((IntKind.i64.wrap (ax0_Re * bx1_Re)) - (IntKind.i64.wrap (ax0_Im * bx1_Im)))), .int .i64 (IntKind.i64.wrap ((IntKind.i64.wrap (ax0_Re * bx1_Im)) + (IntKind.i64.wrap (ax0_Im * bx1_Re))))] :: ow) := Hp.sel (pre := [Res.obj 74 v5 [.int .i64 (IntKind.i64.wrap ((IntKind.i64.wrap (ax0_Re * bx1_Re)) - (IntKind.i64.wrap (ax0_Im * bx1_Im)))), .int .i64 (IntKind.i64.wrap ((IntKind.i64.wrap (ax0_Re * bx1_Im)) + (IntKind.i64.wrap (ax0_Im * bx1_Re))))], Res.obj 74 v3 [.int .i64 bx1_Re, .int .i64 bx1_Im], Res.obj 74 v1 [.int .i64 ax0_Re, .int .i64 ax0_Im]]) (tail := ow) (rs' := [Res.obj 74 v5 [.int .i64 (IntKind.i64.wrap ((IntKind.i64.wrap (ax0_Re * bx1_Re)) - (IntKind.i64.wrap (ax0_Im * bx1_Im)))), .int .i64 (IntKind.i64.wrap ((IntKind.i64.wrap (ax0_Re * bx1_Im)) + (IntKind.i64.wrap (ax0_Im * bx1_Re))))]]) hp [0] (by decide) (by simp) rfl
  exact ⟨rfl, ⟨_, hf.sub ⟨rfl, trivial⟩, hp⟩⟩

noncomputable def f_foghornref03_Times (ax0_Re : Int) (ax0_Im : Int) (bx1_Re : Int) (bx1_Im : Int) : Option ((Int × Int) × Int) := ((f_foghornref03_May ax0_Re ax0_Im).bind fun q7 => ((if (!q7) = true then (some true) else ((f_foghornref03_May bx1_Re bx1_Im).bind fun q12 => (some (!q12)))).bind fun z11 => (if z11 = true then (some (((0 : Int), (0 : Int)), (1 : Int))) else ((f_foghornref03_times ax0_Re ax0_Im bx1_Re bx1_Im).bind fun q14 => (some ((q14.1, q14.2), (0 : Int)))))))
theorem f_foghornref03_Times_c {S : Nat → Prop} {w0 w : World} {ow : List Res} (hp : Hp S w0 w ow) (ax0_Re : Int) (ax0_Im : Int) (bx1_Re : Int) (bx1_Im : Int) {r : ((Int × Int) × Int)} (h : f_foghornref03_Times ax0_Re ax0_Im bx1_Re bx1_Im = some r) :
    Calls Try.prog 41 #[.agg #[.int .i64 ax0_Re, .int .i64 ax0_Im], .agg #[.int .i64 bx1_Re, .int .i64 bx1_Im]] w (fun e w' => e = .returned (.tuple #[.agg #[.int .i64 r.1.1, .int .i64 r.1.2], .int .i64 r.2]) ∧ Hp S w0 w' (ow)) := by
  unfold f_foghornref03_Times at h
  refine enter (n := 18) (args := [.agg #[.int .i64 ax0_Re, .int .i64 ax0_Im], .agg #[.int .i64 bx1_Re, .int .i64 bx1_Im]]) Try.func41 rfl rfl (Nat.le_of_ble_eq_true rfl) fun a hf => ?_
  replace hf : Fr 18 a [(0, .agg #[.int .i64 ax0_Re, .int .i64 ax0_Im]), (1, .agg #[.int .i64 bx1_Re, .int .i64 bx1_Im])] := hf
  refine wp_mono (Q := fun e a w => e = .ret ∧ ∃ (c0 : Value), Fr 18 a [(4, optr c0 0), (5, .int .i64 r.2)] ∧ Hp S w0 w (Res.obj 74 c0 [.int .i64 r.1.1, .int .i64 r.1.2] :: ow)) ?_ ?_
  rotate_left
  · rintro e a w ⟨rfl, c0, hf, hp⟩
    exact retG2 hf rfl ⟨_, _, rfl, hp.ob (i := 0) rfl, .inr ⟨by kernel_rfl, rfl⟩⟩ rfl ⟨rfl, hp.drop⟩
  refine wp_seq ?_
  refine wp_reg ?_
  refine st_boxO (cs := [.int .i64 ax0_Re, .int .i64 ax0_Im]) hf (by decide) hp rfl rfl rfl ?_
  clear hf; intro a w v1 hf hp0; clear hp; have hp := hp0; clear hp0
  replace hp : Hp _ _ _ (Res.obj 74 v1 [.int .i64 ax0_Re, .int .i64 ax0_Im] :: ow) := hp
  refine st_boxO (cs := [.int .i64 bx1_Re, .int .i64 bx1_Im]) hf (by decide) hp rfl rfl rfl ?_
  clear hf; intro a w v3 hf hp0; clear hp; have hp := hp0; clear hp0
  replace hp : Hp _ _ _ (Res.obj 74 v3 [.int .i64 bx1_Re, .int .i64 bx1_Im] :: Res.obj 74 v1 [.int .i64 ax0_Re, .int .i64 ax0_Im] :: ow) := hp
  refine st_alloc (cs := [.int .i64 (0 : Int), .int .i64 (0 : Int)]) (zv := .agg #[.int .i64 (0 : Int), .int .i64 (0 : Int)]) hf (by decide) (by kernel_rfl) rfl hp rfl ?_
  clear hf; intro a w v5 hf hp0; clear hp; have hp := hp0; clear hp0
  replace hp : Hp _ _ _ (Res.obj 74 v5 [.int .i64 (0 : Int), .int .i64 (0 : Int)] :: Res.obj 74 v3 [.int .i64 bx1_Re, .int .i64 bx1_Im] :: Res.obj 74 v1 [.int .i64 ax0_Re, .int .i64 ax0_Im] :: ow) := hp
  refine st_assign hf rfl rfl (by decide) ?_
  clear hf; intro a ha hf; clear ha
  refine st_nil hf ?_
  refine th_n ?_
  refine wp_seq ?_
  refine wp_seq ?_
  refine wp_reg ?_
  refine st_ldOA (m := 2) (us := [.int .i64 ax0_Re, .int .i64 ax0_Im]) hf (by decide) (by kernel_rfl) rfl rfl (hp.ob (i := 2) rfl) rfl rfl ?_
  clear hf; intro a ha hf; clear ha
  obtain ⟨q7, hcall8, h⟩ := bnd h
  refine st_call hf (by decide) Try.func63 rfl rfl rfl rfl rfl (f_foghornref03_May_c hp _ _ hcall8) ?_
  rintro _ w ⟨rfl, hp0⟩
  clear hp; have hp := hp0; clear hp0
  replace hp : Hp _ _ _ (Res.obj 74 v5 [.int .i64 (0 : Int), .int .i64 (0 : Int)] :: Res.obj 74 v3 [.int .i64 bx1_Re, .int .i64 bx1_Im] :: Res.obj 74 v1 [.int .i64 ax0_Re, .int .i64 ax0_Im] :: ow) := hp
  refine ⟨_, rfl, ?_⟩
  clear hf; intro a hf
  refine st_not hf (by decide) rfl rfl ?_
  clear hf; intro a ha hf; clear ha
  refine st_move hf rfl rfl (by decide) ?_
  clear hf; intro a ha hf; clear ha
  obtain ⟨z11, hz9, h⟩ := bnd h
  refine wpList_cut 4 (fun a w => Fr 18 a [(2, optr v1 0), (3, optr v3 0), (4, optr v5 0), (13, .bool z11)] ∧ Hp S w0 w (Res.obj 74 v5 [.int .i64 (0 : Int), .int .i64 (0 : Int)] :: Res.obj 74 v3 [.int .i64 bx1_Re, .int .i64 bx1_Im] :: Res.obj 74 v1 [.int .i64 ax0_Re, .int .i64 ax0_Im] :: ow)) ?_ ?_
  · rcases Bool.eq_false_or_eq_true (!q7) with hb10 | hb10
    · skip
      replace hz9 := ifT hz9 hb10
      refine st_skip hf (wantN hf rfl rfl hb10) rfl (by decide) ?_ rfl
      clear hf; intro a hf
      refine st_skip hf (wantN hf rfl rfl hb10) rfl (by decide) ?_ rfl
      clear hf; intro a hf
      refine st_skip hf (wantN hf rfl rfl hb10) rfl (by decide) ?_ rfl
      clear hf; intro a hf
      obtain rfl := Option.some.inj hz9
      refine st_pick (v := .bool true) hf rfl rfl (fun hb' => ?_) (fun hb' => ?_) (by decide) ?_
      · rfl
      · exact absurd (hb10.symm.trans hb') (by decide)
      clear hf; intro a ha hf; clear ha
      refine st_nil hf (th_n ?_)
      exact ⟨hf.sub ⟨rfl, rfl, rfl, rfl, trivial⟩, hp⟩
    replace hz9 := ifF hz9 hb10
    refine st_ldOA (m := 2) (us := [.int .i64 bx1_Re, .int .i64 bx1_Im]) hf (by decide) (by kernel_rfl) (wantY hf rfl rfl hb10) rfl (hp.ob (i := 1) rfl) rfl rfl ?_
    clear hf; intro a ha hf; clear ha
    obtain ⟨q12, hcall13, hz9⟩ := bnd hz9
    refine st_call hf (by decide) Try.func63 rfl rfl (wantY hf rfl rfl hb10) rfl rfl (f_foghornref03_May_c hp _ _ hcall13) ?_
    rintro _ w ⟨rfl, hp0⟩
    clear hp; have hp := hp0; clear hp0
    replace hp : Hp _ _ _ (Res.obj 74 v5 [.int .i64 (0 : Int), .int .i64 (0 : Int)] :: Res.obj 74 v3 [.int .i64 bx1_Re, .int .i64 bx1_Im] :: Res.obj 74 v1 [.int .i64 ax0_Re, .int .i64 ax0_Im] :: ow) := hp
    refine ⟨_, rfl, ?_⟩
    clear hf; intro a hf
    refine st_not hf (by decide) (wantY hf rfl rfl hb10) rfl ?_
    clear hf; intro a ha hf; clear ha
    obtain rfl := Option.some.inj hz9
    refine st_pick (v := .bool (!q12)) hf rfl rfl (fun hb' => ?_) (fun hb' => ?_) (by decide) ?_
    · exact absurd (hb10.symm.trans hb') (by decide)
    · rfl
    clear hf; intro a ha hf; clear ha
    refine st_nil hf (th_n ?_)
    exact ⟨hf.sub ⟨rfl, rfl, rfl, rfl, trivial⟩, hp⟩
  rintro a w ⟨hf, hp⟩
  refine st_nil hf ?_
  refine th_n ?_
  refine wp_if hf rfl (fun hb => ?_) (fun hb => ?_)
  · replace h := ifT h hb
    refine wp_seq ?_
    refine wp_reg ?_
    refine st_buildA (vals := []) (cells := [.int .i64 (0 : Int), .int .i64 (0 : Int)]) hf (by decide) rfl (by simp []) (fun w => by kernel_rfl) ?_
    clear hf; intro a ha hf; clear ha
    refine st_stO (us := [.int .i64 (0 : Int), .int .i64 (0 : Int)]) hf hp (i := 0) rfl rfl rfl rfl rfl (by rfl) (by kernel_rfl) (Nat.le_of_ble_eq_true rfl) ?_
    clear hf; intro a w hf hp0; clear hp; have hp := hp0; clear hp0
    replace hp : Hp _ _ _ (Res.obj 74 v5 [.int .i64 (0 : Int), .int .i64 (0 : Int)] :: Res.obj 74 v3 [.int .i64 bx1_Re, .int .i64 bx1_Im] :: Res.obj 74 v1 [.int .i64 ax0_Re, .int .i64 ax0_Im] :: ow) := hp
    refine st_assign hf rfl rfl (by decide) ?_
    clear hf; intro a ha hf; clear ha
    refine st_nil hf ?_
    refine th_n ?_
    refine wp_ret ?_
    refine th_r ?_
    obtain rfl := Option.some.inj h
    have hp : Hp _ _ _ (Res.obj 74 v5 [.int .i64 (0 : Int), .int .i64 (0 : Int)] :: ow) := Hp.sel (pre := [Res.obj 74 v5 [.int .i64 (0 : Int), .int .i64 (0 : Int)], Res.obj 74 v3 [.int .i64 bx1_Re, .int .i64 bx1_Im], Res.obj 74 v1 [.int .i64 ax0_Re, .int .i64 ax0_Im]]) (tail := ow) (rs' := [Res.obj 74 v5 [.int .i64 (0 : Int), .int .i64 (0 : Int)]]) hp [0] (by decide) (by simp) rfl
    exact ⟨rfl, ⟨_, hf.sub ⟨rfl, rfl, trivial⟩, hp⟩⟩
  replace h := ifF h hb
  refine wp_skip ?_
  refine th_n ?_
  refine wp_seq ?_
  refine wp_reg ?_
  refine st_ldOA (m := 2) (us := [.int .i64 ax0_Re, .int .i64 ax0_Im]) hf (by decide) (by kernel_rfl) rfl rfl (hp.ob (i := 2) rfl) rfl rfl ?_
  clear hf; intro a ha hf; clear ha
  refine st_ldOA (m := 2) (us := [.int .i64 bx1_Re, .int .i64 bx1_Im]) hf (by decide) (by kernel_rfl) rfl rfl (hp.ob (i := 1) rfl) rfl rfl ?_
  clear hf; intro a ha hf; clear ha
  obtain ⟨q14, hcall15, h⟩ := bnd h
  refine st_call hf (by decide) Try.func64 rfl rfl rfl rfl rfl (f_foghornref03_times_c hp _ _ _ _ hcall15) ?_
  rintro _ w ⟨rfl, hp0⟩
  clear hp; have hp := hp0; clear hp0
  replace hp : Hp _ _ _ (Res.obj 74 v5 [.int .i64 (0 : Int), .int .i64 (0 : Int)] :: Res.obj 74 v3 [.int .i64 bx1_Re, .int .i64 bx1_Im] :: Res.obj 74 v1 [.int .i64 ax0_Re, .int .i64 ax0_Im] :: ow) := hp
  refine ⟨_, rfl, ?_⟩
  clear hf; intro a hf
  refine st_stO (us := [.int .i64 q14.1, .int .i64 q14.2]) hf hp (i := 0) rfl rfl rfl rfl rfl (by rfl) (by kernel_rfl) (Nat.le_of_ble_eq_true rfl) ?_
  clear hf; intro a w hf hp0; clear hp; have hp := hp0; clear hp0
  replace hp : Hp _ _ _ (Res.obj 74 v5 [.int .i64 q14.1, .int .i64 q14.2] :: Res.obj 74 v3 [.int .i64 bx1_Re, .int .i64 bx1_Im] :: Res.obj 74 v1 [.int .i64 ax0_Re, .int .i64 ax0_Im] :: ow) := hp
  refine st_assign hf rfl rfl (by decide) ?_
  clear hf; intro a ha hf; clear ha
  refine st_nil hf ?_
  refine th_n ?_
  refine wp_ret ?_
  obtain rfl := Option.some.inj h
  have hp : Hp _ _ _ (Res.obj 74 v5 [.int .i64 q14.1, .int .i64 q14.2] :: ow) := Hp.sel (pre := [Res.obj 74 v5 [.int .i64 q14.1, .int .i64 q14.2], Res.obj 74 v3 [.int .i64 bx1_Re, .int .i64 bx1_Im], Res.obj 74 v1 [.int .i64 ax0_Re, .int .i64 ax0_Im]]) (tail := ow) (rs' := [Res.obj 74 v5 [.int .i64 q14.1, .int .i64 q14.2]]) hp [0] (by decide) (by simp) rfl
  exact ⟨rfl, ⟨_, hf.sub ⟨rfl, rfl, trivial⟩, hp⟩⟩

noncomputable def f_plane_Gauss_norm (g0_Re : Int) (g0_Im : Int) : Option Int := (some (IntKind.i64.wrap ((IntKind.i64.wrap (g0_Re * g0_Re)) + (IntKind.i64.wrap (g0_Im * g0_Im)))))
theorem f_plane_Gauss_norm_c {S : Nat → Prop} {w0 w : World} {ow : List Res} (hp : Hp S w0 w ow) (g0_Re : Int) (g0_Im : Int) {r : Int} (h : f_plane_Gauss_norm g0_Re g0_Im = some r) :
    Calls Try.prog 58 #[.agg #[.int .i64 g0_Re, .int .i64 g0_Im]] w (fun e w' => e = .returned (.int .i64 r) ∧ Hp S w0 w' (ow)) := by
  unfold f_plane_Gauss_norm at h
  refine enter (n := 14) (args := [.agg #[.int .i64 g0_Re, .int .i64 g0_Im]]) Try.func58 rfl rfl (Nat.le_of_ble_eq_true rfl) fun a hf => ?_
  replace hf : Fr 14 a [(0, .agg #[.int .i64 g0_Re, .int .i64 g0_Im])] := hf
  refine wp_mono (Q := fun e a w => e = .ret ∧ Fr 14 a [(2, .int .i64 r)] ∧ Hp S w0 w (ow)) ?_ ?_
  rotate_left
  · rintro e a w ⟨rfl, hf, hp⟩
    exact ret1 hf rfl rfl ⟨rfl, hp⟩
  refine wp_seq ?_
  refine wp_reg ?_
  refine st_boxO (cs := [.int .i64 g0_Re, .int .i64 g0_Im]) hf (by decide) hp rfl rfl rfl ?_
  clear hf; intro a w v1 hf hp0; clear hp; have hp := hp0; clear hp0
  replace hp : Hp _ _ _ (Res.obj 56 v1 [.int .i64 g0_Re, .int .i64 g0_Im] :: ow) := hp
  refine st_assign hf rfl rfl (by decide) ?_
  clear hf; intro a ha hf; clear ha
  refine st_nil hf ?_
  refine th_n ?_
  refine wp_seq ?_
  refine wp_reg ?_
  refine st_fa (o' := 0) hf (by decide) (off := 0) (sz := 1) (by kernel_rfl) (by decide) rfl rfl (hp.ob (i := 0) rfl) rfl ?_
  clear hf; intro a ha hf; clear ha
  refine st_ldO (u := .int .i64 g0_Re) hf (by decide) pl2 rfl rfl (hp.ob (i := 0) rfl) rfl ?_
  clear hf; intro a ha hf; clear ha
  refine st_fa (o' := 0) hf (by decide) (off := 0) (sz := 1) (by kernel_rfl) (by decide) rfl rfl (hp.ob (i := 0) rfl) rfl ?_
  clear hf; intro a ha hf; clear ha
  refine st_ldO (u := .int .i64 g0_Re) hf (by decide) pl2 rfl rfl (hp.ob (i := 0) rfl) rfl ?_
  clear hf; intro a ha hf; clear ha
  refine st_imul hf (by decide) rfl rfl rfl ?_
  clear hf; intro a ha hf; clear ha
  refine st_fa (o' := 1) hf (by decide) (off := 1) (sz := 1) (by kernel_rfl) (by decide) rfl rfl (hp.ob (i := 0) rfl) rfl ?_
  clear hf; intro a ha hf; clear ha
  refine st_ldO (u := .int .i64 g0_Im) hf (by decide) pl2 rfl rfl (hp.ob (i := 0) rfl) rfl ?_
  clear hf; intro a ha hf; clear ha
  refine st_fa (o' := 1) hf (by decide) (off := 1) (sz := 1) (by kernel_rfl) (by decide) rfl rfl (hp.ob (i := 0) rfl) rfl ?_
  clear hf; intro a ha hf; clear ha
  refine st_ldO (u := .int .i64 g0_Im) hf (by decide) pl2 rfl rfl (hp.ob (i := 0) rfl) rfl ?_
  clear hf; intro a ha hf; clear ha
  refine st_imul hf (by decide) rfl rfl rfl ?_
  clear hf; intro a ha hf; clear ha
  refine st_iadd hf (by decide) rfl rfl rfl ?_
  clear hf; intro a ha hf; clear ha
  refine st_assign hf rfl rfl (by decide) ?_
  clear hf; intro a ha hf; clear ha
  refine st_nil hf ?_
  refine th_n ?_
  refine wp_ret ?_
  obtain rfl := Option.some.inj h
  have hp : Hp _ _ _ (ow) := Hp.sel (pre := [Res.obj 56 v1 [.int .i64 g0_Re, .int .i64 g0_Im]]) (tail := ow) (rs' := []) hp [] (by decide) (by simp) rfl
  exact ⟨rfl, ⟨hf.sub ⟨rfl, trivial⟩, hp⟩⟩

noncomputable def f_plane_Gauss_Norm (g0_Re : Int) (g0_Im : Int) : Option (Int × Int) := ((f_plane_Gauss_may g0_Re g0_Im).bind fun q3 => (if (!q3) = true then (some ((0 : Int), (1 : Int))) else ((f_plane_Gauss_norm g0_Re g0_Im).bind fun q5 => (some (q5, (0 : Int))))))
theorem f_plane_Gauss_Norm_c {S : Nat → Prop} {w0 w : World} {ow : List Res} (hp : Hp S w0 w ow) (g0_Re : Int) (g0_Im : Int) {r : (Int × Int)} (h : f_plane_Gauss_Norm g0_Re g0_Im = some r) :
    Calls Try.prog 35 #[.agg #[.int .i64 g0_Re, .int .i64 g0_Im]] w (fun e w' => e = .returned (.tuple #[.int .i64 r.1, .int .i64 r.2]) ∧ Hp S w0 w' (ow)) := by
  unfold f_plane_Gauss_Norm at h
  refine enter (n := 9) (args := [.agg #[.int .i64 g0_Re, .int .i64 g0_Im]]) Try.func35 rfl rfl (Nat.le_of_ble_eq_true rfl) fun a hf => ?_
  replace hf : Fr 9 a [(0, .agg #[.int .i64 g0_Re, .int .i64 g0_Im])] := hf
  refine wp_mono (Q := fun e a w => e = .ret ∧ Fr 9 a [(2, .int .i64 r.1), (3, .int .i64 r.2)] ∧ Hp S w0 w (ow)) ?_ ?_
  rotate_left
  · rintro e a w ⟨rfl, hf, hp⟩
    exact ret2 hf rfl rfl rfl ⟨rfl, hp⟩
  refine wp_seq ?_
  refine wp_reg ?_
  refine st_boxO (cs := [.int .i64 g0_Re, .int .i64 g0_Im]) hf (by decide) hp rfl rfl rfl ?_
  clear hf; intro a w v1 hf hp0; clear hp; have hp := hp0; clear hp0
  replace hp : Hp _ _ _ (Res.obj 56 v1 [.int .i64 g0_Re, .int .i64 g0_Im] :: ow) := hp
  refine st_assign hf rfl rfl (by decide) ?_
  clear hf; intro a ha hf; clear ha
  refine st_assign hf rfl rfl (by decide) ?_
  clear hf; intro a ha hf; clear ha
  refine st_nil hf ?_
  refine th_n ?_
  refine wp_seq ?_
  refine wp_seq ?_
  refine wp_reg ?_
  refine st_ldOA (m := 2) (us := [.int .i64 g0_Re, .int .i64 g0_Im]) hf (by decide) (by kernel_rfl) rfl rfl (hp.ob (i := 0) rfl) rfl rfl ?_
  clear hf; intro a ha hf; clear ha
  obtain ⟨q3, hcall4, h⟩ := bnd h
  refine st_call hf (by decide) Try.func55 rfl rfl rfl rfl rfl (f_plane_Gauss_may_c hp _ _ hcall4) ?_
  rintro _ w ⟨rfl, hp0⟩
  clear hp; have hp := hp0; clear hp0
  replace hp : Hp _ _ _ (Res.obj 56 v1 [.int .i64 g0_Re, .int .i64 g0_Im] :: ow) := hp
  refine ⟨_, rfl, ?_⟩
  clear hf; intro a hf
  refine st_not hf (by decide) rfl rfl ?_
  clear hf; intro a ha hf; clear ha
  refine st_nil hf ?_
  refine th_n ?_
  refine wp_if hf rfl (fun hb => ?_) (fun hb => ?_)
  · replace h := ifT h hb
    refine wp_seq ?_
    refine wp_reg ?_
    refine st_assign hf rfl rfl (by decide) ?_
    clear hf; intro a ha hf; clear ha
    refine st_assign hf rfl rfl (by decide) ?_
    clear hf; intro a ha hf; clear ha
    refine st_nil hf ?_
    refine th_n ?_
    refine wp_ret ?_
    refine th_r ?_
    obtain rfl := Option.some.inj h
    have hp : Hp _ _ _ (ow) := Hp.sel (pre := [Res.obj 56 v1 [.int .i64 g0_Re, .int .i64 g0_Im]]) (tail := ow) (rs' := []) hp [] (by decide) (by simp) rfl
    exact ⟨rfl, ⟨hf.sub ⟨rfl, rfl, trivial⟩, hp⟩⟩
  replace h := ifF h hb
  refine wp_skip ?_
  refine th_n ?_
  refine wp_seq ?_
  refine wp_reg ?_
  refine st_ldOA (m := 2) (us := [.int .i64 g0_Re, .int .i64 g0_Im]) hf (by decide) (by kernel_rfl) rfl rfl (hp.ob (i := 0) rfl) rfl rfl ?_
  clear hf; intro a ha hf; clear ha
  obtain ⟨q5, hcall6, h⟩ := bnd h
  refine st_call hf (by decide) Try.func58 rfl rfl rfl rfl rfl (f_plane_Gauss_norm_c hp _ _ hcall6) ?_
  rintro _ w ⟨rfl, hp0⟩
  clear hp; have hp := hp0; clear hp0
  replace hp : Hp _ _ _ (Res.obj 56 v1 [.int .i64 g0_Re, .int .i64 g0_Im] :: ow) := hp
  refine ⟨_, rfl, ?_⟩
  clear hf; intro a hf
  refine st_assign hf rfl rfl (by decide) ?_
  clear hf; intro a ha hf; clear ha
  refine st_assign hf rfl rfl (by decide) ?_
  clear hf; intro a ha hf; clear ha
  refine st_nil hf ?_
  refine th_n ?_
  refine wp_ret ?_
  obtain rfl := Option.some.inj h
  have hp : Hp _ _ _ (ow) := Hp.sel (pre := [Res.obj 56 v1 [.int .i64 g0_Re, .int .i64 g0_Im]]) (tail := ow) (rs' := []) hp [] (by decide) (by simp) rfl
  exact ⟨rfl, ⟨hf.sub ⟨rfl, rfl, trivial⟩, hp⟩⟩

noncomputable def f_foghornref03_norm (g0_Re : Int) (g0_Im : Int) : Option Int := (some (IntKind.i64.wrap ((IntKind.i64.wrap (g0_Re * g0_Re)) + (IntKind.i64.wrap (g0_Im * g0_Im)))))
theorem f_foghornref03_norm_c {S : Nat → Prop} {w0 w : World} {ow : List Res} (hp : Hp S w0 w ow) (g0_Re : Int) (g0_Im : Int) {r : Int} (h : f_foghornref03_norm g0_Re g0_Im = some r) :
    Calls Try.prog 65 #[.agg #[.int .i64 g0_Re, .int .i64 g0_Im]] w (fun e w' => e = .returned (.int .i64 r) ∧ Hp S w0 w' (ow)) := by
  unfold f_foghornref03_norm at h
  refine enter (n := 14) (args := [.agg #[.int .i64 g0_Re, .int .i64 g0_Im]]) Try.func65 rfl rfl (Nat.le_of_ble_eq_true rfl) fun a hf => ?_
  replace hf : Fr 14 a [(0, .agg #[.int .i64 g0_Re, .int .i64 g0_Im])] := hf
  refine wp_mono (Q := fun e a w => e = .ret ∧ Fr 14 a [(2, .int .i64 r)] ∧ Hp S w0 w (ow)) ?_ ?_
  rotate_left
  · rintro e a w ⟨rfl, hf, hp⟩
    exact ret1 hf rfl rfl ⟨rfl, hp⟩
  refine wp_seq ?_
  refine wp_reg ?_
  refine st_boxO (cs := [.int .i64 g0_Re, .int .i64 g0_Im]) hf (by decide) hp rfl rfl rfl ?_
  clear hf; intro a w v1 hf hp0; clear hp; have hp := hp0; clear hp0
  replace hp : Hp _ _ _ (Res.obj 74 v1 [.int .i64 g0_Re, .int .i64 g0_Im] :: ow) := hp
  refine st_assign hf rfl rfl (by decide) ?_
  clear hf; intro a ha hf; clear ha
  refine st_nil hf ?_
  refine th_n ?_
  refine wp_seq ?_
  refine wp_reg ?_
  refine st_fa (o' := 0) hf (by decide) (off := 0) (sz := 1) (by kernel_rfl) (by decide) rfl rfl (hp.ob (i := 0) rfl) rfl ?_
  clear hf; intro a ha hf; clear ha
  refine st_ldO (u := .int .i64 g0_Re) hf (by decide) pl2 rfl rfl (hp.ob (i := 0) rfl) rfl ?_
  clear hf; intro a ha hf; clear ha
  refine st_fa (o' := 0) hf (by decide) (off := 0) (sz := 1) (by kernel_rfl) (by decide) rfl rfl (hp.ob (i := 0) rfl) rfl ?_
  clear hf; intro a ha hf; clear ha
  refine st_ldO (u := .int .i64 g0_Re) hf (by decide) pl2 rfl rfl (hp.ob (i := 0) rfl) rfl ?_
  clear hf; intro a ha hf; clear ha
  refine st_imul hf (by decide) rfl rfl rfl ?_
  clear hf; intro a ha hf; clear ha
  refine st_fa (o' := 1) hf (by decide) (off := 1) (sz := 1) (by kernel_rfl) (by decide) rfl rfl (hp.ob (i := 0) rfl) rfl ?_
  clear hf; intro a ha hf; clear ha
  refine st_ldO (u := .int .i64 g0_Im) hf (by decide) pl2 rfl rfl (hp.ob (i := 0) rfl) rfl ?_
  clear hf; intro a ha hf; clear ha
  refine st_fa (o' := 1) hf (by decide) (off := 1) (sz := 1) (by kernel_rfl) (by decide) rfl rfl (hp.ob (i := 0) rfl) rfl ?_
  clear hf; intro a ha hf; clear ha
  refine st_ldO (u := .int .i64 g0_Im) hf (by decide) pl2 rfl rfl (hp.ob (i := 0) rfl) rfl ?_
  clear hf; intro a ha hf; clear ha
  refine st_imul hf (by decide) rfl rfl rfl ?_
  clear hf; intro a ha hf; clear ha
  refine st_iadd hf (by decide) rfl rfl rfl ?_
  clear hf; intro a ha hf; clear ha
  refine st_assign hf rfl rfl (by decide) ?_
  clear hf; intro a ha hf; clear ha
  refine st_nil hf ?_
  refine th_n ?_
  refine wp_ret ?_
  obtain rfl := Option.some.inj h
  have hp : Hp _ _ _ (ow) := Hp.sel (pre := [Res.obj 74 v1 [.int .i64 g0_Re, .int .i64 g0_Im]]) (tail := ow) (rs' := []) hp [] (by decide) (by simp) rfl
  exact ⟨rfl, ⟨hf.sub ⟨rfl, trivial⟩, hp⟩⟩

noncomputable def f_foghornref03_Norm1 (g0_Re : Int) (g0_Im : Int) : Option (Int × Int) := ((f_foghornref03_May g0_Re g0_Im).bind fun q3 => (if (!q3) = true then (some ((0 : Int), (1 : Int))) else ((f_foghornref03_norm g0_Re g0_Im).bind fun q5 => (some (q5, (0 : Int))))))
theorem f_foghornref03_Norm1_c {S : Nat → Prop} {w0 w : World} {ow : List Res} (hp : Hp S w0 w ow) (g0_Re : Int) (g0_Im : Int) {r : (Int × Int)} (h : f_foghornref03_Norm1 g0_Re g0_Im = some r) :
    Calls Try.prog 42 #[.agg #[.int .i64 g0_Re, .int .i64 g0_Im]] w (fun e w' => e = .returned (.tuple #[.int .i64 r.1, .int .i64 r.2]) ∧ Hp S w0 w' (ow)) := by
  unfold f_foghornref03_Norm1 at h
  refine enter (n := 9) (args := [.agg #[.int .i64 g0_Re, .int .i64 g0_Im]]) Try.func42 rfl rfl (Nat.le_of_ble_eq_true rfl) fun a hf => ?_
  replace hf : Fr 9 a [(0, .agg #[.int .i64 g0_Re, .int .i64 g0_Im])] := hf
  refine wp_mono (Q := fun e a w => e = .ret ∧ Fr 9 a [(2, .int .i64 r.1), (3, .int .i64 r.2)] ∧ Hp S w0 w (ow)) ?_ ?_
  rotate_left
  · rintro e a w ⟨rfl, hf, hp⟩
    exact ret2 hf rfl rfl rfl ⟨rfl, hp⟩
  refine wp_seq ?_
  refine wp_reg ?_
  refine st_boxO (cs := [.int .i64 g0_Re, .int .i64 g0_Im]) hf (by decide) hp rfl rfl rfl ?_
  clear hf; intro a w v1 hf hp0; clear hp; have hp := hp0; clear hp0
  replace hp : Hp _ _ _ (Res.obj 74 v1 [.int .i64 g0_Re, .int .i64 g0_Im] :: ow) := hp
  refine st_assign hf rfl rfl (by decide) ?_
  clear hf; intro a ha hf; clear ha
  refine st_assign hf rfl rfl (by decide) ?_
  clear hf; intro a ha hf; clear ha
  refine st_nil hf ?_
  refine th_n ?_
  refine wp_seq ?_
  refine wp_seq ?_
  refine wp_reg ?_
  refine st_ldOA (m := 2) (us := [.int .i64 g0_Re, .int .i64 g0_Im]) hf (by decide) (by kernel_rfl) rfl rfl (hp.ob (i := 0) rfl) rfl rfl ?_
  clear hf; intro a ha hf; clear ha
  obtain ⟨q3, hcall4, h⟩ := bnd h
  refine st_call hf (by decide) Try.func63 rfl rfl rfl rfl rfl (f_foghornref03_May_c hp _ _ hcall4) ?_
  rintro _ w ⟨rfl, hp0⟩
  clear hp; have hp := hp0; clear hp0
  replace hp : Hp _ _ _ (Res.obj 74 v1 [.int .i64 g0_Re, .int .i64 g0_Im] :: ow) := hp
  refine ⟨_, rfl, ?_⟩
  clear hf; intro a hf
  refine st_not hf (by decide) rfl rfl ?_
  clear hf; intro a ha hf; clear ha
  refine st_nil hf ?_
  refine th_n ?_
  refine wp_if hf rfl (fun hb => ?_) (fun hb => ?_)
  · replace h := ifT h hb
    refine wp_seq ?_
    refine wp_reg ?_
    refine st_assign hf rfl rfl (by decide) ?_
    clear hf; intro a ha hf; clear ha
    refine st_assign hf rfl rfl (by decide) ?_
    clear hf; intro a ha hf; clear ha
    refine st_nil hf ?_
    refine th_n ?_
    refine wp_ret ?_
    refine th_r ?_
    obtain rfl := Option.some.inj h
    have hp : Hp _ _ _ (ow) := Hp.sel (pre := [Res.obj 74 v1 [.int .i64 g0_Re, .int .i64 g0_Im]]) (tail := ow) (rs' := []) hp [] (by decide) (by simp) rfl
    exact ⟨rfl, ⟨hf.sub ⟨rfl, rfl, trivial⟩, hp⟩⟩
  replace h := ifF h hb
  refine wp_skip ?_
  refine th_n ?_
  refine wp_seq ?_
  refine wp_reg ?_
  refine st_ldOA (m := 2) (us := [.int .i64 g0_Re, .int .i64 g0_Im]) hf (by decide) (by kernel_rfl) rfl rfl (hp.ob (i := 0) rfl) rfl rfl ?_
  clear hf; intro a ha hf; clear ha
  obtain ⟨q5, hcall6, h⟩ := bnd h
  refine st_call hf (by decide) Try.func65 rfl rfl rfl rfl rfl (f_foghornref03_norm_c hp _ _ hcall6) ?_
  rintro _ w ⟨rfl, hp0⟩
  clear hp; have hp := hp0; clear hp0
  replace hp : Hp _ _ _ (Res.obj 74 v1 [.int .i64 g0_Re, .int .i64 g0_Im] :: ow) := hp
  refine ⟨_, rfl, ?_⟩
  clear hf; intro a hf
  refine st_assign hf rfl rfl (by decide) ?_
  clear hf; intro a ha hf; clear ha
  refine st_assign hf rfl rfl (by decide) ?_
  clear hf; intro a ha hf; clear ha
  refine st_nil hf ?_
  refine th_n ?_
  refine wp_ret ?_
  obtain rfl := Option.some.inj h
  have hp : Hp _ _ _ (ow) := Hp.sel (pre := [Res.obj 74 v1 [.int .i64 g0_Re, .int .i64 g0_Im]]) (tail := ow) (rs' := []) hp [] (by decide) (by simp) rfl
  exact ⟨rfl, ⟨hf.sub ⟨rfl, rfl, trivial⟩, hp⟩⟩

noncomputable def f_foghornlaw03_ref (g0_Re : Int) (g0_Im : Int) : Option (Int × Int) := (some (g0_Re, g0_Im))
theorem f_foghornlaw03_ref_c {S : Nat → Prop} {w0 w : World} {ow : List Res} (hp : Hp S w0 w ow) (g0_Re : Int) (g0_Im : Int) {r : (Int × Int)} (h : f_foghornlaw03_ref g0_Re g0_Im = some r) :
    Calls Try.prog 43 #[.agg #[.int .i64 g0_Re, .int .i64 g0_Im]] w (fun e w' => e = .returned (.agg #[.int .i64 r.1, .int .i64 r.2]) ∧ Hp S w0 w' (ow)) := by
  unfold f_foghornlaw03_ref at h
  refine enter (n := 8) (args := [.agg #[.int .i64 g0_Re, .int .i64 g0_Im]]) Try.func43 rfl rfl (Nat.le_of_ble_eq_true rfl) fun a hf => ?_
  replace hf : Fr 8 a [(0, .agg #[.int .i64 g0_Re, .int .i64 g0_Im])] := hf
  refine wp_mono (Q := fun e a w => e = .ret ∧ ∃ (c0 : Value), Fr 8 a [(2, optr c0 0)] ∧ Hp S w0 w (Res.obj 74 c0 [.int .i64 r.1, .int .i64 r.2] :: ow)) ?_ ?_
  rotate_left
  · rintro e a w ⟨rfl, c0, hf, hp⟩
    exact retG1 hf rfl ⟨_, _, rfl, hp.ob (i := 0) rfl, .inr ⟨by kernel_rfl, rfl⟩⟩ ⟨rfl, hp.drop⟩
  refine wp_seq ?_
  refine wp_reg ?_
  refine st_boxO (cs := [.int .i64 g0_Re, .int .i64 g0_Im]) hf (by decide) hp rfl rfl rfl ?_
  clear hf; intro a w v1 hf hp0; clear hp; have hp := hp0; clear hp0
  replace hp : Hp _ _ _ (Res.obj 56 v1 [.int .i64 g0_Re, .int .i64 g0_Im] :: ow) := hp
  refine st_alloc (cs := [.int .i64 (0 : Int), .int .i64 (0 : Int)]) (zv := .agg #[.int .i64 (0 : Int), .int .i64 (0 : Int)]) hf (by decide) (by kernel_rfl) rfl hp rfl ?_
  clear hf; intro a w v3 hf hp0; clear hp; have hp := hp0; clear hp0
  replace hp : Hp _ _ _ (Res.obj 74 v3 [.int .i64 (0 : Int), .int .i64 (0 : Int)] :: Res.obj 56 v1 [.int .i64 g0_Re, .int .i64 g0_Im] :: ow) := hp
  refine st_nil hf ?_
  refine th_n ?_
  refine wp_seq ?_
  refine wp_reg ?_
  refine st_fa (o' := 0) hf (by decide) (off := 0) (sz := 1) (by kernel_rfl) (by decide) rfl rfl (hp.ob (i := 1) rfl) rfl ?_
  clear hf; intro a ha hf; clear ha
  refine st_ldO (u := .int .i64 g0_Re) hf (by decide) pl2 rfl rfl (hp.ob (i := 1) rfl) rfl ?_
  clear hf; intro a ha hf; clear ha
  refine st_fa (o' := 1) hf (by decide) (off := 1) (sz := 1) (by kernel_rfl) (by decide) rfl rfl (hp.ob (i := 1) rfl) rfl ?_
  clear hf; intro a ha hf; clear ha
  refine st_ldO (u := .int .i64 g0_Im) hf (by decide) pl2 rfl rfl (hp.ob (i := 1) rfl) rfl ?_
  clear hf; intro a ha hf; clear ha
  refine st_buildA (vals := [(0, .int .i64 g0_Re), (1, .int .i64 g0_Im)]) (cells := [.int .i64 g0_Re, .int .i64 g0_Im]) hf (by decide) rfl (by simp [hf.ev (x := (Operand.tmp 4)) rfl, hf.ev (x := (Operand.tmp 6)) rfl]) (fun w => by kernel_rfl) ?_
  clear hf; intro a ha hf; clear ha
  refine st_stO (us := [.int .i64 g0_Re, .int .i64 g0_Im]) hf hp (i := 0) rfl rfl rfl rfl rfl (by rfl) (by kernel_rfl) (Nat.le_of_ble_eq_true rfl) ?_
  clear hf; intro a w hf hp0; clear hp; have hp := hp0; clear hp0
  replace hp : Hp _ _ _ (Res.obj 74 v3 [.int .i64 g0_Re, .int .i64 g0_Im] :: Res.obj 56 v1 [.int .i64 g0_Re, .int .i64 g0_Im] :: ow) := hp
  refine st_nil hf ?_
  refine th_n ?_
  refine wp_ret ?_
  obtain rfl := Option.some.inj h
  have hp : Hp _ _ _ (Res.obj 74 v3 [.int .i64 g0_Re, .int .i64 g0_Im] :: ow) := Hp.sel (pre := [Res.obj 74 v3 [.int .i64 g0_Re, .int .i64 g0_Im], Res.obj 56 v1 [.int .i64 g0_Re, .int .i64 g0_Im]]) (tail := ow) (rs' := [Res.obj 74 v3 [.int .i64 g0_Re, .int .i64 g0_Im]]) hp [0] (by decide) (by simp) rfl
  exact ⟨rfl, ⟨_, hf.sub ⟨rfl, trivial⟩, hp⟩⟩

noncomputable def f_plane_nearest.j1 (d1 : Int) (qx5 : Int) (rest6 : Int) : Option Int := (if (decide ((IntKind.i64.wrap (d1 - rest6)) < rest6)) = true then (some (IntKind.i64.wrap (qx5 + (1 : Int)))) else (some qx5))
noncomputable def f_plane_nearest (n0 : Int) (d1 : Int) : Option Int := (if d1 ≠ 0 then (if d1 ≠ 0 then (if (decide (((n0).tmod d1) < (0 : Int))) = true then (f_plane_nearest.j1 d1 (IntKind.i64.wrap ((IntKind.i64.wrap ((n0).tdiv d1)) - (1 : Int))) (IntKind.i64.wrap (((n0).tmod d1) + d1))) else (f_plane_nearest.j1 d1 (IntKind.i64.wrap ((n0).tdiv d1)) ((n0).tmod d1))) else none) else none)
theorem f_plane_nearest_c {S : Nat → Prop} {w0 w : World} {ow : List Res} (hp : Hp S w0 w ow) (n0 : Int) (d1 : Int) {r : Int} (h : f_plane_nearest n0 d1 = some r) :
    Calls Try.prog 71 #[.int .i64 n0, .int .i64 d1] w (fun e w' => e = .returned (.int .i64 r) ∧ Hp S w0 w' (ow)) := by
  unfold f_plane_nearest at h
  refine enter (n := 28) (args := [.int .i64 n0, .int .i64 d1]) Try.func71 rfl rfl (Nat.le_of_ble_eq_true rfl) fun a hf => ?_
  replace hf : Fr 28 a [(0, .int .i64 n0), (1, .int .i64 d1)] := hf
  refine wp_mono (Q := fun e a w => e = .ret ∧ Fr 28 a [(4, .int .i64 r)] ∧ Hp S w0 w (ow)) ?_ ?_
  rotate_left
  · rintro e a w ⟨rfl, hf, hp⟩
    exact ret1 hf rfl rfl ⟨rfl, hp⟩
  refine wp_seq ?_
  refine wp_reg ?_
  refine st_assign hf rfl rfl (by decide) ?_
  clear hf; intro a ha hf; clear ha
  refine st_nil hf ?_
  refine th_n ?_
  refine wp_seq ?_
  obtain ⟨hc1, h⟩ := chk h
  obtain ⟨hc2, h⟩ := chk h
  refine wp_cutN (fun a w => Fr 28 a [(1, .int .i64 d1), (5, .int .i64 (IntKind.i64.wrap ((n0).tdiv d1))), (6, .int .i64 ((n0).tmod d1))] ∧ Hp S w0 w (ow)) ?_ ?_
  · have hp := hp.same (Same.drew w)
    refine dr_begin' (fun a w => Fr 28 a [(1, .int .i64 d1), (5, .int .i64 (IntKind.i64.wrap ((n0).tdiv d1))), (6, .int .i64 ((n0).tmod d1))] ∧ Hp S w0 w (ow)) (fun w' => ∃ l, Hp S w0 w' l) [] (by kernel_rfl) ?_
    refine dr_take 0 (.int .i64 n0) rfl (by kernel_rfl) (by kernel_rfl) (by kernel_rfl) (by kernel_rfl) rfl rfl hf (by decide) rfl (fun w hp => ?_) ⟨_, hp⟩ ?_
    · obtain ⟨_, hp⟩ := hp
      refine st_move hf rfl rfl (by decide) ?_
      clear hf; intro a ha hf
      exact st_nil hf (th_n ⟨ha, rfl⟩)
    clear hf; intro a hf
    refine dr_take 1 (.int .i64 d1) rfl (by kernel_rfl) (by kernel_rfl) (by kernel_rfl) (by kernel_rfl) rfl rfl hf (by decide) rfl (fun w hp => ?_) ⟨_, hp⟩ ?_
    · obtain ⟨_, hp⟩ := hp
      refine st_move hf rfl rfl (by decide) ?_
      clear hf; intro a ha hf
      exact st_nil hf (th_n ⟨ha, rfl⟩)
    clear hf; intro a hf
    refine dr_take 2 (.int .i64 (IntKind.i64.wrap ((n0).tdiv d1))) rfl (by kernel_rfl) (by kernel_rfl) (by kernel_rfl) (by kernel_rfl) rfl rfl hf (by decide) rfl (fun w hp => ?_) ⟨_, hp⟩ ?_
    · obtain ⟨_, hp⟩ := hp
      refine st_iquo hf (by decide) rfl rfl rfl hc1 ?_
      clear hf; intro a ha hf
      exact st_nil hf (th_n ⟨ha, rfl⟩)
    clear hf; intro a hf
    refine dr_take 3 (.int .i64 n0) rfl (by kernel_rfl) (by kernel_rfl) (by kernel_rfl) (by kernel_rfl) rfl rfl hf (by decide) rfl (fun w hp => ?_) ⟨_, hp⟩ ?_
    · obtain ⟨_, hp⟩ := hp
      refine st_move hf rfl rfl (by decide) ?_
      clear hf; intro a ha hf
      exact st_nil hf (th_n ⟨ha, rfl⟩)
    clear hf; intro a hf
    refine dr_take 4 (.int .i64 d1) rfl (by kernel_rfl) (by kernel_rfl) (by kernel_rfl) (by kernel_rfl) rfl rfl hf (by decide) rfl (fun w hp => ?_) ⟨_, hp⟩ ?_
    · obtain ⟨_, hp⟩ := hp
      refine st_move hf rfl rfl (by decide) ?_
      clear hf; intro a ha hf
      exact st_nil hf (th_n ⟨ha, rfl⟩)
    clear hf; intro a hf
    refine dr_take 5 (.int .i64 ((n0).tmod d1)) rfl (by kernel_rfl) (by kernel_rfl) (by kernel_rfl) (by kernel_rfl) rfl rfl hf (by decide) rfl (fun w hp => ?_) ⟨_, hp⟩ ?_
    · obtain ⟨_, hp⟩ := hp
      refine st_irem hf (by decide) rfl rfl rfl hc2 ?_
      clear hf; intro a ha hf
      exact st_nil hf (th_n ⟨ha, rfl⟩)
    clear hf; intro a hf
    refine dr_take 6 (.int .i64 (IntKind.i64.wrap ((n0).tdiv d1))) rfl (by kernel_rfl) (by kernel_rfl) (by kernel_rfl) (by kernel_rfl) rfl rfl hf (by decide) rfl (fun w hp => ?_) ⟨_, hp⟩ ?_
    · obtain ⟨_, hp⟩ := hp
      refine st_assign hf rfl rfl (by decide) ?_
      clear hf; intro a ha hf
      exact st_nil hf (th_n ⟨ha, rfl⟩)
    clear hf; intro a hf
    refine dr_take 7 (.int .i64 ((n0).tmod d1)) rfl (by kernel_rfl) (by kernel_rfl) (by kernel_rfl) (by kernel_rfl) rfl rfl hf (by decide) rfl (fun w hp => ?_) ⟨_, hp⟩ ?_
    · obtain ⟨_, hp⟩ := hp
      refine st_assign hf rfl rfl (by decide) ?_
      clear hf; intro a ha hf
      exact st_nil hf (th_n ⟨ha, rfl⟩)
    clear hf; intro a hf
    refine dr_end (by kernel_rfl) ?_ _
    exact ⟨hf.sub ⟨rfl, rfl, rfl, trivial⟩, hp⟩
  rintro a w ⟨hf, hp⟩
  refine th_n ?_
  refine wp_seq_cut (fun a w => ∃ (qx5 : Int) (rest6 : Int), f_plane_nearest.j1 d1 qx5 rest6 = some r ∧ Fr 28 a [(1, .int .i64 d1), (5, .int .i64 qx5), (6, .int .i64 rest6)] ∧ Hp S w0 w (ow)) ?_ ?_
  · skip
    refine wp_seq ?_
    refine wp_reg ?_
    refine st_move hf rfl rfl (by decide) ?_
    clear hf; intro a ha hf; clear ha
    refine st_ilss hf (by decide) rfl rfl rfl ?_
    clear hf; intro a ha hf; clear ha
    refine st_nil hf ?_
    refine th_n ?_
    refine wp_if hf rfl (fun hb => ?_) (fun hb => ?_)
    · replace h := ifT h hb
      refine wp_reg ?_
      refine st_move hf rfl rfl (by decide) ?_
      clear hf; intro a ha hf; clear ha
      refine st_isub hf (by decide) rfl rfl rfl ?_
      clear hf; intro a ha hf; clear ha
      refine st_move hf rfl rfl (by decide) ?_
      clear hf; intro a ha hf; clear ha
      refine st_move hf rfl rfl (by decide) ?_
      clear hf; intro a ha hf; clear ha
      refine st_iadd hf (by decide) rfl rfl rfl ?_
      clear hf; intro a ha hf; clear ha
      refine st_assign hf rfl rfl (by decide) ?_
      clear hf; intro a ha hf; clear ha
      refine st_assign hf rfl rfl (by decide) ?_
      clear hf; intro a ha hf; clear ha
      refine st_nil hf ?_
      refine th_n ?_
      exact ⟨_, _, h, hf.sub ⟨rfl, rfl, rfl, trivial⟩, hp⟩
    replace h := ifF h hb
    refine wp_skip ?_
    refine th_n ?_
    exact ⟨_, _, h, hf.sub ⟨rfl, rfl, rfl, trivial⟩, hp⟩
  rintro a w ⟨qx5, rest6, h, hf, hp⟩
  unfold f_plane_nearest.j1 at h
  refine wp_seq ?_
  refine wp_seq ?_
  refine wp_reg ?_
  refine st_move hf rfl rfl (by decide) ?_
  clear hf; intro a ha hf; clear ha
  refine st_move hf rfl rfl (by decide) ?_
  clear hf; intro a ha hf; clear ha
  refine st_move hf rfl rfl (by decide) ?_
  clear hf; intro a ha hf; clear ha
  refine st_isub hf (by decide) rfl rfl rfl ?_
  clear hf; intro a ha hf; clear ha
  refine st_igtr hf (by decide) rfl rfl rfl ?_
  clear hf; intro a ha hf; clear ha
  refine st_nil hf ?_
  refine th_n ?_
  refine wp_if hf rfl (fun hb => ?_) (fun hb => ?_)
  · replace h := ifT h hb
    refine wp_reg ?_
    refine st_move hf rfl rfl (by decide) ?_
    clear hf; intro a ha hf; clear ha
    refine st_iadd hf (by decide) rfl rfl rfl ?_
    clear hf; intro a ha hf; clear ha
    refine st_assign hf rfl rfl (by decide) ?_
    clear hf; intro a ha hf; clear ha
    refine st_nil hf ?_
    refine th_n ?_
    refine wp_seq ?_
    refine wp_reg ?_
    refine st_move hf rfl rfl (by decide) ?_
    clear hf; intro a ha hf; clear ha
    refine st_assign hf rfl rfl (by decide) ?_
    clear hf; intro a ha hf; clear ha
    refine st_nil hf ?_
    refine th_n ?_
    refine wp_ret ?_
    obtain rfl := Option.some.inj h
    exact ⟨rfl, ⟨hf.sub ⟨rfl, trivial⟩, hp⟩⟩
  replace h := ifF h hb
  refine wp_skip ?_
  refine th_n ?_
  refine wp_seq ?_
  refine wp_reg ?_
  refine st_move hf rfl rfl (by decide) ?_
  clear hf; intro a ha hf; clear ha
  refine st_assign hf rfl rfl (by decide) ?_
  clear hf; intro a ha hf; clear ha
  refine st_nil hf ?_
  refine th_n ?_
  refine wp_ret ?_
  obtain rfl := Option.some.inj h
  exact ⟨rfl, ⟨hf.sub ⟨rfl, trivial⟩, hp⟩⟩

noncomputable def f_plane_Gauss_by (g0_Re : Int) (g0_Im : Int) (o1_Re : Int) (o1_Im : Int) : Option ((Int × Int) × (Int × Int)) := ((f_plane_Gauss_times g0_Re g0_Im o1_Re (IntKind.i64.wrap (0 - o1_Im))).bind fun q9 => ((f_plane_Gauss_norm o1_Re o1_Im).bind fun q25 => ((f_plane_nearest q9.1 q25).bind fun q27 => ((f_plane_Gauss_norm o1_Re o1_Im).bind fun q29 => ((f_plane_nearest q9.2 q29).bind fun q31 => ((f_plane_Gauss_times q27 q31 o1_Re o1_Im).bind fun q33 => (some ((q27, q31), ((IntKind.i64.wrap (g0_Re - q33.1)), (IntKind.i64.wrap (g0_Im - q33.2)))))))))))
theorem f_plane_Gauss_by_c {S : Nat → Prop} {w0 w : World} {ow : List Res} (hp : Hp S w0 w ow) (g0_Re : Int) (g0_Im : Int) (o1_Re : Int) (o1_Im : Int) {r : ((Int × Int) × (Int × Int))} (h : f_plane_Gauss_by g0_Re g0_Im o1_Re o1_Im = some r) :
    Calls Try.prog 57 #[.agg #[.int .i64 g0_Re, .int .i64 g0_Im], .agg #[.int .i64 o1_Re, .int .i64 o1_Im]] w (fun e w' => e = .returned (.tuple #[.agg #[.int .i64 r.1.1, .int .i64 r.1.2], .agg #[.int .i64 r.2.1, .int .i64 r.2.2]]) ∧ Hp S w0 w' (ow)) := by
  unfold f_plane_Gauss_by at h
  refine enter (n := 42) (args := [.agg #[.int .i64 g0_Re, .int .i64 g0_Im], .agg #[.int .i64 o1_Re, .int .i64 o1_Im]]) Try.func57 rfl rfl (Nat.le_of_ble_eq_true rfl) fun a hf => ?_
  replace hf : Fr 42 a [(0, .agg #[.int .i64 g0_Re, .int .i64 g0_Im]), (1, .agg #[.int .i64 o1_Re, .int .i64 o1_Im])] := hf
  refine wp_mono (Q := fun e a w => e = .ret ∧ ∃ (c0 : Value) (c1 : Value), Fr 42 a [(4, optr c0 0), (5, optr c1 0)] ∧ Hp S w0 w (Res.obj 56 c0 [.int .i64 r.1.1, .int .i64 r.1.2] :: Res.obj 56 c1 [.int .i64 r.2.1, .int .i64 r.2.2] :: ow)) ?_ ?_
  rotate_left
  · rintro e a w ⟨rfl, c0, c1, hf, hp⟩
    exact retG2 hf rfl ⟨_, _, rfl, hp.ob (i := 0) rfl, .inr ⟨by kernel_rfl, rfl⟩⟩ ⟨_, _, rfl, hp.ob (i := 1) rfl, .inr ⟨by kernel_rfl, rfl⟩⟩ ⟨rfl, hp.drop.drop⟩
  refine wp_seq ?_
  refine wp_reg ?_
  refine st_boxO (cs := [.int .i64 g0_Re, .int .i64 g0_Im]) hf (by decide) hp rfl rfl rfl ?_
  clear hf; intro a w v1 hf hp0; clear hp; have hp := hp0; clear hp0
  replace hp : Hp _ _ _ (Res.obj 56 v1 [.int .i64 g0_Re, .int .i64 g0_Im] :: ow) := hp
  refine st_boxO (cs := [.int .i64 o1_Re, .int .i64 o1_Im]) hf (by decide) hp rfl rfl rfl ?_
  clear hf; intro a w v3 hf hp0; clear hp; have hp := hp0; clear hp0
  replace hp : Hp _ _ _ (Res.obj 56 v3 [.int .i64 o1_Re, .int .i64 o1_Im] :: Res.obj 56 v1 [.int .i64 g0_Re, .int .i64 g0_Im] :: ow) := hp
  refine st_alloc (cs := [.int .i64 (0 : Int), .int .i64 (0 : Int)]) (zv := .agg #[.int .i64 (0 : Int), .int .i64 (0 : Int)]) hf (by decide) (by kernel_rfl) rfl hp rfl ?_
  clear hf; intro a w v5 hf hp0; clear hp; have hp := hp0; clear hp0
  replace hp : Hp _ _ _ (Res.obj 56 v5 [.int .i64 (0 : Int), .int .i64 (0 : Int)] :: Res.obj 56 v3 [.int .i64 o1_Re, .int .i64 o1_Im] :: Res.obj 56 v1 [.int .i64 g0_Re, .int .i64 g0_Im] :: ow) := hp
  refine st_alloc (cs := [.int .i64 (0 : Int), .int .i64 (0 : Int)]) (zv := .agg #[.int .i64 (0 : Int), .int .i64 (0 : Int)]) hf (by decide) (by kernel_rfl) rfl hp rfl ?_
  clear hf; intro a w v7 hf hp0; clear hp; have hp := hp0; clear hp0
  replace hp : Hp _ _ _ (Res.obj 56 v7 [.int .i64 (0 : Int), .int .i64 (0 : Int)] :: Res.obj 56 v5 [.int .i64 (0 : Int), .int .i64 (0 : Int)] :: Res.obj 56 v3 [.int .i64 o1_Re, .int .i64 o1_Im] :: Res.obj 56 v1 [.int .i64 g0_Re, .int .i64 g0_Im] :: ow) := hp
  refine st_nil hf ?_
  refine th_n ?_
  refine wp_seq ?_
  refine wp_reg ?_
  refine st_ldOA (m := 2) (us := [.int .i64 g0_Re, .int .i64 g0_Im]) hf (by decide) (by kernel_rfl) rfl rfl (hp.ob (i := 3) rfl) rfl rfl ?_
  clear hf; intro a ha hf; clear ha
  refine st_fa (o' := 0) hf (by decide) (off := 0) (sz := 1) (by kernel_rfl) (by decide) rfl rfl (hp.ob (i := 2) rfl) rfl ?_
  clear hf; intro a ha hf; clear ha
  refine st_ldO (u := .int .i64 o1_Re) hf (by decide) pl2 rfl rfl (hp.ob (i := 2) rfl) rfl ?_
  clear hf; intro a ha hf; clear ha
  refine st_fa (o' := 1) hf (by decide) (off := 1) (sz := 1) (by kernel_rfl) (by decide) rfl rfl (hp.ob (i := 2) rfl) rfl ?_
  clear hf; intro a ha hf; clear ha
  refine st_ldO (u := .int .i64 o1_Im) hf (by decide) pl2 rfl rfl (hp.ob (i := 2) rfl) rfl ?_
  clear hf; intro a ha hf; clear ha
  refine st_ineg hf (by decide) rfl rfl ?_
  clear hf; intro a ha hf; clear ha
  refine st_buildA (vals := [(0, .int .i64 o1_Re), (1, .int .i64 (IntKind.i64.wrap (0 - o1_Im)))]) (cells := [.int .i64 o1_Re, .int .i64 (IntKind.i64.wrap (0 - o1_Im))]) hf (by decide) rfl (by simp [hf.ev (x := (Operand.tmp 10)) rfl, hf.ev (x := (Operand.tmp 13)) rfl]) (fun w => by kernel_rfl) ?_
  clear hf; intro a ha hf; clear ha
  obtain ⟨q9, hcall10, h⟩ := bnd h
  refine st_call hf (by decide) Try.func56 rfl rfl rfl rfl rfl (f_plane_Gauss_times_c hp _ _ _ _ hcall10) ?_
  rintro _ w ⟨rfl, hp0⟩
  clear hp; have hp := hp0; clear hp0
  replace hp : Hp _ _ _ (Res.obj 56 v7 [.int .i64 (0 : Int), .int .i64 (0 : Int)] :: Res.obj 56 v5 [.int .i64 (0 : Int), .int .i64 (0 : Int)] :: Res.obj 56 v3 [.int .i64 o1_Re, .int .i64 o1_Im] :: Res.obj 56 v1 [.int .i64 g0_Re, .int .i64 g0_Im] :: ow) := hp
  refine ⟨_, rfl, ?_⟩
  clear hf; intro a hf
  refine st_alloc (cs := [.int .i64 (0 : Int), .int .i64 (0 : Int)]) (zv := .agg #[.int .i64 (0 : Int), .int .i64 (0 : Int)]) hf (by decide) (by kernel_rfl) rfl hp rfl ?_
  clear hf; intro a w v11 hf hp0; clear hp; have hp := hp0; clear hp0
  replace hp : Hp _ _ _ (Res.obj 56 v11 [.int .i64 (0 : Int), .int .i64 (0 : Int)] :: Res.obj 56 v7 [.int .i64 (0 : Int), .int .i64 (0 : Int)] :: Res.obj 56 v5 [.int .i64 (0 : Int), .int .i64 (0 : Int)] :: Res.obj 56 v3 [.int .i64 o1_Re, .int .i64 o1_Im] :: Res.obj 56 v1 [.int .i64 g0_Re, .int .i64 g0_Im] :: ow) := hp
  refine st_stO (us := [.int .i64 q9.1, .int .i64 q9.2]) hf hp (i := 0) rfl rfl rfl rfl rfl (by rfl) (by kernel_rfl) (Nat.le_of_ble_eq_true rfl) ?_
  clear hf; intro a w hf hp0; clear hp; have hp := hp0; clear hp0
  replace hp : Hp _ _ _ (Res.obj 56 v11 [.int .i64 q9.1, .int .i64 q9.2] :: Res.obj 56 v7 [.int .i64 (0 : Int), .int .i64 (0 : Int)] :: Res.obj 56 v5 [.int .i64 (0 : Int), .int .i64 (0 : Int)] :: Res.obj 56 v3 [.int .i64 o1_Re, .int .i64 o1_Im] :: Res.obj 56 v1 [.int .i64 g0_Re, .int .i64 g0_Im] :: ow) := hp
  refine st_nil hf ?_
  refine th_n ?_
  refine wp_seq ?_
  obtain ⟨S13, hp14, rd15, up16, bk17⟩ := Hp.lendO hp (i := 0) rfl
  obtain ⟨S18, hp19, rd20, up21, bk22⟩ := Hp.lendO hp14 (i := 2) rfl
  have rl23 := rd20
  have rl24 := ((rd15.now hp14).mono up21)
  obtain ⟨q25, hcall26, h⟩ := bnd h
  obtain ⟨q27, hcall28, h⟩ := bnd h
  obtain ⟨q29, hcall30, h⟩ := bnd h
  obtain ⟨q31, hcall32, h⟩ := bnd h
  refine wp_cutN (fun a w => Fr 42 a [(2, optr v1 0), (3, optr v3 0), (4, optr v5 0), (5, optr v7 0)] ∧ Hp S w0 w (Res.obj 56 v11 [.int .i64 q9.1, .int .i64 q9.2] :: Res.obj 56 v3 [.int .i64 o1_Re, .int .i64 o1_Im] :: Res.obj 56 v7 [.int .i64 (0 : Int), .int .i64 (0 : Int)] :: Res.obj 56 v5 [.int .i64 q27, .int .i64 q31] :: Res.obj 56 v1 [.int .i64 g0_Re, .int .i64 g0_Im] :: ow)) ?_ ?_
  · have hp := hp19.same (Same.drew w)
    refine dr_begin' (fun a w => Fr 42 a [(2, optr v1 0), (3, optr v3 0), (4, optr v5 0), (5, optr v7 0)] ∧ Hp S w0 w (Res.obj 56 v11 [.int .i64 q9.1, .int .i64 q9.2] :: Res.obj 56 v3 [.int .i64 o1_Re, .int .i64 o1_Im] :: Res.obj 56 v7 [.int .i64 (0 : Int), .int .i64 (0 : Int)] :: Res.obj 56 v5 [.int .i64 q27, .int .i64 q31] :: Res.obj 56 v1 [.int .i64 g0_Re, .int .i64 g0_Im] :: ow)) (fun w' => ∃ l, Hp S18 w w' l) [] (by kernel_rfl) ?_
    refine dr_take 0 (optr v11 0) rfl (by kernel_rfl) (by kernel_rfl) (by kernel_rfl) (by kernel_rfl) rfl rfl hf (by decide) rfl (fun w hp => ?_) ⟨_, hp⟩ ?_
    · obtain ⟨_, hp⟩ := hp
      refine st_fa (o' := 0) hf (by decide) (off := 0) (sz := 1) (by kernel_rfl) (by decide) rfl rfl (rl24.ob hp) rfl ?_
      clear hf; intro a ha hf
      exact st_nil hf (th_n ⟨ha, rfl⟩)
    clear hf; intro a hf
    refine dr_take 1 (.int .i64 q9.1) rfl (by kernel_rfl) (by kernel_rfl) (by kernel_rfl) (by kernel_rfl) rfl rfl hf (by decide) rfl (fun w hp => ?_) ⟨_, hp⟩ ?_
    · obtain ⟨_, hp⟩ := hp
      refine st_ldO (u := .int .i64 q9.1) hf (by decide) pl2 rfl rfl (rl24.ob hp) rfl ?_
      clear hf; intro a ha hf
      exact st_nil hf (th_n ⟨ha, rfl⟩)
    clear hf; intro a hf
    refine dr_take 2 (.agg #[.int .i64 o1_Re, .int .i64 o1_Im]) rfl (by kernel_rfl) (by kernel_rfl) (by kernel_rfl) (by kernel_rfl) rfl rfl hf (by decide) rfl (fun w hp => ?_) ⟨_, hp⟩ ?_
    · obtain ⟨_, hp⟩ := hp
      refine st_ldOA (m := 2) (us := [.int .i64 o1_Re, .int .i64 o1_Im]) hf (by decide) (by kernel_rfl) rfl rfl (rl23.ob hp) rfl rfl ?_
      clear hf; intro a ha hf
      exact st_nil hf (th_n ⟨ha, rfl⟩)
    clear hf; intro a hf
    refine dr_take 5 (optr v11 1) rfl (by kernel_rfl) (by kernel_rfl) (by kernel_rfl) (by kernel_rfl) rfl rfl hf (by decide) rfl (fun w hp => ?_) ⟨_, hp⟩ ?_
    · obtain ⟨_, hp⟩ := hp
      refine st_fa (o' := 1) hf (by decide) (off := 1) (sz := 1) (by kernel_rfl) (by decide) rfl rfl (rl24.ob hp) rfl ?_
      clear hf; intro a ha hf
      exact st_nil hf (th_n ⟨ha, rfl⟩)
    clear hf; intro a hf
    refine dr_take 6 (.int .i64 q9.2) rfl (by kernel_rfl) (by kernel_rfl) (by kernel_rfl) (by kernel_rfl) rfl rfl hf (by decide) rfl (fun w hp => ?_) ⟨_, hp⟩ ?_
    · obtain ⟨_, hp⟩ := hp
      refine st_ldO (u := .int .i64 q9.2) hf (by decide) pl2 rfl rfl (rl24.ob hp) rfl ?_
      clear hf; intro a ha hf
      exact st_nil hf (th_n ⟨ha, rfl⟩)
    clear hf; intro a hf
    refine dr_take 7 (.agg #[.int .i64 o1_Re, .int .i64 o1_Im]) rfl (by kernel_rfl) (by kernel_rfl) (by kernel_rfl) (by kernel_rfl) rfl rfl hf (by decide) rfl (fun w hp => ?_) ⟨_, hp⟩ ?_
    · obtain ⟨_, hp⟩ := hp
      refine st_ldOA (m := 2) (us := [.int .i64 o1_Re, .int .i64 o1_Im]) hf (by decide) (by kernel_rfl) rfl rfl (rl23.ob hp) rfl rfl ?_
      clear hf; intro a ha hf
      exact st_nil hf (th_n ⟨ha, rfl⟩)
    clear hf; intro a hf
    refine dr_one 3 rfl (by kernel_rfl) ?_
    refine st_call hf (by decide) Try.func58 rfl rfl rfl rfl rfl (f_plane_Gauss_norm_c hp _ _ hcall26) ?_
    rintro _ w ⟨rfl, hp0⟩
    clear hp; have hp := hp0; clear hp0
    replace hp : Hp _ _ _ (Res.obj 56 v7 [.int .i64 (0 : Int), .int .i64 (0 : Int)] :: Res.obj 56 v5 [.int .i64 (0 : Int), .int .i64 (0 : Int)] :: Res.obj 56 v1 [.int .i64 g0_Re, .int .i64 g0_Im] :: ow) := hp
    refine ⟨_, rfl, ?_⟩
    clear hf; intro a hf
    refine st_nil hf (th_n ⟨fun _ _ => ⟨_, hp⟩, ?_⟩)
    refine dr_one 4 rfl (by kernel_rfl) ?_
    refine st_call hf (by decide) Try.func71 rfl rfl rfl rfl rfl (f_plane_nearest_c hp _ _ hcall28) ?_
    rintro _ w ⟨rfl, hp0⟩
    clear hp; have hp := hp0; clear hp0
    replace hp : Hp _ _ _ (Res.obj 56 v7 [.int .i64 (0 : Int), .int .i64 (0 : Int)] :: Res.obj 56 v5 [.int .i64 (0 : Int), .int .i64 (0 : Int)] :: Res.obj 56 v1 [.int .i64 g0_Re, .int .i64 g0_Im] :: ow) := hp
    refine ⟨_, rfl, ?_⟩
    clear hf; intro a hf
    refine st_nil hf (th_n ⟨fun _ _ => ⟨_, hp⟩, ?_⟩)
    refine dr_one 8 rfl (by kernel_rfl) ?_
    refine st_call hf (by decide) Try.func58 rfl rfl rfl rfl rfl (f_plane_Gauss_norm_c hp _ _ hcall30) ?_
    rintro _ w ⟨rfl, hp0⟩
    clear hp; have hp := hp0; clear hp0
    replace hp : Hp _ _ _ (Res.obj 56 v7 [.int .i64 (0 : Int), .int .i64 (0 : Int)] :: Res.obj 56 v5 [.int .i64 (0 : Int), .int .i64 (0 : Int)] :: Res.obj 56 v1 [.int .i64 g0_Re, .int .i64 g0_Im] :: ow) := hp
    refine ⟨_, rfl, ?_⟩
    clear hf; intro a hf
    refine st_nil hf (th_n ⟨fun _ _ => ⟨_, hp⟩, ?_⟩)
    refine dr_one 9 rfl (by kernel_rfl) ?_
    refine st_call hf (by decide) Try.func71 rfl rfl rfl rfl rfl (f_plane_nearest_c hp _ _ hcall32) ?_
    rintro _ w ⟨rfl, hp0⟩
    clear hp; have hp := hp0; clear hp0
    replace hp : Hp _ _ _ (Res.obj 56 v7 [.int .i64 (0 : Int), .int .i64 (0 : Int)] :: Res.obj 56 v5 [.int .i64 (0 : Int), .int .i64 (0 : Int)] :: Res.obj 56 v1 [.int .i64 g0_Re, .int .i64 g0_Im] :: ow) := hp
    refine ⟨_, rfl, ?_⟩
    clear hf; intro a hf
    refine st_nil hf (th_n ⟨fun _ _ => ⟨_, hp⟩, ?_⟩)
    refine dr_take 10 (.agg #[.int .i64 q27, .int .i64 q31]) rfl (by kernel_rfl) (by kernel_rfl) (by kernel_rfl) (by kernel_rfl) rfl rfl hf (by decide) rfl (fun w hp => ?_) ⟨_, hp⟩ ?_
    · obtain ⟨_, hp⟩ := hp
      refine st_buildA (vals := [(0, .int .i64 q27), (1, .int .i64 q31)]) (cells := [.int .i64 q27, .int .i64 q31]) hf (by decide) rfl (by simp [hf.ev (x := (Operand.tmp 20)) rfl, hf.ev (x := (Operand.tmp 25)) rfl]) (fun w => by kernel_rfl) ?_
      clear hf; intro a ha hf
      exact st_nil hf (th_n ⟨ha, rfl⟩)
    clear hf; intro a hf
    refine dr_one 11 rfl (by kernel_rfl) ?_
    refine st_stO (us := [.int .i64 q27, .int .i64 q31]) hf hp (i := 1) rfl rfl rfl rfl rfl (by rfl) (by kernel_rfl) (Nat.le_of_ble_eq_true rfl) ?_
    clear hf; intro a w hf hp0; clear hp; have hp := hp0; clear hp0
    replace hp : Hp _ _ _ (Res.obj 56 v7 [.int .i64 (0 : Int), .int .i64 (0 : Int)] :: Res.obj 56 v5 [.int .i64 q27, .int .i64 q31] :: Res.obj 56 v1 [.int .i64 g0_Re, .int .i64 g0_Im] :: ow) := hp
    refine st_nil hf (th_n ⟨fun _ _ => ⟨_, hp⟩, ?_⟩)
    refine dr_end (by kernel_rfl) ?_ _
    have hp := bk22 _ _ hp
    have hp := bk17 _ _ hp
    exact ⟨hf.sub ⟨rfl, rfl, rfl, rfl, trivial⟩, hp⟩
  rintro a w ⟨hf, hp⟩
  refine th_n ?_
  refine wp_seq ?_
  refine wp_reg ?_
  refine st_ldOA (m := 2) (us := [.int .i64 q27, .int .i64 q31]) hf (by decide) (by kernel_rfl) rfl rfl (hp.ob (i := 3) rfl) rfl rfl ?_
  clear hf; intro a ha hf; clear ha
  refine st_ldOA (m := 2) (us := [.int .i64 o1_Re, .int .i64 o1_Im]) hf (by decide) (by kernel_rfl) rfl rfl (hp.ob (i := 1) rfl) rfl rfl ?_
  clear hf; intro a ha hf; clear ha
  obtain ⟨q33, hcall34, h⟩ := bnd h
  refine st_call hf (by decide) Try.func56 rfl rfl rfl rfl rfl (f_plane_Gauss_times_c hp _ _ _ _ hcall34) ?_
  rintro _ w ⟨rfl, hp0⟩
  clear hp; have hp := hp0; clear hp0
  replace hp : Hp _ _ _ (Res.obj 56 v11 [.int .i64 q9.1, .int .i64 q9.2] :: Res.obj 56 v3 [.int .i64 o1_Re, .int .i64 o1_Im] :: Res.obj 56 v7 [.int .i64 (0 : Int), .int .i64 (0 : Int)] :: Res.obj 56 v5 [.int .i64 q27, .int .i64 q31] :: Res.obj 56 v1 [.int .i64 g0_Re, .int .i64 g0_Im] :: ow) := hp
  refine ⟨_, rfl, ?_⟩
  clear hf; intro a hf
  refine st_alloc (cs := [.int .i64 (0 : Int), .int .i64 (0 : Int)]) (zv := .agg #[.int .i64 (0 : Int), .int .i64 (0 : Int)]) hf (by decide) (by kernel_rfl) rfl hp rfl ?_
  clear hf; intro a w v35 hf hp0; clear hp; have hp := hp0; clear hp0
  replace hp : Hp _ _ _ (Res.obj 56 v35 [.int .i64 (0 : Int), .int .i64 (0 : Int)] :: Res.obj 56 v11 [.int .i64 q9.1, .int .i64 q9.2] :: Res.obj 56 v3 [.int .i64 o1_Re, .int .i64 o1_Im] :: Res.obj 56 v7 [.int .i64 (0 : Int), .int .i64 (0 : Int)] :: Res.obj 56 v5 [.int .i64 q27, .int .i64 q31] :: Res.obj 56 v1 [.int .i64 g0_Re, .int .i64 g0_Im] :: ow) := hp
  refine st_stO (us := [.int .i64 q33.1, .int .i64 q33.2]) hf hp (i := 0) rfl rfl rfl rfl rfl (by rfl) (by kernel_rfl) (Nat.le_of_ble_eq_true rfl) ?_
  clear hf; intro a w hf hp0; clear hp; have hp := hp0; clear hp0
  replace hp : Hp _ _ _ (Res.obj 56 v35 [.int .i64 q33.1, .int .i64 q33.2] :: Res.obj 56 v11 [.int .i64 q9.1, .int .i64 q9.2] :: Res.obj 56 v3 [.int .i64 o1_Re, .int .i64 o1_Im] :: Res.obj 56 v7 [.int .i64 (0 : Int), .int .i64 (0 : Int)] :: Res.obj 56 v5 [.int .i64 q27, .int .i64 q31] :: Res.obj 56 v1 [.int .i64 g0_Re, .int .i64 g0_Im] :: ow) := hp
  refine st_nil hf ?_
  refine th_n ?_
  refine wp_seq ?_
  obtain ⟨S37, hp38, rd39, up40, bk41⟩ := Hp.lendO hp (i := 5) rfl
  obtain ⟨S42, hp43, rd44, up45, bk46⟩ := Hp.lendO hp38 (i := 0) rfl
  have rl47 := ((rd39.now hp38).mono up45)
  have rl48 := rd44
  refine wp_cutN (fun a w => Fr 42 a [(4, optr v5 0), (5, optr v7 0)] ∧ Hp S w0 w (Res.obj 56 v1 [.int .i64 g0_Re, .int .i64 g0_Im] :: Res.obj 56 v35 [.int .i64 q33.1, .int .i64 q33.2] :: Res.obj 56 v11 [.int .i64 q9.1, .int .i64 q9.2] :: Res.obj 56 v3 [.int .i64 o1_Re, .int .i64 o1_Im] :: Res.obj 56 v7 [.int .i64 (IntKind.i64.wrap (g0_Re - q33.1)), .int .i64 (IntKind.i64.wrap (g0_Im - q33.2))] :: Res.obj 56 v5 [.int .i64 q27, .int .i64 q31] :: ow)) ?_ ?_
  · have hp := hp43.same (Same.drew w)
    refine dr_begin' (fun a w => Fr 42 a [(4, optr v5 0), (5, optr v7 0)] ∧ Hp S w0 w (Res.obj 56 v1 [.int .i64 g0_Re, .int .i64 g0_Im] :: Res.obj 56 v35 [.int .i64 q33.1, .int .i64 q33.2] :: Res.obj 56 v11 [.int .i64 q9.1, .int .i64 q9.2] :: Res.obj 56 v3 [.int .i64 o1_Re, .int .i64 o1_Im] :: Res.obj 56 v7 [.int .i64 (IntKind.i64.wrap (g0_Re - q33.1)), .int .i64 (IntKind.i64.wrap (g0_Im - q33.2))] :: Res.obj 56 v5 [.int .i64 q27, .int .i64 q31] :: ow)) (fun w' => ∃ l, Hp S42 w w' l) [] (by kernel_rfl) ?_
    refine dr_take 1 (optr v1 0) rfl (by kernel_rfl) (by kernel_rfl) (by kernel_rfl) (by kernel_rfl) rfl rfl hf (by decide) rfl (fun w hp => ?_) ⟨_, hp⟩ ?_
    · obtain ⟨_, hp⟩ := hp
      refine st_fa (o' := 0) hf (by decide) (off := 0) (sz := 1) (by kernel_rfl) (by decide) rfl rfl (rl47.ob hp) rfl ?_
      clear hf; intro a ha hf
      exact st_nil hf (th_n ⟨ha, rfl⟩)
    clear hf; intro a hf
    refine dr_take 2 (.int .i64 g0_Re) rfl (by kernel_rfl) (by kernel_rfl) (by kernel_rfl) (by kernel_rfl) rfl rfl hf (by decide) rfl (fun w hp => ?_) ⟨_, hp⟩ ?_
    · obtain ⟨_, hp⟩ := hp
      refine st_ldO (u := .int .i64 g0_Re) hf (by decide) pl2 rfl rfl (rl47.ob hp) rfl ?_
      clear hf; intro a ha hf
      exact st_nil hf (th_n ⟨ha, rfl⟩)
    clear hf; intro a hf
    refine dr_take 3 (optr v35 0) rfl (by kernel_rfl) (by kernel_rfl) (by kernel_rfl) (by kernel_rfl) rfl rfl hf (by decide) rfl (fun w hp => ?_) ⟨_, hp⟩ ?_
    · obtain ⟨_, hp⟩ := hp
      refine st_fa (o' := 0) hf (by decide) (off := 0) (sz := 1) (by kernel_rfl) (by decide) rfl rfl (rl48.ob hp) rfl ?_
      clear hf; intro a ha hf
      exact st_nil hf (th_n ⟨ha, rfl⟩)
    clear hf; intro a hf
    refine dr_take 4 (.int .i64 q33.1) rfl (by kernel_rfl) (by kernel_rfl) (by kernel_rfl) (by kernel_rfl) rfl rfl hf (by decide) rfl (fun w hp => ?_) ⟨_, hp⟩ ?_
    · obtain ⟨_, hp⟩ := hp
      refine st_ldO (u := .int .i64 q33.1) hf (by decide) pl2 rfl rfl (rl48.ob hp) rfl ?_
      clear hf; intro a ha hf
      exact st_nil hf (th_n ⟨ha, rfl⟩)
    clear hf; intro a hf
    refine dr_take 5 (.int .i64 (IntKind.i64.wrap (g0_Re - q33.1))) rfl (by kernel_rfl) (by kernel_rfl) (by kernel_rfl) (by kernel_rfl) rfl rfl hf (by decide) rfl (fun w hp => ?_) ⟨_, hp⟩ ?_
    · obtain ⟨_, hp⟩ := hp
      refine st_isub hf (by decide) rfl rfl rfl ?_
      clear hf; intro a ha hf
      exact st_nil hf (th_n ⟨ha, rfl⟩)
    clear hf; intro a hf
    refine dr_take 6 (optr v1 1) rfl (by kernel_rfl) (by kernel_rfl) (by kernel_rfl) (by kernel_rfl) rfl rfl hf (by decide) rfl (fun w hp => ?_) ⟨_, hp⟩ ?_
    · obtain ⟨_, hp⟩ := hp
      refine st_fa (o' := 1) hf (by decide) (off := 1) (sz := 1) (by kernel_rfl) (by decide) rfl rfl (rl47.ob hp) rfl ?_
      clear hf; intro a ha hf
      exact st_nil hf (th_n ⟨ha, rfl⟩)
    clear hf; intro a hf
    refine dr_take 7 (.int .i64 g0_Im) rfl (by kernel_rfl) (by kernel_rfl) (by kernel_rfl) (by kernel_rfl) rfl rfl hf (by decide) rfl (fun w hp => ?_) ⟨_, hp⟩ ?_
    · obtain ⟨_, hp⟩ := hp
      refine st_ldO (u := .int .i64 g0_Im) hf (by decide) pl2 rfl rfl (rl47.ob hp) rfl ?_
      clear hf; intro a ha hf
      exact st_nil hf (th_n ⟨ha, rfl⟩)
    clear hf; intro a hf
    refine dr_take 8 (optr v35 1) rfl (by kernel_rfl) (by kernel_rfl) (by kernel_rfl) (by kernel_rfl) rfl rfl hf (by decide) rfl (fun w hp => ?_) ⟨_, hp⟩ ?_
    · obtain ⟨_, hp⟩ := hp
      refine st_fa (o' := 1) hf (by decide) (off := 1) (sz := 1) (by kernel_rfl) (by decide) rfl rfl (rl48.ob hp) rfl ?_
      clear hf; intro a ha hf
      exact st_nil hf (th_n ⟨ha, rfl⟩)
    clear hf; intro a hf
    refine dr_take 9 (.int .i64 q33.2) rfl (by kernel_rfl) (by kernel_rfl) (by kernel_rfl) (by kernel_rfl) rfl rfl hf (by decide) rfl (fun w hp => ?_) ⟨_, hp⟩ ?_
    · obtain ⟨_, hp⟩ := hp
      refine st_ldO (u := .int .i64 q33.2) hf (by decide) pl2 rfl rfl (rl48.ob hp) rfl ?_
      clear hf; intro a ha hf
      exact st_nil hf (th_n ⟨ha, rfl⟩)
    clear hf; intro a hf
    refine dr_take 10 (.int .i64 (IntKind.i64.wrap (g0_Im - q33.2))) rfl (by kernel_rfl) (by kernel_rfl) (by kernel_rfl) (by kernel_rfl) rfl rfl hf (by decide) rfl (fun w hp => ?_) ⟨_, hp⟩ ?_
    · obtain ⟨_, hp⟩ := hp
      refine st_isub hf (by decide) rfl rfl rfl ?_
      clear hf; intro a ha hf
      exact st_nil hf (th_n ⟨ha, rfl⟩)
    clear hf; intro a hf
    refine dr_take 11 (.agg #[.int .i64 (IntKind.i64.wrap (g0_Re - q33.1)), .int .i64 (IntKind.i64.wrap (g0_Im - q33.2))]) rfl (by kernel_rfl) (by kernel_rfl) (by kernel_rfl) (by kernel_rfl) rfl rfl hf (by decide) rfl (fun w hp => ?_) ⟨_, hp⟩ ?_
    · obtain ⟨_, hp⟩ := hp
      refine st_buildA (vals := [(0, .int .i64 (IntKind.i64.wrap (g0_Re - q33.1))), (1, .int .i64 (IntKind.i64.wrap (g0_Im - q33.2)))]) (cells := [.int .i64 (IntKind.i64.wrap (g0_Re - q33.1)), .int .i64 (IntKind.i64.wrap (g0_Im - q33.2))]) hf (by decide) rfl (by simp [hf.ev (x := (Operand.tmp 35)) rfl, hf.ev (x := (Operand.tmp 40)) rfl]) (fun w => by kernel_rfl) ?_
      clear hf; intro a ha hf
      exact st_nil hf (th_n ⟨ha, rfl⟩)
    clear hf; intro a hf
    refine dr_one 0 rfl (by kernel_rfl) ?_
    refine st_ldOA (m := 2) (us := [.int .i64 q27, .int .i64 q31]) hf (by decide) (by kernel_rfl) rfl rfl (hp.ob (i := 3) rfl) rfl rfl ?_
    clear hf; intro a ha hf; clear ha
    refine st_nil hf (th_n ⟨fun _ _ => ⟨_, hp⟩, ?_⟩)
    refine dr_one 12 rfl (by kernel_rfl) ?_
    refine st_stO (us := [.int .i64 q27, .int .i64 q31]) hf hp (i := 3) rfl rfl rfl rfl rfl (by rfl) (by kernel_rfl) (Nat.le_of_ble_eq_true rfl) ?_
    clear hf; intro a w hf hp0; clear hp; have hp := hp0; clear hp0
    replace hp : Hp _ _ _ (Res.obj 56 v11 [.int .i64 q9.1, .int .i64 q9.2] :: Res.obj 56 v3 [.int .i64 o1_Re, .int .i64 o1_Im] :: Res.obj 56 v7 [.int .i64 (0 : Int), .int .i64 (0 : Int)] :: Res.obj 56 v5 [.int .i64 q27, .int .i64 q31] :: ow) := hp
    refine st_nil hf (th_n ⟨fun _ _ => ⟨_, hp⟩, ?_⟩)
    refine dr_one 13 rfl (by kernel_rfl) ?_
    refine st_stO (us := [.int .i64 (IntKind.i64.wrap (g0_Re - q33.1)), .int .i64 (IntKind.i64.wrap (g0_Im - q33.2))]) hf hp (i := 2) rfl rfl rfl rfl rfl (by rfl) (by kernel_rfl) (Nat.le_of_ble_eq_true rfl) ?_
    clear hf; intro a w hf hp0; clear hp; have hp := hp0; clear hp0
    replace hp : Hp _ _ _ (Res.obj 56 v11 [.int .i64 q9.1, .int .i64 q9.2] :: Res.obj 56 v3 [.int .i64 o1_Re, .int .i64 o1_Im] :: Res.obj 56 v7 [.int .i64 (IntKind.i64.wrap (g0_Re - q33.1)), .int .i64 (IntKind.i64.wrap (g0_Im - q33.2))] :: Res.obj 56 v5 [.int .i64 q27, .int .i64 q31] :: ow) := hp
    refine st_nil hf (th_n ⟨fun _ _ => ⟨_, hp⟩, ?_⟩)
    refine dr_end (by kernel_rfl) ?_ _
    have hp := bk46 _ _ hp
    have hp := bk41 _ _ hp
    exact ⟨hf.sub ⟨rfl, rfl, trivial⟩, hp⟩
  rintro a w ⟨hf, hp⟩
  refine th_n ?_
  refine wp_ret ?_
  obtain rfl := Option.some.inj h
  have hp : Hp _ _ _ (Res.obj 56 v5 [.int .i64 q27, .int .i64 q31] :: Res.obj 56 v7 [.int .i64 (IntKind.i64.wrap (g0_Re - q33.1)), .int .i64 (IntKind.i64.wrap (g0_Im - q33.2))] :: ow) := Hp.sel (pre := [Res.obj 56 v1 [.int .i64 g0_Re, .int .i64 g0_Im], Res.obj 56 v35 [.int .i64 q33.1, .int .i64 q33.2], Res.obj 56 v11 [.int .i64 q9.1, .int .i64 q9.2], Res.obj 56 v3 [.int .i64 o1_Re, .int .i64 o1_Im], Res.obj 56 v7 [.int .i64 (IntKind.i64.wrap (g0_Re - q33.1)), .int .i64 (IntKind.i64.wrap (g0_Im - q33.2))], Res.obj 56 v5 [.int .i64 q27, .int .i64 q31]]) (tail := ow) (rs' := [Res.obj 56 v5 [.int .i64 q27, .int .i64 q31], Res.obj 56 v7 [.int .i64 (IntKind.i64.wrap (g0_Re - q33.1)), .int .i64 (IntKind.i64.wrap (g0_Im - q33.2))]]) hp [5, 4] (by decide) (by simp) rfl
  exact ⟨rfl, ⟨_, _, hf.sub ⟨rfl, rfl, trivial⟩, hp⟩⟩

noncomputable def f_plane_Gauss_By (g0_Re : Int) (g0_Im : Int) (o1_Re : Int) (o1_Im : Int) : Option ((Int × Int) × (Int × Int) × Int) := ((f_plane_Gauss_may g0_Re g0_Im).bind fun q9 => ((if (!q9) = true then (some true) else ((f_plane_Gauss_may o1_Re o1_Im).bind fun q14 => (some (!q14)))).bind fun z13 => (if z13 = true then (some (((0 : Int), (0 : Int)), ((0 : Int), (0 : Int)), (1 : Int))) else (if ((o1_Re == (0 : Int)) && ((o1_Im == (0 : Int)) && true)) = true then (some (((0 : Int), (0 : Int)), ((0 : Int), (0 : Int)), (6 : Int))) else ((f_plane_Gauss_by g0_Re g0_Im o1_Re o1_Im).bind fun q28 => (some ((q28.1.1, q28.1.2), (q28.2.1, q28.2.2), (0 : Int))))))))
theorem f_plane_Gauss_By_c {S : Nat → Prop} {w0 w : World} {ow : List Res} (hp : Hp S w0 w ow) (g0_Re : Int) (g0_Im : Int) (o1_Re : Int) (o1_Im : Int) {r : ((Int × Int) × (Int × Int) × Int)} (h : f_plane_Gauss_By g0_Re g0_Im o1_Re o1_Im = some r) :
    Calls Try.prog 34 #[.agg #[.int .i64 g0_Re, .int .i64 g0_Im], .agg #[.int .i64 o1_Re, .int .i64 o1_Im]] w (fun e w' => e = .returned (.tuple #[.agg #[.int .i64 r.1.1, .int .i64 r.1.2], .agg #[.int .i64 r.2.1.1, .int .i64 r.2.1.2], .int .i64 r.2.2]) ∧ Hp S w0 w' (ow)) := by
  unfold f_plane_Gauss_By at h
  refine enter (n := 32) (args := [.agg #[.int .i64 g0_Re, .int .i64 g0_Im], .agg #[.int .i64 o1_Re, .int .i64 o1_Im]]) Try.func34 rfl rfl (Nat.le_of_ble_eq_true rfl) fun a hf => ?_
  replace hf : Fr 32 a [(0, .agg #[.int .i64 g0_Re, .int .i64 g0_Im]), (1, .agg #[.int .i64 o1_Re, .int .i64 o1_Im])] := hf
  refine wp_mono (Q := fun e a w => e = .ret ∧ ∃ (c0 : Value) (c1 : Value), Fr 32 a [(4, optr c0 0), (5, optr c1 0), (6, .int .i64 r.2.2)] ∧ Hp S w0 w (Res.obj 56 c0 [.int .i64 r.1.1, .int .i64 r.1.2] :: Res.obj 56 c1 [.int .i64 r.2.1.1, .int .i64 r.2.1.2] :: ow)) ?_ ?_
  rotate_left
  · rintro e a w ⟨rfl, c0, c1, hf, hp⟩
    exact retG3 hf rfl ⟨_, _, rfl, hp.ob (i := 0) rfl, .inr ⟨by kernel_rfl, rfl⟩⟩ ⟨_, _, rfl, hp.ob (i := 1) rfl, .inr ⟨by kernel_rfl, rfl⟩⟩ rfl ⟨rfl, hp.drop.drop⟩
  refine wp_seq ?_
  refine wp_reg ?_
  refine st_boxO (cs := [.int .i64 g0_Re, .int .i64 g0_Im]) hf (by decide) hp rfl rfl rfl ?_
  clear hf; intro a w v1 hf hp0; clear hp; have hp := hp0; clear hp0
  replace hp : Hp _ _ _ (Res.obj 56 v1 [.int .i64 g0_Re, .int .i64 g0_Im] :: ow) := hp
  refine st_boxO (cs := [.int .i64 o1_Re, .int .i64 o1_Im]) hf (by decide) hp rfl rfl rfl ?_
  clear hf; intro a w v3 hf hp0; clear hp; have hp := hp0; clear hp0
  replace hp : Hp _ _ _ (Res.obj 56 v3 [.int .i64 o1_Re, .int .i64 o1_Im] :: Res.obj 56 v1 [.int .i64 g0_Re, .int .i64 g0_Im] :: ow) := hp
  refine st_alloc (cs := [.int .i64 (0 : Int), .int .i64 (0 : Int)]) (zv := .agg #[.int .i64 (0 : Int), .int .i64 (0 : Int)]) hf (by decide) (by kernel_rfl) rfl hp rfl ?_
  clear hf; intro a w v5 hf hp0; clear hp; have hp := hp0; clear hp0
  replace hp : Hp _ _ _ (Res.obj 56 v5 [.int .i64 (0 : Int), .int .i64 (0 : Int)] :: Res.obj 56 v3 [.int .i64 o1_Re, .int .i64 o1_Im] :: Res.obj 56 v1 [.int .i64 g0_Re, .int .i64 g0_Im] :: ow) := hp
  refine st_alloc (cs := [.int .i64 (0 : Int), .int .i64 (0 : Int)]) (zv := .agg #[.int .i64 (0 : Int), .int .i64 (0 : Int)]) hf (by decide) (by kernel_rfl) rfl hp rfl ?_
  clear hf; intro a w v7 hf hp0; clear hp; have hp := hp0; clear hp0
  replace hp : Hp _ _ _ (Res.obj 56 v7 [.int .i64 (0 : Int), .int .i64 (0 : Int)] :: Res.obj 56 v5 [.int .i64 (0 : Int), .int .i64 (0 : Int)] :: Res.obj 56 v3 [.int .i64 o1_Re, .int .i64 o1_Im] :: Res.obj 56 v1 [.int .i64 g0_Re, .int .i64 g0_Im] :: ow) := hp
  refine st_assign hf rfl rfl (by decide) ?_
  clear hf; intro a ha hf; clear ha
  refine st_nil hf ?_
  refine th_n ?_
  refine wp_seq ?_
  refine wp_block ?_
  refine wp_seq ?_
  refine wp_reg ?_
  refine st_ldOA (m := 2) (us := [.int .i64 g0_Re, .int .i64 g0_Im]) hf (by decide) (by kernel_rfl) rfl rfl (hp.ob (i := 3) rfl) rfl rfl ?_
  clear hf; intro a ha hf; clear ha
  obtain ⟨q9, hcall10, h⟩ := bnd h
  refine st_call hf (by decide) Try.func55 rfl rfl rfl rfl rfl (f_plane_Gauss_may_c hp _ _ hcall10) ?_
  rintro _ w ⟨rfl, hp0⟩
  clear hp; have hp := hp0; clear hp0
  replace hp : Hp _ _ _ (Res.obj 56 v7 [.int .i64 (0 : Int), .int .i64 (0 : Int)] :: Res.obj 56 v5 [.int .i64 (0 : Int), .int .i64 (0 : Int)] :: Res.obj 56 v3 [.int .i64 o1_Re, .int .i64 o1_Im] :: Res.obj 56 v1 [.int .i64 g0_Re, .int .i64 g0_Im] :: ow) := hp
  refine ⟨_, rfl, ?_⟩
  clear hf; intro a hf
  refine st_not hf (by decide) rfl rfl ?_
  clear hf; intro a ha hf; clear ha
  refine st_move hf rfl rfl (by decide) ?_
  clear hf; intro a ha hf; clear ha
  obtain ⟨z13, hz11, h⟩ := bnd h
  refine wpList_cut 4 (fun a w => Fr 32 a [(2, optr v1 0), (3, optr v3 0), (4, optr v5 0), (5, optr v7 0), (15, .bool z13)] ∧ Hp S w0 w (Res.obj 56 v7 [.int .i64 (0 : Int), .int .i64 (0 : Int)] :: Res.obj 56 v5 [.int .i64 (0 : Int), .int .i64 (0 : Int)] :: Res.obj 56 v3 [.int .i64 o1_Re, .int .i64 o1_Im] :: Res.obj 56 v1 [.int .i64 g0_Re, .int .i64 g0_Im] :: ow)) ?_ ?_
  · rcases Bool.eq_false_or_eq_true (!q9) with hb12 | hb12
    · skip
      replace hz11 := ifT hz11 hb12
      refine st_skip hf (wantN hf rfl rfl hb12) rfl (by decide) ?_ rfl
      clear hf; intro a hf
      refine st_skip hf (wantN hf rfl rfl hb12) rfl (by decide) ?_ rfl
      clear hf; intro a hf
      refine st_skip hf (wantN hf rfl rfl hb12) rfl (by decide) ?_ rfl
      clear hf; intro a hf
      obtain rfl := Option.some.inj hz11
      refine st_pick (v := .bool true) hf rfl rfl (fun hb' => ?_) (fun hb' => ?_) (by decide) ?_
      · rfl
      · exact absurd (hb12.symm.trans hb') (by decide)
      clear hf; intro a ha hf; clear ha
      refine st_nil hf (th_n ?_)
      exact ⟨hf.sub ⟨rfl, rfl, rfl, rfl, rfl, trivial⟩, hp⟩
    replace hz11 := ifF hz11 hb12
    refine st_ldOA (m := 2) (us := [.int .i64 o1_Re, .int .i64 o1_Im]) hf (by decide) (by kernel_rfl) (wantY hf rfl rfl hb12) rfl (hp.ob (i := 2) rfl) rfl rfl ?_
    clear hf; intro a ha hf; clear ha
    obtain ⟨q14, hcall15, hz11⟩ := bnd hz11
    refine st_call hf (by decide) Try.func55 rfl rfl (wantY hf rfl rfl hb12) rfl rfl (f_plane_Gauss_may_c hp _ _ hcall15) ?_
    rintro _ w ⟨rfl, hp0⟩
    clear hp; have hp := hp0; clear hp0
    replace hp : Hp _ _ _ (Res.obj 56 v7 [.int .i64 (0 : Int), .int .i64 (0 : Int)] :: Res.obj 56 v5 [.int .i64 (0 : Int), .int .i64 (0 : Int)] :: Res.obj 56 v3 [.int .i64 o1_Re, .int .i64 o1_Im] :: Res.obj 56 v1 [.int .i64 g0_Re, .int .i64 g0_Im] :: ow) := hp
    refine ⟨_, rfl, ?_⟩
    clear hf; intro a hf
    refine st_not hf (by decide) (wantY hf rfl rfl hb12) rfl ?_
    clear hf; intro a ha hf; clear ha
    obtain rfl := Option.some.inj hz11
    refine st_pick (v := .bool (!q14)) hf rfl rfl (fun hb' => ?_) (fun hb' => ?_) (by decide) ?_
    · exact absurd (hb12.symm.trans hb') (by decide)
    · rfl
    clear hf; intro a ha hf; clear ha
    refine st_nil hf (th_n ?_)
    exact ⟨hf.sub ⟨rfl, rfl, rfl, rfl, rfl, trivial⟩, hp⟩
  rintro a w ⟨hf, hp⟩
  refine st_assign hf rfl rfl (by decide) ?_
  clear hf; intro a ha hf; clear ha
  refine st_nil hf ?_
  refine th_n ?_
  refine wp_if hf rfl (fun hb => ?_) (fun hb => ?_)
  · replace h := ifT h hb
    refine wp_seq ?_
    obtain ⟨S16, hp17, rd18, up19, bk20⟩ := Hp.lendO hp (i := 0) rfl
    have rl21 := rd18
    refine wp_cutN (fun a w => Fr 32 a [(4, optr v5 0), (5, optr v7 0), (6, .int .i64 (1 : Int))] ∧ Hp S w0 w (Res.obj 56 v7 [.int .i64 (0 : Int), .int .i64 (0 : Int)] :: Res.obj 56 v5 [.int .i64 (0 : Int), .int .i64 (0 : Int)] :: Res.obj 56 v3 [.int .i64 o1_Re, .int .i64 o1_Im] :: Res.obj 56 v1 [.int .i64 g0_Re, .int .i64 g0_Im] :: ow)) ?_ ?_
    · have hp := hp17.same (Same.drew w)
      refine dr_begin' (fun a w => Fr 32 a [(4, optr v5 0), (5, optr v7 0), (6, .int .i64 (1 : Int))] ∧ Hp S w0 w (Res.obj 56 v7 [.int .i64 (0 : Int), .int .i64 (0 : Int)] :: Res.obj 56 v5 [.int .i64 (0 : Int), .int .i64 (0 : Int)] :: Res.obj 56 v3 [.int .i64 o1_Re, .int .i64 o1_Im] :: Res.obj 56 v1 [.int .i64 g0_Re, .int .i64 g0_Im] :: ow)) (fun w' => ∃ l, Hp S16 w w' l) [3] (by kernel_rfl) ?_
      refine dr_take2 1 (.agg #[.int .i64 (0 : Int), .int .i64 (0 : Int)]) rfl (by kernel_rfl) (by kernel_rfl) (by kernel_rfl) (by kernel_rfl) (by kernel_rfl) rfl rfl hf (by decide) rfl (fun w hp => ?_) ⟨_, hp⟩ ?_
      · obtain ⟨_, hp⟩ := hp
        refine st_ldOA (m := 2) (us := [.int .i64 (0 : Int), .int .i64 (0 : Int)]) hf (by decide) (by kernel_rfl) rfl rfl (rl21.ob hp) rfl rfl ?_
        clear hf; intro a ha hf
        exact st_nil hf (th_n ⟨ha, rfl⟩)
      clear hf; intro a hf
      refine dr_one 0 rfl (by kernel_rfl) ?_
      refine st_ldOA (m := 2) (us := [.int .i64 (0 : Int), .int .i64 (0 : Int)]) hf (by decide) (by kernel_rfl) rfl rfl (hp.ob (i := 0) rfl) rfl rfl ?_
      clear hf; intro a ha hf; clear ha
      refine st_nil hf (th_n ⟨fun _ _ => ⟨_, hp⟩, ?_⟩)
      refine dr_one 2 rfl (by kernel_rfl) ?_
      refine st_stO (us := [.int .i64 (0 : Int), .int .i64 (0 : Int)]) hf hp (i := 0) rfl rfl rfl rfl rfl (by rfl) (by kernel_rfl) (Nat.le_of_ble_eq_true rfl) ?_
      clear hf; intro a w hf hp0; clear hp; have hp := hp0; clear hp0
      replace hp : Hp _ _ _ (Res.obj 56 v5 [.int .i64 (0 : Int), .int .i64 (0 : Int)] :: Res.obj 56 v3 [.int .i64 o1_Re, .int .i64 o1_Im] :: Res.obj 56 v1 [.int .i64 g0_Re, .int .i64 g0_Im] :: ow) := hp
      refine st_nil hf (th_n ⟨fun _ _ => ⟨_, hp⟩, ?_⟩)
      have hp := bk20 _ _ hp
      refine dr_one 3 rfl (by kernel_rfl) ?_
      refine st_stO (us := [.int .i64 (0 : Int), .int .i64 (0 : Int)]) hf hp (i := 0) rfl rfl rfl rfl rfl (by rfl) (by kernel_rfl) (Nat.le_of_ble_eq_true rfl) ?_
      clear hf; intro a w hf hp0; clear hp; have hp := hp0; clear hp0
      replace hp : Hp _ _ _ (Res.obj 56 v7 [.int .i64 (0 : Int), .int .i64 (0 : Int)] :: Res.obj 56 v5 [.int .i64 (0 : Int), .int .i64 (0 : Int)] :: Res.obj 56 v3 [.int .i64 o1_Re, .int .i64 o1_Im] :: Res.obj 56 v1 [.int .i64 g0_Re, .int .i64 g0_Im] :: ow) := hp
      refine st_nil hf (th_n ⟨fun hn => absurd hn (by decide), ?_⟩)
      refine dr_takeP 4 (.int .i64 (1 : Int)) rfl (by kernel_rfl) (by kernel_rfl) (by kernel_rfl) rfl rfl hf (by decide) rfl (fun w => ?_) ?_
      · skip
        refine st_assign hf rfl rfl (by decide) ?_
        clear hf; intro a ha hf
        exact st_nil hf (th_n ⟨ha, rfl⟩)
      clear hf; intro a hf
      refine dr_end (by kernel_rfl) ?_ _
      exact ⟨hf.sub ⟨rfl, rfl, rfl, trivial⟩, hp⟩
    rintro a w ⟨hf, hp⟩
    refine th_n ?_
    refine wp_ret ?_
    refine ib_r ?_
    refine th_r ?_
    obtain rfl := Option.some.inj h
    have hp : Hp _ _ _ (Res.obj 56 v5 [.int .i64 (0 : Int), .int .i64 (0 : Int)] :: Res.obj 56 v7 [.int .i64 (0 : Int), .int .i64 (0 : Int)] :: ow) := Hp.sel (pre := [Res.obj 56 v7 [.int .i64 (0 : Int), .int .i64 (0 : Int)], Res.obj 56 v5 [.int .i64 (0 : Int), .int .i64 (0 : Int)], Res.obj 56 v3 [.int .i64 o1_Re, .int .i64 o1_Im], Res.obj 56 v1 [.int .i64 g0_Re, .int .i64 g0_Im]]) (tail := ow) (rs' := [Res.obj 56 v5 [.int .i64 (0 : Int), .int .i64 (0 : Int)], Res.obj 56 v7 [.int .i64 (0 : Int), .int .i64 (0 : Int)]]) hp [1, 0] (by decide) (by simp) rfl
    exact ⟨rfl, ⟨_, _, hf.sub ⟨rfl, rfl, rfl, trivial⟩, hp⟩⟩
  replace h := ifF h hb
  refine wp_seq ?_
  refine wp_reg ?_
  refine st_ldOA (m := 2) (us := [.int .i64 o1_Re, .int .i64 o1_Im]) hf (by decide) (by kernel_rfl) rfl rfl (hp.ob (i := 2) rfl) rfl rfl ?_
  clear hf; intro a ha hf; clear ha
  refine st_buildA (vals := []) (cells := [.int .i64 (0 : Int), .int .i64 (0 : Int)]) hf (by decide) rfl (by simp []) (fun w => by kernel_rfl) ?_
  clear hf; intro a ha hf; clear ha
  refine st_eqA (xs := [.int .i64 o1_Re, .int .i64 o1_Im]) (ys := [.int .i64 (0 : Int), .int .i64 (0 : Int)]) hf (by decide) (by kernel_rfl) (by kernel_rfl) (by kernel_rfl) (by kernel_rfl) rfl rfl rfl (b := ((o1_Re == (0 : Int)) && ((o1_Im == (0 : Int)) && true))) rfl ?_
  clear hf; intro a ha hf; clear ha
  refine st_assign hf rfl rfl (by decide) ?_
  clear hf; intro a ha hf; clear ha
  refine st_nil hf ?_
  refine th_n ?_
  refine wp_if hf rfl (fun hb => ?_) (fun hb => ?_)
  · replace h := ifT h hb
    refine wp_seq ?_
    obtain ⟨S22, hp23, rd24, up25, bk26⟩ := Hp.lendO hp (i := 0) rfl
    have rl27 := rd24
    refine wp_cutN (fun a w => Fr 32 a [(4, optr v5 0), (5, optr v7 0), (6, .int .i64 (6 : Int))] ∧ Hp S w0 w (Res.obj 56 v7 [.int .i64 (0 : Int), .int .i64 (0 : Int)] :: Res.obj 56 v5 [.int .i64 (0 : Int), .int .i64 (0 : Int)] :: Res.obj 56 v3 [.int .i64 o1_Re, .int .i64 o1_Im] :: Res.obj 56 v1 [.int .i64 g0_Re, .int .i64 g0_Im] :: ow)) ?_ ?_
    · have hp := hp23.same (Same.drew w)
      refine dr_begin' (fun a w => Fr 32 a [(4, optr v5 0), (5, optr v7 0), (6, .int .i64 (6 : Int))] ∧ Hp S w0 w (Res.obj 56 v7 [.int .i64 (0 : Int), .int .i64 (0 : Int)] :: Res.obj 56 v5 [.int .i64 (0 : Int), .int .i64 (0 : Int)] :: Res.obj 56 v3 [.int .i64 o1_Re, .int .i64 o1_Im] :: Res.obj 56 v1 [.int .i64 g0_Re, .int .i64 g0_Im] :: ow)) (fun w' => ∃ l, Hp S22 w w' l) [3] (by kernel_rfl) ?_
      refine dr_take2 1 (.agg #[.int .i64 (0 : Int), .int .i64 (0 : Int)]) rfl (by kernel_rfl) (by kernel_rfl) (by kernel_rfl) (by kernel_rfl) (by kernel_rfl) rfl rfl hf (by decide) rfl (fun w hp => ?_) ⟨_, hp⟩ ?_
      · obtain ⟨_, hp⟩ := hp
        refine st_ldOA (m := 2) (us := [.int .i64 (0 : Int), .int .i64 (0 : Int)]) hf (by decide) (by kernel_rfl) rfl rfl (rl27.ob hp) rfl rfl ?_
        clear hf; intro a ha hf
        exact st_nil hf (th_n ⟨ha, rfl⟩)
      clear hf; intro a hf
      refine dr_one 0 rfl (by kernel_rfl) ?_
      refine st_ldOA (m := 2) (us := [.int .i64 (0 : Int), .int .i64 (0 : Int)]) hf (by decide) (by kernel_rfl) rfl rfl (hp.ob (i := 0) rfl) rfl rfl ?_
      clear hf; intro a ha hf; clear ha
      refine st_nil hf (th_n ⟨fun _ _ => ⟨_, hp⟩, ?_⟩)
      refine dr_one 2 rfl (by kernel_rfl) ?_
      refine st_stO (us := [.int .i64 (0 : Int), .int .i64 (0 : Int)]) hf hp (i := 0) rfl rfl rfl rfl rfl (by rfl) (by kernel_rfl) (Nat.le_of_ble_eq_true rfl) ?_
      clear hf; intro a w hf hp0; clear hp; have hp := hp0; clear hp0
      replace hp : Hp _ _ _ (Res.obj 56 v5 [.int .i64 (0 : Int), .int .i64 (0 : Int)] :: Res.obj 56 v3 [.int .i64 o1_Re, .int .i64 o1_Im] :: Res.obj 56 v1 [.int .i64 g0_Re, .int .i64 g0_Im] :: ow) := hp
      refine st_nil hf (th_n ⟨fun _ _ => ⟨_, hp⟩, ?_⟩)
      have hp := bk26 _ _ hp
      refine dr_one 3 rfl (by kernel_rfl) ?_
      refine st_stO (us := [.int .i64 (0 : Int), .int .i64 (0 : Int)]) hf hp (i := 0) rfl rfl rfl rfl rfl (by rfl) (by kernel_rfl) (Nat.le_of_ble_eq_true rfl) ?_
      clear hf; intro a w hf hp0; clear hp; have hp := hp0; clear hp0
      replace hp : Hp _ _ _ (Res.obj 56 v7 [.int .i64 (0 : Int), .int .i64 (0 : Int)] :: Res.obj 56 v5 [.int .i64 (0 : Int), .int .i64 (0 : Int)] :: Res.obj 56 v3 [.int .i64 o1_Re, .int .i64 o1_Im] :: Res.obj 56 v1 [.int .i64 g0_Re, .int .i64 g0_Im] :: ow) := hp
      refine st_nil hf (th_n ⟨fun hn => absurd hn (by decide), ?_⟩)
      refine dr_takeP 4 (.int .i64 (6 : Int)) rfl (by kernel_rfl) (by kernel_rfl) (by kernel_rfl) rfl rfl hf (by decide) rfl (fun w => ?_) ?_
      · skip
        refine st_assign hf rfl rfl (by decide) ?_
        clear hf; intro a ha hf
        exact st_nil hf (th_n ⟨ha, rfl⟩)
      clear hf; intro a hf
      refine dr_end (by kernel_rfl) ?_ _
      exact ⟨hf.sub ⟨rfl, rfl, rfl, trivial⟩, hp⟩
    rintro a w ⟨hf, hp⟩
    refine th_n ?_
    refine wp_ret ?_
    refine ib_r ?_
    refine th_r ?_
    obtain rfl := Option.some.inj h
    have hp : Hp _ _ _ (Res.obj 56 v5 [.int .i64 (0 : Int), .int .i64 (0 : Int)] :: Res.obj 56 v7 [.int .i64 (0 : Int), .int .i64 (0 : Int)] :: ow) := Hp.sel (pre := [Res.obj 56 v7 [.int .i64 (0 : Int), .int .i64 (0 : Int)], Res.obj 56 v5 [.int .i64 (0 : Int), .int .i64 (0 : Int)], Res.obj 56 v3 [.int .i64 o1_Re, .int .i64 o1_Im], Res.obj 56 v1 [.int .i64 g0_Re, .int .i64 g0_Im]]) (tail := ow) (rs' := [Res.obj 56 v5 [.int .i64 (0 : Int), .int .i64 (0 : Int)], Res.obj 56 v7 [.int .i64 (0 : Int), .int .i64 (0 : Int)]]) hp [1, 0] (by decide) (by simp) rfl
    exact ⟨rfl, ⟨_, _, hf.sub ⟨rfl, rfl, rfl, trivial⟩, hp⟩⟩
  replace h := ifF h hb
  refine wp_skip ?_
  refine ib_n ?_
  refine th_n ?_
  refine wp_seq ?_
  refine wp_reg ?_
  refine st_ldOA (m := 2) (us := [.int .i64 g0_Re, .int .i64 g0_Im]) hf (by decide) (by kernel_rfl) rfl rfl (hp.ob (i := 3) rfl) rfl rfl ?_
  clear hf; intro a ha hf; clear ha
  refine st_ldOA (m := 2) (us := [.int .i64 o1_Re, .int .i64 o1_Im]) hf (by decide) (by kernel_rfl) rfl rfl (hp.ob (i := 2) rfl) rfl rfl ?_
  clear hf; intro a ha hf; clear ha
  obtain ⟨q28, hcall29, h⟩ := bnd h
  refine st_call hf (by decide) Try.func57 rfl rfl rfl rfl rfl (f_plane_Gauss_by_c hp _ _ _ _ hcall29) ?_
  rintro _ w ⟨rfl, hp0⟩
  clear hp; have hp := hp0; clear hp0
  replace hp : Hp _ _ _ (Res.obj 56 v7 [.int .i64 (0 : Int), .int .i64 (0 : Int)] :: Res.obj 56 v5 [.int .i64 (0 : Int), .int .i64 (0 : Int)] :: Res.obj 56 v3 [.int .i64 o1_Re, .int .i64 o1_Im] :: Res.obj 56 v1 [.int .i64 g0_Re, .int .i64 g0_Im] :: ow) := hp
  refine ⟨_, rfl, ?_⟩
  clear hf; intro a hf
  refine st_move hf rfl rfl (by decide) ?_
  clear hf; intro a ha hf; clear ha
  refine st_extract hf (by decide) rfl rfl rfl ?_
  clear hf; intro a ha hf; clear ha
  refine st_extract hf (by decide) rfl rfl rfl ?_
  clear hf; intro a ha hf; clear ha
  refine st_stO (us := [.int .i64 q28.1.1, .int .i64 q28.1.2]) hf hp (i := 1) rfl rfl rfl rfl rfl (by rfl) (by kernel_rfl) (Nat.le_of_ble_eq_true rfl) ?_
  clear hf; intro a w hf hp0; clear hp; have hp := hp0; clear hp0
  replace hp : Hp _ _ _ (Res.obj 56 v7 [.int .i64 (0 : Int), .int .i64 (0 : Int)] :: Res.obj 56 v5 [.int .i64 q28.1.1, .int .i64 q28.1.2] :: Res.obj 56 v3 [.int .i64 o1_Re, .int .i64 o1_Im] :: Res.obj 56 v1 [.int .i64 g0_Re, .int .i64 g0_Im] :: ow) := hp
  refine st_stO (us := [.int .i64 q28.2.1, .int .i64 q28.2.2]) hf hp (i := 0) rfl rfl rfl rfl rfl (by rfl) (by kernel_rfl) (Nat.le_of_ble_eq_true rfl) ?_
  clear hf; intro a w hf hp0; clear hp; have hp := hp0; clear hp0
  replace hp : Hp _ _ _ (Res.obj 56 v7 [.int .i64 q28.2.1, .int .i64 q28.2.2] :: Res.obj 56 v5 [.int .i64 q28.1.1, .int .i64 q28.1.2] :: Res.obj 56 v3 [.int .i64 o1_Re, .int .i64 o1_Im] :: Res.obj 56 v1 [.int .i64 g0_Re, .int .i64 g0_Im] :: ow) := hp
  refine st_nil hf ?_
  refine th_n ?_
  refine wp_seq ?_
  obtain ⟨S30, hp31, rd32, up33, bk34⟩ := Hp.lendO hp (i := 0) rfl
  have rl35 := rd32
  refine wp_cutN (fun a w => Fr 32 a [(4, optr v5 0), (5, optr v7 0), (6, .int .i64 (0 : Int))] ∧ Hp S w0 w (Res.obj 56 v7 [.int .i64 q28.2.1, .int .i64 q28.2.2] :: Res.obj 56 v5 [.int .i64 q28.1.1, .int .i64 q28.1.2] :: Res.obj 56 v3 [.int .i64 o1_Re, .int .i64 o1_Im] :: Res.obj 56 v1 [.int .i64 g0_Re, .int .i64 g0_Im] :: ow)) ?_ ?_
  · have hp := hp31.same (Same.drew w)
    refine dr_begin' (fun a w => Fr 32 a [(4, optr v5 0), (5, optr v7 0), (6, .int .i64 (0 : Int))] ∧ Hp S w0 w (Res.obj 56 v7 [.int .i64 q28.2.1, .int .i64 q28.2.2] :: Res.obj 56 v5 [.int .i64 q28.1.1, .int .i64 q28.1.2] :: Res.obj 56 v3 [.int .i64 o1_Re, .int .i64 o1_Im] :: Res.obj 56 v1 [.int .i64 g0_Re, .int .i64 g0_Im] :: ow)) (fun w' => ∃ l, Hp S30 w w' l) [3] (by kernel_rfl) ?_
    refine dr_take2 1 (.agg #[.int .i64 q28.2.1, .int .i64 q28.2.2]) rfl (by kernel_rfl) (by kernel_rfl) (by kernel_rfl) (by kernel_rfl) (by kernel_rfl) rfl rfl hf (by decide) rfl (fun w hp => ?_) ⟨_, hp⟩ ?_
    · obtain ⟨_, hp⟩ := hp
      refine st_ldOA (m := 2) (us := [.int .i64 q28.2.1, .int .i64 q28.2.2]) hf (by decide) (by kernel_rfl) rfl rfl (rl35.ob hp) rfl rfl ?_
      clear hf; intro a ha hf
      exact st_nil hf (th_n ⟨ha, rfl⟩)
    clear hf; intro a hf
    refine dr_one 0 rfl (by kernel_rfl) ?_
    refine st_ldOA (m := 2) (us := [.int .i64 q28.1.1, .int .i64 q28.1.2]) hf (by decide) (by kernel_rfl) rfl rfl (hp.ob (i := 0) rfl) rfl rfl ?_
    clear hf; intro a ha hf; clear ha
    refine st_nil hf (th_n ⟨fun _ _ => ⟨_, hp⟩, ?_⟩)
    refine dr_one 2 rfl (by kernel_rfl) ?_
    refine st_stO (us := [.int .i64 q28.1.1, .int .i64 q28.1.2]) hf hp (i := 0) rfl rfl rfl rfl rfl (by rfl) (by kernel_rfl) (Nat.le_of_ble_eq_true rfl) ?_
    clear hf; intro a w hf hp0; clear hp; have hp := hp0; clear hp0
    replace hp : Hp _ _ _ (Res.obj 56 v5 [.int .i64 q28.1.1, .int .i64 q28.1.2] :: Res.obj 56 v3 [.int .i64 o1_Re, .int .i64 o1_Im] :: Res.obj 56 v1 [.int .i64 g0_Re, .int .i64 g0_Im] :: ow) := hp
    refine st_nil hf (th_n ⟨fun _ _ => ⟨_, hp⟩, ?_⟩)
    have hp := bk34 _ _ hp
    refine dr_one 3 rfl (by kernel_rfl) ?_
    refine st_stO (us := [.int .i64 q28.2.1, .int .i64 q28.2.2]) hf hp (i := 0) rfl rfl rfl rfl rfl (by rfl) (by kernel_rfl) (Nat.le_of_ble_eq_true rfl) ?_
    clear hf; intro a w hf hp0; clear hp; have hp := hp0; clear hp0
    replace hp : Hp _ _ _ (Res.obj 56 v7 [.int .i64 q28.2.1, .int .i64 q28.2.2] :: Res.obj 56 v5 [.int .i64 q28.1.1, .int .i64 q28.1.2] :: Res.obj 56 v3 [.int .i64 o1_Re, .int .i64 o1_Im] :: Res.obj 56 v1 [.int .i64 g0_Re, .int .i64 g0_Im] :: ow) := hp
    refine st_nil hf (th_n ⟨fun hn => absurd hn (by decide), ?_⟩)
    refine dr_takeP 4 (.int .i64 (0 : Int)) rfl (by kernel_rfl) (by kernel_rfl) (by kernel_rfl) rfl rfl hf (by decide) rfl (fun w => ?_) ?_
    · skip
      refine st_assign hf rfl rfl (by decide) ?_
      clear hf; intro a ha hf
      exact st_nil hf (th_n ⟨ha, rfl⟩)
    clear hf; intro a hf
    refine dr_end (by kernel_rfl) ?_ _
    exact ⟨hf.sub ⟨rfl, rfl, rfl, trivial⟩, hp⟩
  rintro a w ⟨hf, hp⟩
  refine th_n ?_
  refine wp_ret ?_
  obtain rfl := Option.some.inj h
  have hp : Hp _ _ _ (Res.obj 56 v5 [.int .i64 q28.1.1, .int .i64 q28.1.2] :: Res.obj 56 v7 [.int .i64 q28.2.1, .int .i64 q28.2.2] :: ow) := Hp.sel (pre := [Res.obj 56 v7 [.int .i64 q28.2.1, .int .i64 q28.2.2], Res.obj 56 v5 [.int .i64 q28.1.1, .int .i64 q28.1.2], Res.obj 56 v3 [.int .i64 o1_Re, .int .i64 o1_Im], Res.obj 56 v1 [.int .i64 g0_Re, .int .i64 g0_Im]]) (tail := ow) (rs' := [Res.obj 56 v5 [.int .i64 q28.1.1, .int .i64 q28.1.2], Res.obj 56 v7 [.int .i64 q28.2.1, .int .i64 q28.2.2]]) hp [1, 0] (by decide) (by simp) rfl
  exact ⟨rfl, ⟨_, _, hf.sub ⟨rfl, rfl, rfl, trivial⟩, hp⟩⟩

noncomputable def f_foghornref03_nearest.j1 (d1 : Int) (qx5 : Int) (r6 : Int) : Option Int := (if (decide ((IntKind.i64.wrap (d1 - r6)) < r6)) = true then (some (IntKind.i64.wrap (qx5 + (1 : Int)))) else (some qx5))
noncomputable def f_foghornref03_nearest (n0 : Int) (d1 : Int) : Option Int := (if d1 ≠ 0 then (if d1 ≠ 0 then (if (decide (((n0).tmod d1) < (0 : Int))) = true then (f_foghornref03_nearest.j1 d1 (IntKind.i64.wrap ((IntKind.i64.wrap ((n0).tdiv d1)) - (1 : Int))) (IntKind.i64.wrap (((n0).tmod d1) + d1))) else (f_foghornref03_nearest.j1 d1 (IntKind.i64.wrap ((n0).tdiv d1)) ((n0).tmod d1))) else none) else none)
theorem f_foghornref03_nearest_c {S : Nat → Prop} {w0 w : World} {ow : List Res} (hp : Hp S w0 w ow) (n0 : Int) (d1 : Int) {r : Int} (h : f_foghornref03_nearest n0 d1 = some r) :
    Calls Try.prog 76 #[.int .i64 n0, .int .i64 d1] w (fun e w' => e = .returned (.int .i64 r) ∧ Hp S w0 w' (ow)) := by
  unfold f_foghornref03_nearest at h
  refine enter (n := 28) (args := [.int .i64 n0, .int .i64 d1]) Try.func76 rfl rfl (Nat.le_of_ble_eq_true rfl) fun a hf => ?_
  replace hf : Fr 28 a [(0, .int .i64 n0), (1, .int .i64 d1)] := hf
  refine wp_mono (Q := fun e a w => e = .ret ∧ Fr 28 a [(4, .int .i64 r)] ∧ Hp S w0 w (ow)) ?_ ?_
  rotate_left
  · rintro e a w ⟨rfl, hf, hp⟩
    exact ret1 hf rfl rfl ⟨rfl, hp⟩
  refine wp_seq ?_
  refine wp_reg ?_
  refine st_assign hf rfl rfl (by decide) ?_
  clear hf; intro a ha hf; clear ha
  refine st_nil hf ?_
  refine th_n ?_
  refine wp_seq ?_
  refine wp_reg ?_
  refine st_move hf rfl rfl (by decide) ?_
  clear hf; intro a ha hf; clear ha
  refine st_move hf rfl rfl (by decide) ?_
  clear hf; intro a ha hf; clear ha
  obtain ⟨hc1, h⟩ := chk h
  refine st_iquo hf (by decide) rfl rfl rfl hc1 ?_
  clear hf; intro a ha hf; clear ha
  refine st_assign hf rfl rfl (by decide) ?_
  clear hf; intro a ha hf; clear ha
  refine st_nil hf ?_
  refine th_n ?_
  refine wp_seq ?_
  refine wp_reg ?_
  refine st_move hf rfl rfl (by decide) ?_
  clear hf; intro a ha hf; clear ha
  refine st_move hf rfl rfl (by decide) ?_
  clear hf; intro a ha hf; clear ha
  obtain ⟨hc2, h⟩ := chk h
  refine st_irem hf (by decide) rfl rfl rfl hc2 ?_
  clear hf; intro a ha hf; clear ha
  refine st_assign hf rfl rfl (by decide) ?_
  clear hf; intro a ha hf; clear ha
  refine st_nil hf ?_
  refine th_n ?_
  refine wp_seq_cut (fun a w => ∃ (qx5 : Int) (r6 : Int), f_foghornref03_nearest.j1 d1 qx5 r6 = some r ∧ Fr 28 a [(1, .int .i64 d1), (5, .int .i64 qx5), (6, .int .i64 r6)] ∧ Hp S w0 w (ow)) ?_ ?_
  · skip
    refine wp_seq ?_
    refine wp_reg ?_
    refine st_move hf rfl rfl (by decide) ?_
    clear hf; intro a ha hf; clear ha
    refine st_ilss hf (by decide) rfl rfl rfl ?_
    clear hf; intro a ha hf; clear ha
    refine st_nil hf ?_
    refine th_n ?_
    refine wp_if hf rfl (fun hb => ?_) (fun hb => ?_)
    · replace h := ifT h hb
      refine wp_seq ?_
      refine wp_reg ?_
      refine st_move hf rfl rfl (by decide) ?_
      clear hf; intro a ha hf; clear ha
      refine st_move hf rfl rfl (by decide) ?_
      clear hf; intro a ha hf; clear ha
      refine st_iadd hf (by decide) rfl rfl rfl ?_
      clear hf; intro a ha hf; clear ha
      refine st_assign hf rfl rfl (by decide) ?_
      clear hf; intro a ha hf; clear ha
      refine st_nil hf ?_
      refine th_n ?_
      refine wp_reg ?_
      refine st_move hf rfl rfl (by decide) ?_
      clear hf; intro a ha hf; clear ha
      refine st_isub hf (by decide) rfl rfl rfl ?_
      clear hf; intro a ha hf; clear ha
      refine st_assign hf rfl rfl (by decide) ?_
      clear hf; intro a ha hf; clear ha
      refine st_nil hf ?_
      refine th_n ?_
      exact ⟨_, _, h, hf.sub ⟨rfl, rfl, rfl, trivial⟩, hp⟩
    replace h := ifF h hb
    refine wp_skip ?_
    refine th_n ?_
    exact ⟨_, _, h, hf.sub ⟨rfl, rfl, rfl, trivial⟩, hp⟩
  rintro a w ⟨qx5, r6, h, hf, hp⟩
  unfold f_foghornref03_nearest.j1 at h
  refine wp_seq ?_
  refine wp_seq ?_
  refine wp_reg ?_
  refine st_move hf rfl rfl (by decide) ?_
  clear hf; intro a ha hf; clear ha
  refine st_move hf rfl rfl (by decide) ?_
  clear hf; intro a ha hf; clear ha
  refine st_move hf rfl rfl (by decide) ?_
  clear hf; intro a ha hf; clear ha
  refine st_isub hf (by decide) rfl rfl rfl ?_
  clear hf; intro a ha hf; clear ha
  refine st_igtr hf (by decide) rfl rfl rfl ?_
  clear hf; intro a ha hf; clear ha
  refine st_nil hf ?_
  refine th_n ?_
  refine wp_if hf rfl (fun hb => ?_) (fun hb => ?_)
  · replace h := ifT h hb
    refine wp_reg ?_
    refine st_move hf rfl rfl (by decide) ?_
    clear hf; intro a ha hf; clear ha
    refine st_iadd hf (by decide) rfl rfl rfl ?_
    clear hf; intro a ha hf; clear ha
    refine st_assign hf rfl rfl (by decide) ?_
    clear hf; intro a ha hf; clear ha
    refine st_nil hf ?_
    refine th_n ?_
    refine wp_seq ?_
    refine wp_reg ?_
    refine st_move hf rfl rfl (by decide) ?_
    clear hf; intro a ha hf; clear ha
    refine st_assign hf rfl rfl (by decide) ?_
    clear hf; intro a ha hf; clear ha
    refine st_nil hf ?_
    refine th_n ?_
    refine wp_ret ?_
    obtain rfl := Option.some.inj h
    exact ⟨rfl, ⟨hf.sub ⟨rfl, trivial⟩, hp⟩⟩
  replace h := ifF h hb
  refine wp_skip ?_
  refine th_n ?_
  refine wp_seq ?_
  refine wp_reg ?_
  refine st_move hf rfl rfl (by decide) ?_
  clear hf; intro a ha hf; clear ha
  refine st_assign hf rfl rfl (by decide) ?_
  clear hf; intro a ha hf; clear ha
  refine st_nil hf ?_
  refine th_n ?_
  refine wp_ret ?_
  obtain rfl := Option.some.inj h
  exact ⟨rfl, ⟨hf.sub ⟨rfl, trivial⟩, hp⟩⟩

noncomputable def f_foghornref03_by (g0_Re : Int) (g0_Im : Int) (o1_Re : Int) (o1_Im : Int) : Option ((Int × Int) × (Int × Int)) := ((f_foghornref03_norm o1_Re o1_Im).bind fun q9 => ((f_foghornref03_times g0_Re g0_Im o1_Re (IntKind.i64.wrap (0 - o1_Im))).bind fun q11 => ((f_foghornref03_nearest q11.1 q9).bind fun q21 => ((f_foghornref03_nearest q11.2 q9).bind fun q23 => ((f_foghornref03_times q21 q23 o1_Re o1_Im).bind fun q27 => (some ((q21, q23), ((IntKind.i64.wrap (g0_Re - q27.1)), (IntKind.i64.wrap (g0_Im - q27.2))))))))))
theorem f_foghornref03_by_c {S : Nat → Prop} {w0 w : World} {ow : List Res} (hp : Hp S w0 w ow) (g0_Re : Int) (g0_Im : Int) (o1_Re : Int) (o1_Im : Int) {r : ((Int × Int) × (Int × Int))} (h : f_foghornref03_by g0_Re g0_Im o1_Re o1_Im = some r) :
    Calls Try.prog 66 #[.agg #[.int .i64 g0_Re, .int .i64 g0_Im], .agg #[.int .i64 o1_Re, .int .i64 o1_Im]] w (fun e w' => e = .returned (.tuple #[.agg #[.int .i64 r.1.1, .int .i64 r.1.2], .agg #[.int .i64 r.2.1, .int .i64 r.2.2]]) ∧ Hp S w0 w' (ow)) := by
  unfold f_foghornref03_by at h
  refine enter (n := 44) (args := [.agg #[.int .i64 g0_Re, .int .i64 g0_Im], .agg #[.int .i64 o1_Re, .int .i64 o1_Im]]) Try.func66 rfl rfl (Nat.le_of_ble_eq_true rfl) fun a hf => ?_
  replace hf : Fr 44 a [(0, .agg #[.int .i64 g0_Re, .int .i64 g0_Im]), (1, .agg #[.int .i64 o1_Re, .int .i64 o1_Im])] := hf
  refine wp_mono (Q := fun e a w => e = .ret ∧ ∃ (c0 : Value) (c1 : Value), Fr 44 a [(4, optr c0 0), (5, optr c1 0)] ∧ Hp S w0 w (Res.obj 74 c0 [.int .i64 r.1.1, .int .i64 r.1.2] :: Res.obj 74 c1 [.int .i64 r.2.1, .int .i64 r.2.2] :: ow)) ?_ ?_
  rotate_left
  · rintro e a w ⟨rfl, c0, c1, hf, hp⟩
    exact retG2 hf rfl ⟨_, _, rfl, hp.ob (i := 0) rfl, .inr ⟨by kernel_rfl, rfl⟩⟩ ⟨_, _, rfl, hp.ob (i := 1) rfl, .inr ⟨by kernel_rfl, rfl⟩⟩ ⟨rfl, hp.drop.drop⟩
  refine wp_seq ?_
  refine wp_reg ?_
  refine st_boxO (cs := [.int .i64 g0_Re, .int .i64 g0_Im]) hf (by decide) hp rfl rfl rfl ?_
  clear hf; intro a w v1 hf hp0; clear hp; have hp := hp0; clear hp0
  replace hp : Hp _ _ _ (Res.obj 74 v1 [.int .i64 g0_Re, .int .i64 g0_Im] :: ow) := hp
  refine st_boxO (cs := [.int .i64 o1_Re, .int .i64 o1_Im]) hf (by decide) hp rfl rfl rfl ?_
  clear hf; intro a w v3 hf hp0; clear hp; have hp := hp0; clear hp0
  replace hp : Hp _ _ _ (Res.obj 74 v3 [.int .i64 o1_Re, .int .i64 o1_Im] :: Res.obj 74 v1 [.int .i64 g0_Re, .int .i64 g0_Im] :: ow) := hp
  refine st_alloc (cs := [.int .i64 (0 : Int), .int .i64 (0 : Int)]) (zv := .agg #[.int .i64 (0 : Int), .int .i64 (0 : Int)]) hf (by decide) (by kernel_rfl) rfl hp rfl ?_
  clear hf; intro a w v5 hf hp0; clear hp; have hp := hp0; clear hp0
  replace hp : Hp _ _ _ (Res.obj 74 v5 [.int .i64 (0 : Int), .int .i64 (0 : Int)] :: Res.obj 74 v3 [.int .i64 o1_Re, .int .i64 o1_Im] :: Res.obj 74 v1 [.int .i64 g0_Re, .int .i64 g0_Im] :: ow) := hp
  refine st_alloc (cs := [.int .i64 (0 : Int), .int .i64 (0 : Int)]) (zv := .agg #[.int .i64 (0 : Int), .int .i64 (0 : Int)]) hf (by decide) (by kernel_rfl) rfl hp rfl ?_
  clear hf; intro a w v7 hf hp0; clear hp; have hp := hp0; clear hp0
  replace hp : Hp _ _ _ (Res.obj 74 v7 [.int .i64 (0 : Int), .int .i64 (0 : Int)] :: Res.obj 74 v5 [.int .i64 (0 : Int), .int .i64 (0 : Int)] :: Res.obj 74 v3 [.int .i64 o1_Re, .int .i64 o1_Im] :: Res.obj 74 v1 [.int .i64 g0_Re, .int .i64 g0_Im] :: ow) := hp
  refine st_nil hf ?_
  refine th_n ?_
  refine wp_seq ?_
  refine wp_reg ?_
  refine st_ldOA (m := 2) (us := [.int .i64 o1_Re, .int .i64 o1_Im]) hf (by decide) (by kernel_rfl) rfl rfl (hp.ob (i := 2) rfl) rfl rfl ?_
  clear hf; intro a ha hf; clear ha
  obtain ⟨q9, hcall10, h⟩ := bnd h
  refine st_call hf (by decide) Try.func65 rfl rfl rfl rfl rfl (f_foghornref03_norm_c hp _ _ hcall10) ?_
  rintro _ w ⟨rfl, hp0⟩
  clear hp; have hp := hp0; clear hp0
  replace hp : Hp _ _ _ (Res.obj 74 v7 [.int .i64 (0 : Int), .int .i64 (0 : Int)] :: Res.obj 74 v5 [.int .i64 (0 : Int), .int .i64 (0 : Int)] :: Res.obj 74 v3 [.int .i64 o1_Re, .int .i64 o1_Im] :: Res.obj 74 v1 [.int .i64 g0_Re, .int .i64 g0_Im] :: ow) := hp
  refine ⟨_, rfl, ?_⟩
  clear hf; intro a hf
  refine st_assign hf rfl rfl (by decide) ?_
  clear hf; intro a ha hf; clear ha
  refine st_nil hf ?_
  refine th_n ?_
  refine wp_seq ?_
  refine wp_reg ?_
  refine st_ldOA (m := 2) (us := [.int .i64 g0_Re, .int .i64 g0_Im]) hf (by decide) (by kernel_rfl) rfl rfl (hp.ob (i := 3) rfl) rfl rfl ?_
  clear hf; intro a ha hf; clear ha
  refine st_fa (o' := 0) hf (by decide) (off := 0) (sz := 1) (by kernel_rfl) (by decide) rfl rfl (hp.ob (i := 2) rfl) rfl ?_
  clear hf; intro a ha hf; clear ha
  refine st_ldO (u := .int .i64 o1_Re) hf (by decide) pl2 rfl rfl (hp.ob (i := 2) rfl) rfl ?_
  clear hf; intro a ha hf; clear ha
  refine st_fa (o' := 1) hf (by decide) (off := 1) (sz := 1) (by kernel_rfl) (by decide) rfl rfl (hp.ob (i := 2) rfl) rfl ?_
  clear hf; intro a ha hf; clear ha
  refine st_ldO (u := .int .i64 o1_Im) hf (by decide) pl2 rfl rfl (hp.ob (i := 2) rfl) rfl ?_
  clear hf; intro a ha hf; clear ha
  refine st_ineg hf (by decide) rfl rfl ?_
  clear hf; intro a ha hf; clear ha
  refine st_buildA (vals := [(0, .int .i64 o1_Re), (1, .int .i64 (IntKind.i64.wrap (0 - o1_Im)))]) (cells := [.int .i64 o1_Re, .int .i64 (IntKind.i64.wrap (0 - o1_Im))]) hf (by decide) rfl (by simp [hf.ev (x := (Operand.tmp 14)) rfl, hf.ev (x := (Operand.tmp 17)) rfl]) (fun w => by kernel_rfl) ?_
  clear hf; intro a ha hf; clear ha
  obtain ⟨q11, hcall12, h⟩ := bnd h
  refine st_call hf (by decide) Try.func64 rfl rfl rfl rfl rfl (f_foghornref03_times_c hp _ _ _ _ hcall12) ?_
  rintro _ w ⟨rfl, hp0⟩
  clear hp; have hp := hp0; clear hp0
  replace hp : Hp _ _ _ (Res.obj 74 v7 [.int .i64 (0 : Int), .int .i64 (0 : Int)] :: Res.obj 74 v5 [.int .i64 (0 : Int), .int .i64 (0 : Int)] :: Res.obj 74 v3 [.int .i64 o1_Re, .int .i64 o1_Im] :: Res.obj 74 v1 [.int .i64 g0_Re, .int .i64 g0_Im] :: ow) := hp
  refine ⟨_, rfl, ?_⟩
  clear hf; intro a hf
  refine st_alloc (cs := [.int .i64 (0 : Int), .int .i64 (0 : Int)]) (zv := .agg #[.int .i64 (0 : Int), .int .i64 (0 : Int)]) hf (by decide) (by kernel_rfl) rfl hp rfl ?_
  clear hf; intro a w v13 hf hp0; clear hp; have hp := hp0; clear hp0
  replace hp : Hp _ _ _ (Res.obj 74 v13 [.int .i64 (0 : Int), .int .i64 (0 : Int)] :: Res.obj 74 v7 [.int .i64 (0 : Int), .int .i64 (0 : Int)] :: Res.obj 74 v5 [.int .i64 (0 : Int), .int .i64 (0 : Int)] :: Res.obj 74 v3 [.int .i64 o1_Re, .int .i64 o1_Im] :: Res.obj 74 v1 [.int .i64 g0_Re, .int .i64 g0_Im] :: ow) := hp
  refine st_stO (us := [.int .i64 q11.1, .int .i64 q11.2]) hf hp (i := 0) rfl rfl rfl rfl rfl (by rfl) (by kernel_rfl) (Nat.le_of_ble_eq_true rfl) ?_
  clear hf; intro a w hf hp0; clear hp; have hp := hp0; clear hp0
  replace hp : Hp _ _ _ (Res.obj 74 v13 [.int .i64 q11.1, .int .i64 q11.2] :: Res.obj 74 v7 [.int .i64 (0 : Int), .int .i64 (0 : Int)] :: Res.obj 74 v5 [.int .i64 (0 : Int), .int .i64 (0 : Int)] :: Res.obj 74 v3 [.int .i64 o1_Re, .int .i64 o1_Im] :: Res.obj 74 v1 [.int .i64 g0_Re, .int .i64 g0_Im] :: ow) := hp
  refine st_nil hf ?_
  refine th_n ?_
  refine wp_seq ?_
  obtain ⟨S15, hp16, rd17, up18, bk19⟩ := Hp.lendO hp (i := 0) rfl
  have rl20 := rd17
  obtain ⟨q21, hcall22, h⟩ := bnd h
  obtain ⟨q23, hcall24, h⟩ := bnd h
  refine wp_cutN (fun a w => ∃ (v25 : Value), Fr 44 a [(2, optr v1 0), (3, optr v3 0), (4, optr v5 0), (5, optr v7 0), (8, optr v25 0)] ∧ Hp S w0 w (Res.obj 74 v13 [.int .i64 q11.1, .int .i64 q11.2] :: Res.obj 74 v25 [.int .i64 q21, .int .i64 q23] :: Res.obj 74 v7 [.int .i64 (0 : Int), .int .i64 (0 : Int)] :: Res.obj 74 v5 [.int .i64 (0 : Int), .int .i64 (0 : Int)] :: Res.obj 74 v3 [.int .i64 o1_Re, .int .i64 o1_Im] :: Res.obj 74 v1 [.int .i64 g0_Re, .int .i64 g0_Im] :: ow)) ?_ ?_
  · have hp := hp16.same (Same.drew w)
    refine dr_begin' (fun a w => ∃ (v25 : Value), Fr 44 a [(2, optr v1 0), (3, optr v3 0), (4, optr v5 0), (5, optr v7 0), (8, optr v25 0)] ∧ Hp S w0 w (Res.obj 74 v13 [.int .i64 q11.1, .int .i64 q11.2] :: Res.obj 74 v25 [.int .i64 q21, .int .i64 q23] :: Res.obj 74 v7 [.int .i64 (0 : Int), .int .i64 (0 : Int)] :: Res.obj 74 v5 [.int .i64 (0 : Int), .int .i64 (0 : Int)] :: Res.obj 74 v3 [.int .i64 o1_Re, .int .i64 o1_Im] :: Res.obj 74 v1 [.int .i64 g0_Re, .int .i64 g0_Im] :: ow)) (fun w' => ∃ l, Hp S15 w w' l) [] (by kernel_rfl) ?_
    refine dr_take 0 (optr v13 0) rfl (by kernel_rfl) (by kernel_rfl) (by kernel_rfl) (by kernel_rfl) rfl rfl hf (by decide) rfl (fun w hp => ?_) ⟨_, hp⟩ ?_
    · obtain ⟨_, hp⟩ := hp
      refine st_fa (o' := 0) hf (by decide) (off := 0) (sz := 1) (by kernel_rfl) (by decide) rfl rfl (rl20.ob hp) rfl ?_
      clear hf; intro a ha hf
      exact st_nil hf (th_n ⟨ha, rfl⟩)
    clear hf; intro a hf
    refine dr_take 1 (.int .i64 q11.1) rfl (by kernel_rfl) (by kernel_rfl) (by kernel_rfl) (by kernel_rfl) rfl rfl hf (by decide) rfl (fun w hp => ?_) ⟨_, hp⟩ ?_
    · obtain ⟨_, hp⟩ := hp
      refine st_ldO (u := .int .i64 q11.1) hf (by decide) pl2 rfl rfl (rl20.ob hp) rfl ?_
      clear hf; intro a ha hf
      exact st_nil hf (th_n ⟨ha, rfl⟩)
    clear hf; intro a hf
    refine dr_take 2 (.int .i64 q9) rfl (by kernel_rfl) (by kernel_rfl) (by kernel_rfl) (by kernel_rfl) rfl rfl hf (by decide) rfl (fun w hp => ?_) ⟨_, hp⟩ ?_
    · obtain ⟨_, hp⟩ := hp
      refine st_move hf rfl rfl (by decide) ?_
      clear hf; intro a ha hf
      exact st_nil hf (th_n ⟨ha, rfl⟩)
    clear hf; intro a hf
    refine dr_take 4 (optr v13 1) rfl (by kernel_rfl) (by kernel_rfl) (by kernel_rfl) (by kernel_rfl) rfl rfl hf (by decide) rfl (fun w hp => ?_) ⟨_, hp⟩ ?_
    · obtain ⟨_, hp⟩ := hp
      refine st_fa (o' := 1) hf (by decide) (off := 1) (sz := 1) (by kernel_rfl) (by decide) rfl rfl (rl20.ob hp) rfl ?_
      clear hf; intro a ha hf
      exact st_nil hf (th_n ⟨ha, rfl⟩)
    clear hf; intro a hf
    refine dr_take 5 (.int .i64 q11.2) rfl (by kernel_rfl) (by kernel_rfl) (by kernel_rfl) (by kernel_rfl) rfl rfl hf (by decide) rfl (fun w hp => ?_) ⟨_, hp⟩ ?_
    · obtain ⟨_, hp⟩ := hp
      refine st_ldO (u := .int .i64 q11.2) hf (by decide) pl2 rfl rfl (rl20.ob hp) rfl ?_
      clear hf; intro a ha hf
      exact st_nil hf (th_n ⟨ha, rfl⟩)
    clear hf; intro a hf
    refine dr_take 6 (.int .i64 q9) rfl (by kernel_rfl) (by kernel_rfl) (by kernel_rfl) (by kernel_rfl) rfl rfl hf (by decide) rfl (fun w hp => ?_) ⟨_, hp⟩ ?_
    · obtain ⟨_, hp⟩ := hp
      refine st_move hf rfl rfl (by decide) ?_
      clear hf; intro a ha hf
      exact st_nil hf (th_n ⟨ha, rfl⟩)
    clear hf; intro a hf
    refine dr_two 3 9 rfl rfl (by kernel_rfl) ?_ ?_
    · skip
      refine st_call hf (by decide) Try.func76 rfl rfl rfl rfl rfl (f_foghornref03_nearest_c hp _ _ hcall22) ?_
      rintro _ w ⟨rfl, hp0⟩
      clear hp; have hp := hp0; clear hp0
      replace hp : Hp _ _ _ (Res.obj 74 v7 [.int .i64 (0 : Int), .int .i64 (0 : Int)] :: Res.obj 74 v5 [.int .i64 (0 : Int), .int .i64 (0 : Int)] :: Res.obj 74 v3 [.int .i64 o1_Re, .int .i64 o1_Im] :: Res.obj 74 v1 [.int .i64 g0_Re, .int .i64 g0_Im] :: ow) := hp
      refine ⟨_, rfl, ?_⟩
      clear hf; intro a hf
      refine st_nil hf (th_n ⟨fun _ _ => ⟨_, hp⟩, ?_⟩)
      refine dr_two 7 9 rfl rfl (by kernel_rfl) ?_ ?_
      · skip
        refine st_call hf (by decide) Try.func76 rfl rfl rfl rfl rfl (f_foghornref03_nearest_c hp _ _ hcall24) ?_
        rintro _ w ⟨rfl, hp0⟩
        clear hp; have hp := hp0; clear hp0
        replace hp : Hp _ _ _ (Res.obj 74 v7 [.int .i64 (0 : Int), .int .i64 (0 : Int)] :: Res.obj 74 v5 [.int .i64 (0 : Int), .int .i64 (0 : Int)] :: Res.obj 74 v3 [.int .i64 o1_Re, .int .i64 o1_Im] :: Res.obj 74 v1 [.int .i64 g0_Re, .int .i64 g0_Im] :: ow) := hp
        refine ⟨_, rfl, ?_⟩
        clear hf; intro a hf
        refine st_nil hf (th_n ⟨fun _ _ => ⟨_, hp⟩, ?_⟩)
        refine dr_take 8 (.agg #[.int .i64 q21, .int .i64 q23]) rfl (by kernel_rfl) (by kernel_rfl) (by kernel_rfl) (by kernel_rfl) rfl rfl hf (by decide) rfl (fun w hp => ?_) ⟨_, hp⟩ ?_
        · obtain ⟨_, hp⟩ := hp
          refine st_buildA (vals := [(0, .int .i64 q21), (1, .int .i64 q23)]) (cells := [.int .i64 q21, .int .i64 q23]) hf (by decide) rfl (by simp [hf.ev (x := (Operand.tmp 23)) rfl, hf.ev (x := (Operand.tmp 27)) rfl]) (fun w => by kernel_rfl) ?_
          clear hf; intro a ha hf
          exact st_nil hf (th_n ⟨ha, rfl⟩)
        clear hf; intro a hf
        refine dr_one 9 rfl (by kernel_rfl) ?_
        refine st_alloc (cs := [.int .i64 (0 : Int), .int .i64 (0 : Int)]) (zv := .agg #[.int .i64 (0 : Int), .int .i64 (0 : Int)]) hf (by decide) (by kernel_rfl) rfl hp rfl ?_
        clear hf; intro a w v25 hf hp0; clear hp; have hp := hp0; clear hp0
        replace hp : Hp _ _ _ (Res.obj 74 v25 [.int .i64 (0 : Int), .int .i64 (0 : Int)] :: Res.obj 74 v7 [.int .i64 (0 : Int), .int .i64 (0 : Int)] :: Res.obj 74 v5 [.int .i64 (0 : Int), .int .i64 (0 : Int)] :: Res.obj 74 v3 [.int .i64 o1_Re, .int .i64 o1_Im] :: Res.obj 74 v1 [.int .i64 g0_Re, .int .i64 g0_Im] :: ow) := hp
        refine st_nil hf (th_n ⟨fun _ _ => ⟨_, hp⟩, ?_⟩)
        refine dr_one 10 rfl (by kernel_rfl) ?_
        refine st_stO (us := [.int .i64 q21, .int .i64 q23]) hf hp (i := 0) rfl rfl rfl rfl rfl (by rfl) (by kernel_rfl) (Nat.le_of_ble_eq_true rfl) ?_
        clear hf; intro a w hf hp0; clear hp; have hp := hp0; clear hp0
        replace hp : Hp _ _ _ (Res.obj 74 v25 [.int .i64 q21, .int .i64 q23] :: Res.obj 74 v7 [.int .i64 (0 : Int), .int .i64 (0 : Int)] :: Res.obj 74 v5 [.int .i64 (0 : Int), .int .i64 (0 : Int)] :: Res.obj 74 v3 [.int .i64 o1_Re, .int .i64 o1_Im] :: Res.obj 74 v1 [.int .i64 g0_Re, .int .i64 g0_Im] :: ow) := hp
        refine st_nil hf (th_n ⟨fun _ _ => ⟨_, hp⟩, ?_⟩)
        refine dr_end (by kernel_rfl) ?_ _
        have hp := bk19 _ _ hp
        exact ⟨v25, hf.sub ⟨rfl, rfl, rfl, rfl, rfl, trivial⟩, hp⟩
      · skip
        refine st_alloc (cs := [.int .i64 (0 : Int), .int .i64 (0 : Int)]) (zv := .agg #[.int .i64 (0 : Int), .int .i64 (0 : Int)]) hf (by decide) (by kernel_rfl) rfl hp rfl ?_
        clear hf; intro a w v25 hf hp0; clear hp; have hp := hp0; clear hp0
        replace hp : Hp _ _ _ (Res.obj 74 v25 [.int .i64 (0 : Int), .int .i64 (0 : Int)] :: Res.obj 74 v7 [.int .i64 (0 : Int), .int .i64 (0 : Int)] :: Res.obj 74 v5 [.int .i64 (0 : Int), .int .i64 (0 : Int)] :: Res.obj 74 v3 [.int .i64 o1_Re, .int .i64 o1_Im] :: Res.obj 74 v1 [.int .i64 g0_Re, .int .i64 g0_Im] :: ow) := hp
        refine st_nil hf (th_n ⟨fun _ _ => ⟨_, hp⟩, ?_⟩)
        refine dr_one 7 rfl (by kernel_rfl) ?_
        refine st_call hf (by decide) Try.func76 rfl rfl rfl rfl rfl (f_foghornref03_nearest_c hp _ _ hcall24) ?_
        rintro _ w ⟨rfl, hp0⟩
        clear hp; have hp := hp0; clear hp0
        replace hp : Hp _ _ _ (Res.obj 74 v25 [.int .i64 (0 : Int), .int .i64 (0 : Int)] :: Res.obj 74 v7 [.int .i64 (0 : Int), .int .i64 (0 : Int)] :: Res.obj 74 v5 [.int .i64 (0 : Int), .int .i64 (0 : Int)] :: Res.obj 74 v3 [.int .i64 o1_Re, .int .i64 o1_Im] :: Res.obj 74 v1 [.int .i64 g0_Re, .int .i64 g0_Im] :: ow) := hp
        refine ⟨_, rfl, ?_⟩
        clear hf; intro a hf
        refine st_nil hf (th_n ⟨fun _ _ => ⟨_, hp⟩, ?_⟩)
        refine dr_take 8 (.agg #[.int .i64 q21, .int .i64 q23]) rfl (by kernel_rfl) (by kernel_rfl) (by kernel_rfl) (by kernel_rfl) rfl rfl hf (by decide) rfl (fun w hp => ?_) ⟨_, hp⟩ ?_
        · obtain ⟨_, hp⟩ := hp
          refine st_buildA (vals := [(0, .int .i64 q21), (1, .int .i64 q23)]) (cells := [.int .i64 q21, .int .i64 q23]) hf (by decide) rfl (by simp [hf.ev (x := (Operand.tmp 23)) rfl, hf.ev (x := (Operand.tmp 27)) rfl]) (fun w => by kernel_rfl) ?_
          clear hf; intro a ha hf
          exact st_nil hf (th_n ⟨ha, rfl⟩)
        clear hf; intro a hf
        refine dr_one 10 rfl (by kernel_rfl) ?_
        refine st_stO (us := [.int .i64 q21, .int .i64 q23]) hf hp (i := 0) rfl rfl rfl rfl rfl (by rfl) (by kernel_rfl) (Nat.le_of_ble_eq_true rfl) ?_
        clear hf; intro a w hf hp0; clear hp; have hp := hp0; clear hp0
        replace hp : Hp _ _ _ (Res.obj 74 v25 [.int .i64 q21, .int .i64 q23] :: Res.obj 74 v7 [.int .i64 (0 : Int), .int .i64 (0 : Int)] :: Res.obj 74 v5 [.int .i64 (0 : Int), .int .i64 (0 : Int)] :: Res.obj 74 v3 [.int .i64 o1_Re, .int .i64 o1_Im] :: Res.obj 74 v1 [.int .i64 g0_Re, .int .i64 g0_Im] :: ow) := hp
        refine st_nil hf (th_n ⟨fun _ _ => ⟨_, hp⟩, ?_⟩)
        refine dr_end (by kernel_rfl) ?_ _
        have hp := bk19 _ _ hp
        exact ⟨v25, hf.sub ⟨rfl, rfl, rfl, rfl, rfl, trivial⟩, hp⟩
    · skip
      refine st_alloc (cs := [.int .i64 (0 : Int), .int .i64 (0 : Int)]) (zv := .agg #[.int .i64 (0 : Int), .int .i64 (0 : Int)]) hf (by decide) (by kernel_rfl) rfl hp rfl ?_
      clear hf; intro a w v25 hf hp0; clear hp; have hp := hp0; clear hp0
      replace hp : Hp _ _ _ (Res.obj 74 v25 [.int .i64 (0 : Int), .int .i64 (0 : Int)] :: Res.obj 74 v7 [.int .i64 (0 : Int), .int .i64 (0 : Int)] :: Res.obj 74 v5 [.int .i64 (0 : Int), .int .i64 (0 : Int)] :: Res.obj 74 v3 [.int .i64 o1_Re, .int .i64 o1_Im] :: Res.obj 74 v1 [.int .i64 g0_Re, .int .i64 g0_Im] :: ow) := hp
      refine st_nil hf (th_n ⟨fun _ _ => ⟨_, hp⟩, ?_⟩)
      refine dr_one 3 rfl (by kernel_rfl) ?_
      refine st_call hf (by decide) Try.func76 rfl rfl rfl rfl rfl (f_foghornref03_nearest_c hp _ _ hcall22) ?_
      rintro _ w ⟨rfl, hp0⟩
      clear hp; have hp := hp0; clear hp0
      replace hp : Hp _ _ _ (Res.obj 74 v25 [.int .i64 (0 : Int), .int .i64 (0 : Int)] :: Res.obj 74 v7 [.int .i64 (0 : Int), .int .i64 (0 : Int)] :: Res.obj 74 v5 [.int .i64 (0 : Int), .int .i64 (0 : Int)] :: Res.obj 74 v3 [.int .i64 o1_Re, .int .i64 o1_Im] :: Res.obj 74 v1 [.int .i64 g0_Re, .int .i64 g0_Im] :: ow) := hp
      refine ⟨_, rfl, ?_⟩
      clear hf; intro a hf
      refine st_nil hf (th_n ⟨fun _ _ => ⟨_, hp⟩, ?_⟩)
      refine dr_one 7 rfl (by kernel_rfl) ?_
      refine st_call hf (by decide) Try.func76 rfl rfl rfl rfl rfl (f_foghornref03_nearest_c hp _ _ hcall24) ?_
      rintro _ w ⟨rfl, hp0⟩
      clear hp; have hp := hp0; clear hp0
      replace hp : Hp _ _ _ (Res.obj 74 v25 [.int .i64 (0 : Int), .int .i64 (0 : Int)] :: Res.obj 74 v7 [.int .i64 (0 : Int), .int .i64 (0 : Int)] :: Res.obj 74 v5 [.int .i64 (0 : Int), .int .i64 (0 : Int)] :: Res.obj 74 v3 [.int .i64 o1_Re, .int .i64 o1_Im] :: Res.obj 74 v1 [.int .i64 g0_Re, .int .i64 g0_Im] :: ow) := hp
      refine ⟨_, rfl, ?_⟩
      clear hf; intro a hf
      refine st_nil hf (th_n ⟨fun _ _ => ⟨_, hp⟩, ?_⟩)
      refine dr_take 8 (.agg #[.int .i64 q21, .int .i64 q23]) rfl (by kernel_rfl) (by kernel_rfl) (by kernel_rfl) (by kernel_rfl) rfl rfl hf (by decide) rfl (fun w hp => ?_) ⟨_, hp⟩ ?_
      · obtain ⟨_, hp⟩ := hp
        refine st_buildA (vals := [(0, .int .i64 q21), (1, .int .i64 q23)]) (cells := [.int .i64 q21, .int .i64 q23]) hf (by decide) rfl (by simp [hf.ev (x := (Operand.tmp 23)) rfl, hf.ev (x := (Operand.tmp 27)) rfl]) (fun w => by kernel_rfl) ?_
        clear hf; intro a ha hf
        exact st_nil hf (th_n ⟨ha, rfl⟩)
      clear hf; intro a hf
      refine dr_one 10 rfl (by kernel_rfl) ?_
      refine st_stO (us := [.int .i64 q21, .int .i64 q23]) hf hp (i := 0) rfl rfl rfl rfl rfl (by rfl) (by kernel_rfl) (Nat.le_of_ble_eq_true rfl) ?_
      clear hf; intro a w hf hp0; clear hp; have hp := hp0; clear hp0
      replace hp : Hp _ _ _ (Res.obj 74 v25 [.int .i64 q21, .int .i64 q23] :: Res.obj 74 v7 [.int .i64 (0 : Int), .int .i64 (0 : Int)] :: Res.obj 74 v5 [.int .i64 (0 : Int), .int .i64 (0 : Int)] :: Res.obj 74 v3 [.int .i64 o1_Re, .int .i64 o1_Im] :: Res.obj 74 v1 [.int .i64 g0_Re, .int .i64 g0_Im] :: ow) := hp
      refine st_nil hf (th_n ⟨fun _ _ => ⟨_, hp⟩, ?_⟩)
      refine dr_end (by kernel_rfl) ?_ _
      have hp := bk19 _ _ hp
      exact ⟨v25, hf.sub ⟨rfl, rfl, rfl, rfl, rfl, trivial⟩, hp⟩
  rintro a w ⟨v25, hf, hp⟩
  refine th_n ?_
  refine wp_seq ?_
  refine wp_reg ?_
  refine st_ldOA (m := 2) (us := [.int .i64 q21, .int .i64 q23]) hf (by decide) (by kernel_rfl) rfl rfl (hp.ob (i := 1) rfl) rfl rfl ?_
  clear hf; intro a ha hf; clear ha
  refine st_ldOA (m := 2) (us := [.int .i64 o1_Re, .int .i64 o1_Im]) hf (by decide) (by kernel_rfl) rfl rfl (hp.ob (i := 4) rfl) rfl rfl ?_
  clear hf; intro a ha hf; clear ha
  obtain ⟨q27, hcall28, h⟩ := bnd h
  refine st_call hf (by decide) Try.func64 rfl rfl rfl rfl rfl (f_foghornref03_times_c hp _ _ _ _ hcall28) ?_
  rintro _ w ⟨rfl, hp0⟩
  clear hp; have hp := hp0; clear hp0
  replace hp : Hp _ _ _ (Res.obj 74 v13 [.int .i64 q11.1, .int .i64 q11.2] :: Res.obj 74 v25 [.int .i64 q21, .int .i64 q23] :: Res.obj 74 v7 [.int .i64 (0 : Int), .int .i64 (0 : Int)] :: Res.obj 74 v5 [.int .i64 (0 : Int), .int .i64 (0 : Int)] :: Res.obj 74 v3 [.int .i64 o1_Re, .int .i64 o1_Im] :: Res.obj 74 v1 [.int .i64 g0_Re, .int .i64 g0_Im] :: ow) := hp
  refine ⟨_, rfl, ?_⟩
  clear hf; intro a hf
  refine st_alloc (cs := [.int .i64 (0 : Int), .int .i64 (0 : Int)]) (zv := .agg #[.int .i64 (0 : Int), .int .i64 (0 : Int)]) hf (by decide) (by kernel_rfl) rfl hp rfl ?_
  clear hf; intro a w v29 hf hp0; clear hp; have hp := hp0; clear hp0
  replace hp : Hp _ _ _ (Res.obj 74 v29 [.int .i64 (0 : Int), .int .i64 (0 : Int)] :: Res.obj 74 v13 [.int .i64 q11.1, .int .i64 q11.2] :: Res.obj 74 v25 [.int .i64 q21, .int .i64 q23] :: Res.obj 74 v7 [.int .i64 (0 : Int), .int .i64 (0 : Int)] :: Res.obj 74 v5 [.int .i64 (0 : Int), .int .i64 (0 : Int)] :: Res.obj 74 v3 [.int .i64 o1_Re, .int .i64 o1_Im] :: Res.obj 74 v1 [.int .i64 g0_Re, .int .i64 g0_Im] :: ow) := hp
  refine st_stO (us := [.int .i64 q27.1, .int .i64 q27.2]) hf hp (i := 0) rfl rfl rfl rfl rfl (by rfl) (by kernel_rfl) (Nat.le_of_ble_eq_true rfl) ?_
  clear hf; intro a w hf hp0; clear hp; have hp := hp0; clear hp0
  replace hp : Hp _ _ _ (Res.obj 74 v29 [.int .i64 q27.1, .int .i64 q27.2] :: Res.obj 74 v13 [.int .i64 q11.1, .int .i64 q11.2] :: Res.obj 74 v25 [.int .i64 q21, .int .i64 q23] :: Res.obj 74 v7 [.int .i64 (0 : Int), .int .i64 (0 : Int)] :: Res.obj 74 v5 [.int .i64 (0 : Int), .int .i64 (0 : Int)] :: Res.obj 74 v3 [.int .i64 o1_Re, .int .i64 o1_Im] :: Res.obj 74 v1 [.int .i64 g0_Re, .int .i64 g0_Im] :: ow) := hp
  refine st_nil hf ?_
  refine th_n ?_
  refine wp_seq ?_
  obtain ⟨S31, hp32, rd33, up34, bk35⟩ := Hp.lendO hp (i := 2) rfl
  obtain ⟨S36, hp37, rd38, up39, bk40⟩ := Hp.lendO hp32 (i := 5) rfl
  obtain ⟨S41, hp42, rd43, up44, bk45⟩ := Hp.lendO hp37 (i := 0) rfl
  have rl46 := ((rd38.now hp37).mono up44)
  have rl47 := ((((rd33.now hp32).mono up39).now hp37).mono up44)
  have rl48 := rd43
  refine wp_cutN (fun a w => Fr 44 a [(4, optr v5 0), (5, optr v7 0)] ∧ Hp S w0 w (Res.obj 74 v25 [.int .i64 q21, .int .i64 q23] :: Res.obj 74 v1 [.int .i64 g0_Re, .int .i64 g0_Im] :: Res.obj 74 v29 [.int .i64 q27.1, .int .i64 q27.2] :: Res.obj 74 v13 [.int .i64 q11.1, .int .i64 q11.2] :: Res.obj 74 v7 [.int .i64 (IntKind.i64.wrap (g0_Re - q27.1)), .int .i64 (IntKind.i64.wrap (g0_Im - q27.2))] :: Res.obj 74 v5 [.int .i64 q21, .int .i64 q23] :: Res.obj 74 v3 [.int .i64 o1_Re, .int .i64 o1_Im] :: ow)) ?_ ?_
  · have hp := hp42.same (Same.drew w)
    refine dr_begin' (fun a w => Fr 44 a [(4, optr v5 0), (5, optr v7 0)] ∧ Hp S w0 w (Res.obj 74 v25 [.int .i64 q21, .int .i64 q23] :: Res.obj 74 v1 [.int .i64 g0_Re, .int .i64 g0_Im] :: Res.obj 74 v29 [.int .i64 q27.1, .int .i64 q27.2] :: Res.obj 74 v13 [.int .i64 q11.1, .int .i64 q11.2] :: Res.obj 74 v7 [.int .i64 (IntKind.i64.wrap (g0_Re - q27.1)), .int .i64 (IntKind.i64.wrap (g0_Im - q27.2))] :: Res.obj 74 v5 [.int .i64 q21, .int .i64 q23] :: Res.obj 74 v3 [.int .i64 o1_Re, .int .i64 o1_Im] :: ow)) (fun w' => ∃ l, Hp S41 w w' l) [] (by kernel_rfl) ?_
    refine dr_take 0 (.agg #[.int .i64 q21, .int .i64 q23]) rfl (by kernel_rfl) (by kernel_rfl) (by kernel_rfl) (by kernel_rfl) rfl rfl hf (by decide) rfl (fun w hp => ?_) ⟨_, hp⟩ ?_
    · obtain ⟨_, hp⟩ := hp
      refine st_ldOA (m := 2) (us := [.int .i64 q21, .int .i64 q23]) hf (by decide) (by kernel_rfl) rfl rfl (rl47.ob hp) rfl rfl ?_
      clear hf; intro a ha hf
      exact st_nil hf (th_n ⟨ha, rfl⟩)
    clear hf; intro a hf
    refine dr_take 1 (optr v1 0) rfl (by kernel_rfl) (by kernel_rfl) (by kernel_rfl) (by kernel_rfl) rfl rfl hf (by decide) rfl (fun w hp => ?_) ⟨_, hp⟩ ?_
    · obtain ⟨_, hp⟩ := hp
      refine st_fa (o' := 0) hf (by decide) (off := 0) (sz := 1) (by kernel_rfl) (by decide) rfl rfl (rl46.ob hp) rfl ?_
      clear hf; intro a ha hf
      exact st_nil hf (th_n ⟨ha, rfl⟩)
    clear hf; intro a hf
    refine dr_take 2 (.int .i64 g0_Re) rfl (by kernel_rfl) (by kernel_rfl) (by kernel_rfl) (by kernel_rfl) rfl rfl hf (by decide) rfl (fun w hp => ?_) ⟨_, hp⟩ ?_
    · obtain ⟨_, hp⟩ := hp
      refine st_ldO (u := .int .i64 g0_Re) hf (by decide) pl2 rfl rfl (rl46.ob hp) rfl ?_
      clear hf; intro a ha hf
      exact st_nil hf (th_n ⟨ha, rfl⟩)
    clear hf; intro a hf
    refine dr_take 3 (optr v29 0) rfl (by kernel_rfl) (by kernel_rfl) (by kernel_rfl) (by kernel_rfl) rfl rfl hf (by decide) rfl (fun w hp => ?_) ⟨_, hp⟩ ?_
    · obtain ⟨_, hp⟩ := hp
      refine st_fa (o' := 0) hf (by decide) (off := 0) (sz := 1) (by kernel_rfl) (by decide) rfl rfl (rl48.ob hp) rfl ?_
      clear hf; intro a ha hf
      exact st_nil hf (th_n ⟨ha, rfl⟩)
    clear hf; intro a hf
    refine dr_take 4 (.int .i64 q27.1) rfl (by kernel_rfl) (by kernel_rfl) (by kernel_rfl) (by kernel_rfl) rfl rfl hf (by decide) rfl (fun w hp => ?_) ⟨_, hp⟩ ?_
    · obtain ⟨_, hp⟩ := hp
      refine st_ldO (u := .int .i64 q27.1) hf (by decide) pl2 rfl rfl (rl48.ob hp) rfl ?_
      clear hf; intro a ha hf
      exact st_nil hf (th_n ⟨ha, rfl⟩)
    clear hf; intro a hf
    refine dr_take 5 (.int .i64 (IntKind.i64.wrap (g0_Re - q27.1))) rfl (by kernel_rfl) (by kernel_rfl) (by kernel_rfl) (by kernel_rfl) rfl rfl hf (by decide) rfl (fun w hp => ?_) ⟨_, hp⟩ ?_
    · obtain ⟨_, hp⟩ := hp
      refine st_isub hf (by decide) rfl rfl rfl ?_
      clear hf; intro a ha hf
      exact st_nil hf (th_n ⟨ha, rfl⟩)
    clear hf; intro a hf
    refine dr_take 6 (optr v1 1) rfl (by kernel_rfl) (by kernel_rfl) (by kernel_rfl) (by kernel_rfl) rfl rfl hf (by decide) rfl (fun w hp => ?_) ⟨_, hp⟩ ?_
    · obtain ⟨_, hp⟩ := hp
      refine st_fa (o' := 1) hf (by decide) (off := 1) (sz := 1) (by kernel_rfl) (by decide) rfl rfl (rl46.ob hp) rfl ?_
      clear hf; intro a ha hf
      exact st_nil hf (th_n ⟨ha, rfl⟩)
    clear hf; intro a hf
    refine dr_take 7 (.int .i64 g0_Im) rfl (by kernel_rfl) (by kernel_rfl) (by kernel_rfl) (by kernel_rfl) rfl rfl hf (by decide) rfl (fun w hp => ?_) ⟨_, hp⟩ ?_
    · obtain ⟨_, hp⟩ := hp
      refine st_ldO (u := .int .i64 g0_Im) hf (by decide) pl2 rfl rfl (rl46.ob hp) rfl ?_
      clear hf; intro a ha hf
      exact st_nil hf (th_n ⟨ha, rfl⟩)
    clear hf; intro a hf
    refine dr_take 8 (optr v29 1) rfl (by kernel_rfl) (by kernel_rfl) (by kernel_rfl) (by kernel_rfl) rfl rfl hf (by decide) rfl (fun w hp => ?_) ⟨_, hp⟩ ?_
    · obtain ⟨_, hp⟩ := hp
      refine st_fa (o' := 1) hf (by decide) (off := 1) (sz := 1) (by kernel_rfl) (by decide) rfl rfl (rl48.ob hp) rfl ?_
      clear hf; intro a ha hf
      exact st_nil hf (th_n ⟨ha, rfl⟩)
    clear hf; intro a hf
    refine dr_take 9 (.int .i64 q27.2) rfl (by kernel_rfl) (by kernel_rfl) (by kernel_rfl) (by kernel_rfl) rfl rfl hf (by decide) rfl (fun w hp => ?_) ⟨_, hp⟩ ?_
    · obtain ⟨_, hp⟩ := hp
      refine st_ldO (u := .int .i64 q27.2) hf (by decide) pl2 rfl rfl (rl48.ob hp) rfl ?_
      clear hf; intro a ha hf
      exact st_nil hf (th_n ⟨ha, rfl⟩)
    clear hf; intro a hf
    refine dr_take 10 (.int .i64 (IntKind.i64.wrap (g0_Im - q27.2))) rfl (by kernel_rfl) (by kernel_rfl) (by kernel_rfl) (by kernel_rfl) rfl rfl hf (by decide) rfl (fun w hp => ?_) ⟨_, hp⟩ ?_
    · obtain ⟨_, hp⟩ := hp
      refine st_isub hf (by decide) rfl rfl rfl ?_
      clear hf; intro a ha hf
      exact st_nil hf (th_n ⟨ha, rfl⟩)
    clear hf; intro a hf
    refine dr_take 11 (.agg #[.int .i64 (IntKind.i64.wrap (g0_Re - q27.1)), .int .i64 (IntKind.i64.wrap (g0_Im - q27.2))]) rfl (by kernel_rfl) (by kernel_rfl) (by kernel_rfl) (by kernel_rfl) rfl rfl hf (by decide) rfl (fun w hp => ?_) ⟨_, hp⟩ ?_
    · obtain ⟨_, hp⟩ := hp
      refine st_buildA (vals := [(0, .int .i64 (IntKind.i64.wrap (g0_Re - q27.1))), (1, .int .i64 (IntKind.i64.wrap (g0_Im - q27.2)))]) (cells := [.int .i64 (IntKind.i64.wrap (g0_Re - q27.1)), .int .i64 (IntKind.i64.wrap (g0_Im - q27.2))]) hf (by decide) rfl (by simp [hf.ev (x := (Operand.tmp 37)) rfl, hf.ev (x := (Operand.tmp 42)) rfl]) (fun w => by kernel_rfl) ?_
      clear hf; intro a ha hf
      exact st_nil hf (th_n ⟨ha, rfl⟩)
    clear hf; intro a hf
    refine dr_one 12 rfl (by kernel_rfl) ?_
    refine st_stO (us := [.int .i64 q21, .int .i64 q23]) hf hp (i := 2) rfl rfl rfl rfl rfl (by rfl) (by kernel_rfl) (Nat.le_of_ble_eq_true rfl) ?_
    clear hf; intro a w hf hp0; clear hp; have hp := hp0; clear hp0
    replace hp : Hp _ _ _ (Res.obj 74 v13 [.int .i64 q11.1, .int .i64 q11.2] :: Res.obj 74 v7 [.int .i64 (0 : Int), .int .i64 (0 : Int)] :: Res.obj 74 v5 [.int .i64 q21, .int .i64 q23] :: Res.obj 74 v3 [.int .i64 o1_Re, .int .i64 o1_Im] :: ow) := hp
    refine st_nil hf (th_n ⟨fun _ _ => ⟨_, hp⟩, ?_⟩)
    refine dr_one 13 rfl (by kernel_rfl) ?_
    refine st_stO (us := [.int .i64 (IntKind.i64.wrap (g0_Re - q27.1)), .int .i64 (IntKind.i64.wrap (g0_Im - q27.2))]) hf hp (i := 1) rfl rfl rfl rfl rfl (by rfl) (by kernel_rfl) (Nat.le_of_ble_eq_true rfl) ?_
    clear hf; intro a w hf hp0; clear hp; have hp := hp0; clear hp0
    replace hp : Hp _ _ _ (Res.obj 74 v13 [.int .i64 q11.1, .int .i64 q11.2] :: Res.obj 74 v7 [.int .i64 (IntKind.i64.wrap (g0_Re - q27.1)), .int .i64 (IntKind.i64.wrap (g0_Im - q27.2))] :: Res.obj 74 v5 [.int .i64 q21, .int .i64 q23] :: Res.obj 74 v3 [.int .i64 o1_Re, .int .i64 o1_Im] :: ow) := hp
    refine st_nil hf (th_n ⟨fun _ _ => ⟨_, hp⟩, ?_⟩)
    refine dr_end (by kernel_rfl) ?_ _
    have hp := bk45 _ _ hp
    have hp := bk40 _ _ hp
    have hp := bk35 _ _ hp
    exact ⟨hf.sub ⟨rfl, rfl, trivial⟩, hp⟩
  rintro a w ⟨hf, hp⟩
  refine th_n ?_
  refine wp_ret ?_
  obtain rfl := Option.some.inj h
  have hp : Hp _ _ _ (Res.obj 74 v5 [.int .i64 q21, .int .i64 q23] :: Res.obj 74 v7 [.int .i64 (IntKind.i64.wrap (g0_Re - q27.1)), .int .i64 (IntKind.i64.wrap (g0_Im - q27.2))] :: ow) := Hp.sel (pre := [Res.obj 74 v25 [.int .i64 q21, .int .i64 q23], Res.obj 74 v1 [.int .i64 g0_Re, .int .i64 g0_Im], Res.obj 74 v29 [.int .i64 q27.1, .int .i64 q27.2], Res.obj 74 v13 [.int .i64 q11.1, .int .i64 q11.2], Res.obj 74 v7 [.int .i64 (IntKind.i64.wrap (g0_Re - q27.1)), .int .i64 (IntKind.i64.wrap (g0_Im - q27.2))], Res.obj 74 v5 [.int .i64 q21, .int .i64 q23], Res.obj 74 v3 [.int .i64 o1_Re, .int .i64 o1_Im]]) (tail := ow) (rs' := [Res.obj 74 v5 [.int .i64 q21, .int .i64 q23], Res.obj 74 v7 [.int .i64 (IntKind.i64.wrap (g0_Re - q27.1)), .int .i64 (IntKind.i64.wrap (g0_Im - q27.2))]]) hp [5, 4] (by decide) (by simp) rfl
  exact ⟨rfl, ⟨_, _, hf.sub ⟨rfl, rfl, trivial⟩, hp⟩⟩

noncomputable def f_foghornref03_By (g0_Re : Int) (g0_Im : Int) (o1_Re : Int) (o1_Im : Int) : Option ((Int × Int) × (Int × Int) × Int) := ((f_foghornref03_May g0_Re g0_Im).bind fun q9 => ((if (!q9) = true then (some true) else ((f_foghornref03_May o1_Re o1_Im).bind fun q14 => (some (!q14)))).bind fun z13 => (if z13 = true then (some (((0 : Int), (0 : Int)), ((0 : Int), (0 : Int)), (1 : Int))) else ((f_foghornref03_norm o1_Re o1_Im).bind fun q16 => (if (q16 == (0 : Int)) = true then (some (((0 : Int), (0 : Int)), ((0 : Int), (0 : Int)), (6 : Int))) else ((f_foghornref03_by g0_Re g0_Im o1_Re o1_Im).bind fun q18 => (some ((q18.1.1, q18.1.2), (q18.2.1, q18.2.2), (0 : Int)))))))))
theorem f_foghornref03_By_c {S : Nat → Prop} {w0 w : World} {ow : List Res} (hp : Hp S w0 w ow) (g0_Re : Int) (g0_Im : Int) (o1_Re : Int) (o1_Im : Int) {r : ((Int × Int) × (Int × Int) × Int)} (h : f_foghornref03_By g0_Re g0_Im o1_Re o1_Im = some r) :
    Calls Try.prog 44 #[.agg #[.int .i64 g0_Re, .int .i64 g0_Im], .agg #[.int .i64 o1_Re, .int .i64 o1_Im]] w (fun e w' => e = .returned (.tuple #[.agg #[.int .i64 r.1.1, .int .i64 r.1.2], .agg #[.int .i64 r.2.1.1, .int .i64 r.2.1.2], .int .i64 r.2.2]) ∧ Hp S w0 w' (ow)) := by
  unfold f_foghornref03_By at h
  refine enter (n := 32) (args := [.agg #[.int .i64 g0_Re, .int .i64 g0_Im], .agg #[.int .i64 o1_Re, .int .i64 o1_Im]]) Try.func44 rfl rfl (Nat.le_of_ble_eq_true rfl) fun a hf => ?_
  replace hf : Fr 32 a [(0, .agg #[.int .i64 g0_Re, .int .i64 g0_Im]), (1, .agg #[.int .i64 o1_Re, .int .i64 o1_Im])] := hf
  refine wp_mono (Q := fun e a w => e = .ret ∧ ∃ (c0 : Value) (c1 : Value), Fr 32 a [(4, optr c0 0), (5, optr c1 0), (6, .int .i64 r.2.2)] ∧ Hp S w0 w (Res.obj 74 c0 [.int .i64 r.1.1, .int .i64 r.1.2] :: Res.obj 74 c1 [.int .i64 r.2.1.1, .int .i64 r.2.1.2] :: ow)) ?_ ?_
  rotate_left
  · rintro e a w ⟨rfl, c0, c1, hf, hp⟩
    exact retG3 hf rfl ⟨_, _, rfl, hp.ob (i := 0) rfl, .inr ⟨by kernel_rfl, rfl⟩⟩ ⟨_, _, rfl, hp.ob (i := 1) rfl, .inr ⟨by kernel_rfl, rfl⟩⟩ rfl ⟨rfl, hp.drop.drop⟩
  refine wp_seq ?_
  refine wp_reg ?_
  refine st_boxO (cs := [.int .i64 g0_Re, .int .i64 g0_Im]) hf (by decide) hp rfl rfl rfl ?_
  clear hf; intro a w v1 hf hp0; clear hp; have hp := hp0; clear hp0
  replace hp : Hp _ _ _ (Res.obj 74 v1 [.int .i64 g0_Re, .int .i64 g0_Im] :: ow) := hp
  refine st_boxO (cs := [.int .i64 o1_Re, .int .i64 o1_Im]) hf (by decide) hp rfl rfl rfl ?_
  clear hf; intro a w v3 hf hp0; clear hp; have hp := hp0; clear hp0
  replace hp : Hp _ _ _ (Res.obj 74 v3 [.int .i64 o1_Re, .int .i64 o1_Im] :: Res.obj 74 v1 [.int .i64 g0_Re, .int .i64 g0_Im] :: ow) := hp
  refine st_alloc (cs := [.int .i64 (0 : Int), .int .i64 (0 : Int)]) (zv := .agg #[.int .i64 (0 : Int), .int .i64 (0 : Int)]) hf (by decide) (by kernel_rfl) rfl hp rfl ?_
  clear hf; intro a w v5 hf hp0; clear hp; have hp := hp0; clear hp0
  replace hp : Hp _ _ _ (Res.obj 74 v5 [.int .i64 (0 : Int), .int .i64 (0 : Int)] :: Res.obj 74 v3 [.int .i64 o1_Re, .int .i64 o1_Im] :: Res.obj 74 v1 [.int .i64 g0_Re, .int .i64 g0_Im] :: ow) := hp
  refine st_alloc (cs := [.int .i64 (0 : Int), .int .i64 (0 : Int)]) (zv := .agg #[.int .i64 (0 : Int), .int .i64 (0 : Int)]) hf (by decide) (by kernel_rfl) rfl hp rfl ?_
  clear hf; intro a w v7 hf hp0; clear hp; have hp := hp0; clear hp0
  replace hp : Hp _ _ _ (Res.obj 74 v7 [.int .i64 (0 : Int), .int .i64 (0 : Int)] :: Res.obj 74 v5 [.int .i64 (0 : Int), .int .i64 (0 : Int)] :: Res.obj 74 v3 [.int .i64 o1_Re, .int .i64 o1_Im] :: Res.obj 74 v1 [.int .i64 g0_Re, .int .i64 g0_Im] :: ow) := hp
  refine st_assign hf rfl rfl (by decide) ?_
  clear hf; intro a ha hf; clear ha
  refine st_nil hf ?_
  refine th_n ?_
  refine wp_seq ?_
  refine wp_seq ?_
  refine wp_reg ?_
  refine st_ldOA (m := 2) (us := [.int .i64 g0_Re, .int .i64 g0_Im]) hf (by decide) (by kernel_rfl) rfl rfl (hp.ob (i := 3) rfl) rfl rfl ?_
  clear hf; intro a ha hf; clear ha
  obtain ⟨q9, hcall10, h⟩ := bnd h
  refine st_call hf (by decide) Try.func63 rfl rfl rfl rfl rfl (f_foghornref03_May_c hp _ _ hcall10) ?_
  rintro _ w ⟨rfl, hp0⟩
  clear hp; have hp := hp0; clear hp0
  replace hp : Hp _ _ _ (Res.obj 74 v7 [.int .i64 (0 : Int), .int .i64 (0 : Int)] :: Res.obj 74 v5 [.int .i64 (0 : Int), .int .i64 (0 : Int)] :: Res.obj 74 v3 [.int .i64 o1_Re, .int .i64 o1_Im] :: Res.obj 74 v1 [.int .i64 g0_Re, .int .i64 g0_Im] :: ow) := hp
  refine ⟨_, rfl, ?_⟩
  clear hf; intro a hf
  refine st_not hf (by decide) rfl rfl ?_
  clear hf; intro a ha hf; clear ha
  refine st_move hf rfl rfl (by decide) ?_
  clear hf; intro a ha hf; clear ha
  obtain ⟨z13, hz11, h⟩ := bnd h
  refine wpList_cut 4 (fun a w => Fr 32 a [(2, optr v1 0), (3, optr v3 0), (4, optr v5 0), (5, optr v7 0), (16, .bool z13)] ∧ Hp S w0 w (Res.obj 74 v7 [.int .i64 (0 : Int), .int .i64 (0 : Int)] :: Res.obj 74 v5 [.int .i64 (0 : Int), .int .i64 (0 : Int)] :: Res.obj 74 v3 [.int .i64 o1_Re, .int .i64 o1_Im] :: Res.obj 74 v1 [.int .i64 g0_Re, .int .i64 g0_Im] :: ow)) ?_ ?_
  · rcases Bool.eq_false_or_eq_true (!q9) with hb12 | hb12
    · skip
      replace hz11 := ifT hz11 hb12
      refine st_skip hf (wantN hf rfl rfl hb12) rfl (by decide) ?_ rfl
      clear hf; intro a hf
      refine st_skip hf (wantN hf rfl rfl hb12) rfl (by decide) ?_ rfl
      clear hf; intro a hf
      refine st_skip hf (wantN hf rfl rfl hb12) rfl (by decide) ?_ rfl
      clear hf; intro a hf
      obtain rfl := Option.some.inj hz11
      refine st_pick (v := .bool true) hf rfl rfl (fun hb' => ?_) (fun hb' => ?_) (by decide) ?_
      · rfl
      · exact absurd (hb12.symm.trans hb') (by decide)
      clear hf; intro a ha hf; clear ha
      refine st_nil hf (th_n ?_)
      exact ⟨hf.sub ⟨rfl, rfl, rfl, rfl, rfl, trivial⟩, hp⟩
    replace hz11 := ifF hz11 hb12
    refine st_ldOA (m := 2) (us := [.int .i64 o1_Re, .int .i64 o1_Im]) hf (by decide) (by kernel_rfl) (wantY hf rfl rfl hb12) rfl (hp.ob (i := 2) rfl) rfl rfl ?_
    clear hf; intro a ha hf; clear ha
    obtain ⟨q14, hcall15, hz11⟩ := bnd hz11
    refine st_call hf (by decide) Try.func63 rfl rfl (wantY hf rfl rfl hb12) rfl rfl (f_foghornref03_May_c hp _ _ hcall15) ?_
    rintro _ w ⟨rfl, hp0⟩
    clear hp; have hp := hp0; clear hp0
    replace hp : Hp _ _ _ (Res.obj 74 v7 [.int .i64 (0 : Int), .int .i64 (0 : Int)] :: Res.obj 74 v5 [.int .i64 (0 : Int), .int .i64 (0 : Int)] :: Res.obj 74 v3 [.int .i64 o1_Re, .int .i64 o1_Im] :: Res.obj 74 v1 [.int .i64 g0_Re, .int .i64 g0_Im] :: ow) := hp
    refine ⟨_, rfl, ?_⟩
    clear hf; intro a hf
    refine st_not hf (by decide) (wantY hf rfl rfl hb12) rfl ?_
    clear hf; intro a ha hf; clear ha
    obtain rfl := Option.some.inj hz11
    refine st_pick (v := .bool (!q14)) hf rfl rfl (fun hb' => ?_) (fun hb' => ?_) (by decide) ?_
    · exact absurd (hb12.symm.trans hb') (by decide)
    · rfl
    clear hf; intro a ha hf; clear ha
    refine st_nil hf (th_n ?_)
    exact ⟨hf.sub ⟨rfl, rfl, rfl, rfl, rfl, trivial⟩, hp⟩
  rintro a w ⟨hf, hp⟩
  refine st_nil hf ?_
  refine th_n ?_
  refine wp_if hf rfl (fun hb => ?_) (fun hb => ?_)
  · replace h := ifT h hb
    refine wp_seq ?_
    refine wp_reg ?_
    refine st_buildA (vals := []) (cells := [.int .i64 (0 : Int), .int .i64 (0 : Int)]) hf (by decide) rfl (by simp []) (fun w => by kernel_rfl) ?_
    clear hf; intro a ha hf; clear ha
    refine st_buildA (vals := []) (cells := [.int .i64 (0 : Int), .int .i64 (0 : Int)]) hf (by decide) rfl (by simp []) (fun w => by kernel_rfl) ?_
    clear hf; intro a ha hf; clear ha
    refine st_stO (us := [.int .i64 (0 : Int), .int .i64 (0 : Int)]) hf hp (i := 1) rfl rfl rfl rfl rfl (by rfl) (by kernel_rfl) (Nat.le_of_ble_eq_true rfl) ?_
    clear hf; intro a w hf hp0; clear hp; have hp := hp0; clear hp0
    replace hp : Hp _ _ _ (Res.obj 74 v7 [.int .i64 (0 : Int), .int .i64 (0 : Int)] :: Res.obj 74 v5 [.int .i64 (0 : Int), .int .i64 (0 : Int)] :: Res.obj 74 v3 [.int .i64 o1_Re, .int .i64 o1_Im] :: Res.obj 74 v1 [.int .i64 g0_Re, .int .i64 g0_Im] :: ow) := hp
    refine st_stO (us := [.int .i64 (0 : Int), .int .i64 (0 : Int)]) hf hp (i := 0) rfl rfl rfl rfl rfl (by rfl) (by kernel_rfl) (Nat.le_of_ble_eq_true rfl) ?_
    clear hf; intro a w hf hp0; clear hp; have hp := hp0; clear hp0
    replace hp : Hp _ _ _ (Res.obj 74 v7 [.int .i64 (0 : Int), .int .i64 (0 : Int)] :: Res.obj 74 v5 [.int .i64 (0 : Int), .int .i64 (0 : Int)] :: Res.obj 74 v3 [.int .i64 o1_Re, .int .i64 o1_Im] :: Res.obj 74 v1 [.int .i64 g0_Re, .int .i64 g0_Im] :: ow) := hp
    refine st_assign hf rfl rfl (by decide) ?_
    clear hf; intro a ha hf; clear ha
    refine st_nil hf ?_
    refine th_n ?_
    refine wp_ret ?_
    refine th_r ?_
    obtain rfl := Option.some.inj h
    have hp : Hp _ _ _ (Res.obj 74 v5 [.int .i64 (0 : Int), .int .i64 (0 : Int)] :: Res.obj 74 v7 [.int .i64 (0 : Int), .int .i64 (0 : Int)] :: ow) := Hp.sel (pre := [Res.obj 74 v7 [.int .i64 (0 : Int), .int .i64 (0 : Int)], Res.obj 74 v5 [.int .i64 (0 : Int), .int .i64 (0 : Int)], Res.obj 74 v3 [.int .i64 o1_Re, .int .i64 o1_Im], Res.obj 74 v1 [.int .i64 g0_Re, .int .i64 g0_Im]]) (tail := ow) (rs' := [Res.obj 74 v5 [.int .i64 (0 : Int), .int .i64 (0 : Int)], Res.obj 74 v7 [.int .i64 (0 : Int), .int .i64 (0 : Int)]]) hp [1, 0] (by decide) (by simp) rfl
    exact ⟨rfl, ⟨_, _, hf.sub ⟨rfl, rfl, rfl, trivial⟩, hp⟩⟩
  replace h := ifF h hb
  refine wp_skip ?_
  refine th_n ?_
  refine wp_seq ?_
  refine wp_seq ?_
  refine wp_reg ?_
  refine st_ldOA (m := 2) (us := [.int .i64 o1_Re, .int .i64 o1_Im]) hf (by decide) (by kernel_rfl) rfl rfl (hp.ob (i := 2) rfl) rfl rfl ?_
  clear hf; intro a ha hf; clear ha
  obtain ⟨q16, hcall17, h⟩ := bnd h
  refine st_call hf (by decide) Try.func65 rfl rfl rfl rfl rfl (f_foghornref03_norm_c hp _ _ hcall17) ?_
  rintro _ w ⟨rfl, hp0⟩
  clear hp; have hp := hp0; clear hp0
  replace hp : Hp _ _ _ (Res.obj 74 v7 [.int .i64 (0 : Int), .int .i64 (0 : Int)] :: Res.obj 74 v5 [.int .i64 (0 : Int), .int .i64 (0 : Int)] :: Res.obj 74 v3 [.int .i64 o1_Re, .int .i64 o1_Im] :: Res.obj 74 v1 [.int .i64 g0_Re, .int .i64 g0_Im] :: ow) := hp
  refine ⟨_, rfl, ?_⟩
  clear hf; intro a hf
  refine st_ieql hf (by decide) rfl rfl rfl ?_
  clear hf; intro a ha hf; clear ha
  refine st_nil hf ?_
  refine th_n ?_
  refine wp_if hf rfl (fun hb => ?_) (fun hb => ?_)
  · replace h := ifT h hb
    refine wp_seq ?_
    refine wp_reg ?_
    refine st_buildA (vals := []) (cells := [.int .i64 (0 : Int), .int .i64 (0 : Int)]) hf (by decide) rfl (by simp []) (fun w => by kernel_rfl) ?_
    clear hf; intro a ha hf; clear ha
    refine st_buildA (vals := []) (cells := [.int .i64 (0 : Int), .int .i64 (0 : Int)]) hf (by decide) rfl (by simp []) (fun w => by kernel_rfl) ?_
    clear hf; intro a ha hf; clear ha
    refine st_stO (us := [.int .i64 (0 : Int), .int .i64 (0 : Int)]) hf hp (i := 1) rfl rfl rfl rfl rfl (by rfl) (by kernel_rfl) (Nat.le_of_ble_eq_true rfl) ?_
    clear hf; intro a w hf hp0; clear hp; have hp := hp0; clear hp0
    replace hp : Hp _ _ _ (Res.obj 74 v7 [.int .i64 (0 : Int), .int .i64 (0 : Int)] :: Res.obj 74 v5 [.int .i64 (0 : Int), .int .i64 (0 : Int)] :: Res.obj 74 v3 [.int .i64 o1_Re, .int .i64 o1_Im] :: Res.obj 74 v1 [.int .i64 g0_Re, .int .i64 g0_Im] :: ow) := hp
    refine st_stO (us := [.int .i64 (0 : Int), .int .i64 (0 : Int)]) hf hp (i := 0) rfl rfl rfl rfl rfl (by rfl) (by kernel_rfl) (Nat.le_of_ble_eq_true rfl) ?_
    clear hf; intro a w hf hp0; clear hp; have hp := hp0; clear hp0
    replace hp : Hp _ _ _ (Res.obj 74 v7 [.int .i64 (0 : Int), .int .i64 (0 : Int)] :: Res.obj 74 v5 [.int .i64 (0 : Int), .int .i64 (0 : Int)] :: Res.obj 74 v3 [.int .i64 o1_Re, .int .i64 o1_Im] :: Res.obj 74 v1 [.int .i64 g0_Re, .int .i64 g0_Im] :: ow) := hp
    refine st_assign hf rfl rfl (by decide) ?_
    clear hf; intro a ha hf; clear ha
    refine st_nil hf ?_
    refine th_n ?_
    refine wp_ret ?_
    refine th_r ?_
    obtain rfl := Option.some.inj h
    have hp : Hp _ _ _ (Res.obj 74 v5 [.int .i64 (0 : Int), .int .i64 (0 : Int)] :: Res.obj 74 v7 [.int .i64 (0 : Int), .int .i64 (0 : Int)] :: ow) := Hp.sel (pre := [Res.obj 74 v7 [.int .i64 (0 : Int), .int .i64 (0 : Int)], Res.obj 74 v5 [.int .i64 (0 : Int), .int .i64 (0 : Int)], Res.obj 74 v3 [.int .i64 o1_Re, .int .i64 o1_Im], Res.obj 74 v1 [.int .i64 g0_Re, .int .i64 g0_Im]]) (tail := ow) (rs' := [Res.obj 74 v5 [.int .i64 (0 : Int), .int .i64 (0 : Int)], Res.obj 74 v7 [.int .i64 (0 : Int), .int .i64 (0 : Int)]]) hp [1, 0] (by decide) (by simp) rfl
    exact ⟨rfl, ⟨_, _, hf.sub ⟨rfl, rfl, rfl, trivial⟩, hp⟩⟩
  replace h := ifF h hb
  refine wp_skip ?_
  refine th_n ?_
  refine wp_seq ?_
  refine wp_reg ?_
  refine st_ldOA (m := 2) (us := [.int .i64 g0_Re, .int .i64 g0_Im]) hf (by decide) (by kernel_rfl) rfl rfl (hp.ob (i := 3) rfl) rfl rfl ?_
  clear hf; intro a ha hf; clear ha
  refine st_ldOA (m := 2) (us := [.int .i64 o1_Re, .int .i64 o1_Im]) hf (by decide) (by kernel_rfl) rfl rfl (hp.ob (i := 2) rfl) rfl rfl ?_
  clear hf; intro a ha hf; clear ha
  obtain ⟨q18, hcall19, h⟩ := bnd h
  refine st_call hf (by decide) Try.func66 rfl rfl rfl rfl rfl (f_foghornref03_by_c hp _ _ _ _ hcall19) ?_
  rintro _ w ⟨rfl, hp0⟩
  clear hp; have hp := hp0; clear hp0
  replace hp : Hp _ _ _ (Res.obj 74 v7 [.int .i64 (0 : Int), .int .i64 (0 : Int)] :: Res.obj 74 v5 [.int .i64 (0 : Int), .int .i64 (0 : Int)] :: Res.obj 74 v3 [.int .i64 o1_Re, .int .i64 o1_Im] :: Res.obj 74 v1 [.int .i64 g0_Re, .int .i64 g0_Im] :: ow) := hp
  refine ⟨_, rfl, ?_⟩
  clear hf; intro a hf
  refine st_move hf rfl rfl (by decide) ?_
  clear hf; intro a ha hf; clear ha
  refine st_extract hf (by decide) rfl rfl rfl ?_
  clear hf; intro a ha hf; clear ha
  refine st_extract hf (by decide) rfl rfl rfl ?_
  clear hf; intro a ha hf; clear ha
  refine st_alloc (cs := [.int .i64 (0 : Int), .int .i64 (0 : Int)]) (zv := .agg #[.int .i64 (0 : Int), .int .i64 (0 : Int)]) hf (by decide) (by kernel_rfl) rfl hp rfl ?_
  clear hf; intro a w v20 hf hp0; clear hp; have hp := hp0; clear hp0
  replace hp : Hp _ _ _ (Res.obj 74 v20 [.int .i64 (0 : Int), .int .i64 (0 : Int)] :: Res.obj 74 v7 [.int .i64 (0 : Int), .int .i64 (0 : Int)] :: Res.obj 74 v5 [.int .i64 (0 : Int), .int .i64 (0 : Int)] :: Res.obj 74 v3 [.int .i64 o1_Re, .int .i64 o1_Im] :: Res.obj 74 v1 [.int .i64 g0_Re, .int .i64 g0_Im] :: ow) := hp
  refine st_alloc (cs := [.int .i64 (0 : Int), .int .i64 (0 : Int)]) (zv := .agg #[.int .i64 (0 : Int), .int .i64 (0 : Int)]) hf (by decide) (by kernel_rfl) rfl hp rfl ?_
  clear hf; intro a w v22 hf hp0; clear hp; have hp := hp0; clear hp0
  replace hp : Hp _ _ _ (Res.obj 74 v22 [.int .i64 (0 : Int), .int .i64 (0 : Int)] :: Res.obj 74 v20 [.int .i64 (0 : Int), .int .i64 (0 : Int)] :: Res.obj 74 v7 [.int .i64 (0 : Int), .int .i64 (0 : Int)] :: Res.obj 74 v5 [.int .i64 (0 : Int), .int .i64 (0 : Int)] :: Res.obj 74 v3 [.int .i64 o1_Re, .int .i64 o1_Im] :: Res.obj 74 v1 [.int .i64 g0_Re, .int .i64 g0_Im] :: ow) := hp
  refine st_stO (us := [.int .i64 q18.1.1, .int .i64 q18.1.2]) hf hp (i := 1) rfl rfl rfl rfl rfl (by rfl) (by kernel_rfl) (Nat.le_of_ble_eq_true rfl) ?_
  clear hf; intro a w hf hp0; clear hp; have hp := hp0; clear hp0
  replace hp : Hp _ _ _ (Res.obj 74 v22 [.int .i64 (0 : Int), .int .i64 (0 : Int)] :: Res.obj 74 v20 [.int .i64 q18.1.1, .int .i64 q18.1.2] :: Res.obj 74 v7 [.int .i64 (0 : Int), .int .i64 (0 : Int)] :: Res.obj 74 v5 [.int .i64 (0 : Int), .int .i64 (0 : Int)] :: Res.obj 74 v3 [.int .i64 o1_Re, .int .i64 o1_Im] :: Res.obj 74 v1 [.int .i64 g0_Re, .int .i64 g0_Im] :: ow) := hp
  refine st_stO (us := [.int .i64 q18.2.1, .int .i64 q18.2.2]) hf hp (i := 0) rfl rfl rfl rfl rfl (by rfl) (by kernel_rfl) (Nat.le_of_ble_eq_true rfl) ?_
  clear hf; intro a w hf hp0; clear hp; have hp := hp0; clear hp0
  replace hp : Hp _ _ _ (Res.obj 74 v22 [.int .i64 q18.2.1, .int .i64 q18.2.2] :: Res.obj 74 v20 [.int .i64 q18.1.1, .int .i64 q18.1.2] :: Res.obj 74 v7 [.int .i64 (0 : Int), .int .i64 (0 : Int)] :: Res.obj 74 v5 [.int .i64 (0 : Int), .int .i64 (0 : Int)] :: Res.obj 74 v3 [.int .i64 o1_Re, .int .i64 o1_Im] :: Res.obj 74 v1 [.int .i64 g0_Re, .int .i64 g0_Im] :: ow) := hp
  refine st_nil hf ?_
  refine th_n ?_
  refine wp_seq ?_
  obtain ⟨S24, hp25, rd26, up27, bk28⟩ := Hp.lendO hp (i := 1) rfl
  obtain ⟨S29, hp30, rd31, up32, bk33⟩ := Hp.lendO hp25 (i := 0) rfl
  have rl34 := ((rd26.now hp25).mono up32)
  have rl35 := rd31
  refine wp_cutN (fun a w => Fr 32 a [(4, optr v5 0), (5, optr v7 0), (6, .int .i64 (0 : Int))] ∧ Hp S w0 w (Res.obj 74 v20 [.int .i64 q18.1.1, .int .i64 q18.1.2] :: Res.obj 74 v22 [.int .i64 q18.2.1, .int .i64 q18.2.2] :: Res.obj 74 v7 [.int .i64 q18.2.1, .int .i64 q18.2.2] :: Res.obj 74 v5 [.int .i64 q18.1.1, .int .i64 q18.1.2] :: Res.obj 74 v3 [.int .i64 o1_Re, .int .i64 o1_Im] :: Res.obj 74 v1 [.int .i64 g0_Re, .int .i64 g0_Im] :: ow)) ?_ ?_
  · have hp := hp30.same (Same.drew w)
    refine dr_begin' (fun a w => Fr 32 a [(4, optr v5 0), (5, optr v7 0), (6, .int .i64 (0 : Int))] ∧ Hp S w0 w (Res.obj 74 v20 [.int .i64 q18.1.1, .int .i64 q18.1.2] :: Res.obj 74 v22 [.int .i64 q18.2.1, .int .i64 q18.2.2] :: Res.obj 74 v7 [.int .i64 q18.2.1, .int .i64 q18.2.2] :: Res.obj 74 v5 [.int .i64 q18.1.1, .int .i64 q18.1.2] :: Res.obj 74 v3 [.int .i64 o1_Re, .int .i64 o1_Im] :: Res.obj 74 v1 [.int .i64 g0_Re, .int .i64 g0_Im] :: ow)) (fun w' => ∃ l, Hp S29 w w' l) [] (by kernel_rfl) ?_
    refine dr_take 0 (.agg #[.int .i64 q18.1.1, .int .i64 q18.1.2]) rfl (by kernel_rfl) (by kernel_rfl) (by kernel_rfl) (by kernel_rfl) rfl rfl hf (by decide) rfl (fun w hp => ?_) ⟨_, hp⟩ ?_
    · obtain ⟨_, hp⟩ := hp
      refine st_ldOA (m := 2) (us := [.int .i64 q18.1.1, .int .i64 q18.1.2]) hf (by decide) (by kernel_rfl) rfl rfl (rl34.ob hp) rfl rfl ?_
      clear hf; intro a ha hf
      exact st_nil hf (th_n ⟨ha, rfl⟩)
    clear hf; intro a hf
    refine dr_take 1 (.agg #[.int .i64 q18.2.1, .int .i64 q18.2.2]) rfl (by kernel_rfl) (by kernel_rfl) (by kernel_rfl) (by kernel_rfl) rfl rfl hf (by decide) rfl (fun w hp => ?_) ⟨_, hp⟩ ?_
    · obtain ⟨_, hp⟩ := hp
      refine st_ldOA (m := 2) (us := [.int .i64 q18.2.1, .int .i64 q18.2.2]) hf (by decide) (by kernel_rfl) rfl rfl (rl35.ob hp) rfl rfl ?_
      clear hf; intro a ha hf
      exact st_nil hf (th_n ⟨ha, rfl⟩)
    clear hf; intro a hf
    refine dr_one 2 rfl (by kernel_rfl) ?_
    refine st_stO (us := [.int .i64 q18.1.1, .int .i64 q18.1.2]) hf hp (i := 1) rfl rfl rfl rfl rfl (by rfl) (by kernel_rfl) (Nat.le_of_ble_eq_true rfl) ?_
    clear hf; intro a w hf hp0; clear hp; have hp := hp0; clear hp0
    replace hp : Hp _ _ _ (Res.obj 74 v7 [.int .i64 (0 : Int), .int .i64 (0 : Int)] :: Res.obj 74 v5 [.int .i64 q18.1.1, .int .i64 q18.1.2] :: Res.obj 74 v3 [.int .i64 o1_Re, .int .i64 o1_Im] :: Res.obj 74 v1 [.int .i64 g0_Re, .int .i64 g0_Im] :: ow) := hp
    refine st_nil hf (th_n ⟨fun _ _ => ⟨_, hp⟩, ?_⟩)
    refine dr_one 3 rfl (by kernel_rfl) ?_
    refine st_stO (us := [.int .i64 q18.2.1, .int .i64 q18.2.2]) hf hp (i := 0) rfl rfl rfl rfl rfl (by rfl) (by kernel_rfl) (Nat.le_of_ble_eq_true rfl) ?_
    clear hf; intro a w hf hp0; clear hp; have hp := hp0; clear hp0
    replace hp : Hp _ _ _ (Res.obj 74 v7 [.int .i64 q18.2.1, .int .i64 q18.2.2] :: Res.obj 74 v5 [.int .i64 q18.1.1, .int .i64 q18.1.2] :: Res.obj 74 v3 [.int .i64 o1_Re, .int .i64 o1_Im] :: Res.obj 74 v1 [.int .i64 g0_Re, .int .i64 g0_Im] :: ow) := hp
    refine st_nil hf (th_n ⟨fun _ _ => ⟨_, hp⟩, ?_⟩)
    refine dr_take 4 (.int .i64 (0 : Int)) rfl (by kernel_rfl) (by kernel_rfl) (by kernel_rfl) (by kernel_rfl) rfl rfl hf (by decide) rfl (fun w hp => ?_) ⟨_, hp⟩ ?_
    · obtain ⟨_, hp⟩ := hp
      refine st_assign hf rfl rfl (by decide) ?_
      clear hf; intro a ha hf
      exact st_nil hf (th_n ⟨ha, rfl⟩)
    clear hf; intro a hf
    refine dr_end (by kernel_rfl) ?_ _
    have hp := bk33 _ _ hp
    have hp := bk28 _ _ hp
    exact ⟨hf.sub ⟨rfl, rfl, rfl, trivial⟩, hp⟩
  rintro a w ⟨hf, hp⟩
  refine th_n ?_
  refine wp_ret ?_
  obtain rfl := Option.some.inj h
  have hp : Hp _ _ _ (Res.obj 74 v5 [.int .i64 q18.1.1, .int .i64 q18.1.2] :: Res.obj 74 v7 [.int .i64 q18.2.1, .int .i64 q18.2.2] :: ow) := Hp.sel (pre := [Res.obj 74 v20 [.int .i64 q18.1.1, .int .i64 q18.1.2], Res.obj 74 v22 [.int .i64 q18.2.1, .int .i64 q18.2.2], Res.obj 74 v7 [.int .i64 q18.2.1, .int .i64 q18.2.2], Res.obj 74 v5 [.int .i64 q18.1.1, .int .i64 q18.1.2], Res.obj 74 v3 [.int .i64 o1_Re, .int .i64 o1_Im], Res.obj 74 v1 [.int .i64 g0_Re, .int .i64 g0_Im]]) (tail := ow) (rs' := [Res.obj 74 v5 [.int .i64 q18.1.1, .int .i64 q18.1.2], Res.obj 74 v7 [.int .i64 q18.2.1, .int .i64 q18.2.2]]) hp [3, 2] (by decide) (by simp) rfl
  exact ⟨rfl, ⟨_, _, hf.sub ⟨rfl, rfl, rfl, trivial⟩, hp⟩⟩

noncomputable def f_plane_Gcd.s1c (ax2c_0 : Int) (ax2c_1 : Int) (bx3c_0 : Int) (bx3c_1 : Int) : Option ((Int × Int × Int × Int) ⊕ (Int × Int)) := (if ((bx3c_0 == (0 : Int)) && ((bx3c_1 == (0 : Int)) && true)) = true then (some (Sum.inr (ax2c_0, ax2c_1))) else ((f_plane_Gauss_by ax2c_0 ax2c_1 bx3c_0 bx3c_1).bind fun q17 => (some (Sum.inl (bx3c_0, bx3c_1, q17.2.1, q17.2.2)))))
noncomputable def f_plane_Gcd.s1  (s : (Int × Int × Int × Int)) : Option ((Int × Int × Int × Int) ⊕ (Int × Int)) := f_plane_Gcd.s1c s.1 s.2.1 s.2.2.1 s.2.2.2
noncomputable def f_plane_Gcd.s2c (ax2c_0 : Int) (ax2c_1 : Int) : Option ((Int × Int) ⊕ (Int × Int)) := (if ((!((ax2c_0 == (0 : Int)) && ((ax2c_1 == (0 : Int)) && true))) && (!((decide ((0 : Int) < ax2c_0)) && (decide ((0 : Int) ≤ ax2c_1))))) = true then (some (Sum.inl ((IntKind.i64.wrap (0 - ax2c_1)), ax2c_0))) else (some (Sum.inr (ax2c_0, ax2c_1))))
noncomputable def f_plane_Gcd.s2  (s : (Int × Int)) : Option ((Int × Int) ⊕ (Int × Int)) := f_plane_Gcd.s2c s.1 s.2
noncomputable def f_plane_Gcd (ax0_Re : Int) (ax0_Im : Int) (bx1_Re : Int) (bx1_Im : Int) : Option ((Int × Int) × Int) := ((f_plane_Gauss_may ax0_Re ax0_Im).bind fun q7 => ((if (!q7) = true then (some true) else ((f_plane_Gauss_may bx1_Re bx1_Im).bind fun q12 => (some (!q12)))).bind fun z11 => (if z11 = true then (some (((0 : Int), (0 : Int)), (1 : Int))) else ((loop f_plane_Gcd.s1 (ax0_Re, ax0_Im, bx1_Re, bx1_Im)).bind (fun q29 => ((loop f_plane_Gcd.s2 (q29.1, q29.2)).bind (fun q36 => (some ((q36.1, q36.2), (0 : Int))))))))))
theorem f_plane_Gcd_c {S : Nat → Prop} {w0 w : World} {ow : List Res} (hp : Hp S w0 w ow) (ax0_Re : Int) (ax0_Im : Int) (bx1_Re : Int) (bx1_Im : Int) {r : ((Int × Int) × Int)} (h : f_plane_Gcd ax0_Re ax0_Im bx1_Re bx1_Im = some r) :
    Calls Try.prog 32 #[.agg #[.int .i64 ax0_Re, .int .i64 ax0_Im], .agg #[.int .i64 bx1_Re, .int .i64 bx1_Im]] w (fun e w' => e = .returned (.tuple #[.agg #[.int .i64 r.1.1, .int .i64 r.1.2], .int .i64 r.2]) ∧ Hp S w0 w' (ow)) := by
  unfold f_plane_Gcd at h
  refine enter (n := 49) (args := [.agg #[.int .i64 ax0_Re, .int .i64 ax0_Im], .agg #[.int .i64 bx1_Re, .int .i64 bx1_Im]]) Try.func32 rfl rfl (Nat.le_of_ble_eq_true rfl) fun a hf => ?_
  replace hf : Fr 49 a [(0, .agg #[.int .i64 ax0_Re, .int .i64 ax0_Im]), (1, .agg #[.int .i64 bx1_Re, .int .i64 bx1_Im])] := hf
  refine wp_mono (Q := fun e a w => e = .ret ∧ ∃ (c0 : Value), Fr 49 a [(4, optr c0 0), (5, .int .i64 r.2)] ∧ Hp S w0 w (Res.obj 56 c0 [.int .i64 r.1.1, .int .i64 r.1.2] :: ow)) ?_ ?_
  rotate_left
  · rintro e a w ⟨rfl, c0, hf, hp⟩
    exact retG2 hf rfl ⟨_, _, rfl, hp.ob (i := 0) rfl, .inr ⟨by kernel_rfl, rfl⟩⟩ rfl ⟨rfl, hp.drop⟩
  refine wp_seq ?_
  refine wp_reg ?_
  refine st_boxO (cs := [.int .i64 ax0_Re, .int .i64 ax0_Im]) hf (by decide) hp rfl rfl rfl ?_
  clear hf; intro a w v1 hf hp0; clear hp; have hp := hp0; clear hp0
  replace hp : Hp _ _ _ (Res.obj 56 v1 [.int .i64 ax0_Re, .int .i64 ax0_Im] :: ow) := hp
  refine st_boxO (cs := [.int .i64 bx1_Re, .int .i64 bx1_Im]) hf (by decide) hp rfl rfl rfl ?_
  clear hf; intro a w v3 hf hp0; clear hp; have hp := hp0; clear hp0
  replace hp : Hp _ _ _ (Res.obj 56 v3 [.int .i64 bx1_Re, .int .i64 bx1_Im] :: Res.obj 56 v1 [.int .i64 ax0_Re, .int .i64 ax0_Im] :: ow) := hp
  refine st_alloc (cs := [.int .i64 (0 : Int), .int .i64 (0 : Int)]) (zv := .agg #[.int .i64 (0 : Int), .int .i64 (0 : Int)]) hf (by decide) (by kernel_rfl) rfl hp rfl ?_
  clear hf; intro a w v5 hf hp0; clear hp; have hp := hp0; clear hp0
  replace hp : Hp _ _ _ (Res.obj 56 v5 [.int .i64 (0 : Int), .int .i64 (0 : Int)] :: Res.obj 56 v3 [.int .i64 bx1_Re, .int .i64 bx1_Im] :: Res.obj 56 v1 [.int .i64 ax0_Re, .int .i64 ax0_Im] :: ow) := hp
  refine st_assign hf rfl rfl (by decide) ?_
  clear hf; intro a ha hf; clear ha
  refine st_nil hf ?_
  refine th_n ?_
  refine wp_scope_straight ?_
  refine wp_seq ?_
  refine wp_seq ?_
  refine wp_reg ?_
  refine st_ldOA (m := 2) (us := [.int .i64 ax0_Re, .int .i64 ax0_Im]) hf (by decide) (by kernel_rfl) rfl rfl (hp.ob (i := 2) rfl) rfl rfl ?_
  clear hf; intro a ha hf; clear ha
  obtain ⟨q7, hcall8, h⟩ := bnd h
  refine st_call hf (by decide) Try.func55 rfl rfl rfl rfl rfl (f_plane_Gauss_may_c hp _ _ hcall8) ?_
  rintro _ w ⟨rfl, hp0⟩
  clear hp; have hp := hp0; clear hp0
  replace hp : Hp _ _ _ (Res.obj 56 v5 [.int .i64 (0 : Int), .int .i64 (0 : Int)] :: Res.obj 56 v3 [.int .i64 bx1_Re, .int .i64 bx1_Im] :: Res.obj 56 v1 [.int .i64 ax0_Re, .int .i64 ax0_Im] :: ow) := hp
  refine ⟨_, rfl, ?_⟩
  clear hf; intro a hf
  refine st_not hf (by decide) rfl rfl ?_
  clear hf; intro a ha hf; clear ha
  refine st_move hf rfl rfl (by decide) ?_
  clear hf; intro a ha hf; clear ha
  obtain ⟨z11, hz9, h⟩ := bnd h
  refine wpList_cut 4 (fun a w => Fr 49 a [(2, optr v1 0), (3, optr v3 0), (4, optr v5 0), (15, .bool z11)] ∧ Hp S w0 w (Res.obj 56 v5 [.int .i64 (0 : Int), .int .i64 (0 : Int)] :: Res.obj 56 v3 [.int .i64 bx1_Re, .int .i64 bx1_Im] :: Res.obj 56 v1 [.int .i64 ax0_Re, .int .i64 ax0_Im] :: ow)) ?_ ?_
  · rcases Bool.eq_false_or_eq_true (!q7) with hb10 | hb10
    · skip
      replace hz9 := ifT hz9 hb10
      refine st_skip hf (wantN hf rfl rfl hb10) rfl (by decide) ?_ rfl
      clear hf; intro a hf
      refine st_skip hf (wantN hf rfl rfl hb10) rfl (by decide) ?_ rfl
      clear hf; intro a hf
      refine st_skip hf (wantN hf rfl rfl hb10) rfl (by decide) ?_ rfl
      clear hf; intro a hf
      obtain rfl := Option.some.inj hz9
      refine st_pick (v := .bool true) hf rfl rfl (fun hb' => ?_) (fun hb' => ?_) (by decide) ?_
      · rfl
      · exact absurd (hb10.symm.trans hb') (by decide)
      clear hf; intro a ha hf; clear ha
      refine st_nil hf (th_n ?_)
      exact ⟨hf.sub ⟨rfl, rfl, rfl, rfl, trivial⟩, hp⟩
    replace hz9 := ifF hz9 hb10
    refine st_ldOA (m := 2) (us := [.int .i64 bx1_Re, .int .i64 bx1_Im]) hf (by decide) (by kernel_rfl) (wantY hf rfl rfl hb10) rfl (hp.ob (i := 1) rfl) rfl rfl ?_
    clear hf; intro a ha hf; clear ha
    obtain ⟨q12, hcall13, hz9⟩ := bnd hz9
    refine st_call hf (by decide) Try.func55 rfl rfl (wantY hf rfl rfl hb10) rfl rfl (f_plane_Gauss_may_c hp _ _ hcall13) ?_
    rintro _ w ⟨rfl, hp0⟩
    clear hp; have hp := hp0; clear hp0
    replace hp : Hp _ _ _ (Res.obj 56 v5 [.int .i64 (0 : Int), .int .i64 (0 : Int)] :: Res.obj 56 v3 [.int .i64 bx1_Re, .int .i64 bx1_Im] :: Res.obj 56 v1 [.int .i64 ax0_Re, .int .i64 ax0_Im] :: ow) := hp
    refine ⟨_, rfl, ?_⟩
    clear hf; intro a hf
    refine st_not hf (by decide) (wantY hf rfl rfl hb10) rfl ?_
    clear hf; intro a ha hf; clear ha
    obtain rfl := Option.some.inj hz9
    refine st_pick (v := .bool (!q12)) hf rfl rfl (fun hb' => ?_) (fun hb' => ?_) (by decide) ?_
    · exact absurd (hb10.symm.trans hb') (by decide)
    · rfl
    clear hf; intro a ha hf; clear ha
    refine st_nil hf (th_n ?_)
    exact ⟨hf.sub ⟨rfl, rfl, rfl, rfl, trivial⟩, hp⟩
  rintro a w ⟨hf, hp⟩
  refine st_nil hf ?_
  refine th_n ?_
  refine wp_if hf rfl (fun hb => ?_) (fun hb => ?_)
  · replace h := ifT h hb
    refine wp_seq ?_
    refine wp_reg ?_
    refine st_buildA (vals := []) (cells := [.int .i64 (0 : Int), .int .i64 (0 : Int)]) hf (by decide) rfl (by simp []) (fun w => by kernel_rfl) ?_
    clear hf; intro a ha hf; clear ha
    refine st_stO (us := [.int .i64 (0 : Int), .int .i64 (0 : Int)]) hf hp (i := 0) rfl rfl rfl rfl rfl (by rfl) (by kernel_rfl) (Nat.le_of_ble_eq_true rfl) ?_
    clear hf; intro a w hf hp0; clear hp; have hp := hp0; clear hp0
    replace hp : Hp _ _ _ (Res.obj 56 v5 [.int .i64 (0 : Int), .int .i64 (0 : Int)] :: Res.obj 56 v3 [.int .i64 bx1_Re, .int .i64 bx1_Im] :: Res.obj 56 v1 [.int .i64 ax0_Re, .int .i64 ax0_Im] :: ow) := hp
    refine st_assign hf rfl rfl (by decide) ?_
    clear hf; intro a ha hf; clear ha
    refine st_nil hf ?_
    refine th_n ?_
    refine wp_ret ?_
    refine th_r ?_
    refine ng_r ?_
    obtain rfl := Option.some.inj h
    have hp : Hp _ _ _ (Res.obj 56 v5 [.int .i64 (0 : Int), .int .i64 (0 : Int)] :: ow) := Hp.sel (pre := [Res.obj 56 v5 [.int .i64 (0 : Int), .int .i64 (0 : Int)], Res.obj 56 v3 [.int .i64 bx1_Re, .int .i64 bx1_Im], Res.obj 56 v1 [.int .i64 ax0_Re, .int .i64 ax0_Im]]) (tail := ow) (rs' := [Res.obj 56 v5 [.int .i64 (0 : Int), .int .i64 (0 : Int)]]) hp [0] (by decide) (by simp) rfl
    exact ⟨rfl, ⟨_, hf.sub ⟨rfl, rfl, trivial⟩, hp⟩⟩
  replace h := ifF h hb
  refine wp_skip ?_
  refine th_n ?_
  refine wp_seq ?_
  refine wp_label ?_
  refine th_n ?_
  refine wp_seq ?_
  refine wp_block ?_
  obtain ⟨q29, hl, h⟩ := bnd h
  have hp : Hp _ _ _ (Res.obj 56 v1 [.int .i64 ax0_Re, .int .i64 ax0_Im] :: Res.obj 56 v3 [.int .i64 bx1_Re, .int .i64 bx1_Im] :: Res.obj 56 v5 [.int .i64 (0 : Int), .int .i64 (0 : Int)] :: ow) := Hp.sel (pre := [Res.obj 56 v5 [.int .i64 (0 : Int), .int .i64 (0 : Int)], Res.obj 56 v3 [.int .i64 bx1_Re, .int .i64 bx1_Im], Res.obj 56 v1 [.int .i64 ax0_Re, .int .i64 ax0_Im]]) (tail := ow) (rs' := [Res.obj 56 v1 [.int .i64 ax0_Re, .int .i64 ax0_Im], Res.obj 56 v3 [.int .i64 bx1_Re, .int .i64 bx1_Im], Res.obj 56 v5 [.int .i64 (0 : Int), .int .i64 (0 : Int)]]) hp [2, 1, 0] (by decide) (by simp) rfl
  refine wp_loop_pure (f := f_plane_Gcd.s1) (s := (ax0_Re, ax0_Im, bx1_Re, bx1_Im)) (fun s a w => Fr 49 a [(2, optr v1 0), (3, optr v3 0), (4, optr v5 0)] ∧ Hp S w0 w (Res.obj 56 v1 [.int .i64 s.1, .int .i64 s.2.1] :: Res.obj 56 v3 [.int .i64 s.2.2.1, .int .i64 s.2.2.2] :: Res.obj 56 v5 [.int .i64 (0 : Int), .int .i64 (0 : Int)] :: ow)) (fun q e a w => e = .exit 0 ∧ Fr 49 a [(2, optr v1 0), (4, optr v5 0)] ∧ Hp S w0 w (Res.obj 56 v1 [.int .i64 q.1, .int .i64 q.2] :: Res.obj 56 v5 [.int .i64 (0 : Int), .int .i64 (0 : Int)] :: ow)) ?_ hl ⟨hf.sub ⟨rfl, rfl, rfl, trivial⟩, hp⟩ ?_
  · clear hl hf hp
    intro s x a w h hI
    obtain ⟨ax2c_0, ax2c_1, bx3c_0, bx3c_1⟩ := s
    obtain ⟨hf, hp⟩ : Fr 49 a [(2, optr v1 0), (3, optr v3 0), (4, optr v5 0)] ∧ Hp S w0 w (Res.obj 56 v1 [.int .i64 ax2c_0, .int .i64 ax2c_1] :: Res.obj 56 v3 [.int .i64 bx3c_0, .int .i64 bx3c_1] :: Res.obj 56 v5 [.int .i64 (0 : Int), .int .i64 (0 : Int)] :: ow) := hI
    replace h : f_plane_Gcd.s1c ax2c_0 ax2c_1 bx3c_0 bx3c_1 = some x := h
    unfold f_plane_Gcd.s1c at h
    refine wp_block ?_
    refine wp_seq ?_
    refine wp_seq ?_
    refine wp_reg ?_
    refine st_ldOA (m := 2) (us := [.int .i64 bx3c_0, .int .i64 bx3c_1]) hf (by decide) (by kernel_rfl) rfl rfl (hp.ob (i := 1) rfl) rfl rfl ?_
    clear hf; intro a ha hf; clear ha
    refine st_buildA (vals := []) (cells := [.int .i64 (0 : Int), .int .i64 (0 : Int)]) hf (by decide) rfl (by simp []) (fun w => by kernel_rfl) ?_
    clear hf; intro a ha hf; clear ha
    refine st_eqA (xs := [.int .i64 bx3c_0, .int .i64 bx3c_1]) (ys := [.int .i64 (0 : Int), .int .i64 (0 : Int)]) hf (by decide) (by kernel_rfl) (by kernel_rfl) (by kernel_rfl) (by kernel_rfl) rfl rfl rfl (b := ((bx3c_0 == (0 : Int)) && ((bx3c_1 == (0 : Int)) && true))) rfl ?_
    clear hf; intro a ha hf; clear ha
    refine st_nil hf ?_
    refine th_n ?_
    refine wp_if hf rfl (fun hb => ?_) (fun hb => ?_)
    · replace h := ifT h hb
      refine wp_exit ?_
      refine th_e ?_
      refine ib_ne rfl ?_
      obtain rfl := Option.some.inj h
      have hp : Hp _ _ _ (Res.obj 56 v1 [.int .i64 ax2c_0, .int .i64 ax2c_1] :: Res.obj 56 v5 [.int .i64 (0 : Int), .int .i64 (0 : Int)] :: ow) := Hp.sel (pre := [Res.obj 56 v1 [.int .i64 ax2c_0, .int .i64 ax2c_1], Res.obj 56 v3 [.int .i64 bx3c_0, .int .i64 bx3c_1], Res.obj 56 v5 [.int .i64 (0 : Int), .int .i64 (0 : Int)]]) (tail := ow) (rs' := [Res.obj 56 v1 [.int .i64 ax2c_0, .int .i64 ax2c_1], Res.obj 56 v5 [.int .i64 (0 : Int), .int .i64 (0 : Int)]]) hp [0, 2] (by decide) (by simp) rfl
      exact rnd_r (by simp) ⟨rfl, hf.sub ⟨rfl, rfl, trivial⟩, hp⟩
    replace h := ifF h hb
    refine wp_skip ?_
    refine th_n ?_
    refine wp_seq ?_
    refine wp_reg ?_
    refine st_ldOA (m := 2) (us := [.int .i64 ax2c_0, .int .i64 ax2c_1]) hf (by decide) (by kernel_rfl) rfl rfl (hp.ob (i := 0) rfl) rfl rfl ?_
    clear hf; intro a ha hf; clear ha
    refine st_ldOA (m := 2) (us := [.int .i64 bx3c_0, .int .i64 bx3c_1]) hf (by decide) (by kernel_rfl) rfl rfl (hp.ob (i := 1) rfl) rfl rfl ?_
    clear hf; intro a ha hf; clear ha
    obtain ⟨q17, hcall18, h⟩ := bnd h
    refine st_call hf (by decide) Try.func57 rfl rfl rfl rfl rfl (f_plane_Gauss_by_c hp _ _ _ _ hcall18) ?_
    rintro _ w ⟨rfl, hp0⟩
    clear hp; have hp := hp0; clear hp0
    replace hp : Hp _ _ _ (Res.obj 56 v1 [.int .i64 ax2c_0, .int .i64 ax2c_1] :: Res.obj 56 v3 [.int .i64 bx3c_0, .int .i64 bx3c_1] :: Res.obj 56 v5 [.int .i64 (0 : Int), .int .i64 (0 : Int)] :: ow) := hp
    refine ⟨_, rfl, ?_⟩
    clear hf; intro a hf
    refine st_move hf rfl rfl (by decide) ?_
    clear hf; intro a ha hf; clear ha
    refine st_extract hf (by decide) rfl rfl rfl ?_
    clear hf; intro a ha hf; clear ha
    refine st_extract hf (by decide) rfl rfl rfl ?_
    clear hf; intro a ha hf; clear ha
    refine st_alloc (cs := [.int .i64 (0 : Int), .int .i64 (0 : Int)]) (zv := .agg #[.int .i64 (0 : Int), .int .i64 (0 : Int)]) hf (by decide) (by kernel_rfl) rfl hp rfl ?_
    clear hf; intro a w v19 hf hp0; clear hp; have hp := hp0; clear hp0
    replace hp : Hp _ _ _ (Res.obj 56 v19 [.int .i64 (0 : Int), .int .i64 (0 : Int)] :: Res.obj 56 v1 [.int .i64 ax2c_0, .int .i64 ax2c_1] :: Res.obj 56 v3 [.int .i64 bx3c_0, .int .i64 bx3c_1] :: Res.obj 56 v5 [.int .i64 (0 : Int), .int .i64 (0 : Int)] :: ow) := hp
    refine st_alloc (cs := [.int .i64 (0 : Int), .int .i64 (0 : Int)]) (zv := .agg #[.int .i64 (0 : Int), .int .i64 (0 : Int)]) hf (by decide) (by kernel_rfl) rfl hp rfl ?_
    clear hf; intro a w v21 hf hp0; clear hp; have hp := hp0; clear hp0
    replace hp : Hp _ _ _ (Res.obj 56 v21 [.int .i64 (0 : Int), .int .i64 (0 : Int)] :: Res.obj 56 v19 [.int .i64 (0 : Int), .int .i64 (0 : Int)] :: Res.obj 56 v1 [.int .i64 ax2c_0, .int .i64 ax2c_1] :: Res.obj 56 v3 [.int .i64 bx3c_0, .int .i64 bx3c_1] :: Res.obj 56 v5 [.int .i64 (0 : Int), .int .i64 (0 : Int)] :: ow) := hp
    refine st_stO (us := [.int .i64 q17.1.1, .int .i64 q17.1.2]) hf hp (i := 1) rfl rfl rfl rfl rfl (by rfl) (by kernel_rfl) (Nat.le_of_ble_eq_true rfl) ?_
    clear hf; intro a w hf hp0; clear hp; have hp := hp0; clear hp0
    replace hp : Hp _ _ _ (Res.obj 56 v21 [.int .i64 (0 : Int), .int .i64 (0 : Int)] :: Res.obj 56 v19 [.int .i64 q17.1.1, .int .i64 q17.1.2] :: Res.obj 56 v1 [.int .i64 ax2c_0, .int .i64 ax2c_1] :: Res.obj 56 v3 [.int .i64 bx3c_0, .int .i64 bx3c_1] :: Res.obj 56 v5 [.int .i64 (0 : Int), .int .i64 (0 : Int)] :: ow) := hp
    refine st_stO (us := [.int .i64 q17.2.1, .int .i64 q17.2.2]) hf hp (i := 0) rfl rfl rfl rfl rfl (by rfl) (by kernel_rfl) (Nat.le_of_ble_eq_true rfl) ?_
    clear hf; intro a w hf hp0; clear hp; have hp := hp0; clear hp0
    replace hp : Hp _ _ _ (Res.obj 56 v21 [.int .i64 q17.2.1, .int .i64 q17.2.2] :: Res.obj 56 v19 [.int .i64 q17.1.1, .int .i64 q17.1.2] :: Res.obj 56 v1 [.int .i64 ax2c_0, .int .i64 ax2c_1] :: Res.obj 56 v3 [.int .i64 bx3c_0, .int .i64 bx3c_1] :: Res.obj 56 v5 [.int .i64 (0 : Int), .int .i64 (0 : Int)] :: ow) := hp
    refine st_nil hf ?_
    refine th_n ?_
    obtain ⟨S23, hp24, rd25, up26, bk27⟩ := Hp.lendO hp (i := 0) rfl
    have rl28 := rd25
    refine wp_cutN (fun a w => Fr 49 a [(2, optr v1 0), (3, optr v3 0), (4, optr v5 0)] ∧ Hp S w0 w (Res.obj 56 v21 [.int .i64 q17.2.1, .int .i64 q17.2.2] :: Res.obj 56 v19 [.int .i64 q17.1.1, .int .i64 q17.1.2] :: Res.obj 56 v1 [.int .i64 bx3c_0, .int .i64 bx3c_1] :: Res.obj 56 v3 [.int .i64 q17.2.1, .int .i64 q17.2.2] :: Res.obj 56 v5 [.int .i64 (0 : Int), .int .i64 (0 : Int)] :: ow)) ?_ ?_
    · have hp := hp24.same (Same.drew w)
      refine dr_begin' (fun a w => Fr 49 a [(2, optr v1 0), (3, optr v3 0), (4, optr v5 0)] ∧ Hp S w0 w (Res.obj 56 v21 [.int .i64 q17.2.1, .int .i64 q17.2.2] :: Res.obj 56 v19 [.int .i64 q17.1.1, .int .i64 q17.1.2] :: Res.obj 56 v1 [.int .i64 bx3c_0, .int .i64 bx3c_1] :: Res.obj 56 v3 [.int .i64 q17.2.1, .int .i64 q17.2.2] :: Res.obj 56 v5 [.int .i64 (0 : Int), .int .i64 (0 : Int)] :: ow)) (fun w' => ∃ l, Hp S23 w w' l) [] (by kernel_rfl) ?_
      refine dr_take 1 (.agg #[.int .i64 q17.2.1, .int .i64 q17.2.2]) rfl (by kernel_rfl) (by kernel_rfl) (by kernel_rfl) (by kernel_rfl) rfl rfl hf (by decide) rfl (fun w hp => ?_) ⟨_, hp⟩ ?_
      · obtain ⟨_, hp⟩ := hp
        refine st_ldOA (m := 2) (us := [.int .i64 q17.2.1, .int .i64 q17.2.2]) hf (by decide) (by kernel_rfl) rfl rfl (rl28.ob hp) rfl rfl ?_
        clear hf; intro a ha hf
        exact st_nil hf (th_n ⟨ha, rfl⟩)
      clear hf; intro a hf
      refine dr_one 0 rfl (by kernel_rfl) ?_
      refine st_ldOA (m := 2) (us := [.int .i64 bx3c_0, .int .i64 bx3c_1]) hf (by decide) (by kernel_rfl) rfl rfl (hp.ob (i := 2) rfl) rfl rfl ?_
      clear hf; intro a ha hf; clear ha
      refine st_nil hf (th_n ⟨fun _ _ => ⟨_, hp⟩, ?_⟩)
      refine dr_one 2 rfl (by kernel_rfl) ?_
      refine st_stO (us := [.int .i64 bx3c_0, .int .i64 bx3c_1]) hf hp (i := 1) rfl rfl rfl rfl rfl (by rfl) (by kernel_rfl) (Nat.le_of_ble_eq_true rfl) ?_
      clear hf; intro a w hf hp0; clear hp; have hp := hp0; clear hp0
      replace hp : Hp _ _ _ (Res.obj 56 v19 [.int .i64 q17.1.1, .int .i64 q17.1.2] :: Res.obj 56 v1 [.int .i64 bx3c_0, .int .i64 bx3c_1] :: Res.obj 56 v3 [.int .i64 bx3c_0, .int .i64 bx3c_1] :: Res.obj 56 v5 [.int .i64 (0 : Int), .int .i64 (0 : Int)] :: ow) := hp
      refine st_nil hf (th_n ⟨fun _ _ => ⟨_, hp⟩, ?_⟩)
      refine dr_one 3 rfl (by kernel_rfl) ?_
      refine st_stO (us := [.int .i64 q17.2.1, .int .i64 q17.2.2]) hf hp (i := 2) rfl rfl rfl rfl rfl (by rfl) (by kernel_rfl) (Nat.le_of_ble_eq_true rfl) ?_
      clear hf; intro a w hf hp0; clear hp; have hp := hp0; clear hp0
      replace hp : Hp _ _ _ (Res.obj 56 v19 [.int .i64 q17.1.1, .int .i64 q17.1.2] :: Res.obj 56 v1 [.int .i64 bx3c_0, .int .i64 bx3c_1] :: Res.obj 56 v3 [.int .i64 q17.2.1, .int .i64 q17.2.2] :: Res.obj 56 v5 [.int .i64 (0 : Int), .int .i64 (0 : Int)] :: ow) := hp
      refine st_nil hf (th_n ⟨fun _ _ => ⟨_, hp⟩, ?_⟩)
      refine dr_end (by kernel_rfl) ?_ _
      have hp := bk27 _ _ hp
      exact ⟨hf.sub ⟨rfl, rfl, rfl, trivial⟩, hp⟩
    rintro a w ⟨hf, hp⟩
    refine ib_n ?_
    obtain rfl := Option.some.inj h
    have hp : Hp _ _ _ (Res.obj 56 v1 [.int .i64 bx3c_0, .int .i64 bx3c_1] :: Res.obj 56 v3 [.int .i64 q17.2.1, .int .i64 q17.2.2] :: Res.obj 56 v5 [.int .i64 (0 : Int), .int .i64 (0 : Int)] :: ow) := Hp.sel (pre := [Res.obj 56 v21 [.int .i64 q17.2.1, .int .i64 q17.2.2], Res.obj 56 v19 [.int .i64 q17.1.1, .int .i64 q17.1.2], Res.obj 56 v1 [.int .i64 bx3c_0, .int .i64 bx3c_1], Res.obj 56 v3 [.int .i64 q17.2.1, .int .i64 q17.2.2], Res.obj 56 v5 [.int .i64 (0 : Int), .int .i64 (0 : Int)]]) (tail := ow) (rs' := [Res.obj 56 v1 [.int .i64 bx3c_0, .int .i64 bx3c_1], Res.obj 56 v3 [.int .i64 q17.2.1, .int .i64 q17.2.2], Res.obj 56 v5 [.int .i64 (0 : Int), .int .i64 (0 : Int)]]) hp [2, 3, 4] (by decide) (by simp) rfl
    exact rnd_l ⟨hf.sub ⟨rfl, rfl, rfl, trivial⟩, hp⟩
  clear hl hf hp
  intro e a w hne hO
  obtain ⟨rfl, hf, hp⟩ := hO
  refine ib_same ?_
  refine th_n ?_
  refine wp_seq ?_
  refine wp_block ?_
  obtain ⟨q36, hl, h⟩ := bnd h
  refine wp_loop_pure (f := f_plane_Gcd.s2) (s := (q29.1, q29.2)) (fun s a w => Fr 49 a [(2, optr v1 0), (4, optr v5 0)] ∧ Hp S w0 w (Res.obj 56 v1 [.int .i64 s.1, .int .i64 s.2] :: Res.obj 56 v5 [.int .i64 (0 : Int), .int .i64 (0 : Int)] :: ow)) (fun q e a w => e = .exit 2 ∧ Fr 49 a [(2, optr v1 0), (4, optr v5 0)] ∧ Hp S w0 w (Res.obj 56 v1 [.int .i64 q.1, .int .i64 q.2] :: Res.obj 56 v5 [.int .i64 (0 : Int), .int .i64 (0 : Int)] :: ow)) ?_ hl ⟨hf.sub ⟨rfl, rfl, trivial⟩, hp⟩ ?_
  · clear hl hf hp
    intro s x a w h hI
    obtain ⟨ax2c_0, ax2c_1⟩ := s
    obtain ⟨hf, hp⟩ : Fr 49 a [(2, optr v1 0), (4, optr v5 0)] ∧ Hp S w0 w (Res.obj 56 v1 [.int .i64 ax2c_0, .int .i64 ax2c_1] :: Res.obj 56 v5 [.int .i64 (0 : Int), .int .i64 (0 : Int)] :: ow) := hI
    replace h : f_plane_Gcd.s2c ax2c_0 ax2c_1 = some x := h
    unfold f_plane_Gcd.s2c at h
    refine wp_seq ?_
    refine wp_seq ?_
    refine wp_reg ?_
    refine st_ldOA (m := 2) (us := [.int .i64 ax2c_0, .int .i64 ax2c_1]) hf (by decide) (by kernel_rfl) rfl rfl (hp.ob (i := 0) rfl) rfl rfl ?_
    clear hf; intro a ha hf; clear ha
    refine st_buildA (vals := []) (cells := [.int .i64 (0 : Int), .int .i64 (0 : Int)]) hf (by decide) rfl (by simp []) (fun w => by kernel_rfl) ?_
    clear hf; intro a ha hf; clear ha
    refine st_neA (xs := [.int .i64 ax2c_0, .int .i64 ax2c_1]) (ys := [.int .i64 (0 : Int), .int .i64 (0 : Int)]) hf (by decide) (by kernel_rfl) (by kernel_rfl) (by kernel_rfl) (by kernel_rfl) rfl rfl rfl (b := (!((ax2c_0 == (0 : Int)) && ((ax2c_1 == (0 : Int)) && true)))) rfl ?_
    clear hf; intro a ha hf; clear ha
    refine st_move hf rfl rfl (by decide) ?_
    clear hf; intro a ha hf; clear ha
    refine wpList_cut 10 (fun a w => Fr 49 a [(2, optr v1 0), (4, optr v5 0), (41, .bool ((!((ax2c_0 == (0 : Int)) && ((ax2c_1 == (0 : Int)) && true))) && (!((decide ((0 : Int) < ax2c_0)) && (decide ((0 : Int) ≤ ax2c_1))))))] ∧ Hp S w0 w (Res.obj 56 v1 [.int .i64 ax2c_0, .int .i64 ax2c_1] :: Res.obj 56 v5 [.int .i64 (0 : Int), .int .i64 (0 : Int)] :: ow)) ?_ ?_
    · rcases Bool.eq_false_or_eq_true (!((ax2c_0 == (0 : Int)) && ((ax2c_1 == (0 : Int)) && true))) with hb33 | hb33
      · skip
        refine st_fa (o' := 0) hf (by decide) (off := 0) (sz := 1) (by kernel_rfl) (by decide) (wantY hf rfl rfl hb33) rfl (hp.ob (i := 0) rfl) rfl ?_
        clear hf; intro a ha hf; clear ha
        refine st_ldO (u := .int .i64 ax2c_0) hf (by decide) pl2 (wantY hf rfl rfl hb33) rfl (hp.ob (i := 0) rfl) rfl ?_
        clear hf; intro a ha hf; clear ha
        refine st_igtr hf (by decide) (wantY hf rfl rfl hb33) rfl rfl ?_
        clear hf; intro a ha hf; clear ha
        refine st_move hf (wantY hf rfl rfl hb33) rfl (by decide) ?_
        clear hf; intro a ha hf; clear ha
        refine wpList_cut 4 (fun a w => Fr 49 a [(2, optr v1 0), (4, optr v5 0), (31, .bool (!((ax2c_0 == (0 : Int)) && ((ax2c_1 == (0 : Int)) && true)))), (39, .bool ((decide ((0 : Int) < ax2c_0)) && (decide ((0 : Int) ≤ ax2c_1))))] ∧ Hp S w0 w (Res.obj 56 v1 [.int .i64 ax2c_0, .int .i64 ax2c_1] :: Res.obj 56 v5 [.int .i64 (0 : Int), .int .i64 (0 : Int)] :: ow)) ?_ ?_
        · rcases Bool.eq_false_or_eq_true (decide ((0 : Int) < ax2c_0)) with hb35 | hb35
          · skip
            refine st_fa (o' := 1) hf (by decide) (off := 1) (sz := 1) (by kernel_rfl) (by decide) (wantY hf rfl rfl hb35) rfl (hp.ob (i := 0) rfl) rfl ?_
            clear hf; intro a ha hf; clear ha
            refine st_ldO (u := .int .i64 ax2c_1) hf (by decide) pl2 (wantY hf rfl rfl hb35) rfl (hp.ob (i := 0) rfl) rfl ?_
            clear hf; intro a ha hf; clear ha
            refine st_igeq hf (by decide) (wantY hf rfl rfl hb35) rfl rfl ?_
            clear hf; intro a ha hf; clear ha
            refine st_pick (v := .bool (decide ((0 : Int) ≤ ax2c_1))) hf (wantY hf rfl rfl hb33) rfl (fun hb' => ?_) (fun hb' => ?_) (by decide) ?_
            · rfl
            · exact absurd (hb35.symm.trans hb') (by decide)
            clear hf; intro a ha hf; clear ha
            refine st_nil hf (th_n ?_)
            exact ⟨hf.sub ⟨rfl, rfl, rfl, (by rw [hb35]; rfl), trivial⟩, hp⟩
          refine st_skip hf (wantN hf rfl rfl hb35) rfl (by decide) ?_ rfl
          clear hf; intro a hf
          refine st_skip hf (wantN hf rfl rfl hb35) rfl (by decide) ?_ rfl
          clear hf; intro a hf
          refine st_skip hf (wantN hf rfl rfl hb35) rfl (by decide) ?_ rfl
          clear hf; intro a hf
          refine st_pick (v := .bool false) hf (wantY hf rfl rfl hb33) rfl (fun hb' => ?_) (fun hb' => ?_) (by decide) ?_
          · exact absurd (hb35.symm.trans hb') (by decide)
          · rfl
          clear hf; intro a ha hf; clear ha
          refine st_nil hf (th_n ?_)
          exact ⟨hf.sub ⟨rfl, rfl, rfl, (by rw [hb35]; rfl), trivial⟩, hp⟩
        rintro a w ⟨hf, hp⟩
        refine st_not hf (by decide) (wantY hf rfl rfl hb33) rfl ?_
        clear hf; intro a ha hf; clear ha
        refine st_pick (v := .bool (!((decide ((0 : Int) < ax2c_0)) && (decide ((0 : Int) ≤ ax2c_1))))) hf rfl rfl (fun hb' => ?_) (fun hb' => ?_) (by decide) ?_
        · rfl
        · exact absurd (hb33.symm.trans hb') (by decide)
        clear hf; intro a ha hf; clear ha
        refine st_nil hf (th_n ?_)
        exact ⟨hf.sub ⟨rfl, rfl, (by rw [hb33]; rfl), trivial⟩, hp⟩
      refine st_skip hf (wantN hf rfl rfl hb33) rfl (by decide) ?_ rfl
      clear hf; intro a hf
      refine st_skip hf (wantN hf rfl rfl hb33) rfl (by decide) ?_ rfl
      clear hf; intro a hf
      refine st_skip hf (wantN hf rfl rfl hb33) rfl (by decide) ?_ rfl
      clear hf; intro a hf
      refine st_skipU hf (wantN hf rfl rfl hb33) rfl (by decide) ?_
      clear hf; intro a hf
      refine st_skip hf (wantU hf rfl rfl) rfl (by decide) ?_ rfl
      clear hf; intro a hf
      refine st_skip hf (wantU hf rfl rfl) rfl (by decide) ?_ rfl
      clear hf; intro a hf
      refine st_skip hf (wantU hf rfl rfl) rfl (by decide) ?_ rfl
      clear hf; intro a hf
      refine st_skip hf (wantN hf rfl rfl hb33) rfl (by decide) ?_ rfl
      clear hf; intro a hf
      refine st_skip hf (wantN hf rfl rfl hb33) rfl (by decide) ?_ rfl
      clear hf; intro a hf
      refine st_pick (v := .bool false) hf rfl rfl (fun hb' => ?_) (fun hb' => ?_) (by decide) ?_
      · exact absurd (hb33.symm.trans hb') (by decide)
      · rfl
      clear hf; intro a ha hf; clear ha
      refine st_nil hf (th_n ?_)
      exact ⟨hf.sub ⟨rfl, rfl, (by rw [hb33]; rfl), trivial⟩, hp⟩
    rintro a w ⟨hf, hp⟩
    refine st_nil hf ?_
    refine th_n ?_
    refine wp_if hf rfl (fun hb => ?_) (fun hb => ?_)
    · replace h := ifT h hb
      refine wp_skip ?_
      refine th_n ?_
      refine wp_block ?_
      refine wp_reg ?_
      refine st_fa (o' := 1) hf (by decide) (off := 1) (sz := 1) (by kernel_rfl) (by decide) rfl rfl (hp.ob (i := 0) rfl) rfl ?_
      clear hf; intro a ha hf; clear ha
      refine st_ldO (u := .int .i64 ax2c_1) hf (by decide) pl2 rfl rfl (hp.ob (i := 0) rfl) rfl ?_
      clear hf; intro a ha hf; clear ha
      refine st_ineg hf (by decide) rfl rfl ?_
      clear hf; intro a ha hf; clear ha
      refine st_fa (o' := 0) hf (by decide) (off := 0) (sz := 1) (by kernel_rfl) (by decide) rfl rfl (hp.ob (i := 0) rfl) rfl ?_
      clear hf; intro a ha hf; clear ha
      refine st_ldO (u := .int .i64 ax2c_0) hf (by decide) pl2 rfl rfl (hp.ob (i := 0) rfl) rfl ?_
      clear hf; intro a ha hf; clear ha
      refine st_buildA (vals := [(0, .int .i64 (IntKind.i64.wrap (0 - ax2c_1))), (1, .int .i64 ax2c_0)]) (cells := [.int .i64 (IntKind.i64.wrap (0 - ax2c_1)), .int .i64 ax2c_0]) hf (by decide) rfl (by simp [hf.ev (x := (Operand.tmp 44)) rfl, hf.ev (x := (Operand.tmp 46)) rfl]) (fun w => by kernel_rfl) ?_
      clear hf; intro a ha hf; clear ha
      refine st_stO (us := [.int .i64 (IntKind.i64.wrap (0 - ax2c_1)), .int .i64 ax2c_0]) hf hp (i := 0) rfl rfl rfl rfl rfl (by rfl) (by kernel_rfl) (Nat.le_of_ble_eq_true rfl) ?_
      clear hf; intro a w hf hp0; clear hp; have hp := hp0; clear hp0
      replace hp : Hp _ _ _ (Res.obj 56 v1 [.int .i64 (IntKind.i64.wrap (0 - ax2c_1)), .int .i64 ax2c_0] :: Res.obj 56 v5 [.int .i64 (0 : Int), .int .i64 (0 : Int)] :: ow) := hp
      refine st_nil hf ?_
      refine ib_n ?_
      obtain rfl := Option.some.inj h
      exact rnd_l ⟨hf.sub ⟨rfl, rfl, trivial⟩, hp⟩
    replace h := ifF h hb
    refine wp_exit ?_
    refine th_e ?_
    obtain rfl := Option.some.inj h
    exact rnd_r (by simp) ⟨rfl, hf.sub ⟨rfl, rfl, trivial⟩, hp⟩
  clear hl hf hp
  intro e a w hne hO
  obtain ⟨rfl, hf, hp⟩ := hO
  refine ib_same ?_
  refine th_n ?_
  refine wp_seq ?_
  refine wp_reg ?_
  refine st_ldOA (m := 2) (us := [.int .i64 q36.1, .int .i64 q36.2]) hf (by decide) (by kernel_rfl) rfl rfl (hp.ob (i := 0) rfl) rfl rfl ?_
  clear hf; intro a ha hf; clear ha
  refine st_stO (us := [.int .i64 q36.1, .int .i64 q36.2]) hf hp (i := 1) rfl rfl rfl rfl rfl (by rfl) (by kernel_rfl) (Nat.le_of_ble_eq_true rfl) ?_
  clear hf; intro a w hf hp0; clear hp; have hp := hp0; clear hp0
  replace hp : Hp _ _ _ (Res.obj 56 v1 [.int .i64 q36.1, .int .i64 q36.2] :: Res.obj 56 v5 [.int .i64 q36.1, .int .i64 q36.2] :: ow) := hp
  refine st_assign hf rfl rfl (by decide) ?_
  clear hf; intro a ha hf; clear ha
  refine st_nil hf ?_
  refine th_n ?_
  refine wp_ret ?_
  refine ng_r ?_
  obtain rfl := Option.some.inj h
  have hp : Hp _ _ _ (Res.obj 56 v5 [.int .i64 q36.1, .int .i64 q36.2] :: ow) := Hp.sel (pre := [Res.obj 56 v1 [.int .i64 q36.1, .int .i64 q36.2], Res.obj 56 v5 [.int .i64 q36.1, .int .i64 q36.2]]) (tail := ow) (rs' := [Res.obj 56 v5 [.int .i64 q36.1, .int .i64 q36.2]]) hp [1] (by decide) (by simp) rfl
  exact ⟨rfl, ⟨_, hf.sub ⟨rfl, rfl, trivial⟩, hp⟩⟩

end Go.Proofs.Yteifkccomfdciaa
