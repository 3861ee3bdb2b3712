/- The functions foghorn foghornlaw03.PlaneRests: what each answers, as a plain function, and that its call answers it; printed by gen.py. -/
import Derived.Test.YteifkccomfdciaaProg
import Derived.Test.YteifkccomfdciaaGlY
import Derived.KernelRfl
import Derived.Test.YteifkccomfdciaaG5p1
set_option linter.unusedVariables false
set_option linter.unusedSimpArgs false
set_option maxRecDepth 100000
set_option maxHeartbeats 4000000
namespace Go.Proofs.Yteifkccomfdciaa
open GL
noncomputable def f_foghornlaw03_PlaneRests (ax0_0 : Int) (ax0_1 : Int) (bx1_0 : Int) (bx1_1 : Int) (cx2_0 : Int) (cx2_1 : Int) : Option Bool := ((f_plane_Gauss_Times (IntKind.i64.wrap ax0_0) (IntKind.i64.wrap ax0_1) (IntKind.i64.wrap ((cx2_0).tmod (99 : Int))) (IntKind.i64.wrap ((cx2_1).tmod (99 : Int)))).bind fun q13 => ((f_plane_Gauss_Times (IntKind.i64.wrap bx1_0) (IntKind.i64.wrap bx1_1) (IntKind.i64.wrap ((cx2_0).tmod (99 : Int))) (IntKind.i64.wrap ((cx2_1).tmod (99 : Int)))).bind fun q15 => (if ((q13.2 != (0 : Int)) || (q15.2 != (0 : Int))) = true then (some false) else ((f_plane_Gcd q13.1.1 q13.1.2 q15.1.1 q15.1.2).bind fun q19 => ((if (q19.2 != (0 : Int)) = true then (some true) else ((f_foghornlaw03_divides q19.1.1 q19.1.2 q13.1.1 q13.1.2).bind fun q26 => (some (!q26)))).bind fun z25 => ((if z25 = true then (some true) else ((f_foghornlaw03_divides q19.1.1 q19.1.2 q15.1.1 q15.1.2).bind fun q31 => (some (!q31)))).bind fun z30 => ((if z30 = true then (some true) else ((f_foghornlaw03_divides (IntKind.i64.wrap ((cx2_0).tmod (99 : Int))) (IntKind.i64.wrap ((cx2_1).tmod (99 : Int))) q19.1.1 q19.1.2).bind fun q36 => (some (!q36)))).bind fun z35 => (if (z35 || ((!((q19.1.1 == (0 : Int)) && ((q19.1.2 == (0 : Int)) && true))) && ((decide (q19.1.1 ≤ (0 : Int))) || (decide (q19.1.2 < (0 : Int)))))) = true then (some false) else ((f_plane_Gauss_By q13.1.1 q13.1.2 q15.1.1 q15.1.2).bind fun q44 => (if ((q15.1.1 == (0 : Int)) && ((q15.1.2 == (0 : Int)) && true)) = true then ((if (q44.2.2 == (6 : Int)) = true then ((f_foghornlaw03_awake).bind fun q53 => (some q53)) else (some false)).bind fun z52 => (some z52)) else ((f_plane_Gauss_Times q44.1.1 q44.1.2 q15.1.1 q15.1.2).bind fun q55 => ((f_plane_Gauss_Norm q44.2.1.1 q44.2.1.2).bind fun q59 => ((f_plane_Gauss_Norm q15.1.1 q15.1.2).bind fun q61 => ((if (((((((q44.2.2 == (0 : Int)) && (q55.2 == (0 : Int))) && (q59.2 == (0 : Int))) && (q61.2 == (0 : Int))) && ((IntKind.i64.wrap (q55.1.1 + q44.2.1.1)) == q13.1.1)) && ((IntKind.i64.wrap (q55.1.2 + q44.2.1.2)) == q13.1.2)) && (decide ((IntKind.i64.wrap ((2 : Int) * q59.1)) ≤ q61.1))) = true then ((f_foghornlaw03_awake).bind fun q78 => (some q78)) else (some false)).bind fun z77 => (some z77)))))))))))))))
theorem f_foghornlaw03_PlaneRests_c {S : Nat → Prop} {w0 w : World} {ow : List Res} (hp : Hp S w0 w ow) (ax0_0 : Int) (ax0_1 : Int) (bx1_0 : Int) (bx1_1 : Int) (cx2_0 : Int) (cx2_1 : Int) {r : Bool} (h : f_foghornlaw03_PlaneRests ax0_0 ax0_1 bx1_0 bx1_1 cx2_0 cx2_1 = some r) :
    Calls Try.prog 7 #[.agg #[.int .i16 ax0_0, .int .i16 ax0_1], .agg #[.int .i16 bx1_0, .int .i16 bx1_1], .agg #[.int .i16 cx2_0, .int .i16 cx2_1]] w (fun e w' => e = .returned (.bool r) ∧ Hp S w0 w' (ow)) := by
  unfold f_foghornlaw03_PlaneRests at h
  refine enter (n := 179) (args := [.agg #[.int .i16 ax0_0, .int .i16 ax0_1], .agg #[.int .i16 bx1_0, .int .i16 bx1_1], .agg #[.int .i16 cx2_0, .int .i16 cx2_1]]) Try.func7 rfl rfl (Nat.le_of_ble_eq_true rfl) fun a hf => ?_
  replace hf : Fr 179 a [(0, .agg #[.int .i16 ax0_0, .int .i16 ax0_1]), (1, .agg #[.int .i16 bx1_0, .int .i16 bx1_1]), (2, .agg #[.int .i16 cx2_0, .int .i16 cx2_1])] := hf
  refine wp_mono (Q := fun e a w => e = .ret ∧ Fr 179 a [(6, .bool r)] ∧ Hp S w0 w (ow)) ?_ ?_
  rotate_left
  · rintro e a w ⟨rfl, hf, hp⟩
    exact ret1 hf rfl rfl ⟨rfl, hp⟩
  refine wp_seq ?_
  refine wp_reg ?_
  refine st_boxO (cs := [.int .i16 ax0_0, .int .i16 ax0_1]) hf (by decide) hp rfl rfl rfl ?_
  clear hf; intro a w v1 hf hp0; clear hp; have hp := hp0; clear hp0
  replace hp : Hp _ _ _ (Res.obj 36 v1 [.int .i16 ax0_0, .int .i16 ax0_1] :: ow) := hp
  refine st_boxO (cs := [.int .i16 bx1_0, .int .i16 bx1_1]) hf (by decide) hp rfl rfl rfl ?_
  clear hf; intro a w v3 hf hp0; clear hp; have hp := hp0; clear hp0
  replace hp : Hp _ _ _ (Res.obj 36 v3 [.int .i16 bx1_0, .int .i16 bx1_1] :: Res.obj 36 v1 [.int .i16 ax0_0, .int .i16 ax0_1] :: ow) := hp
  refine st_boxO (cs := [.int .i16 cx2_0, .int .i16 cx2_1]) hf (by decide) hp rfl rfl rfl ?_
  clear hf; intro a w v5 hf hp0; clear hp; have hp := hp0; clear hp0
  replace hp : Hp _ _ _ (Res.obj 36 v5 [.int .i16 cx2_0, .int .i16 cx2_1] :: Res.obj 36 v3 [.int .i16 bx1_0, .int .i16 bx1_1] :: Res.obj 36 v1 [.int .i16 ax0_0, .int .i16 ax0_1] :: ow) := hp
  refine st_assign hf rfl rfl (by decide) ?_
  clear hf; intro a ha hf; clear ha
  refine st_nil hf ?_
  refine th_n ?_
  refine wp_seq ?_
  refine wp_reg ?_
  refine st_ia (o' := 0) hf (by decide) Try.underlying36 (sz := 1) (by kernel_rfl) rfl rfl rfl (hp.ob (i := 2) rfl) (by decide) (by decide) rfl ?_
  clear hf; intro a ha hf; clear ha
  refine st_ldO (u := .int .i16 ax0_0) hf (by decide) pl35 rfl rfl (hp.ob (i := 2) rfl) rfl ?_
  clear hf; intro a ha hf; clear ha
  refine st_conv_ii hf (by decide) (by rw [Try.underlying35]; rfl) Try.underlying2 rfl rfl ?_
  clear hf; intro a ha hf; clear ha
  refine st_ia (o' := 1) hf (by decide) Try.underlying36 (sz := 1) (by kernel_rfl) rfl rfl rfl (hp.ob (i := 2) rfl) (by decide) (by decide) rfl ?_
  clear hf; intro a ha hf; clear ha
  refine st_ldO (u := .int .i16 ax0_1) hf (by decide) pl35 rfl rfl (hp.ob (i := 2) rfl) rfl ?_
  clear hf; intro a ha hf; clear ha
  refine st_conv_ii hf (by decide) (by rw [Try.underlying35]; rfl) Try.underlying2 rfl rfl ?_
  clear hf; intro a ha hf; clear ha
  refine st_buildA (vals := [(0, .int .i64 (IntKind.i64.wrap ax0_0)), (1, .int .i64 (IntKind.i64.wrap ax0_1))]) (cells := [.int .i64 (IntKind.i64.wrap ax0_0), .int .i64 (IntKind.i64.wrap ax0_1)]) hf (by decide) rfl (by simp [hf.ev (x := (Operand.tmp 25)) rfl, hf.ev (x := (Operand.tmp 28)) rfl]) (fun w => by kernel_rfl) ?_
  clear hf; intro a ha hf; clear ha
  refine st_alloc (cs := [.int .i64 (0 : Int), .int .i64 (0 : Int)]) (zv := .agg #[.int .i64 (0 : Int), .int .i64 (0 : Int)]) hf (by decide) (by kernel_rfl) rfl hp rfl ?_
  clear hf; intro a w v7 hf hp0; clear hp; have hp := hp0; clear hp0
  replace hp : Hp _ _ _ (Res.obj 56 v7 [.int .i64 (0 : Int), .int .i64 (0 : Int)] :: Res.obj 36 v5 [.int .i16 cx2_0, .int .i16 cx2_1] :: Res.obj 36 v3 [.int .i16 bx1_0, .int .i16 bx1_1] :: Res.obj 36 v1 [.int .i16 ax0_0, .int .i16 ax0_1] :: ow) := hp
  refine st_stO (us := [.int .i64 (IntKind.i64.wrap ax0_0), .int .i64 (IntKind.i64.wrap ax0_1)]) hf hp (i := 0) rfl rfl rfl rfl rfl (by rfl) (by kernel_rfl) (Nat.le_of_ble_eq_true rfl) ?_
  clear hf; intro a w hf hp0; clear hp; have hp := hp0; clear hp0
  replace hp : Hp _ _ _ (Res.obj 56 v7 [.int .i64 (IntKind.i64.wrap ax0_0), .int .i64 (IntKind.i64.wrap ax0_1)] :: Res.obj 36 v5 [.int .i16 cx2_0, .int .i16 cx2_1] :: Res.obj 36 v3 [.int .i16 bx1_0, .int .i16 bx1_1] :: Res.obj 36 v1 [.int .i16 ax0_0, .int .i16 ax0_1] :: ow) := hp
  refine st_nil hf ?_
  refine th_n ?_
  refine wp_seq ?_
  refine wp_reg ?_
  refine st_ia (o' := 0) hf (by decide) Try.underlying36 (sz := 1) (by kernel_rfl) rfl rfl rfl (hp.ob (i := 2) rfl) (by decide) (by decide) rfl ?_
  clear hf; intro a ha hf; clear ha
  refine st_ldO (u := .int .i16 bx1_0) hf (by decide) pl35 rfl rfl (hp.ob (i := 2) rfl) rfl ?_
  clear hf; intro a ha hf; clear ha
  refine st_conv_ii hf (by decide) (by rw [Try.underlying35]; rfl) Try.underlying2 rfl rfl ?_
  clear hf; intro a ha hf; clear ha
  refine st_ia (o' := 1) hf (by decide) Try.underlying36 (sz := 1) (by kernel_rfl) rfl rfl rfl (hp.ob (i := 2) rfl) (by decide) (by decide) rfl ?_
  clear hf; intro a ha hf; clear ha
  refine st_ldO (u := .int .i16 bx1_1) hf (by decide) pl35 rfl rfl (hp.ob (i := 2) rfl) rfl ?_
  clear hf; intro a ha hf; clear ha
  refine st_conv_ii hf (by decide) (by rw [Try.underlying35]; rfl) Try.underlying2 rfl rfl ?_
  clear hf; intro a ha hf; clear ha
  refine st_buildA (vals := [(0, .int .i64 (IntKind.i64.wrap bx1_0)), (1, .int .i64 (IntKind.i64.wrap bx1_1))]) (cells := [.int .i64 (IntKind.i64.wrap bx1_0), .int .i64 (IntKind.i64.wrap bx1_1)]) hf (by decide) rfl (by simp [hf.ev (x := (Operand.tmp 32)) rfl, hf.ev (x := (Operand.tmp 35)) rfl]) (fun w => by kernel_rfl) ?_
  clear hf; intro a ha hf; clear ha
  refine st_alloc (cs := [.int .i64 (0 : Int), .int .i64 (0 : Int)]) (zv := .agg #[.int .i64 (0 : Int), .int .i64 (0 : Int)]) hf (by decide) (by kernel_rfl) rfl hp rfl ?_
  clear hf; intro a w v9 hf hp0; clear hp; have hp := hp0; clear hp0
  replace hp : Hp _ _ _ (Res.obj 56 v9 [.int .i64 (0 : Int), .int .i64 (0 : Int)] :: Res.obj 56 v7 [.int .i64 (IntKind.i64.wrap ax0_0), .int .i64 (IntKind.i64.wrap ax0_1)] :: Res.obj 36 v5 [.int .i16 cx2_0, .int .i16 cx2_1] :: Res.obj 36 v3 [.int .i16 bx1_0, .int .i16 bx1_1] :: Res.obj 36 v1 [.int .i16 ax0_0, .int .i16 ax0_1] :: ow) := hp
  refine st_stO (us := [.int .i64 (IntKind.i64.wrap bx1_0), .int .i64 (IntKind.i64.wrap bx1_1)]) hf hp (i := 0) rfl rfl rfl rfl rfl (by rfl) (by kernel_rfl) (Nat.le_of_ble_eq_true rfl) ?_
  clear hf; intro a w hf hp0; clear hp; have hp := hp0; clear hp0
  replace hp : Hp _ _ _ (Res.obj 56 v9 [.int .i64 (IntKind.i64.wrap bx1_0), .int .i64 (IntKind.i64.wrap bx1_1)] :: Res.obj 56 v7 [.int .i64 (IntKind.i64.wrap ax0_0), .int .i64 (IntKind.i64.wrap ax0_1)] :: Res.obj 36 v5 [.int .i16 cx2_0, .int .i16 cx2_1] :: Res.obj 36 v3 [.int .i16 bx1_0, .int .i16 bx1_1] :: Res.obj 36 v1 [.int .i16 ax0_0, .int .i16 ax0_1] :: ow) := hp
  refine st_nil hf ?_
  refine th_n ?_
  refine wp_seq ?_
  refine wp_reg ?_
  refine st_ia (o' := 0) hf (by decide) Try.underlying36 (sz := 1) (by kernel_rfl) rfl rfl rfl (hp.ob (i := 2) rfl) (by decide) (by decide) rfl ?_
  clear hf; intro a ha hf; clear ha
  refine st_ldO (u := .int .i16 cx2_0) hf (by decide) pl35 rfl rfl (hp.ob (i := 2) rfl) rfl ?_
  clear hf; intro a ha hf; clear ha
  refine st_irem hf (by decide) rfl rfl rfl (by decide) ?_
  clear hf; intro a ha hf; clear ha
  refine st_conv_ii hf (by decide) (by rw [Try.underlying35]; rfl) Try.underlying2 rfl rfl ?_
  clear hf; intro a ha hf; clear ha
  refine st_ia (o' := 1) hf (by decide) Try.underlying36 (sz := 1) (by kernel_rfl) rfl rfl rfl (hp.ob (i := 2) rfl) (by decide) (by decide) rfl ?_
  clear hf; intro a ha hf; clear ha
  refine st_ldO (u := .int .i16 cx2_1) hf (by decide) pl35 rfl rfl (hp.ob (i := 2) rfl) rfl ?_
  clear hf; intro a ha hf; clear ha
  refine st_irem hf (by decide) rfl rfl rfl (by decide) ?_
  clear hf; intro a ha hf; clear ha
  refine st_conv_ii hf (by decide) (by rw [Try.underlying35]; rfl) Try.underlying2 rfl rfl ?_
  clear hf; intro a ha hf; clear ha
  refine st_buildA (vals := [(0, .int .i64 (IntKind.i64.wrap ((cx2_0).tmod (99 : Int)))), (1, .int .i64 (IntKind.i64.wrap ((cx2_1).tmod (99 : Int))))]) (cells := [.int .i64 (IntKind.i64.wrap ((cx2_0).tmod (99 : Int))), .int .i64 (IntKind.i64.wrap ((cx2_1).tmod (99 : Int)))]) hf (by decide) rfl (by simp [hf.ev (x := (Operand.tmp 40)) rfl, hf.ev (x := (Operand.tmp 44)) rfl]) (fun w => by kernel_rfl) ?_
  clear hf; intro a ha hf; clear ha
  refine st_alloc (cs := [.int .i64 (0 : Int), .int .i64 (0 : Int)]) (zv := .agg #[.int .i64 (0 : Int), .int .i64 (0 : Int)]) hf (by decide) (by kernel_rfl) rfl hp rfl ?_
  clear hf; intro a w v11 hf hp0; clear hp; have hp := hp0; clear hp0
  replace hp : Hp _ _ _ (Res.obj 56 v11 [.int .i64 (0 : Int), .int .i64 (0 : Int)] :: Res.obj 56 v9 [.int .i64 (IntKind.i64.wrap bx1_0), .int .i64 (IntKind.i64.wrap bx1_1)] :: Res.obj 56 v7 [.int .i64 (IntKind.i64.wrap ax0_0), .int .i64 (IntKind.i64.wrap ax0_1)] :: Res.obj 36 v5 [.int .i16 cx2_0, .int .i16 cx2_1] :: Res.obj 36 v3 [.int .i16 bx1_0, .int .i16 bx1_1] :: Res.obj 36 v1 [.int .i16 ax0_0, .int .i16 ax0_1] :: ow) := hp
  refine st_stO (us := [.int .i64 (IntKind.i64.wrap ((cx2_0).tmod (99 : Int))), .int .i64 (IntKind.i64.wrap ((cx2_1).tmod (99 : Int)))]) hf hp (i := 0) rfl rfl rfl rfl rfl (by rfl) (by kernel_rfl) (Nat.le_of_ble_eq_true rfl) ?_
  clear hf; intro a w hf hp0; clear hp; have hp := hp0; clear hp0
  replace hp : Hp _ _ _ (Res.obj 56 v11 [.int .i64 (IntKind.i64.wrap ((cx2_0).tmod (99 : Int))), .int .i64 (IntKind.i64.wrap ((cx2_1).tmod (99 : Int)))] :: Res.obj 56 v9 [.int .i64 (IntKind.i64.wrap bx1_0), .int .i64 (IntKind.i64.wrap bx1_1)] :: Res.obj 56 v7 [.int .i64 (IntKind.i64.wrap ax0_0), .int .i64 (IntKind.i64.wrap ax0_1)] :: Res.obj 36 v5 [.int .i16 cx2_0, .int .i16 cx2_1] :: Res.obj 36 v3 [.int .i16 bx1_0, .int .i16 bx1_1] :: Res.obj 36 v1 [.int .i16 ax0_0, .int .i16 ax0_1] :: ow) := hp
  refine st_nil hf ?_
  refine th_n ?_
  refine wp_seq ?_
  refine wp_reg ?_
  refine st_ldOA (m := 2) (us := [.int .i64 (IntKind.i64.wrap ax0_0), .int .i64 (IntKind.i64.wrap ax0_1)]) hf (by decide) (by kernel_rfl) rfl rfl (hp.ob (i := 2) rfl) rfl rfl ?_
  clear hf; intro a ha hf; clear ha
  refine st_ldOA (m := 2) (us := [.int .i64 (IntKind.i64.wrap ((cx2_0).tmod (99 : Int))), .int .i64 (IntKind.i64.wrap ((cx2_1).tmod (99 : Int)))]) hf (by decide) (by kernel_rfl) rfl rfl (hp.ob (i := 0) rfl) rfl rfl ?_
  clear hf; intro a ha hf; clear ha
  obtain ⟨q13, hcall14, h⟩ := bnd h
  refine st_call hf (by decide) Try.func31 rfl rfl rfl rfl rfl (f_plane_Gauss_Times_c hp _ _ _ _ hcall14) ?_
  rintro _ w ⟨rfl, hp0⟩
  clear hp; have hp := hp0; clear hp0
  replace hp : Hp _ _ _ (Res.obj 56 v11 [.int .i64 (IntKind.i64.wrap ((cx2_0).tmod (99 : Int))), .int .i64 (IntKind.i64.wrap ((cx2_1).tmod (99 : Int)))] :: Res.obj 56 v9 [.int .i64 (IntKind.i64.wrap bx1_0), .int .i64 (IntKind.i64.wrap bx1_1)] :: Res.obj 56 v7 [.int .i64 (IntKind.i64.wrap ax0_0), .int .i64 (IntKind.i64.wrap ax0_1)] :: Res.obj 36 v5 [.int .i16 cx2_0, .int .i16 cx2_1] :: Res.obj 36 v3 [.int .i16 bx1_0, .int .i16 bx1_1] :: Res.obj 36 v1 [.int .i16 ax0_0, .int .i16 ax0_1] :: ow) := hp
  refine ⟨_, rfl, ?_⟩
  clear hf; intro a hf
  refine st_move hf rfl rfl (by decide) ?_
  clear hf; intro a ha hf; clear ha
  refine st_extract hf (by decide) rfl rfl rfl ?_
  clear hf; intro a ha hf; clear ha
  refine st_extract hf (by decide) rfl rfl rfl ?_
  clear hf; intro a ha hf; clear ha
  refine st_stO (us := [.int .i64 q13.1.1, .int .i64 q13.1.2]) hf hp (i := 2) rfl rfl rfl rfl rfl (by rfl) (by kernel_rfl) (Nat.le_of_ble_eq_true rfl) ?_
  clear hf; intro a w hf hp0; clear hp; have hp := hp0; clear hp0
  replace hp : Hp _ _ _ (Res.obj 56 v11 [.int .i64 (IntKind.i64.wrap ((cx2_0).tmod (99 : Int))), .int .i64 (IntKind.i64.wrap ((cx2_1).tmod (99 : Int)))] :: Res.obj 56 v9 [.int .i64 (IntKind.i64.wrap bx1_0), .int .i64 (IntKind.i64.wrap bx1_1)] :: Res.obj 56 v7 [.int .i64 q13.1.1, .int .i64 q13.1.2] :: Res.obj 36 v5 [.int .i16 cx2_0, .int .i16 cx2_1] :: Res.obj 36 v3 [.int .i16 bx1_0, .int .i16 bx1_1] :: Res.obj 36 v1 [.int .i16 ax0_0, .int .i16 ax0_1] :: ow) := hp
  refine st_assign hf rfl rfl (by decide) ?_
  clear hf; intro a ha hf; clear ha
  refine st_nil hf ?_
  refine th_n ?_
  refine wp_seq ?_
  refine wp_reg ?_
  refine st_ldOA (m := 2) (us := [.int .i64 (IntKind.i64.wrap bx1_0), .int .i64 (IntKind.i64.wrap bx1_1)]) hf (by decide) (by kernel_rfl) rfl rfl (hp.ob (i := 1) rfl) rfl rfl ?_
  clear hf; intro a ha hf; clear ha
  refine st_ldOA (m := 2) (us := [.int .i64 (IntKind.i64.wrap ((cx2_0).tmod (99 : Int))), .int .i64 (IntKind.i64.wrap ((cx2_1).tmod (99 : Int)))]) hf (by decide) (by kernel_rfl) rfl rfl (hp.ob (i := 0) rfl) rfl rfl ?_
  clear hf; intro a ha hf; clear ha
  obtain ⟨q15, hcall16, h⟩ := bnd h
  refine st_call hf (by decide) Try.func31 rfl rfl rfl rfl rfl (f_plane_Gauss_Times_c hp _ _ _ _ hcall16) ?_
  rintro _ w ⟨rfl, hp0⟩
  clear hp; have hp := hp0; clear hp0
  replace hp : Hp _ _ _ (Res.obj 56 v11 [.int .i64 (IntKind.i64.wrap ((cx2_0).tmod (99 : Int))), .int .i64 (IntKind.i64.wrap ((cx2_1).tmod (99 : Int)))] :: Res.obj 56 v9 [.int .i64 (IntKind.i64.wrap bx1_0), .int .i64 (IntKind.i64.wrap bx1_1)] :: Res.obj 56 v7 [.int .i64 q13.1.1, .int .i64 q13.1.2] :: Res.obj 36 v5 [.int .i16 cx2_0, .int .i16 cx2_1] :: Res.obj 36 v3 [.int .i16 bx1_0, .int .i16 bx1_1] :: Res.obj 36 v1 [.int .i16 ax0_0, .int .i16 ax0_1] :: ow) := hp
  refine ⟨_, rfl, ?_⟩
  clear hf; intro a hf
  refine st_move hf rfl rfl (by decide) ?_
  clear hf; intro a ha hf; clear ha
  refine st_extract hf (by decide) rfl rfl rfl ?_
  clear hf; intro a ha hf; clear ha
  refine st_extract hf (by decide) rfl rfl rfl ?_
  clear hf; intro a ha hf; clear ha
  refine st_stO (us := [.int .i64 q15.1.1, .int .i64 q15.1.2]) hf hp (i := 1) rfl rfl rfl rfl rfl (by rfl) (by kernel_rfl) (Nat.le_of_ble_eq_true rfl) ?_
  clear hf; intro a w hf hp0; clear hp; have hp := hp0; clear hp0
  replace hp : Hp _ _ _ (Res.obj 56 v11 [.int .i64 (IntKind.i64.wrap ((cx2_0).tmod (99 : Int))), .int .i64 (IntKind.i64.wrap ((cx2_1).tmod (99 : Int)))] :: Res.obj 56 v9 [.int .i64 q15.1.1, .int .i64 q15.1.2] :: Res.obj 56 v7 [.int .i64 q13.1.1, .int .i64 q13.1.2] :: Res.obj 36 v5 [.int .i16 cx2_0, .int .i16 cx2_1] :: Res.obj 36 v3 [.int .i16 bx1_0, .int .i16 bx1_1] :: Res.obj 36 v1 [.int .i16 ax0_0, .int .i16 ax0_1] :: ow) := hp
  refine st_assign hf rfl rfl (by decide) ?_
  clear hf; intro a ha hf; clear ha
  refine st_nil hf ?_
  refine th_n ?_
  refine wp_seq ?_
  refine wp_seq ?_
  refine wp_reg ?_
  refine st_move hf rfl rfl (by decide) ?_
  clear hf; intro a ha hf; clear ha
  refine st_ineq hf (by decide) rfl rfl rfl ?_
  clear hf; intro a ha hf; clear ha
  refine st_move hf rfl rfl (by decide) ?_
  clear hf; intro a ha hf; clear ha
  refine wpList_cut 3 (fun a w => Fr 179 a [(7, optr v7 0), (8, optr v9 0), (9, optr v11 0), (63, .bool ((q13.2 != (0 : Int)) || (q15.2 != (0 : Int))))] ∧ Hp S w0 w (Res.obj 56 v11 [.int .i64 (IntKind.i64.wrap ((cx2_0).tmod (99 : Int))), .int .i64 (IntKind.i64.wrap ((cx2_1).tmod (99 : Int)))] :: Res.obj 56 v9 [.int .i64 q15.1.1, .int .i64 q15.1.2] :: Res.obj 56 v7 [.int .i64 q13.1.1, .int .i64 q13.1.2] :: Res.obj 36 v5 [.int .i16 cx2_0, .int .i16 cx2_1] :: Res.obj 36 v3 [.int .i16 bx1_0, .int .i16 bx1_1] :: Res.obj 36 v1 [.int .i16 ax0_0, .int .i16 ax0_1] :: ow)) ?_ ?_
  · rcases Bool.eq_false_or_eq_true (q13.2 != (0 : Int)) with hb18 | hb18
    · skip
      refine st_skip hf (wantN hf rfl rfl hb18) rfl (by decide) ?_ rfl
      clear hf; intro a hf
      refine st_skip hf (wantN hf rfl rfl hb18) rfl (by decide) ?_ rfl
      clear hf; intro a hf
      refine st_pick (v := .bool true) hf rfl rfl (fun hb' => ?_) (fun hb' => ?_) (by decide) ?_
      · rfl
      · exact absurd (hb18.symm.trans hb') (by decide)
      clear hf; intro a ha hf; clear ha
      refine st_nil hf (th_n ?_)
      exact ⟨hf.sub ⟨rfl, rfl, rfl, (by rw [hb18]; rfl), trivial⟩, hp⟩
    refine st_move hf (wantY hf rfl rfl hb18) rfl (by decide) ?_
    clear hf; intro a ha hf; clear ha
    refine st_ineq hf (by decide) (wantY hf rfl rfl hb18) rfl rfl ?_
    clear hf; intro a ha hf; clear ha
    refine st_pick (v := .bool (q15.2 != (0 : Int))) hf rfl rfl (fun hb' => ?_) (fun hb' => ?_) (by decide) ?_
    · exact absurd (hb18.symm.trans hb') (by decide)
    · rfl
    clear hf; intro a ha hf; clear ha
    refine st_nil hf (th_n ?_)
    exact ⟨hf.sub ⟨rfl, rfl, rfl, (by rw [hb18]; rfl), trivial⟩, hp⟩
  rintro a w ⟨hf, hp⟩
  refine st_nil hf ?_
  refine th_n ?_
  refine wp_if hf rfl (fun hb => ?_) (fun hb => ?_)
  · replace h := ifT h hb
    refine wp_seq ?_
    refine wp_reg ?_
    refine st_assign hf rfl rfl (by decide) ?_
    clear hf; intro a ha hf; clear ha
    refine st_nil hf ?_
    refine th_n ?_
    refine wp_ret ?_
    refine th_r ?_
    obtain rfl := Option.some.inj h
    have hp : Hp _ _ _ (ow) := Hp.sel (pre := [Res.obj 56 v11 [.int .i64 (IntKind.i64.wrap ((cx2_0).tmod (99 : Int))), .int .i64 (IntKind.i64.wrap ((cx2_1).tmod (99 : Int)))], Res.obj 56 v9 [.int .i64 q15.1.1, .int .i64 q15.1.2], Res.obj 56 v7 [.int .i64 q13.1.1, .int .i64 q13.1.2], Res.obj 36 v5 [.int .i16 cx2_0, .int .i16 cx2_1], Res.obj 36 v3 [.int .i16 bx1_0, .int .i16 bx1_1], Res.obj 36 v1 [.int .i16 ax0_0, .int .i16 ax0_1]]) (tail := ow) (rs' := []) hp [] (by decide) (by simp) rfl
    exact ⟨rfl, ⟨hf.sub ⟨rfl, trivial⟩, hp⟩⟩
  replace h := ifF h hb
  refine wp_skip ?_
  refine th_n ?_
  refine wp_seq ?_
  refine wp_reg ?_
  refine st_ldOA (m := 2) (us := [.int .i64 q13.1.1, .int .i64 q13.1.2]) hf (by decide) (by kernel_rfl) rfl rfl (hp.ob (i := 2) rfl) rfl rfl ?_
  clear hf; intro a ha hf; clear ha
  refine st_ldOA (m := 2) (us := [.int .i64 q15.1.1, .int .i64 q15.1.2]) hf (by decide) (by kernel_rfl) rfl rfl (hp.ob (i := 1) rfl) rfl rfl ?_
  clear hf; intro a ha hf; clear ha
  obtain ⟨q19, hcall20, h⟩ := bnd h
  refine st_call hf (by decide) Try.func32 rfl rfl rfl rfl rfl (f_plane_Gcd_c hp _ _ _ _ hcall20) ?_
  rintro _ w ⟨rfl, hp0⟩
  clear hp; have hp := hp0; clear hp0
  replace hp : Hp _ _ _ (Res.obj 56 v11 [.int .i64 (IntKind.i64.wrap ((cx2_0).tmod (99 : Int))), .int .i64 (IntKind.i64.wrap ((cx2_1).tmod (99 : Int)))] :: Res.obj 56 v9 [.int .i64 q15.1.1, .int .i64 q15.1.2] :: Res.obj 56 v7 [.int .i64 q13.1.1, .int .i64 q13.1.2] :: Res.obj 36 v5 [.int .i16 cx2_0, .int .i16 cx2_1] :: Res.obj 36 v3 [.int .i16 bx1_0, .int .i16 bx1_1] :: Res.obj 36 v1 [.int .i16 ax0_0, .int .i16 ax0_1] :: ow) := hp
  refine ⟨_, rfl, ?_⟩
  clear hf; intro a hf
  refine st_move hf rfl rfl (by decide) ?_
  clear hf; intro a ha hf; clear ha
  refine st_extract hf (by decide) rfl rfl rfl ?_
  clear hf; intro a ha hf; clear ha
  refine st_extract hf (by decide) rfl rfl rfl ?_
  clear hf; intro a ha hf; clear ha
  refine st_alloc (cs := [.int .i64 (0 : Int), .int .i64 (0 : Int)]) (zv := .agg #[.int .i64 (0 : Int), .int .i64 (0 : Int)]) hf (by decide) (by kernel_rfl) rfl hp rfl ?_
  clear hf; intro a w v21 hf hp0; clear hp; have hp := hp0; clear hp0
  replace hp : Hp _ _ _ (Res.obj 56 v21 [.int .i64 (0 : Int), .int .i64 (0 : Int)] :: Res.obj 56 v11 [.int .i64 (IntKind.i64.wrap ((cx2_0).tmod (99 : Int))), .int .i64 (IntKind.i64.wrap ((cx2_1).tmod (99 : Int)))] :: Res.obj 56 v9 [.int .i64 q15.1.1, .int .i64 q15.1.2] :: Res.obj 56 v7 [.int .i64 q13.1.1, .int .i64 q13.1.2] :: Res.obj 36 v5 [.int .i16 cx2_0, .int .i16 cx2_1] :: Res.obj 36 v3 [.int .i16 bx1_0, .int .i16 bx1_1] :: Res.obj 36 v1 [.int .i16 ax0_0, .int .i16 ax0_1] :: ow) := hp
  refine st_stO (us := [.int .i64 q19.1.1, .int .i64 q19.1.2]) hf hp (i := 0) rfl rfl rfl rfl rfl (by rfl) (by kernel_rfl) (Nat.le_of_ble_eq_true rfl) ?_
  clear hf; intro a w hf hp0; clear hp; have hp := hp0; clear hp0
  replace hp : Hp _ _ _ (Res.obj 56 v21 [.int .i64 q19.1.1, .int .i64 q19.1.2] :: Res.obj 56 v11 [.int .i64 (IntKind.i64.wrap ((cx2_0).tmod (99 : Int))), .int .i64 (IntKind.i64.wrap ((cx2_1).tmod (99 : Int)))] :: Res.obj 56 v9 [.int .i64 q15.1.1, .int .i64 q15.1.2] :: Res.obj 56 v7 [.int .i64 q13.1.1, .int .i64 q13.1.2] :: Res.obj 36 v5 [.int .i16 cx2_0, .int .i16 cx2_1] :: Res.obj 36 v3 [.int .i16 bx1_0, .int .i16 bx1_1] :: Res.obj 36 v1 [.int .i16 ax0_0, .int .i16 ax0_1] :: ow) := hp
  refine st_assign hf rfl rfl (by decide) ?_
  clear hf; intro a ha hf; clear ha
  refine st_nil hf ?_
  refine th_n ?_
  refine wp_seq ?_
  refine wp_seq ?_
  refine wp_reg ?_
  refine st_move hf rfl rfl (by decide) ?_
  clear hf; intro a ha hf; clear ha
  refine st_ineq hf (by decide) rfl rfl rfl ?_
  clear hf; intro a ha hf; clear ha
  refine st_move hf rfl rfl (by decide) ?_
  clear hf; intro a ha hf; clear ha
  obtain ⟨z25, hz23, h⟩ := bnd h
  refine wpList_cut 5 (fun a w => Fr 179 a [(7, optr v7 0), (8, optr v9 0), (9, optr v11 0), (12, optr v21 0), (77, .bool z25)] ∧ Hp S w0 w (Res.obj 56 v21 [.int .i64 q19.1.1, .int .i64 q19.1.2] :: Res.obj 56 v11 [.int .i64 (IntKind.i64.wrap ((cx2_0).tmod (99 : Int))), .int .i64 (IntKind.i64.wrap ((cx2_1).tmod (99 : Int)))] :: Res.obj 56 v9 [.int .i64 q15.1.1, .int .i64 q15.1.2] :: Res.obj 56 v7 [.int .i64 q13.1.1, .int .i64 q13.1.2] :: Res.obj 36 v5 [.int .i16 cx2_0, .int .i16 cx2_1] :: Res.obj 36 v3 [.int .i16 bx1_0, .int .i16 bx1_1] :: Res.obj 36 v1 [.int .i16 ax0_0, .int .i16 ax0_1] :: ow)) ?_ ?_
  · rcases Bool.eq_false_or_eq_true (q19.2 != (0 : Int)) with hb24 | hb24
    · skip
      replace hz23 := ifT hz23 hb24
      refine st_skip hf (wantN hf rfl rfl hb24) rfl (by decide) ?_ rfl
      clear hf; intro a hf
      refine st_skip hf (wantN hf rfl rfl hb24) rfl (by decide) ?_ rfl
      clear hf; intro a hf
      refine st_skip hf (wantN hf rfl rfl hb24) rfl (by decide) ?_ rfl
      clear hf; intro a hf
      refine st_skip hf (wantN hf rfl rfl hb24) rfl (by decide) ?_ rfl
      clear hf; intro a hf
      obtain rfl := Option.some.inj hz23
      refine st_pick (v := .bool true) hf rfl rfl (fun hb' => ?_) (fun hb' => ?_) (by decide) ?_
      · rfl
      · exact absurd (hb24.symm.trans hb') (by decide)
      clear hf; intro a ha hf; clear ha
      refine st_nil hf (th_n ?_)
      exact ⟨hf.sub ⟨rfl, rfl, rfl, rfl, rfl, trivial⟩, hp⟩
    replace hz23 := ifF hz23 hb24
    refine st_ldOA (m := 2) (us := [.int .i64 q19.1.1, .int .i64 q19.1.2]) hf (by decide) (by kernel_rfl) (wantY hf rfl rfl hb24) rfl (hp.ob (i := 0) rfl) rfl rfl ?_
    clear hf; intro a ha hf; clear ha
    refine st_ldOA (m := 2) (us := [.int .i64 q13.1.1, .int .i64 q13.1.2]) hf (by decide) (by kernel_rfl) (wantY hf rfl rfl hb24) rfl (hp.ob (i := 3) rfl) rfl rfl ?_
    clear hf; intro a ha hf; clear ha
    obtain ⟨q26, hcall27, hz23⟩ := bnd hz23
    refine st_call hf (by decide) Try.func33 rfl rfl (wantY hf rfl rfl hb24) rfl rfl (f_foghornlaw03_divides_c hp _ _ _ _ hcall27) ?_
    rintro _ w ⟨rfl, hp0⟩
    clear hp; have hp := hp0; clear hp0
    replace hp : Hp _ _ _ (Res.obj 56 v21 [.int .i64 q19.1.1, .int .i64 q19.1.2] :: Res.obj 56 v11 [.int .i64 (IntKind.i64.wrap ((cx2_0).tmod (99 : Int))), .int .i64 (IntKind.i64.wrap ((cx2_1).tmod (99 : Int)))] :: Res.obj 56 v9 [.int .i64 q15.1.1, .int .i64 q15.1.2] :: Res.obj 56 v7 [.int .i64 q13.1.1, .int .i64 q13.1.2] :: Res.obj 36 v5 [.int .i16 cx2_0, .int .i16 cx2_1] :: Res.obj 36 v3 [.int .i16 bx1_0, .int .i16 bx1_1] :: Res.obj 36 v1 [.int .i16 ax0_0, .int .i16 ax0_1] :: ow) := hp
    refine ⟨_, rfl, ?_⟩
    clear hf; intro a hf
    refine st_not hf (by decide) (wantY hf rfl rfl hb24) rfl ?_
    clear hf; intro a ha hf; clear ha
    obtain rfl := Option.some.inj hz23
    refine st_pick (v := .bool (!q26)) hf rfl rfl (fun hb' => ?_) (fun hb' => ?_) (by decide) ?_
    · exact absurd (hb24.symm.trans hb') (by decide)
    · rfl
    clear hf; intro a ha hf; clear ha
    refine st_nil hf (th_n ?_)
    exact ⟨hf.sub ⟨rfl, rfl, rfl, rfl, rfl, trivial⟩, hp⟩
  rintro a w ⟨hf, hp⟩
  refine st_move hf rfl rfl (by decide) ?_
  clear hf; intro a ha hf; clear ha
  obtain ⟨z30, hz28, h⟩ := bnd h
  refine wpList_cut 5 (fun a w => Fr 179 a [(7, optr v7 0), (8, optr v9 0), (9, optr v11 0), (12, optr v21 0), (83, .bool z30)] ∧ Hp S w0 w (Res.obj 56 v21 [.int .i64 q19.1.1, .int .i64 q19.1.2] :: Res.obj 56 v11 [.int .i64 (IntKind.i64.wrap ((cx2_0).tmod (99 : Int))), .int .i64 (IntKind.i64.wrap ((cx2_1).tmod (99 : Int)))] :: Res.obj 56 v9 [.int .i64 q15.1.1, .int .i64 q15.1.2] :: Res.obj 56 v7 [.int .i64 q13.1.1, .int .i64 q13.1.2] :: Res.obj 36 v5 [.int .i16 cx2_0, .int .i16 cx2_1] :: Res.obj 36 v3 [.int .i16 bx1_0, .int .i16 bx1_1] :: Res.obj 36 v1 [.int .i16 ax0_0, .int .i16 ax0_1] :: ow)) ?_ ?_
  · rcases Bool.eq_false_or_eq_true z25 with hb29 | hb29
    · skip
      replace hz28 := ifT hz28 hb29
      refine st_skip hf (wantN hf rfl rfl hb29) rfl (by decide) ?_ rfl
      clear hf; intro a hf
      refine st_skip hf (wantN hf rfl rfl hb29) rfl (by decide) ?_ rfl
      clear hf; intro a hf
      refine st_skip hf (wantN hf rfl rfl hb29) rfl (by decide) ?_ rfl
      clear hf; intro a hf
      refine st_skip hf (wantN hf rfl rfl hb29) rfl (by decide) ?_ rfl
      clear hf; intro a hf
      obtain rfl := Option.some.inj hz28
      refine st_pick (v := .bool true) hf rfl rfl (fun hb' => ?_) (fun hb' => ?_) (by decide) ?_
      · rfl
      · exact absurd (hb29.symm.trans hb') (by decide)
      clear hf; intro a ha hf; clear ha
      refine st_nil hf (th_n ?_)
      exact ⟨hf.sub ⟨rfl, rfl, rfl, rfl, rfl, trivial⟩, hp⟩
    replace hz28 := ifF hz28 hb29
    refine st_ldOA (m := 2) (us := [.int .i64 q19.1.1, .int .i64 q19.1.2]) hf (by decide) (by kernel_rfl) (wantY hf rfl rfl hb29) rfl (hp.ob (i := 0) rfl) rfl rfl ?_
    clear hf; intro a ha hf; clear ha
    refine st_ldOA (m := 2) (us := [.int .i64 q15.1.1, .int .i64 q15.1.2]) hf (by decide) (by kernel_rfl) (wantY hf rfl rfl hb29) rfl (hp.ob (i := 2) rfl) rfl rfl ?_
    clear hf; intro a ha hf; clear ha
    obtain ⟨q31, hcall32, hz28⟩ := bnd hz28
    refine st_call hf (by decide) Try.func33 rfl rfl (wantY hf rfl rfl hb29) rfl rfl (f_foghornlaw03_divides_c hp _ _ _ _ hcall32) ?_
    rintro _ w ⟨rfl, hp0⟩
    clear hp; have hp := hp0; clear hp0
    replace hp : Hp _ _ _ (Res.obj 56 v21 [.int .i64 q19.1.1, .int .i64 q19.1.2] :: Res.obj 56 v11 [.int .i64 (IntKind.i64.wrap ((cx2_0).tmod (99 : Int))), .int .i64 (IntKind.i64.wrap ((cx2_1).tmod (99 : Int)))] :: Res.obj 56 v9 [.int .i64 q15.1.1, .int .i64 q15.1.2] :: Res.obj 56 v7 [.int .i64 q13.1.1, .int .i64 q13.1.2] :: Res.obj 36 v5 [.int .i16 cx2_0, .int .i16 cx2_1] :: Res.obj 36 v3 [.int .i16 bx1_0, .int .i16 bx1_1] :: Res.obj 36 v1 [.int .i16 ax0_0, .int .i16 ax0_1] :: ow) := hp
    refine ⟨_, rfl, ?_⟩
    clear hf; intro a hf
    refine st_not hf (by decide) (wantY hf rfl rfl hb29) rfl ?_
    clear hf; intro a ha hf; clear ha
    obtain rfl := Option.some.inj hz28
    refine st_pick (v := .bool (!q31)) hf rfl rfl (fun hb' => ?_) (fun hb' => ?_) (by decide) ?_
    · exact absurd (hb29.symm.trans hb') (by decide)
    · rfl
    clear hf; intro a ha hf; clear ha
    refine st_nil hf (th_n ?_)
    exact ⟨hf.sub ⟨rfl, rfl, rfl, rfl, rfl, trivial⟩, hp⟩
  rintro a w ⟨hf, hp⟩
  refine st_move hf rfl rfl (by decide) ?_
  clear hf; intro a ha hf; clear ha
  obtain ⟨z35, hz33, h⟩ := bnd h
  refine wpList_cut 5 (fun a w => Fr 179 a [(7, optr v7 0), (8, optr v9 0), (12, optr v21 0), (89, .bool z35)] ∧ Hp S w0 w (Res.obj 56 v21 [.int .i64 q19.1.1, .int .i64 q19.1.2] :: Res.obj 56 v11 [.int .i64 (IntKind.i64.wrap ((cx2_0).tmod (99 : Int))), .int .i64 (IntKind.i64.wrap ((cx2_1).tmod (99 : Int)))] :: Res.obj 56 v9 [.int .i64 q15.1.1, .int .i64 q15.1.2] :: Res.obj 56 v7 [.int .i64 q13.1.1, .int .i64 q13.1.2] :: Res.obj 36 v5 [.int .i16 cx2_0, .int .i16 cx2_1] :: Res.obj 36 v3 [.int .i16 bx1_0, .int .i16 bx1_1] :: Res.obj 36 v1 [.int .i16 ax0_0, .int .i16 ax0_1] :: ow)) ?_ ?_
  · rcases Bool.eq_false_or_eq_true z30 with hb34 | hb34
    · skip
      replace hz33 := ifT hz33 hb34
      refine st_skip hf (wantN hf rfl rfl hb34) rfl (by decide) ?_ rfl
      clear hf; intro a hf
      refine st_skip hf (wantN hf rfl rfl hb34) rfl (by decide) ?_ rfl
      clear hf; intro a hf
      refine st_skip hf (wantN hf rfl rfl hb34) rfl (by decide) ?_ rfl
      clear hf; intro a hf
      refine st_skip hf (wantN hf rfl rfl hb34) rfl (by decide) ?_ rfl
      clear hf; intro a hf
      obtain rfl := Option.some.inj hz33
      refine st_pick (v := .bool true) hf rfl rfl (fun hb' => ?_) (fun hb' => ?_) (by decide) ?_
      · rfl
      · exact absurd (hb34.symm.trans hb') (by decide)
      clear hf; intro a ha hf; clear ha
      refine st_nil hf (th_n ?_)
      exact ⟨hf.sub ⟨rfl, rfl, rfl, rfl, trivial⟩, hp⟩
    replace hz33 := ifF hz33 hb34
    refine st_ldOA (m := 2) (us := [.int .i64 (IntKind.i64.wrap ((cx2_0).tmod (99 : Int))), .int .i64 (IntKind.i64.wrap ((cx2_1).tmod (99 : Int)))]) hf (by decide) (by kernel_rfl) (wantY hf rfl rfl hb34) rfl (hp.ob (i := 1) rfl) rfl rfl ?_
    clear hf; intro a ha hf; clear ha
    refine st_ldOA (m := 2) (us := [.int .i64 q19.1.1, .int .i64 q19.1.2]) hf (by decide) (by kernel_rfl) (wantY hf rfl rfl hb34) rfl (hp.ob (i := 0) rfl) rfl rfl ?_
    clear hf; intro a ha hf; clear ha
    obtain ⟨q36, hcall37, hz33⟩ := bnd hz33
    refine st_call hf (by decide) Try.func33 rfl rfl (wantY hf rfl rfl hb34) rfl rfl (f_foghornlaw03_divides_c hp _ _ _ _ hcall37) ?_
    rintro _ w ⟨rfl, hp0⟩
    clear hp; have hp := hp0; clear hp0
    replace hp : Hp _ _ _ (Res.obj 56 v21 [.int .i64 q19.1.1, .int .i64 q19.1.2] :: Res.obj 56 v11 [.int .i64 (IntKind.i64.wrap ((cx2_0).tmod (99 : Int))), .int .i64 (IntKind.i64.wrap ((cx2_1).tmod (99 : Int)))] :: Res.obj 56 v9 [.int .i64 q15.1.1, .int .i64 q15.1.2] :: Res.obj 56 v7 [.int .i64 q13.1.1, .int .i64 q13.1.2] :: Res.obj 36 v5 [.int .i16 cx2_0, .int .i16 cx2_1] :: Res.obj 36 v3 [.int .i16 bx1_0, .int .i16 bx1_1] :: Res.obj 36 v1 [.int .i16 ax0_0, .int .i16 ax0_1] :: ow) := hp
    refine ⟨_, rfl, ?_⟩
    clear hf; intro a hf
    refine st_not hf (by decide) (wantY hf rfl rfl hb34) rfl ?_
    clear hf; intro a ha hf; clear ha
    obtain rfl := Option.some.inj hz33
    refine st_pick (v := .bool (!q36)) hf rfl rfl (fun hb' => ?_) (fun hb' => ?_) (by decide) ?_
    · exact absurd (hb34.symm.trans hb') (by decide)
    · rfl
    clear hf; intro a ha hf; clear ha
    refine st_nil hf (th_n ?_)
    exact ⟨hf.sub ⟨rfl, rfl, rfl, rfl, trivial⟩, hp⟩
  rintro a w ⟨hf, hp⟩
  refine st_move hf rfl rfl (by decide) ?_
  clear hf; intro a ha hf; clear ha
  refine wpList_cut 14 (fun a w => Fr 179 a [(7, optr v7 0), (8, optr v9 0), (104, .bool (z35 || ((!((q19.1.1 == (0 : Int)) && ((q19.1.2 == (0 : Int)) && true))) && ((decide (q19.1.1 ≤ (0 : Int))) || (decide (q19.1.2 < (0 : Int)))))))] ∧ Hp S w0 w (Res.obj 56 v21 [.int .i64 q19.1.1, .int .i64 q19.1.2] :: Res.obj 56 v11 [.int .i64 (IntKind.i64.wrap ((cx2_0).tmod (99 : Int))), .int .i64 (IntKind.i64.wrap ((cx2_1).tmod (99 : Int)))] :: Res.obj 56 v9 [.int .i64 q15.1.1, .int .i64 q15.1.2] :: Res.obj 56 v7 [.int .i64 q13.1.1, .int .i64 q13.1.2] :: Res.obj 36 v5 [.int .i16 cx2_0, .int .i16 cx2_1] :: Res.obj 36 v3 [.int .i16 bx1_0, .int .i16 bx1_1] :: Res.obj 36 v1 [.int .i16 ax0_0, .int .i16 ax0_1] :: ow)) ?_ ?_
  · rcases Bool.eq_false_or_eq_true z35 with hb39 | hb39
    · skip
      refine st_skip hf (wantN hf rfl rfl hb39) rfl (by decide) ?_ rfl
      clear hf; intro a hf
      refine st_skip hf (wantN hf rfl rfl hb39) rfl (by decide) ?_ rfl
      clear hf; intro a hf
      refine st_skip hf (wantN hf rfl rfl hb39) rfl (by decide) ?_ rfl
      clear hf; intro a hf
      refine st_skipU hf (wantN hf rfl rfl hb39) rfl (by decide) ?_
      clear hf; intro a hf
      refine st_skip hf (wantU hf rfl rfl) rfl (by decide) ?_ rfl
      clear hf; intro a hf
      refine st_skip hf (wantU hf rfl rfl) rfl (by decide) ?_ rfl
      clear hf; intro a hf
      refine st_skip hf (wantU hf rfl rfl) rfl (by decide) ?_ rfl
      clear hf; intro a hf
      refine st_skipU hf (wantU hf rfl rfl) rfl (by decide) ?_
      clear hf; intro a hf
      refine st_skip hf (wantU hf rfl rfl) rfl (by decide) ?_ rfl
      clear hf; intro a hf
      refine st_skip hf (wantU hf rfl rfl) rfl (by decide) ?_ rfl
      clear hf; intro a hf
      refine st_skip hf (wantU hf rfl rfl) rfl (by decide) ?_ rfl
      clear hf; intro a hf
      refine st_skip hf (wantU hf rfl rfl) rfl (by decide) ?_ rfl
      clear hf; intro a hf
      refine st_skip hf (wantN hf rfl rfl hb39) rfl (by decide) ?_ rfl
      clear hf; intro a hf
      refine st_pick (v := .bool true) hf rfl rfl (fun hb' => ?_) (fun hb' => ?_) (by decide) ?_
      · rfl
      · exact absurd (hb39.symm.trans hb') (by decide)
      clear hf; intro a ha hf; clear ha
      refine st_nil hf (th_n ?_)
      exact ⟨hf.sub ⟨rfl, rfl, (by rw [hb39]; rfl), trivial⟩, hp⟩
    refine st_ldOA (m := 2) (us := [.int .i64 q19.1.1, .int .i64 q19.1.2]) hf (by decide) (by kernel_rfl) (wantY hf rfl rfl hb39) rfl (hp.ob (i := 0) rfl) rfl rfl ?_
    clear hf; intro a ha hf; clear ha
    refine st_buildA (vals := []) (cells := [.int .i64 (0 : Int), .int .i64 (0 : Int)]) hf (by decide) (wantY hf rfl rfl hb39) (by simp []) (fun w => by kernel_rfl) ?_
    clear hf; intro a ha hf; clear ha
    refine st_neA (xs := [.int .i64 q19.1.1, .int .i64 q19.1.2]) (ys := [.int .i64 (0 : Int), .int .i64 (0 : Int)]) hf (by decide) (by kernel_rfl) (by kernel_rfl) (by kernel_rfl) (by kernel_rfl) (wantY hf rfl rfl hb39) rfl rfl (b := (!((q19.1.1 == (0 : Int)) && ((q19.1.2 == (0 : Int)) && true)))) rfl ?_
    clear hf; intro a ha hf; clear ha
    refine st_move hf (wantY hf rfl rfl hb39) rfl (by decide) ?_
    clear hf; intro a ha hf; clear ha
    refine wpList_cut 9 (fun a w => Fr 179 a [(7, optr v7 0), (8, optr v9 0), (90, .bool z35), (103, .bool ((!((q19.1.1 == (0 : Int)) && ((q19.1.2 == (0 : Int)) && true))) && ((decide (q19.1.1 ≤ (0 : Int))) || (decide (q19.1.2 < (0 : Int))))))] ∧ Hp S w0 w (Res.obj 56 v21 [.int .i64 q19.1.1, .int .i64 q19.1.2] :: Res.obj 56 v11 [.int .i64 (IntKind.i64.wrap ((cx2_0).tmod (99 : Int))), .int .i64 (IntKind.i64.wrap ((cx2_1).tmod (99 : Int)))] :: Res.obj 56 v9 [.int .i64 q15.1.1, .int .i64 q15.1.2] :: Res.obj 56 v7 [.int .i64 q13.1.1, .int .i64 q13.1.2] :: Res.obj 36 v5 [.int .i16 cx2_0, .int .i16 cx2_1] :: Res.obj 36 v3 [.int .i16 bx1_0, .int .i16 bx1_1] :: Res.obj 36 v1 [.int .i16 ax0_0, .int .i16 ax0_1] :: ow)) ?_ ?_
    · rcases Bool.eq_false_or_eq_true (!((q19.1.1 == (0 : Int)) && ((q19.1.2 == (0 : Int)) && true))) with hb41 | hb41
      · skip
        refine st_fa (o' := 0) hf (by decide) (off := 0) (sz := 1) (by kernel_rfl) (by decide) (wantY hf rfl rfl hb41) rfl (hp.ob (i := 0) rfl) rfl ?_
        clear hf; intro a ha hf; clear ha
        refine st_ldO (u := .int .i64 q19.1.1) hf (by decide) pl2 (wantY hf rfl rfl hb41) rfl (hp.ob (i := 0) rfl) rfl ?_
        clear hf; intro a ha hf; clear ha
        refine st_ileq hf (by decide) (wantY hf rfl rfl hb41) rfl rfl ?_
        clear hf; intro a ha hf; clear ha
        refine st_move hf (wantY hf rfl rfl hb41) rfl (by decide) ?_
        clear hf; intro a ha hf; clear ha
        refine wpList_cut 4 (fun a w => Fr 179 a [(7, optr v7 0), (8, optr v9 0), (90, .bool z35), (94, .bool (!((q19.1.1 == (0 : Int)) && ((q19.1.2 == (0 : Int)) && true)))), (102, .bool ((decide (q19.1.1 ≤ (0 : Int))) || (decide (q19.1.2 < (0 : Int)))))] ∧ Hp S w0 w (Res.obj 56 v21 [.int .i64 q19.1.1, .int .i64 q19.1.2] :: Res.obj 56 v11 [.int .i64 (IntKind.i64.wrap ((cx2_0).tmod (99 : Int))), .int .i64 (IntKind.i64.wrap ((cx2_1).tmod (99 : Int)))] :: Res.obj 56 v9 [.int .i64 q15.1.1, .int .i64 q15.1.2] :: Res.obj 56 v7 [.int .i64 q13.1.1, .int .i64 q13.1.2] :: Res.obj 36 v5 [.int .i16 cx2_0, .int .i16 cx2_1] :: Res.obj 36 v3 [.int .i16 bx1_0, .int .i16 bx1_1] :: Res.obj 36 v1 [.int .i16 ax0_0, .int .i16 ax0_1] :: ow)) ?_ ?_
        · rcases Bool.eq_false_or_eq_true (decide (q19.1.1 ≤ (0 : Int))) with hb43 | hb43
          · skip
            refine st_skip hf (wantN hf rfl rfl hb43) rfl (by decide) ?_ rfl
            clear hf; intro a hf
            refine st_skip hf (wantN hf rfl rfl hb43) rfl (by decide) ?_ rfl
            clear hf; intro a hf
            refine st_skip hf (wantN hf rfl rfl hb43) rfl (by decide) ?_ rfl
            clear hf; intro a hf
            refine st_pick (v := .bool true) hf (wantY hf rfl rfl hb41) rfl (fun hb' => ?_) (fun hb' => ?_) (by decide) ?_
            · rfl
            · exact absurd (hb43.symm.trans hb') (by decide)
            clear hf; intro a ha hf; clear ha
            refine st_nil hf (th_n ?_)
            exact ⟨hf.sub ⟨rfl, rfl, rfl, rfl, (by rw [hb43]; rfl), trivial⟩, hp⟩
          refine st_fa (o' := 1) hf (by decide) (off := 1) (sz := 1) (by kernel_rfl) (by decide) (wantY hf rfl rfl hb43) rfl (hp.ob (i := 0) rfl) rfl ?_
          clear hf; intro a ha hf; clear ha
          refine st_ldO (u := .int .i64 q19.1.2) hf (by decide) pl2 (wantY hf rfl rfl hb43) rfl (hp.ob (i := 0) rfl) rfl ?_
          clear hf; intro a ha hf; clear ha
          refine st_ilss hf (by decide) (wantY hf rfl rfl hb43) rfl rfl ?_
          clear hf; intro a ha hf; clear ha
          refine st_pick (v := .bool (decide (q19.1.2 < (0 : Int)))) hf (wantY hf rfl rfl hb41) rfl (fun hb' => ?_) (fun hb' => ?_) (by decide) ?_
          · exact absurd (hb43.symm.trans hb') (by decide)
          · rfl
          clear hf; intro a ha hf; clear ha
          refine st_nil hf (th_n ?_)
          exact ⟨hf.sub ⟨rfl, rfl, rfl, rfl, (by rw [hb43]; rfl), trivial⟩, hp⟩
        rintro a w ⟨hf, hp⟩
        refine st_pick (v := .bool ((decide (q19.1.1 ≤ (0 : Int))) || (decide (q19.1.2 < (0 : Int))))) hf (wantY hf rfl rfl hb39) rfl (fun hb' => ?_) (fun hb' => ?_) (by decide) ?_
        · rfl
        · exact absurd (hb41.symm.trans hb') (by decide)
        clear hf; intro a ha hf; clear ha
        refine st_nil hf (th_n ?_)
        exact ⟨hf.sub ⟨rfl, rfl, rfl, (by rw [hb41]; rfl), trivial⟩, hp⟩
      refine st_skip hf (wantN hf rfl rfl hb41) rfl (by decide) ?_ rfl
      clear hf; intro a hf
      refine st_skip hf (wantN hf rfl rfl hb41) rfl (by decide) ?_ rfl
      clear hf; intro a hf
      refine st_skip hf (wantN hf rfl rfl hb41) rfl (by decide) ?_ rfl
      clear hf; intro a hf
      refine st_skipU hf (wantN hf rfl rfl hb41) rfl (by decide) ?_
      clear hf; intro a hf
      refine st_skip hf (wantU hf rfl rfl) rfl (by decide) ?_ rfl
      clear hf; intro a hf
      refine st_skip hf (wantU hf rfl rfl) rfl (by decide) ?_ rfl
      clear hf; intro a hf
      refine st_skip hf (wantU hf rfl rfl) rfl (by decide) ?_ rfl
      clear hf; intro a hf
      refine st_skip hf (wantN hf rfl rfl hb41) rfl (by decide) ?_ rfl
      clear hf; intro a hf
      refine st_pick (v := .bool false) hf (wantY hf rfl rfl hb39) rfl (fun hb' => ?_) (fun hb' => ?_) (by decide) ?_
      · exact absurd (hb41.symm.trans hb') (by decide)
      · rfl
      clear hf; intro a ha hf; clear ha
      refine st_nil hf (th_n ?_)
      exact ⟨hf.sub ⟨rfl, rfl, rfl, (by rw [hb41]; rfl), trivial⟩, hp⟩
    rintro a w ⟨hf, hp⟩
    refine st_pick (v := .bool ((!((q19.1.1 == (0 : Int)) && ((q19.1.2 == (0 : Int)) && true))) && ((decide (q19.1.1 ≤ (0 : Int))) || (decide (q19.1.2 < (0 : Int)))))) hf rfl rfl (fun hb' => ?_) (fun hb' => ?_) (by decide) ?_
    · exact absurd (hb39.symm.trans hb') (by decide)
    · rfl
    clear hf; intro a ha hf; clear ha
    refine st_nil hf (th_n ?_)
    exact ⟨hf.sub ⟨rfl, rfl, (by rw [hb39]; rfl), trivial⟩, hp⟩
  rintro a w ⟨hf, hp⟩
  refine st_nil hf ?_
  refine th_n ?_
  refine wp_if hf rfl (fun hb => ?_) (fun hb => ?_)
  · replace h := ifT h hb
    refine wp_seq ?_
    refine wp_reg ?_
    refine st_assign hf rfl rfl (by decide) ?_
    clear hf; intro a ha hf; clear ha
    refine st_nil hf ?_
    refine th_n ?_
    refine wp_ret ?_
    refine th_r ?_
    obtain rfl := Option.some.inj h
    have hp : Hp _ _ _ (ow) := Hp.sel (pre := [Res.obj 56 v21 [.int .i64 q19.1.1, .int .i64 q19.1.2], Res.obj 56 v11 [.int .i64 (IntKind.i64.wrap ((cx2_0).tmod (99 : Int))), .int .i64 (IntKind.i64.wrap ((cx2_1).tmod (99 : Int)))], Res.obj 56 v9 [.int .i64 q15.1.1, .int .i64 q15.1.2], Res.obj 56 v7 [.int .i64 q13.1.1, .int .i64 q13.1.2], Res.obj 36 v5 [.int .i16 cx2_0, .int .i16 cx2_1], Res.obj 36 v3 [.int .i16 bx1_0, .int .i16 bx1_1], Res.obj 36 v1 [.int .i16 ax0_0, .int .i16 ax0_1]]) (tail := ow) (rs' := []) hp [] (by decide) (by simp) rfl
    exact ⟨rfl, ⟨hf.sub ⟨rfl, trivial⟩, hp⟩⟩
  replace h := ifF h hb
  refine wp_skip ?_
  refine th_n ?_
  refine wp_seq ?_
  refine wp_reg ?_
  refine st_ldOA (m := 2) (us := [.int .i64 q13.1.1, .int .i64 q13.1.2]) hf (by decide) (by kernel_rfl) rfl rfl (hp.ob (i := 3) rfl) rfl rfl ?_
  clear hf; intro a ha hf; clear ha
  refine st_ldOA (m := 2) (us := [.int .i64 q15.1.1, .int .i64 q15.1.2]) hf (by decide) (by kernel_rfl) rfl rfl (hp.ob (i := 2) rfl) rfl rfl ?_
  clear hf; intro a ha hf; clear ha
  obtain ⟨q44, hcall45, h⟩ := bnd h
  refine st_call hf (by decide) Try.func34 rfl rfl rfl rfl rfl (f_plane_Gauss_By_c hp _ _ _ _ hcall45) ?_
  rintro _ w ⟨rfl, hp0⟩
  clear hp; have hp := hp0; clear hp0
  replace hp : Hp _ _ _ (Res.obj 56 v21 [.int .i64 q19.1.1, .int .i64 q19.1.2] :: Res.obj 56 v11 [.int .i64 (IntKind.i64.wrap ((cx2_0).tmod (99 : Int))), .int .i64 (IntKind.i64.wrap ((cx2_1).tmod (99 : Int)))] :: Res.obj 56 v9 [.int .i64 q15.1.1, .int .i64 q15.1.2] :: Res.obj 56 v7 [.int .i64 q13.1.1, .int .i64 q13.1.2] :: Res.obj 36 v5 [.int .i16 cx2_0, .int .i16 cx2_1] :: Res.obj 36 v3 [.int .i16 bx1_0, .int .i16 bx1_1] :: Res.obj 36 v1 [.int .i16 ax0_0, .int .i16 ax0_1] :: ow) := hp
  refine ⟨_, rfl, ?_⟩
  clear hf; intro a hf
  refine st_move hf rfl rfl (by decide) ?_
  clear hf; intro a ha hf; clear ha
  refine st_extract hf (by decide) rfl rfl rfl ?_
  clear hf; intro a ha hf; clear ha
  refine st_extract hf (by decide) rfl rfl rfl ?_
  clear hf; intro a ha hf; clear ha
  refine st_extract hf (by decide) rfl rfl rfl ?_
  clear hf; intro a ha hf; clear ha
  refine st_alloc (cs := [.int .i64 (0 : Int), .int .i64 (0 : Int)]) (zv := .agg #[.int .i64 (0 : Int), .int .i64 (0 : Int)]) hf (by decide) (by kernel_rfl) rfl hp rfl ?_
  clear hf; intro a w v46 hf hp0; clear hp; have hp := hp0; clear hp0
  replace hp : Hp _ _ _ (Res.obj 56 v46 [.int .i64 (0 : Int), .int .i64 (0 : Int)] :: Res.obj 56 v21 [.int .i64 q19.1.1, .int .i64 q19.1.2] :: Res.obj 56 v11 [.int .i64 (IntKind.i64.wrap ((cx2_0).tmod (99 : Int))), .int .i64 (IntKind.i64.wrap ((cx2_1).tmod (99 : Int)))] :: Res.obj 56 v9 [.int .i64 q15.1.1, .int .i64 q15.1.2] :: Res.obj 56 v7 [.int .i64 q13.1.1, .int .i64 q13.1.2] :: Res.obj 36 v5 [.int .i16 cx2_0, .int .i16 cx2_1] :: Res.obj 36 v3 [.int .i16 bx1_0, .int .i16 bx1_1] :: Res.obj 36 v1 [.int .i16 ax0_0, .int .i16 ax0_1] :: ow) := hp
  refine st_alloc (cs := [.int .i64 (0 : Int), .int .i64 (0 : Int)]) (zv := .agg #[.int .i64 (0 : Int), .int .i64 (0 : Int)]) hf (by decide) (by kernel_rfl) rfl hp rfl ?_
  clear hf; intro a w v48 hf hp0; clear hp; have hp := hp0; clear hp0
  replace hp : Hp _ _ _ (Res.obj 56 v48 [.int .i64 (0 : Int), .int .i64 (0 : Int)] :: Res.obj 56 v46 [.int .i64 (0 : Int), .int .i64 (0 : Int)] :: Res.obj 56 v21 [.int .i64 q19.1.1, .int .i64 q19.1.2] :: Res.obj 56 v11 [.int .i64 (IntKind.i64.wrap ((cx2_0).tmod (99 : Int))), .int .i64 (IntKind.i64.wrap ((cx2_1).tmod (99 : Int)))] :: Res.obj 56 v9 [.int .i64 q15.1.1, .int .i64 q15.1.2] :: Res.obj 56 v7 [.int .i64 q13.1.1, .int .i64 q13.1.2] :: Res.obj 36 v5 [.int .i16 cx2_0, .int .i16 cx2_1] :: Res.obj 36 v3 [.int .i16 bx1_0, .int .i16 bx1_1] :: Res.obj 36 v1 [.int .i16 ax0_0, .int .i16 ax0_1] :: ow) := hp
  refine st_stO (us := [.int .i64 q44.1.1, .int .i64 q44.1.2]) hf hp (i := 1) rfl rfl rfl rfl rfl (by rfl) (by kernel_rfl) (Nat.le_of_ble_eq_true rfl) ?_
  clear hf; intro a w hf hp0; clear hp; have hp := hp0; clear hp0
  replace hp : Hp _ _ _ (Res.obj 56 v48 [.int .i64 (0 : Int), .int .i64 (0 : Int)] :: Res.obj 56 v46 [.int .i64 q44.1.1, .int .i64 q44.1.2] :: Res.obj 56 v21 [.int .i64 q19.1.1, .int .i64 q19.1.2] :: Res.obj 56 v11 [.int .i64 (IntKind.i64.wrap ((cx2_0).tmod (99 : Int))), .int .i64 (IntKind.i64.wrap ((cx2_1).tmod (99 : Int)))] :: Res.obj 56 v9 [.int .i64 q15.1.1, .int .i64 q15.1.2] :: Res.obj 56 v7 [.int .i64 q13.1.1, .int .i64 q13.1.2] :: Res.obj 36 v5 [.int .i16 cx2_0, .int .i16 cx2_1] :: Res.obj 36 v3 [.int .i16 bx1_0, .int .i16 bx1_1] :: Res.obj 36 v1 [.int .i16 ax0_0, .int .i16 ax0_1] :: ow) := hp
  refine st_stO (us := [.int .i64 q44.2.1.1, .int .i64 q44.2.1.2]) hf hp (i := 0) rfl rfl rfl rfl rfl (by rfl) (by kernel_rfl) (Nat.le_of_ble_eq_true rfl) ?_
  clear hf; intro a w hf hp0; clear hp; have hp := hp0; clear hp0
  replace hp : Hp _ _ _ (Res.obj 56 v48 [.int .i64 q44.2.1.1, .int .i64 q44.2.1.2] :: Res.obj 56 v46 [.int .i64 q44.1.1, .int .i64 q44.1.2] :: Res.obj 56 v21 [.int .i64 q19.1.1, .int .i64 q19.1.2] :: Res.obj 56 v11 [.int .i64 (IntKind.i64.wrap ((cx2_0).tmod (99 : Int))), .int .i64 (IntKind.i64.wrap ((cx2_1).tmod (99 : Int)))] :: Res.obj 56 v9 [.int .i64 q15.1.1, .int .i64 q15.1.2] :: Res.obj 56 v7 [.int .i64 q13.1.1, .int .i64 q13.1.2] :: Res.obj 36 v5 [.int .i16 cx2_0, .int .i16 cx2_1] :: Res.obj 36 v3 [.int .i16 bx1_0, .int .i16 bx1_1] :: Res.obj 36 v1 [.int .i16 ax0_0, .int .i16 ax0_1] :: ow) := hp
  refine st_assign hf rfl rfl (by decide) ?_
  clear hf; intro a ha hf; clear ha
  refine st_nil hf ?_
  refine th_n ?_
  refine wp_seq ?_
  refine wp_seq ?_
  refine wp_reg ?_
  refine st_ldOA (m := 2) (us := [.int .i64 q15.1.1, .int .i64 q15.1.2]) hf (by decide) (by kernel_rfl) rfl rfl (hp.ob (i := 4) rfl) rfl rfl ?_
  clear hf; intro a ha hf; clear ha
  refine st_buildA (vals := []) (cells := [.int .i64 (0 : Int), .int .i64 (0 : Int)]) hf (by decide) rfl (by simp []) (fun w => by kernel_rfl) ?_
  clear hf; intro a ha hf; clear ha
  refine st_eqA (xs := [.int .i64 q15.1.1, .int .i64 q15.1.2]) (ys := [.int .i64 (0 : Int), .int .i64 (0 : Int)]) hf (by decide) (by kernel_rfl) (by kernel_rfl) (by kernel_rfl) (by kernel_rfl) rfl rfl rfl (b := ((q15.1.1 == (0 : Int)) && ((q15.1.2 == (0 : Int)) && true))) rfl ?_
  clear hf; intro a ha hf; clear ha
  refine st_nil hf ?_
  refine th_n ?_
  refine wp_if hf rfl (fun hb => ?_) (fun hb => ?_)
  · replace h := ifT h hb
    refine wp_seq ?_
    refine wp_reg ?_
    refine st_move hf rfl rfl (by decide) ?_
    clear hf; intro a ha hf; clear ha
    refine st_ieql hf (by decide) rfl rfl rfl ?_
    clear hf; intro a ha hf; clear ha
    refine st_move hf rfl rfl (by decide) ?_
    clear hf; intro a ha hf; clear ha
    obtain ⟨z52, hz50, h⟩ := bnd h
    refine wpList_cut 2 (fun a w => Fr 179 a [(119, .bool z52)] ∧ Hp S w0 w (Res.obj 56 v48 [.int .i64 q44.2.1.1, .int .i64 q44.2.1.2] :: Res.obj 56 v46 [.int .i64 q44.1.1, .int .i64 q44.1.2] :: Res.obj 56 v21 [.int .i64 q19.1.1, .int .i64 q19.1.2] :: Res.obj 56 v11 [.int .i64 (IntKind.i64.wrap ((cx2_0).tmod (99 : Int))), .int .i64 (IntKind.i64.wrap ((cx2_1).tmod (99 : Int)))] :: Res.obj 56 v9 [.int .i64 q15.1.1, .int .i64 q15.1.2] :: Res.obj 56 v7 [.int .i64 q13.1.1, .int .i64 q13.1.2] :: Res.obj 36 v5 [.int .i16 cx2_0, .int .i16 cx2_1] :: Res.obj 36 v3 [.int .i16 bx1_0, .int .i16 bx1_1] :: Res.obj 36 v1 [.int .i16 ax0_0, .int .i16 ax0_1] :: ow)) ?_ ?_
    · rcases Bool.eq_false_or_eq_true (q44.2.2 == (6 : Int)) with hb51 | hb51
      · skip
        replace hz50 := ifT hz50 hb51
        obtain ⟨q53, hcall54, hz50⟩ := bnd hz50
        refine st_call hf (by decide) Try.func24 rfl rfl (wantY hf rfl rfl hb51) rfl rfl (f_foghornlaw03_awake_c hp  hcall54) ?_
        rintro _ w ⟨rfl, hp0⟩
        clear hp; have hp := hp0; clear hp0
        replace hp : Hp _ _ _ (Res.obj 56 v48 [.int .i64 q44.2.1.1, .int .i64 q44.2.1.2] :: Res.obj 56 v46 [.int .i64 q44.1.1, .int .i64 q44.1.2] :: Res.obj 56 v21 [.int .i64 q19.1.1, .int .i64 q19.1.2] :: Res.obj 56 v11 [.int .i64 (IntKind.i64.wrap ((cx2_0).tmod (99 : Int))), .int .i64 (IntKind.i64.wrap ((cx2_1).tmod (99 : Int)))] :: Res.obj 56 v9 [.int .i64 q15.1.1, .int .i64 q15.1.2] :: Res.obj 56 v7 [.int .i64 q13.1.1, .int .i64 q13.1.2] :: Res.obj 36 v5 [.int .i16 cx2_0, .int .i16 cx2_1] :: Res.obj 36 v3 [.int .i16 bx1_0, .int .i16 bx1_1] :: Res.obj 36 v1 [.int .i16 ax0_0, .int .i16 ax0_1] :: ow) := hp
        refine ⟨_, rfl, ?_⟩
        clear hf; intro a hf
        obtain rfl := Option.some.inj hz50
        refine st_pick (v := .bool q53) hf rfl rfl (fun hb' => ?_) (fun hb' => ?_) (by decide) ?_
        · rfl
        · exact absurd (hb51.symm.trans hb') (by decide)
        clear hf; intro a ha hf; clear ha
        refine st_nil hf (th_n ?_)
        exact ⟨hf.sub ⟨rfl, trivial⟩, hp⟩
      replace hz50 := ifF hz50 hb51
      refine st_skip hf (wantN hf rfl rfl hb51) rfl (by decide) ?_ rfl
      clear hf; intro a hf
      obtain rfl := Option.some.inj hz50
      refine st_pick (v := .bool false) hf rfl rfl (fun hb' => ?_) (fun hb' => ?_) (by decide) ?_
      · exact absurd (hb51.symm.trans hb') (by decide)
      · rfl
      clear hf; intro a ha hf; clear ha
      refine st_nil hf (th_n ?_)
      exact ⟨hf.sub ⟨rfl, trivial⟩, hp⟩
    rintro a w ⟨hf, hp⟩
    refine st_assign hf rfl rfl (by decide) ?_
    clear hf; intro a ha hf; clear ha
    refine st_nil hf ?_
    refine th_n ?_
    refine wp_ret ?_
    refine th_r ?_
    obtain rfl := Option.some.inj h
    have hp : Hp _ _ _ (ow) := Hp.sel (pre := [Res.obj 56 v48 [.int .i64 q44.2.1.1, .int .i64 q44.2.1.2], Res.obj 56 v46 [.int .i64 q44.1.1, .int .i64 q44.1.2], Res.obj 56 v21 [.int .i64 q19.1.1, .int .i64 q19.1.2], Res.obj 56 v11 [.int .i64 (IntKind.i64.wrap ((cx2_0).tmod (99 : Int))), .int .i64 (IntKind.i64.wrap ((cx2_1).tmod (99 : Int)))], Res.obj 56 v9 [.int .i64 q15.1.1, .int .i64 q15.1.2], Res.obj 56 v7 [.int .i64 q13.1.1, .int .i64 q13.1.2], Res.obj 36 v5 [.int .i16 cx2_0, .int .i16 cx2_1], Res.obj 36 v3 [.int .i16 bx1_0, .int .i16 bx1_1], Res.obj 36 v1 [.int .i16 ax0_0, .int .i16 ax0_1]]) (tail := ow) (rs' := []) hp [] (by decide) (by simp) rfl
    exact ⟨rfl, ⟨hf.sub ⟨rfl, trivial⟩, hp⟩⟩
  replace h := ifF h hb
  refine wp_skip ?_
  refine th_n ?_
  refine wp_seq ?_
  refine wp_reg ?_
  refine st_ldOA (m := 2) (us := [.int .i64 q44.1.1, .int .i64 q44.1.2]) hf (by decide) (by kernel_rfl) rfl rfl (hp.ob (i := 1) rfl) rfl rfl ?_
  clear hf; intro a ha hf; clear ha
  refine st_ldOA (m := 2) (us := [.int .i64 q15.1.1, .int .i64 q15.1.2]) hf (by decide) (by kernel_rfl) rfl rfl (hp.ob (i := 4) rfl) rfl rfl ?_
  clear hf; intro a ha hf; clear ha
  obtain ⟨q55, hcall56, h⟩ := bnd h
  refine st_call hf (by decide) Try.func31 rfl rfl rfl rfl rfl (f_plane_Gauss_Times_c hp _ _ _ _ hcall56) ?_
  rintro _ w ⟨rfl, hp0⟩
  clear hp; have hp := hp0; clear hp0
  replace hp : Hp _ _ _ (Res.obj 56 v48 [.int .i64 q44.2.1.1, .int .i64 q44.2.1.2] :: Res.obj 56 v46 [.int .i64 q44.1.1, .int .i64 q44.1.2] :: Res.obj 56 v21 [.int .i64 q19.1.1, .int .i64 q19.1.2] :: Res.obj 56 v11 [.int .i64 (IntKind.i64.wrap ((cx2_0).tmod (99 : Int))), .int .i64 (IntKind.i64.wrap ((cx2_1).tmod (99 : Int)))] :: Res.obj 56 v9 [.int .i64 q15.1.1, .int .i64 q15.1.2] :: Res.obj 56 v7 [.int .i64 q13.1.1, .int .i64 q13.1.2] :: Res.obj 36 v5 [.int .i16 cx2_0, .int .i16 cx2_1] :: Res.obj 36 v3 [.int .i16 bx1_0, .int .i16 bx1_1] :: Res.obj 36 v1 [.int .i16 ax0_0, .int .i16 ax0_1] :: ow) := hp
  refine ⟨_, rfl, ?_⟩
  clear hf; intro a hf
  refine st_move hf rfl rfl (by decide) ?_
  clear hf; intro a ha hf; clear ha
  refine st_extract hf (by decide) rfl rfl rfl ?_
  clear hf; intro a ha hf; clear ha
  refine st_extract hf (by decide) rfl rfl rfl ?_
  clear hf; intro a ha hf; clear ha
  refine st_alloc (cs := [.int .i64 (0 : Int), .int .i64 (0 : Int)]) (zv := .agg #[.int .i64 (0 : Int), .int .i64 (0 : Int)]) hf (by decide) (by kernel_rfl) rfl hp rfl ?_
  clear hf; intro a w v57 hf hp0; clear hp; have hp := hp0; clear hp0
  replace hp : Hp _ _ _ (Res.obj 56 v57 [.int .i64 (0 : Int), .int .i64 (0 : Int)] :: Res.obj 56 v48 [.int .i64 q44.2.1.1, .int .i64 q44.2.1.2] :: Res.obj 56 v46 [.int .i64 q44.1.1, .int .i64 q44.1.2] :: Res.obj 56 v21 [.int .i64 q19.1.1, .int .i64 q19.1.2] :: Res.obj 56 v11 [.int .i64 (IntKind.i64.wrap ((cx2_0).tmod (99 : Int))), .int .i64 (IntKind.i64.wrap ((cx2_1).tmod (99 : Int)))] :: Res.obj 56 v9 [.int .i64 q15.1.1, .int .i64 q15.1.2] :: Res.obj 56 v7 [.int .i64 q13.1.1, .int .i64 q13.1.2] :: Res.obj 36 v5 [.int .i16 cx2_0, .int .i16 cx2_1] :: Res.obj 36 v3 [.int .i16 bx1_0, .int .i16 bx1_1] :: Res.obj 36 v1 [.int .i16 ax0_0, .int .i16 ax0_1] :: ow) := hp
  refine st_stO (us := [.int .i64 q55.1.1, .int .i64 q55.1.2]) hf hp (i := 0) rfl rfl rfl rfl rfl (by rfl) (by kernel_rfl) (Nat.le_of_ble_eq_true rfl) ?_
  clear hf; intro a w hf hp0; clear hp; have hp := hp0; clear hp0
  replace hp : Hp _ _ _ (Res.obj 56 v57 [.int .i64 q55.1.1, .int .i64 q55.1.2] :: Res.obj 56 v48 [.int .i64 q44.2.1.1, .int .i64 q44.2.1.2] :: Res.obj 56 v46 [.int .i64 q44.1.1, .int .i64 q44.1.2] :: Res.obj 56 v21 [.int .i64 q19.1.1, .int .i64 q19.1.2] :: Res.obj 56 v11 [.int .i64 (IntKind.i64.wrap ((cx2_0).tmod (99 : Int))), .int .i64 (IntKind.i64.wrap ((cx2_1).tmod (99 : Int)))] :: Res.obj 56 v9 [.int .i64 q15.1.1, .int .i64 q15.1.2] :: Res.obj 56 v7 [.int .i64 q13.1.1, .int .i64 q13.1.2] :: Res.obj 36 v5 [.int .i16 cx2_0, .int .i16 cx2_1] :: Res.obj 36 v3 [.int .i16 bx1_0, .int .i16 bx1_1] :: Res.obj 36 v1 [.int .i16 ax0_0, .int .i16 ax0_1] :: ow) := hp
  refine st_assign hf rfl rfl (by decide) ?_
  clear hf; intro a ha hf; clear ha
  refine st_nil hf ?_
  refine th_n ?_
  refine wp_seq ?_
  refine wp_reg ?_
  refine st_ldOA (m := 2) (us := [.int .i64 q44.2.1.1, .int .i64 q44.2.1.2]) hf (by decide) (by kernel_rfl) rfl rfl (hp.ob (i := 1) rfl) rfl rfl ?_
  clear hf; intro a ha hf; clear ha
  obtain ⟨q59, hcall60, h⟩ := bnd h
  refine st_call hf (by decide) Try.func35 rfl rfl rfl rfl rfl (f_plane_Gauss_Norm_c hp _ _ hcall60) ?_
  rintro _ w ⟨rfl, hp0⟩
  clear hp; have hp := hp0; clear hp0
  replace hp : Hp _ _ _ (Res.obj 56 v57 [.int .i64 q55.1.1, .int .i64 q55.1.2] :: Res.obj 56 v48 [.int .i64 q44.2.1.1, .int .i64 q44.2.1.2] :: Res.obj 56 v46 [.int .i64 q44.1.1, .int .i64 q44.1.2] :: Res.obj 56 v21 [.int .i64 q19.1.1, .int .i64 q19.1.2] :: Res.obj 56 v11 [.int .i64 (IntKind.i64.wrap ((cx2_0).tmod (99 : Int))), .int .i64 (IntKind.i64.wrap ((cx2_1).tmod (99 : Int)))] :: Res.obj 56 v9 [.int .i64 q15.1.1, .int .i64 q15.1.2] :: Res.obj 56 v7 [.int .i64 q13.1.1, .int .i64 q13.1.2] :: Res.obj 36 v5 [.int .i16 cx2_0, .int .i16 cx2_1] :: Res.obj 36 v3 [.int .i16 bx1_0, .int .i16 bx1_1] :: Res.obj 36 v1 [.int .i16 ax0_0, .int .i16 ax0_1] :: ow) := hp
  refine ⟨_, rfl, ?_⟩
  clear hf; intro a hf
  refine st_move hf rfl rfl (by decide) ?_
  clear hf; intro a ha hf; clear ha
  refine st_extract hf (by decide) rfl rfl rfl ?_
  clear hf; intro a ha hf; clear ha
  refine st_extract hf (by decide) rfl rfl rfl ?_
  clear hf; intro a ha hf; clear ha
  refine st_assign hf rfl rfl (by decide) ?_
  clear hf; intro a ha hf; clear ha
  refine st_assign hf rfl rfl (by decide) ?_
  clear hf; intro a ha hf; clear ha
  refine st_nil hf ?_
  refine th_n ?_
  refine wp_seq ?_
  refine wp_reg ?_
  refine st_ldOA (m := 2) (us := [.int .i64 q15.1.1, .int .i64 q15.1.2]) hf (by decide) (by kernel_rfl) rfl rfl (hp.ob (i := 5) rfl) rfl rfl ?_
  clear hf; intro a ha hf; clear ha
  obtain ⟨q61, hcall62, h⟩ := bnd h
  refine st_call hf (by decide) Try.func35 rfl rfl rfl rfl rfl (f_plane_Gauss_Norm_c hp _ _ hcall62) ?_
  rintro _ w ⟨rfl, hp0⟩
  clear hp; have hp := hp0; clear hp0
  replace hp : Hp _ _ _ (Res.obj 56 v57 [.int .i64 q55.1.1, .int .i64 q55.1.2] :: Res.obj 56 v48 [.int .i64 q44.2.1.1, .int .i64 q44.2.1.2] :: Res.obj 56 v46 [.int .i64 q44.1.1, .int .i64 q44.1.2] :: Res.obj 56 v21 [.int .i64 q19.1.1, .int .i64 q19.1.2] :: Res.obj 56 v11 [.int .i64 (IntKind.i64.wrap ((cx2_0).tmod (99 : Int))), .int .i64 (IntKind.i64.wrap ((cx2_1).tmod (99 : Int)))] :: Res.obj 56 v9 [.int .i64 q15.1.1, .int .i64 q15.1.2] :: Res.obj 56 v7 [.int .i64 q13.1.1, .int .i64 q13.1.2] :: Res.obj 36 v5 [.int .i16 cx2_0, .int .i16 cx2_1] :: Res.obj 36 v3 [.int .i16 bx1_0, .int .i16 bx1_1] :: Res.obj 36 v1 [.int .i16 ax0_0, .int .i16 ax0_1] :: ow) := hp
  refine ⟨_, rfl, ?_⟩
  clear hf; intro a hf
  refine st_move hf rfl rfl (by decide) ?_
  clear hf; intro a ha hf; clear ha
  refine st_extract hf (by decide) rfl rfl rfl ?_
  clear hf; intro a ha hf; clear ha
  refine st_extract hf (by decide) rfl rfl rfl ?_
  clear hf; intro a ha hf; clear ha
  refine st_assign hf rfl rfl (by decide) ?_
  clear hf; intro a ha hf; clear ha
  refine st_assign hf rfl rfl (by decide) ?_
  clear hf; intro a ha hf; clear ha
  refine st_nil hf ?_
  refine th_n ?_
  refine wp_seq ?_
  refine wp_reg ?_
  refine st_move hf rfl rfl (by decide) ?_
  clear hf; intro a ha hf; clear ha
  refine st_ieql hf (by decide) rfl rfl rfl ?_
  clear hf; intro a ha hf; clear ha
  refine st_move hf rfl rfl (by decide) ?_
  clear hf; intro a ha hf; clear ha
  refine wpList_cut 3 (fun a w => Fr 179 a [(7, optr v7 0), (15, optr v48 0), (17, optr v57 0), (19, .int .i64 q59.1), (20, .int .i64 q59.2), (21, .int .i64 q61.1), (22, .int .i64 q61.2), (141, .bool ((q44.2.2 == (0 : Int)) && (q55.2 == (0 : Int))))] ∧ Hp S w0 w (Res.obj 56 v57 [.int .i64 q55.1.1, .int .i64 q55.1.2] :: Res.obj 56 v48 [.int .i64 q44.2.1.1, .int .i64 q44.2.1.2] :: Res.obj 56 v46 [.int .i64 q44.1.1, .int .i64 q44.1.2] :: Res.obj 56 v21 [.int .i64 q19.1.1, .int .i64 q19.1.2] :: Res.obj 56 v11 [.int .i64 (IntKind.i64.wrap ((cx2_0).tmod (99 : Int))), .int .i64 (IntKind.i64.wrap ((cx2_1).tmod (99 : Int)))] :: Res.obj 56 v9 [.int .i64 q15.1.1, .int .i64 q15.1.2] :: Res.obj 56 v7 [.int .i64 q13.1.1, .int .i64 q13.1.2] :: Res.obj 36 v5 [.int .i16 cx2_0, .int .i16 cx2_1] :: Res.obj 36 v3 [.int .i16 bx1_0, .int .i16 bx1_1] :: Res.obj 36 v1 [.int .i16 ax0_0, .int .i16 ax0_1] :: ow)) ?_ ?_
  · rcases Bool.eq_false_or_eq_true (q44.2.2 == (0 : Int)) with hb64 | hb64
    · skip
      refine st_move hf (wantY hf rfl rfl hb64) rfl (by decide) ?_
      clear hf; intro a ha hf; clear ha
      refine st_ieql hf (by decide) (wantY hf rfl rfl hb64) rfl rfl ?_
      clear hf; intro a ha hf; clear ha
      refine st_pick (v := .bool (q55.2 == (0 : Int))) hf rfl rfl (fun hb' => ?_) (fun hb' => ?_) (by decide) ?_
      · rfl
      · exact absurd (hb64.symm.trans hb') (by decide)
      clear hf; intro a ha hf; clear ha
      refine st_nil hf (th_n ?_)
      exact ⟨hf.sub ⟨rfl, rfl, rfl, rfl, rfl, rfl, rfl, (by rw [hb64]; rfl), trivial⟩, hp⟩
    refine st_skip hf (wantN hf rfl rfl hb64) rfl (by decide) ?_ rfl
    clear hf; intro a hf
    refine st_skip hf (wantN hf rfl rfl hb64) rfl (by decide) ?_ rfl
    clear hf; intro a hf
    refine st_pick (v := .bool false) hf rfl rfl (fun hb' => ?_) (fun hb' => ?_) (by decide) ?_
    · exact absurd (hb64.symm.trans hb') (by decide)
    · rfl
    clear hf; intro a ha hf; clear ha
    refine st_nil hf (th_n ?_)
    exact ⟨hf.sub ⟨rfl, rfl, rfl, rfl, rfl, rfl, rfl, (by rw [hb64]; rfl), trivial⟩, hp⟩
  rintro a w ⟨hf, hp⟩
  refine st_move hf rfl rfl (by decide) ?_
  clear hf; intro a ha hf; clear ha
  refine wpList_cut 3 (fun a w => Fr 179 a [(7, optr v7 0), (15, optr v48 0), (17, optr v57 0), (19, .int .i64 q59.1), (21, .int .i64 q61.1), (22, .int .i64 q61.2), (145, .bool (((q44.2.2 == (0 : Int)) && (q55.2 == (0 : Int))) && (q59.2 == (0 : Int))))] ∧ Hp S w0 w (Res.obj 56 v57 [.int .i64 q55.1.1, .int .i64 q55.1.2] :: Res.obj 56 v48 [.int .i64 q44.2.1.1, .int .i64 q44.2.1.2] :: Res.obj 56 v46 [.int .i64 q44.1.1, .int .i64 q44.1.2] :: Res.obj 56 v21 [.int .i64 q19.1.1, .int .i64 q19.1.2] :: Res.obj 56 v11 [.int .i64 (IntKind.i64.wrap ((cx2_0).tmod (99 : Int))), .int .i64 (IntKind.i64.wrap ((cx2_1).tmod (99 : Int)))] :: Res.obj 56 v9 [.int .i64 q15.1.1, .int .i64 q15.1.2] :: Res.obj 56 v7 [.int .i64 q13.1.1, .int .i64 q13.1.2] :: Res.obj 36 v5 [.int .i16 cx2_0, .int .i16 cx2_1] :: Res.obj 36 v3 [.int .i16 bx1_0, .int .i16 bx1_1] :: Res.obj 36 v1 [.int .i16 ax0_0, .int .i16 ax0_1] :: ow)) ?_ ?_
  · rcases Bool.eq_false_or_eq_true ((q44.2.2 == (0 : Int)) && (q55.2 == (0 : Int))) with hb66 | hb66
    · skip
      refine st_move hf (wantY hf rfl rfl hb66) rfl (by decide) ?_
      clear hf; intro a ha hf; clear ha
      refine st_ieql hf (by decide) (wantY hf rfl rfl hb66) rfl rfl ?_
      clear hf; intro a ha hf; clear ha
      refine st_pick (v := .bool (q59.2 == (0 : Int))) hf rfl rfl (fun hb' => ?_) (fun hb' => ?_) (by decide) ?_
      · rfl
      · exact absurd (hb66.symm.trans hb') (by decide)
      clear hf; intro a ha hf; clear ha
      refine st_nil hf (th_n ?_)
      exact ⟨hf.sub ⟨rfl, rfl, rfl, rfl, rfl, rfl, (by rw [hb66]; rfl), trivial⟩, hp⟩
    refine st_skip hf (wantN hf rfl rfl hb66) rfl (by decide) ?_ rfl
    clear hf; intro a hf
    refine st_skip hf (wantN hf rfl rfl hb66) rfl (by decide) ?_ rfl
    clear hf; intro a hf
    refine st_pick (v := .bool false) hf rfl rfl (fun hb' => ?_) (fun hb' => ?_) (by decide) ?_
    · exact absurd (hb66.symm.trans hb') (by decide)
    · rfl
    clear hf; intro a ha hf; clear ha
    refine st_nil hf (th_n ?_)
    exact ⟨hf.sub ⟨rfl, rfl, rfl, rfl, rfl, rfl, (by rw [hb66]; rfl), trivial⟩, hp⟩
  rintro a w ⟨hf, hp⟩
  refine st_move hf rfl rfl (by decide) ?_
  clear hf; intro a ha hf; clear ha
  refine wpList_cut 3 (fun a w => Fr 179 a [(7, optr v7 0), (15, optr v48 0), (17, optr v57 0), (19, .int .i64 q59.1), (21, .int .i64 q61.1), (149, .bool ((((q44.2.2 == (0 : Int)) && (q55.2 == (0 : Int))) && (q59.2 == (0 : Int))) && (q61.2 == (0 : Int))))] ∧ Hp S w0 w (Res.obj 56 v57 [.int .i64 q55.1.1, .int .i64 q55.1.2] :: Res.obj 56 v48 [.int .i64 q44.2.1.1, .int .i64 q44.2.1.2] :: Res.obj 56 v46 [.int .i64 q44.1.1, .int .i64 q44.1.2] :: Res.obj 56 v21 [.int .i64 q19.1.1, .int .i64 q19.1.2] :: Res.obj 56 v11 [.int .i64 (IntKind.i64.wrap ((cx2_0).tmod (99 : Int))), .int .i64 (IntKind.i64.wrap ((cx2_1).tmod (99 : Int)))] :: Res.obj 56 v9 [.int .i64 q15.1.1, .int .i64 q15.1.2] :: Res.obj 56 v7 [.int .i64 q13.1.1, .int .i64 q13.1.2] :: Res.obj 36 v5 [.int .i16 cx2_0, .int .i16 cx2_1] :: Res.obj 36 v3 [.int .i16 bx1_0, .int .i16 bx1_1] :: Res.obj 36 v1 [.int .i16 ax0_0, .int .i16 ax0_1] :: ow)) ?_ ?_
  · rcases Bool.eq_false_or_eq_true (((q44.2.2 == (0 : Int)) && (q55.2 == (0 : Int))) && (q59.2 == (0 : Int))) with hb68 | hb68
    · skip
      refine st_move hf (wantY hf rfl rfl hb68) rfl (by decide) ?_
      clear hf; intro a ha hf; clear ha
      refine st_ieql hf (by decide) (wantY hf rfl rfl hb68) rfl rfl ?_
      clear hf; intro a ha hf; clear ha
      refine st_pick (v := .bool (q61.2 == (0 : Int))) hf rfl rfl (fun hb' => ?_) (fun hb' => ?_) (by decide) ?_
      · rfl
      · exact absurd (hb68.symm.trans hb') (by decide)
      clear hf; intro a ha hf; clear ha
      refine st_nil hf (th_n ?_)
      exact ⟨hf.sub ⟨rfl, rfl, rfl, rfl, rfl, (by rw [hb68]; rfl), trivial⟩, hp⟩
    refine st_skip hf (wantN hf rfl rfl hb68) rfl (by decide) ?_ rfl
    clear hf; intro a hf
    refine st_skip hf (wantN hf rfl rfl hb68) rfl (by decide) ?_ rfl
    clear hf; intro a hf
    refine st_pick (v := .bool false) hf rfl rfl (fun hb' => ?_) (fun hb' => ?_) (by decide) ?_
    · exact absurd (hb68.symm.trans hb') (by decide)
    · rfl
    clear hf; intro a ha hf; clear ha
    refine st_nil hf (th_n ?_)
    exact ⟨hf.sub ⟨rfl, rfl, rfl, rfl, rfl, (by rw [hb68]; rfl), trivial⟩, hp⟩
  rintro a w ⟨hf, hp⟩
  refine st_move hf rfl rfl (by decide) ?_
  clear hf; intro a ha hf; clear ha
  refine wpList_cut 9 (fun a w => Fr 179 a [(7, optr v7 0), (15, optr v48 0), (17, optr v57 0), (19, .int .i64 q59.1), (21, .int .i64 q61.1), (159, .bool (((((q44.2.2 == (0 : Int)) && (q55.2 == (0 : Int))) && (q59.2 == (0 : Int))) && (q61.2 == (0 : Int))) && ((IntKind.i64.wrap (q55.1.1 + q44.2.1.1)) == q13.1.1)))] ∧ Hp S w0 w (Res.obj 56 v57 [.int .i64 q55.1.1, .int .i64 q55.1.2] :: Res.obj 56 v48 [.int .i64 q44.2.1.1, .int .i64 q44.2.1.2] :: Res.obj 56 v46 [.int .i64 q44.1.1, .int .i64 q44.1.2] :: Res.obj 56 v21 [.int .i64 q19.1.1, .int .i64 q19.1.2] :: Res.obj 56 v11 [.int .i64 (IntKind.i64.wrap ((cx2_0).tmod (99 : Int))), .int .i64 (IntKind.i64.wrap ((cx2_1).tmod (99 : Int)))] :: Res.obj 56 v9 [.int .i64 q15.1.1, .int .i64 q15.1.2] :: Res.obj 56 v7 [.int .i64 q13.1.1, .int .i64 q13.1.2] :: Res.obj 36 v5 [.int .i16 cx2_0, .int .i16 cx2_1] :: Res.obj 36 v3 [.int .i16 bx1_0, .int .i16 bx1_1] :: Res.obj 36 v1 [.int .i16 ax0_0, .int .i16 ax0_1] :: ow)) ?_ ?_
  · rcases Bool.eq_false_or_eq_true ((((q44.2.2 == (0 : Int)) && (q55.2 == (0 : Int))) && (q59.2 == (0 : Int))) && (q61.2 == (0 : Int))) with hb70 | hb70
    · skip
      refine st_fa (o' := 0) hf (by decide) (off := 0) (sz := 1) (by kernel_rfl) (by decide) (wantY hf rfl rfl hb70) rfl (hp.ob (i := 0) rfl) rfl ?_
      clear hf; intro a ha hf; clear ha
      refine st_ldO (u := .int .i64 q55.1.1) hf (by decide) pl2 (wantY hf rfl rfl hb70) rfl (hp.ob (i := 0) rfl) rfl ?_
      clear hf; intro a ha hf; clear ha
      refine st_fa (o' := 0) hf (by decide) (off := 0) (sz := 1) (by kernel_rfl) (by decide) (wantY hf rfl rfl hb70) rfl (hp.ob (i := 1) rfl) rfl ?_
      clear hf; intro a ha hf; clear ha
      refine st_ldO (u := .int .i64 q44.2.1.1) hf (by decide) pl2 (wantY hf rfl rfl hb70) rfl (hp.ob (i := 1) rfl) rfl ?_
      clear hf; intro a ha hf; clear ha
      refine st_iadd hf (by decide) (wantY hf rfl rfl hb70) rfl rfl ?_
      clear hf; intro a ha hf; clear ha
      refine st_fa (o' := 0) hf (by decide) (off := 0) (sz := 1) (by kernel_rfl) (by decide) (wantY hf rfl rfl hb70) rfl (hp.ob (i := 6) rfl) rfl ?_
      clear hf; intro a ha hf; clear ha
      refine st_ldO (u := .int .i64 q13.1.1) hf (by decide) pl2 (wantY hf rfl rfl hb70) rfl (hp.ob (i := 6) rfl) rfl ?_
      clear hf; intro a ha hf; clear ha
      refine st_ieql hf (by decide) (wantY hf rfl rfl hb70) rfl rfl ?_
      clear hf; intro a ha hf; clear ha
      refine st_pick (v := .bool ((IntKind.i64.wrap (q55.1.1 + q44.2.1.1)) == q13.1.1)) hf rfl rfl (fun hb' => ?_) (fun hb' => ?_) (by decide) ?_
      · rfl
      · exact absurd (hb70.symm.trans hb') (by decide)
      clear hf; intro a ha hf; clear ha
      refine st_nil hf (th_n ?_)
      exact ⟨hf.sub ⟨rfl, rfl, rfl, rfl, rfl, (by rw [hb70]; rfl), trivial⟩, hp⟩
    refine st_skip hf (wantN hf rfl rfl hb70) rfl (by decide) ?_ rfl
    clear hf; intro a hf
    refine st_skip hf (wantN hf rfl rfl hb70) rfl (by decide) ?_ rfl
    clear hf; intro a hf
    refine st_skip hf (wantN hf rfl rfl hb70) rfl (by decide) ?_ rfl
    clear hf; intro a hf
    refine st_skip hf (wantN hf rfl rfl hb70) rfl (by decide) ?_ rfl
    clear hf; intro a hf
    refine st_skip hf (wantN hf rfl rfl hb70) rfl (by decide) ?_ rfl
    clear hf; intro a hf
    refine st_skip hf (wantN hf rfl rfl hb70) rfl (by decide) ?_ rfl
    clear hf; intro a hf
    refine st_skip hf (wantN hf rfl rfl hb70) rfl (by decide) ?_ rfl
    clear hf; intro a hf
    refine st_skip hf (wantN hf rfl rfl hb70) rfl (by decide) ?_ rfl
    clear hf; intro a hf
    refine st_pick (v := .bool false) hf rfl rfl (fun hb' => ?_) (fun hb' => ?_) (by decide) ?_
    · exact absurd (hb70.symm.trans hb') (by decide)
    · rfl
    clear hf; intro a ha hf; clear ha
    refine st_nil hf (th_n ?_)
    exact ⟨hf.sub ⟨rfl, rfl, rfl, rfl, rfl, (by rw [hb70]; rfl), trivial⟩, hp⟩
  rintro a w ⟨hf, hp⟩
  refine st_move hf rfl rfl (by decide) ?_
  clear hf; intro a ha hf; clear ha
  refine wpList_cut 9 (fun a w => Fr 179 a [(19, .int .i64 q59.1), (21, .int .i64 q61.1), (169, .bool ((((((q44.2.2 == (0 : Int)) && (q55.2 == (0 : Int))) && (q59.2 == (0 : Int))) && (q61.2 == (0 : Int))) && ((IntKind.i64.wrap (q55.1.1 + q44.2.1.1)) == q13.1.1)) && ((IntKind.i64.wrap (q55.1.2 + q44.2.1.2)) == q13.1.2)))] ∧ Hp S w0 w (Res.obj 56 v57 [.int .i64 q55.1.1, .int .i64 q55.1.2] :: Res.obj 56 v48 [.int .i64 q44.2.1.1, .int .i64 q44.2.1.2] :: Res.obj 56 v46 [.int .i64 q44.1.1, .int .i64 q44.1.2] :: Res.obj 56 v21 [.int .i64 q19.1.1, .int .i64 q19.1.2] :: Res.obj 56 v11 [.int .i64 (IntKind.i64.wrap ((cx2_0).tmod (99 : Int))), .int .i64 (IntKind.i64.wrap ((cx2_1).tmod (99 : Int)))] :: Res.obj 56 v9 [.int .i64 q15.1.1, .int .i64 q15.1.2] :: Res.obj 56 v7 [.int .i64 q13.1.1, .int .i64 q13.1.2] :: Res.obj 36 v5 [.int .i16 cx2_0, .int .i16 cx2_1] :: Res.obj 36 v3 [.int .i16 bx1_0, .int .i16 bx1_1] :: Res.obj 36 v1 [.int .i16 ax0_0, .int .i16 ax0_1] :: ow)) ?_ ?_
  · rcases Bool.eq_false_or_eq_true (((((q44.2.2 == (0 : Int)) && (q55.2 == (0 : Int))) && (q59.2 == (0 : Int))) && (q61.2 == (0 : Int))) && ((IntKind.i64.wrap (q55.1.1 + q44.2.1.1)) == q13.1.1)) with hb72 | hb72
    · skip
      refine st_fa (o' := 1) hf (by decide) (off := 1) (sz := 1) (by kernel_rfl) (by decide) (wantY hf rfl rfl hb72) rfl (hp.ob (i := 0) rfl) rfl ?_
      clear hf; intro a ha hf; clear ha
      refine st_ldO (u := .int .i64 q55.1.2) hf (by decide) pl2 (wantY hf rfl rfl hb72) rfl (hp.ob (i := 0) rfl) rfl ?_
      clear hf; intro a ha hf; clear ha
      refine st_fa (o' := 1) hf (by decide) (off := 1) (sz := 1) (by kernel_rfl) (by decide) (wantY hf rfl rfl hb72) rfl (hp.ob (i := 1) rfl) rfl ?_
      clear hf; intro a ha hf; clear ha
      refine st_ldO (u := .int .i64 q44.2.1.2) hf (by decide) pl2 (wantY hf rfl rfl hb72) rfl (hp.ob (i := 1) rfl) rfl ?_
      clear hf; intro a ha hf; clear ha
      refine st_iadd hf (by decide) (wantY hf rfl rfl hb72) rfl rfl ?_
      clear hf; intro a ha hf; clear ha
      refine st_fa (o' := 1) hf (by decide) (off := 1) (sz := 1) (by kernel_rfl) (by decide) (wantY hf rfl rfl hb72) rfl (hp.ob (i := 6) rfl) rfl ?_
      clear hf; intro a ha hf; clear ha
      refine st_ldO (u := .int .i64 q13.1.2) hf (by decide) pl2 (wantY hf rfl rfl hb72) rfl (hp.ob (i := 6) rfl) rfl ?_
      clear hf; intro a ha hf; clear ha
      refine st_ieql hf (by decide) (wantY hf rfl rfl hb72) rfl rfl ?_
      clear hf; intro a ha hf; clear ha
      refine st_pick (v := .bool ((IntKind.i64.wrap (q55.1.2 + q44.2.1.2)) == q13.1.2)) hf rfl rfl (fun hb' => ?_) (fun hb' => ?_) (by decide) ?_
      · rfl
      · exact absurd (hb72.symm.trans hb') (by decide)
      clear hf; intro a ha hf; clear ha
      refine st_nil hf (th_n ?_)
      exact ⟨hf.sub ⟨rfl, rfl, (by rw [hb72]; rfl), trivial⟩, hp⟩
    refine st_skip hf (wantN hf rfl rfl hb72) rfl (by decide) ?_ rfl
    clear hf; intro a hf
    refine st_skip hf (wantN hf rfl rfl hb72) rfl (by decide) ?_ rfl
    clear hf; intro a hf
    refine st_skip hf (wantN hf rfl rfl hb72) rfl (by decide) ?_ rfl
    clear hf; intro a hf
    refine st_skip hf (wantN hf rfl rfl hb72) rfl (by decide) ?_ rfl
    clear hf; intro a hf
    refine st_skip hf (wantN hf rfl rfl hb72) rfl (by decide) ?_ rfl
    clear hf; intro a hf
    refine st_skip hf (wantN hf rfl rfl hb72) rfl (by decide) ?_ rfl
    clear hf; intro a hf
    refine st_skip hf (wantN hf rfl rfl hb72) rfl (by decide) ?_ rfl
    clear hf; intro a hf
    refine st_skip hf (wantN hf rfl rfl hb72) rfl (by decide) ?_ rfl
    clear hf; intro a hf
    refine st_pick (v := .bool false) hf rfl rfl (fun hb' => ?_) (fun hb' => ?_) (by decide) ?_
    · exact absurd (hb72.symm.trans hb') (by decide)
    · rfl
    clear hf; intro a ha hf; clear ha
    refine st_nil hf (th_n ?_)
    exact ⟨hf.sub ⟨rfl, rfl, (by rw [hb72]; rfl), trivial⟩, hp⟩
  rintro a w ⟨hf, hp⟩
  refine st_move hf rfl rfl (by decide) ?_
  clear hf; intro a ha hf; clear ha
  refine wpList_cut 5 (fun a w => Fr 179 a [(175, .bool (((((((q44.2.2 == (0 : Int)) && (q55.2 == (0 : Int))) && (q59.2 == (0 : Int))) && (q61.2 == (0 : Int))) && ((IntKind.i64.wrap (q55.1.1 + q44.2.1.1)) == q13.1.1)) && ((IntKind.i64.wrap (q55.1.2 + q44.2.1.2)) == q13.1.2)) && (decide ((IntKind.i64.wrap ((2 : Int) * q59.1)) ≤ q61.1))))] ∧ Hp S w0 w (Res.obj 56 v57 [.int .i64 q55.1.1, .int .i64 q55.1.2] :: Res.obj 56 v48 [.int .i64 q44.2.1.1, .int .i64 q44.2.1.2] :: Res.obj 56 v46 [.int .i64 q44.1.1, .int .i64 q44.1.2] :: Res.obj 56 v21 [.int .i64 q19.1.1, .int .i64 q19.1.2] :: Res.obj 56 v11 [.int .i64 (IntKind.i64.wrap ((cx2_0).tmod (99 : Int))), .int .i64 (IntKind.i64.wrap ((cx2_1).tmod (99 : Int)))] :: Res.obj 56 v9 [.int .i64 q15.1.1, .int .i64 q15.1.2] :: Res.obj 56 v7 [.int .i64 q13.1.1, .int .i64 q13.1.2] :: Res.obj 36 v5 [.int .i16 cx2_0, .int .i16 cx2_1] :: Res.obj 36 v3 [.int .i16 bx1_0, .int .i16 bx1_1] :: Res.obj 36 v1 [.int .i16 ax0_0, .int .i16 ax0_1] :: ow)) ?_ ?_
  · rcases Bool.eq_false_or_eq_true ((((((q44.2.2 == (0 : Int)) && (q55.2 == (0 : Int))) && (q59.2 == (0 : Int))) && (q61.2 == (0 : Int))) && ((IntKind.i64.wrap (q55.1.1 + q44.2.1.1)) == q13.1.1)) && ((IntKind.i64.wrap (q55.1.2 + q44.2.1.2)) == q13.1.2)) with hb74 | hb74
    · skip
      refine st_move hf (wantY hf rfl rfl hb74) rfl (by decide) ?_
      clear hf; intro a ha hf; clear ha
      refine st_imul hf (by decide) (wantY hf rfl rfl hb74) rfl rfl ?_
      clear hf; intro a ha hf; clear ha
      refine st_move hf (wantY hf rfl rfl hb74) rfl (by decide) ?_
      clear hf; intro a ha hf; clear ha
      refine st_ileq hf (by decide) (wantY hf rfl rfl hb74) rfl rfl ?_
      clear hf; intro a ha hf; clear ha
      refine st_pick (v := .bool (decide ((IntKind.i64.wrap ((2 : Int) * q59.1)) ≤ q61.1))) hf rfl rfl (fun hb' => ?_) (fun hb' => ?_) (by decide) ?_
      · rfl
      · exact absurd (hb74.symm.trans hb') (by decide)
      clear hf; intro a ha hf; clear ha
      refine st_nil hf (th_n ?_)
      exact ⟨hf.sub ⟨(by rw [hb74]; rfl), trivial⟩, hp⟩
    refine st_skip hf (wantN hf rfl rfl hb74) rfl (by decide) ?_ rfl
    clear hf; intro a hf
    refine st_skip hf (wantN hf rfl rfl hb74) rfl (by decide) ?_ rfl
    clear hf; intro a hf
    refine st_skip hf (wantN hf rfl rfl hb74) rfl (by decide) ?_ rfl
    clear hf; intro a hf
    refine st_skip hf (wantN hf rfl rfl hb74) rfl (by decide) ?_ rfl
    clear hf; intro a hf
    refine st_pick (v := .bool false) hf rfl rfl (fun hb' => ?_) (fun hb' => ?_) (by decide) ?_
    · exact absurd (hb74.symm.trans hb') (by decide)
    · rfl
    clear hf; intro a ha hf; clear ha
    refine st_nil hf (th_n ?_)
    exact ⟨hf.sub ⟨(by rw [hb74]; rfl), trivial⟩, hp⟩
  rintro a w ⟨hf, hp⟩
  refine st_move hf rfl rfl (by decide) ?_
  clear hf; intro a ha hf; clear ha
  obtain ⟨z77, hz75, h⟩ := bnd h
  refine wpList_cut 2 (fun a w => Fr 179 a [(178, .bool z77)] ∧ Hp S w0 w (Res.obj 56 v57 [.int .i64 q55.1.1, .int .i64 q55.1.2] :: Res.obj 56 v48 [.int .i64 q44.2.1.1, .int .i64 q44.2.1.2] :: Res.obj 56 v46 [.int .i64 q44.1.1, .int .i64 q44.1.2] :: Res.obj 56 v21 [.int .i64 q19.1.1, .int .i64 q19.1.2] :: Res.obj 56 v11 [.int .i64 (IntKind.i64.wrap ((cx2_0).tmod (99 : Int))), .int .i64 (IntKind.i64.wrap ((cx2_1).tmod (99 : Int)))] :: Res.obj 56 v9 [.int .i64 q15.1.1, .int .i64 q15.1.2] :: Res.obj 56 v7 [.int .i64 q13.1.1, .int .i64 q13.1.2] :: Res.obj 36 v5 [.int .i16 cx2_0, .int .i16 cx2_1] :: Res.obj 36 v3 [.int .i16 bx1_0, .int .i16 bx1_1] :: Res.obj 36 v1 [.int .i16 ax0_0, .int .i16 ax0_1] :: ow)) ?_ ?_
  · rcases Bool.eq_false_or_eq_true (((((((q44.2.2 == (0 : Int)) && (q55.2 == (0 : Int))) && (q59.2 == (0 : Int))) && (q61.2 == (0 : Int))) && ((IntKind.i64.wrap (q55.1.1 + q44.2.1.1)) == q13.1.1)) && ((IntKind.i64.wrap (q55.1.2 + q44.2.1.2)) == q13.1.2)) && (decide ((IntKind.i64.wrap ((2 : Int) * q59.1)) ≤ q61.1))) with hb76 | hb76
    · skip
      replace hz75 := ifT hz75 hb76
      obtain ⟨q78, hcall79, hz75⟩ := bnd hz75
      refine st_call hf (by decide) Try.func24 rfl rfl (wantY hf rfl rfl hb76) rfl rfl (f_foghornlaw03_awake_c hp  hcall79) ?_
      rintro _ w ⟨rfl, hp0⟩
      clear hp; have hp := hp0; clear hp0
      replace hp : Hp _ _ _ (Res.obj 56 v57 [.int .i64 q55.1.1, .int .i64 q55.1.2] :: Res.obj 56 v48 [.int .i64 q44.2.1.1, .int .i64 q44.2.1.2] :: Res.obj 56 v46 [.int .i64 q44.1.1, .int .i64 q44.1.2] :: Res.obj 56 v21 [.int .i64 q19.1.1, .int .i64 q19.1.2] :: Res.obj 56 v11 [.int .i64 (IntKind.i64.wrap ((cx2_0).tmod (99 : Int))), .int .i64 (IntKind.i64.wrap ((cx2_1).tmod (99 : Int)))] :: Res.obj 56 v9 [.int .i64 q15.1.1, .int .i64 q15.1.2] :: Res.obj 56 v7 [.int .i64 q13.1.1, .int .i64 q13.1.2] :: Res.obj 36 v5 [.int .i16 cx2_0, .int .i16 cx2_1] :: Res.obj 36 v3 [.int .i16 bx1_0, .int .i16 bx1_1] :: Res.obj 36 v1 [.int .i16 ax0_0, .int .i16 ax0_1] :: ow) := hp
      refine ⟨_, rfl, ?_⟩
      clear hf; intro a hf
      obtain rfl := Option.some.inj hz75
      refine st_pick (v := .bool q78) hf rfl rfl (fun hb' => ?_) (fun hb' => ?_) (by decide) ?_
      · rfl
      · exact absurd (hb76.symm.trans hb') (by decide)
      clear hf; intro a ha hf; clear ha
      refine st_nil hf (th_n ?_)
      exact ⟨hf.sub ⟨rfl, trivial⟩, hp⟩
    replace hz75 := ifF hz75 hb76
    refine st_skip hf (wantN hf rfl rfl hb76) rfl (by decide) ?_ rfl
    clear hf; intro a hf
    obtain rfl := Option.some.inj hz75
    refine st_pick (v := .bool false) hf rfl rfl (fun hb' => ?_) (fun hb' => ?_) (by decide) ?_
    · exact absurd (hb76.symm.trans hb') (by decide)
    · rfl
    clear hf; intro a ha hf; clear ha
    refine st_nil hf (th_n ?_)
    exact ⟨hf.sub ⟨rfl, trivial⟩, hp⟩
  rintro a w ⟨hf, hp⟩
  refine st_assign hf rfl rfl (by decide) ?_
  clear hf; intro a ha hf; clear ha
  refine st_nil hf ?_
  refine th_n ?_
  refine wp_ret ?_
  obtain rfl := Option.some.inj h
  have hp : Hp _ _ _ (ow) := Hp.sel (pre := [Res.obj 56 v57 [.int .i64 q55.1.1, .int .i64 q55.1.2], Res.obj 56 v48 [.int .i64 q44.2.1.1, .int .i64 q44.2.1.2], Res.obj 56 v46 [.int .i64 q44.1.1, .int .i64 q44.1.2], Res.obj 56 v21 [.int .i64 q19.1.1, .int .i64 q19.1.2], Res.obj 56 v11 [.int .i64 (IntKind.i64.wrap ((cx2_0).tmod (99 : Int))), .int .i64 (IntKind.i64.wrap ((cx2_1).tmod (99 : Int)))], Res.obj 56 v9 [.int .i64 q15.1.1, .int .i64 q15.1.2], Res.obj 56 v7 [.int .i64 q13.1.1, .int .i64 q13.1.2], Res.obj 36 v5 [.int .i16 cx2_0, .int .i16 cx2_1], Res.obj 36 v3 [.int .i16 bx1_0, .int .i16 bx1_1], Res.obj 36 v1 [.int .i16 ax0_0, .int .i16 ax0_1]]) (tail := ow) (rs' := []) hp [] (by decide) (by simp) rfl
  exact ⟨rfl, ⟨hf.sub ⟨rfl, trivial⟩, hp⟩⟩

end Go.Proofs.Yteifkccomfdciaa
