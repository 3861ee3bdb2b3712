/- The functions foghorn foghornlaw03.PlaneClasses: what each answers, as a plain function, and that its call answers it; printed by gen.py. -/
import Derived.Test.YteifkccomfdciaaProg
import Derived.Test.YteifkccomfdciaaGlY
import Derived.KernelRfl
import Derived.Test.YteifkccomfdciaaG6p1
set_option linter.unusedVariables false
set_option linter.unusedSimpArgs false
set_option maxRecDepth 100000
set_option maxHeartbeats 4000000
namespace Go.Proofs.Yteifkccomfdciaa
open GL
noncomputable def f_foghornlaw03_PlaneClasses.s1c (depth2 : Int) (power10c_0 : Int) (power10c_1 : Int) (i11 : Int) : Option ((Int × Int × Int) ⊕ ((Int × Int) ⊕ Bool)) := (if (decide (i11 < (((IntKind.i64.wrap (((depth2).tmod (13 : Int)) + (13 : Int)))).tmod (13 : Int)))) = true then ((f_plane_Gauss_Times power10c_0 power10c_1 (1 : Int) (1 : Int)).bind fun q13 => (if (q13.2 != (0 : Int)) = true then (some (Sum.inr (Sum.inr false))) else (some (Sum.inl (q13.1.1, q13.1.2, (IntKind.i64.wrap (i11 + (1 : Int)))))))) else (some (Sum.inr (Sum.inl (power10c_0, power10c_1)))))
noncomputable def f_foghornlaw03_PlaneClasses.s1 (depth2 : Int) (s : (Int × Int × Int)) : Option ((Int × Int × Int) ⊕ ((Int × Int) ⊕ Bool)) := f_foghornlaw03_PlaneClasses.s1c depth2 s.1 s.2.1 s.2.2
noncomputable def f_foghornlaw03_PlaneClasses (ax0_0 : Int) (ax0_1 : Int) (bx1_0 : Int) (bx1_1 : Int) (depth2 : Int) : Option Bool := ((loop (f_foghornlaw03_PlaneClasses.s1 depth2) ((1 : Int), (0 : Int), (0 : Int))).bind (fun q17 => sm q17 (fun q18 => ((f_plane_Gauss_Class (IntKind.i64.wrap ax0_0) (IntKind.i64.wrap ax0_1) (((IntKind.i64.wrap (((depth2).tmod (13 : Int)) + (13 : Int)))).tmod (13 : Int))).bind fun q20 => ((f_plane_Gauss_Class (IntKind.i64.wrap bx1_0) (IntKind.i64.wrap bx1_1) (((IntKind.i64.wrap (((depth2).tmod (13 : Int)) + (13 : Int)))).tmod (13 : Int))).bind fun q22 => ((f_plane_Gauss_Norm (IntKind.i64.wrap ((IntKind.i64.wrap ax0_0) - (IntKind.i64.wrap bx1_0))) (IntKind.i64.wrap ((IntKind.i64.wrap ax0_1) - (IntKind.i64.wrap bx1_1)))).bind fun q26 => ((if (((q20.2 != (0 : Int)) || (q22.2 != (0 : Int))) || (q26.2 != (0 : Int))) = true then (some true) else ((f_foghornlaw03_divides q18.1 q18.2 (IntKind.i64.wrap ((IntKind.i64.wrap ax0_0) - (IntKind.i64.wrap bx1_0))) (IntKind.i64.wrap ((IntKind.i64.wrap ax0_1) - (IntKind.i64.wrap bx1_1)))).bind fun q35 => (some ((q20.1 == q22.1) != q35)))).bind fun z34 => ((if z34 = true then (some true) else ((if ((q20.1 == q22.1) && (!(((IntKind.i64.wrap ((IntKind.i64.wrap ax0_0) - (IntKind.i64.wrap bx1_0))) == (0 : Int)) && (((IntKind.i64.wrap ((IntKind.i64.wrap ax0_1) - (IntKind.i64.wrap bx1_1))) == (0 : Int)) && true)))) = true then (if 0 ≤ (((IntKind.i64.wrap (((depth2).tmod (13 : Int)) + (13 : Int)))).tmod (13 : Int)) then (some (decide (q26.1 < (ishl .i64 (1 : Int) (((IntKind.i64.wrap (((depth2).tmod (13 : Int)) + (13 : Int)))).tmod (13 : Int)))))) else none) else (some false)).bind fun z44 => (some z44))).bind fun z39 => ((if z39 = true then (some true) else (if 0 ≤ (((IntKind.i64.wrap (((depth2).tmod (13 : Int)) + (13 : Int)))).tmod (13 : Int)) then (some ((ishr .u32 q20.1 (((IntKind.i64.wrap (((depth2).tmod (13 : Int)) + (13 : Int)))).tmod (13 : Int))) != (0 : Int))) else none)).bind fun z48 => (if z48 = true then (some false) else ((f_plane_First q20.1 (((IntKind.i64.wrap (((depth2).tmod (13 : Int)) + (13 : Int)))).tmod (13 : Int))).bind fun q50 => ((f_plane_Gauss_Class q50.1.1 q50.1.2 (((IntKind.i64.wrap (((depth2).tmod (13 : Int)) + (13 : Int)))).tmod (13 : Int))).bind fun q54 => ((f_plane_Gauss_Class (IntKind.i64.wrap ax0_0) (IntKind.i64.wrap ax0_1) (IntKind.i64.wrap (((((IntKind.i64.wrap (((depth2).tmod (13 : Int)) + (13 : Int)))).tmod (13 : Int))).tdiv (2 : Int)))).bind fun q56 => ((f_plane_Gauss_Depth (IntKind.i64.wrap ax0_0) (IntKind.i64.wrap ax0_1)).bind fun q58 => ((if ((((q50.2 != (0 : Int)) || (q54.2 != (0 : Int))) || (q54.1 != q20.1)) || (q56.2 != (0 : Int))) = true then (some true) else (if 0 ≤ (IntKind.i64.wrap (((((IntKind.i64.wrap (((depth2).tmod (13 : Int)) + (13 : Int)))).tmod (13 : Int))).tdiv (2 : Int))) then (some (q56.1 != (iand .u32 q20.1 (IntKind.u32.wrap ((ishl .u32 (1 : Int) (IntKind.i64.wrap (((((IntKind.i64.wrap (((depth2).tmod (13 : Int)) + (13 : Int)))).tmod (13 : Int))).tdiv (2 : Int)))) - (1 : Int)))))) else none)).bind fun z68 => (if z68 = true then (some false) else (if (((IntKind.i64.wrap ax0_0) == (0 : Int)) && (((IntKind.i64.wrap ax0_1) == (0 : Int)) && true)) = true then ((if ((q58.2 == (6 : Int)) && (q20.1 == (0 : Int))) = true then ((f_foghornlaw03_awake).bind fun q75 => (some q75)) else (some false)).bind fun z74 => (some z74)) else ((if ((q58.2 == (0 : Int)) && ((q20.1 == (0 : Int)) == (decide ((((IntKind.i64.wrap (((depth2).tmod (13 : Int)) + (13 : Int)))).tmod (13 : Int)) ≤ q58.1)))) = true then ((f_foghornlaw03_awake).bind fun q82 => (some q82)) else (some false)).bind fun z81 => (some z81))))))))))))))))) (fun q19 => (some q19))))
theorem f_foghornlaw03_PlaneClasses_c {S : Nat → Prop} {w0 w : World} {ow : List Res} (hp : Hp S w0 w ow) (ax0_0 : Int) (ax0_1 : Int) (bx1_0 : Int) (bx1_1 : Int) (depth2 : Int) {r : Bool} (h : f_foghornlaw03_PlaneClasses ax0_0 ax0_1 bx1_0 bx1_1 depth2 = some r) :
    Calls Try.prog 8 #[.agg #[.int .i16 ax0_0, .int .i16 ax0_1], .agg #[.int .i16 bx1_0, .int .i16 bx1_1], .int .i64 depth2] w (fun e w' => e = .returned (.bool r) ∧ Hp S w0 w' (ow)) := by
  unfold f_foghornlaw03_PlaneClasses at h
  refine enter (n := 205) (args := [.agg #[.int .i16 ax0_0, .int .i16 ax0_1], .agg #[.int .i16 bx1_0, .int .i16 bx1_1], .int .i64 depth2]) Try.func8 rfl rfl (Nat.le_of_ble_eq_true rfl) fun a hf => ?_
  replace hf : Fr 205 a [(0, .agg #[.int .i16 ax0_0, .int .i16 ax0_1]), (1, .agg #[.int .i16 bx1_0, .int .i16 bx1_1]), (2, .int .i64 depth2)] := hf
  refine wp_mono (Q := fun e a w => e = .ret ∧ Fr 205 a [(6, .bool r)] ∧ Hp S w0 w (ow)) ?_ ?_
  rotate_left
  · rintro e a w ⟨rfl, hf, hp⟩
    exact ret1 hf rfl rfl ⟨rfl, hp⟩
  refine wp_seq ?_
  refine wp_reg ?_
  refine st_boxO (cs := [.int .i16 ax0_0, .int .i16 ax0_1]) hf (by decide) hp rfl rfl rfl ?_
  clear hf; intro a w v1 hf hp0; clear hp; have hp := hp0; clear hp0
  replace hp : Hp _ _ _ (Res.obj 36 v1 [.int .i16 ax0_0, .int .i16 ax0_1] :: ow) := hp
  refine st_boxO (cs := [.int .i16 bx1_0, .int .i16 bx1_1]) hf (by decide) hp rfl rfl rfl ?_
  clear hf; intro a w v3 hf hp0; clear hp; have hp := hp0; clear hp0
  replace hp : Hp _ _ _ (Res.obj 36 v3 [.int .i16 bx1_0, .int .i16 bx1_1] :: Res.obj 36 v1 [.int .i16 ax0_0, .int .i16 ax0_1] :: ow) := hp
  refine st_assign hf rfl rfl (by decide) ?_
  clear hf; intro a ha hf; clear ha
  refine st_nil hf ?_
  refine th_n ?_
  refine wp_seq ?_
  refine wp_reg ?_
  refine st_move hf rfl rfl (by decide) ?_
  clear hf; intro a ha hf; clear ha
  refine st_irem hf (by decide) rfl rfl rfl (by decide) ?_
  clear hf; intro a ha hf; clear ha
  refine st_iadd hf (by decide) rfl rfl rfl ?_
  clear hf; intro a ha hf; clear ha
  refine st_irem hf (by decide) rfl rfl rfl (by decide) ?_
  clear hf; intro a ha hf; clear ha
  refine st_assign hf rfl rfl (by decide) ?_
  clear hf; intro a ha hf; clear ha
  refine st_nil hf ?_
  refine th_n ?_
  refine wp_seq ?_
  refine wp_reg ?_
  refine st_ia (o' := 0) hf (by decide) Try.underlying36 (sz := 1) (by kernel_rfl) rfl rfl rfl (hp.ob (i := 1) rfl) (by decide) (by decide) rfl ?_
  clear hf; intro a ha hf; clear ha
  refine st_ldO (u := .int .i16 ax0_0) hf (by decide) pl35 rfl rfl (hp.ob (i := 1) rfl) rfl ?_
  clear hf; intro a ha hf; clear ha
  refine st_conv_ii hf (by decide) (by rw [Try.underlying35]; rfl) Try.underlying2 rfl rfl ?_
  clear hf; intro a ha hf; clear ha
  refine st_ia (o' := 1) hf (by decide) Try.underlying36 (sz := 1) (by kernel_rfl) rfl rfl rfl (hp.ob (i := 1) rfl) (by decide) (by decide) rfl ?_
  clear hf; intro a ha hf; clear ha
  refine st_ldO (u := .int .i16 ax0_1) hf (by decide) pl35 rfl rfl (hp.ob (i := 1) rfl) rfl ?_
  clear hf; intro a ha hf; clear ha
  refine st_conv_ii hf (by decide) (by rw [Try.underlying35]; rfl) Try.underlying2 rfl rfl ?_
  clear hf; intro a ha hf; clear ha
  refine st_buildA (vals := [(0, .int .i64 (IntKind.i64.wrap ax0_0)), (1, .int .i64 (IntKind.i64.wrap ax0_1))]) (cells := [.int .i64 (IntKind.i64.wrap ax0_0), .int .i64 (IntKind.i64.wrap ax0_1)]) hf (by decide) rfl (by simp [hf.ev (x := (Operand.tmp 35)) rfl, hf.ev (x := (Operand.tmp 38)) rfl]) (fun w => by kernel_rfl) ?_
  clear hf; intro a ha hf; clear ha
  refine st_alloc (cs := [.int .i64 (0 : Int), .int .i64 (0 : Int)]) (zv := .agg #[.int .i64 (0 : Int), .int .i64 (0 : Int)]) hf (by decide) (by kernel_rfl) rfl hp rfl ?_
  clear hf; intro a w v5 hf hp0; clear hp; have hp := hp0; clear hp0
  replace hp : Hp _ _ _ (Res.obj 56 v5 [.int .i64 (0 : Int), .int .i64 (0 : Int)] :: Res.obj 36 v3 [.int .i16 bx1_0, .int .i16 bx1_1] :: Res.obj 36 v1 [.int .i16 ax0_0, .int .i16 ax0_1] :: ow) := hp
  refine st_stO (us := [.int .i64 (IntKind.i64.wrap ax0_0), .int .i64 (IntKind.i64.wrap ax0_1)]) hf hp (i := 0) rfl rfl rfl rfl rfl (by rfl) (by kernel_rfl) (Nat.le_of_ble_eq_true rfl) ?_
  clear hf; intro a w hf hp0; clear hp; have hp := hp0; clear hp0
  replace hp : Hp _ _ _ (Res.obj 56 v5 [.int .i64 (IntKind.i64.wrap ax0_0), .int .i64 (IntKind.i64.wrap ax0_1)] :: Res.obj 36 v3 [.int .i16 bx1_0, .int .i16 bx1_1] :: Res.obj 36 v1 [.int .i16 ax0_0, .int .i16 ax0_1] :: ow) := hp
  refine st_nil hf ?_
  refine th_n ?_
  refine wp_seq ?_
  refine wp_reg ?_
  refine st_ia (o' := 0) hf (by decide) Try.underlying36 (sz := 1) (by kernel_rfl) rfl rfl rfl (hp.ob (i := 1) rfl) (by decide) (by decide) rfl ?_
  clear hf; intro a ha hf; clear ha
  refine st_ldO (u := .int .i16 bx1_0) hf (by decide) pl35 rfl rfl (hp.ob (i := 1) rfl) rfl ?_
  clear hf; intro a ha hf; clear ha
  refine st_conv_ii hf (by decide) (by rw [Try.underlying35]; rfl) Try.underlying2 rfl rfl ?_
  clear hf; intro a ha hf; clear ha
  refine st_ia (o' := 1) hf (by decide) Try.underlying36 (sz := 1) (by kernel_rfl) rfl rfl rfl (hp.ob (i := 1) rfl) (by decide) (by decide) rfl ?_
  clear hf; intro a ha hf; clear ha
  refine st_ldO (u := .int .i16 bx1_1) hf (by decide) pl35 rfl rfl (hp.ob (i := 1) rfl) rfl ?_
  clear hf; intro a ha hf; clear ha
  refine st_conv_ii hf (by decide) (by rw [Try.underlying35]; rfl) Try.underlying2 rfl rfl ?_
  clear hf; intro a ha hf; clear ha
  refine st_buildA (vals := [(0, .int .i64 (IntKind.i64.wrap bx1_0)), (1, .int .i64 (IntKind.i64.wrap bx1_1))]) (cells := [.int .i64 (IntKind.i64.wrap bx1_0), .int .i64 (IntKind.i64.wrap bx1_1)]) hf (by decide) rfl (by simp [hf.ev (x := (Operand.tmp 42)) rfl, hf.ev (x := (Operand.tmp 45)) rfl]) (fun w => by kernel_rfl) ?_
  clear hf; intro a ha hf; clear ha
  refine st_alloc (cs := [.int .i64 (0 : Int), .int .i64 (0 : Int)]) (zv := .agg #[.int .i64 (0 : Int), .int .i64 (0 : Int)]) hf (by decide) (by kernel_rfl) rfl hp rfl ?_
  clear hf; intro a w v7 hf hp0; clear hp; have hp := hp0; clear hp0
  replace hp : Hp _ _ _ (Res.obj 56 v7 [.int .i64 (0 : Int), .int .i64 (0 : Int)] :: Res.obj 56 v5 [.int .i64 (IntKind.i64.wrap ax0_0), .int .i64 (IntKind.i64.wrap ax0_1)] :: Res.obj 36 v3 [.int .i16 bx1_0, .int .i16 bx1_1] :: Res.obj 36 v1 [.int .i16 ax0_0, .int .i16 ax0_1] :: ow) := hp
  refine st_stO (us := [.int .i64 (IntKind.i64.wrap bx1_0), .int .i64 (IntKind.i64.wrap bx1_1)]) hf hp (i := 0) rfl rfl rfl rfl rfl (by rfl) (by kernel_rfl) (Nat.le_of_ble_eq_true rfl) ?_
  clear hf; intro a w hf hp0; clear hp; have hp := hp0; clear hp0
  replace hp : Hp _ _ _ (Res.obj 56 v7 [.int .i64 (IntKind.i64.wrap bx1_0), .int .i64 (IntKind.i64.wrap bx1_1)] :: Res.obj 56 v5 [.int .i64 (IntKind.i64.wrap ax0_0), .int .i64 (IntKind.i64.wrap ax0_1)] :: Res.obj 36 v3 [.int .i16 bx1_0, .int .i16 bx1_1] :: Res.obj 36 v1 [.int .i16 ax0_0, .int .i16 ax0_1] :: ow) := hp
  refine st_nil hf ?_
  refine th_n ?_
  refine wp_seq ?_
  refine wp_reg ?_
  refine st_buildA (vals := [(0, .int .i64 (1 : Int))]) (cells := [.int .i64 (1 : Int), .int .i64 (0 : Int)]) hf (by decide) rfl (by simp [hf.ev (x := (Operand.const (.int .i64 (1 : Int)))) rfl]) (fun w => by kernel_rfl) ?_
  clear hf; intro a ha hf; clear ha
  refine st_alloc (cs := [.int .i64 (0 : Int), .int .i64 (0 : Int)]) (zv := .agg #[.int .i64 (0 : Int), .int .i64 (0 : Int)]) hf (by decide) (by kernel_rfl) rfl hp rfl ?_
  clear hf; intro a w v9 hf hp0; clear hp; have hp := hp0; clear hp0
  replace hp : Hp _ _ _ (Res.obj 56 v9 [.int .i64 (0 : Int), .int .i64 (0 : Int)] :: Res.obj 56 v7 [.int .i64 (IntKind.i64.wrap bx1_0), .int .i64 (IntKind.i64.wrap bx1_1)] :: Res.obj 56 v5 [.int .i64 (IntKind.i64.wrap ax0_0), .int .i64 (IntKind.i64.wrap ax0_1)] :: Res.obj 36 v3 [.int .i16 bx1_0, .int .i16 bx1_1] :: Res.obj 36 v1 [.int .i16 ax0_0, .int .i16 ax0_1] :: ow) := hp
  refine st_stO (us := [.int .i64 (1 : Int), .int .i64 (0 : Int)]) hf hp (i := 0) rfl rfl rfl rfl rfl (by rfl) (by kernel_rfl) (Nat.le_of_ble_eq_true rfl) ?_
  clear hf; intro a w hf hp0; clear hp; have hp := hp0; clear hp0
  replace hp : Hp _ _ _ (Res.obj 56 v9 [.int .i64 (1 : Int), .int .i64 (0 : Int)] :: Res.obj 56 v7 [.int .i64 (IntKind.i64.wrap bx1_0), .int .i64 (IntKind.i64.wrap bx1_1)] :: Res.obj 56 v5 [.int .i64 (IntKind.i64.wrap ax0_0), .int .i64 (IntKind.i64.wrap ax0_1)] :: Res.obj 36 v3 [.int .i16 bx1_0, .int .i16 bx1_1] :: Res.obj 36 v1 [.int .i16 ax0_0, .int .i16 ax0_1] :: ow) := hp
  refine st_nil hf ?_
  refine th_n ?_
  refine wp_seq ?_
  refine wp_seq ?_
  refine wp_reg ?_
  refine st_assign hf rfl rfl (by decide) ?_
  clear hf; intro a ha hf; clear ha
  refine st_nil hf ?_
  refine th_n ?_
  refine wp_block ?_
  obtain ⟨q17, hl, h⟩ := bnd h
  have hp : Hp _ _ _ (Res.obj 56 v9 [.int .i64 (1 : Int), .int .i64 (0 : Int)] :: Res.obj 56 v5 [.int .i64 (IntKind.i64.wrap ax0_0), .int .i64 (IntKind.i64.wrap ax0_1)] :: Res.obj 56 v7 [.int .i64 (IntKind.i64.wrap bx1_0), .int .i64 (IntKind.i64.wrap bx1_1)] :: ow) := Hp.sel (pre := [Res.obj 56 v9 [.int .i64 (1 : Int), .int .i64 (0 : Int)], Res.obj 56 v7 [.int .i64 (IntKind.i64.wrap bx1_0), .int .i64 (IntKind.i64.wrap bx1_1)], Res.obj 56 v5 [.int .i64 (IntKind.i64.wrap ax0_0), .int .i64 (IntKind.i64.wrap ax0_1)], Res.obj 36 v3 [.int .i16 bx1_0, .int .i16 bx1_1], Res.obj 36 v1 [.int .i16 ax0_0, .int .i16 ax0_1]]) (tail := ow) (rs' := [Res.obj 56 v9 [.int .i64 (1 : Int), .int .i64 (0 : Int)], Res.obj 56 v5 [.int .i64 (IntKind.i64.wrap ax0_0), .int .i64 (IntKind.i64.wrap ax0_1)], Res.obj 56 v7 [.int .i64 (IntKind.i64.wrap bx1_0), .int .i64 (IntKind.i64.wrap bx1_1)]]) hp [0, 2, 1] (by decide) (by simp) rfl
  refine wp_loop_pure (f := (f_foghornlaw03_PlaneClasses.s1 depth2)) (s := ((1 : Int), (0 : Int), (0 : Int))) (fun s a w => Fr 205 a [(7, .int .i64 (((IntKind.i64.wrap (((depth2).tmod (13 : Int)) + (13 : Int)))).tmod (13 : Int))), (8, optr v5 0), (9, optr v7 0), (10, optr v9 0), (11, .int .i64 s.2.2)] ∧ Hp S w0 w (Res.obj 56 v9 [.int .i64 s.1, .int .i64 s.2.1] :: Res.obj 56 v5 [.int .i64 (IntKind.i64.wrap ax0_0), .int .i64 (IntKind.i64.wrap ax0_1)] :: Res.obj 56 v7 [.int .i64 (IntKind.i64.wrap bx1_0), .int .i64 (IntKind.i64.wrap bx1_1)] :: ow)) (fun q e a w => match q with | (Sum.inl q) => e = .exit 0 ∧ Fr 205 a [(7, .int .i64 (((IntKind.i64.wrap (((depth2).tmod (13 : Int)) + (13 : Int)))).tmod (13 : Int))), (8, optr v5 0), (9, optr v7 0), (10, optr v9 0)] ∧ Hp S w0 w (Res.obj 56 v9 [.int .i64 q.1, .int .i64 q.2] :: Res.obj 56 v5 [.int .i64 (IntKind.i64.wrap ax0_0), .int .i64 (IntKind.i64.wrap ax0_1)] :: Res.obj 56 v7 [.int .i64 (IntKind.i64.wrap bx1_0), .int .i64 (IntKind.i64.wrap bx1_1)] :: ow) | (Sum.inr q) => e = .ret ∧ Fr 205 a [(6, .bool q)] ∧ Hp S w0 w (ow)) ?_ hl ⟨hf.sub ⟨rfl, rfl, rfl, rfl, rfl, trivial⟩, hp⟩ ?_
  · clear hl hf hp
    intro s x a w h hI
    obtain ⟨power10c_0, power10c_1, i11⟩ := s
    obtain ⟨hf, hp⟩ : Fr 205 a [(7, .int .i64 (((IntKind.i64.wrap (((depth2).tmod (13 : Int)) + (13 : Int)))).tmod (13 : Int))), (8, optr v5 0), (9, optr v7 0), (10, optr v9 0), (11, .int .i64 i11)] ∧ Hp S w0 w (Res.obj 56 v9 [.int .i64 power10c_0, .int .i64 power10c_1] :: Res.obj 56 v5 [.int .i64 (IntKind.i64.wrap ax0_0), .int .i64 (IntKind.i64.wrap ax0_1)] :: Res.obj 56 v7 [.int .i64 (IntKind.i64.wrap bx1_0), .int .i64 (IntKind.i64.wrap bx1_1)] :: ow) := hI
    replace h : f_foghornlaw03_PlaneClasses.s1c depth2 power10c_0 power10c_1 i11 = some x := h
    unfold f_foghornlaw03_PlaneClasses.s1c at h
    refine wp_seq ?_
    refine wp_seq ?_
    refine wp_reg ?_
    refine st_move hf rfl rfl (by decide) ?_
    clear hf; intro a ha hf; clear ha
    refine st_move hf rfl rfl (by decide) ?_
    clear hf; intro a ha hf; clear ha
    refine st_ilss hf (by decide) rfl rfl rfl ?_
    clear hf; intro a ha hf; clear ha
    refine st_nil hf ?_
    refine th_n ?_
    refine wp_if hf rfl (fun hb => ?_) (fun hb => ?_)
    · replace h := ifT h hb
      refine wp_skip ?_
      refine th_n ?_
      refine wp_seq ?_
      refine wp_block ?_
      refine wp_seq ?_
      refine wp_reg ?_
      refine st_ldOA (m := 2) (us := [.int .i64 power10c_0, .int .i64 power10c_1]) hf (by decide) (by kernel_rfl) rfl rfl (hp.ob (i := 0) rfl) rfl rfl ?_
      clear hf; intro a ha hf; clear ha
      refine st_buildA (vals := [(0, .int .i64 (1 : Int)), (1, .int .i64 (1 : Int))]) (cells := [.int .i64 (1 : Int), .int .i64 (1 : Int)]) hf (by decide) rfl (by simp [hf.ev (x := (Operand.const (.int .i64 (1 : Int)))) rfl, hf.ev (x := (Operand.const (.int .i64 (1 : Int)))) rfl]) (fun w => by kernel_rfl) ?_
      clear hf; intro a ha hf; clear ha
      obtain ⟨q13, hcall14, h⟩ := bnd h
      refine st_call hf (by decide) Try.func31 rfl rfl rfl rfl rfl (f_plane_Gauss_Times_c hp _ _ _ _ hcall14) ?_
      rintro _ w ⟨rfl, hp0⟩
      clear hp; have hp := hp0; clear hp0
      replace hp : Hp _ _ _ (Res.obj 56 v9 [.int .i64 power10c_0, .int .i64 power10c_1] :: Res.obj 56 v5 [.int .i64 (IntKind.i64.wrap ax0_0), .int .i64 (IntKind.i64.wrap ax0_1)] :: Res.obj 56 v7 [.int .i64 (IntKind.i64.wrap bx1_0), .int .i64 (IntKind.i64.wrap bx1_1)] :: ow) := hp
      refine ⟨_, rfl, ?_⟩
      clear hf; intro a hf
      refine st_move hf rfl rfl (by decide) ?_
      clear hf; intro a ha hf; clear ha
      refine st_extract hf (by decide) rfl rfl rfl ?_
      clear hf; intro a ha hf; clear ha
      refine st_extract hf (by decide) rfl rfl rfl ?_
      clear hf; intro a ha hf; clear ha
      refine st_alloc (cs := [.int .i64 (0 : Int), .int .i64 (0 : Int)]) (zv := .agg #[.int .i64 (0 : Int), .int .i64 (0 : Int)]) hf (by decide) (by kernel_rfl) rfl hp rfl ?_
      clear hf; intro a w v15 hf hp0; clear hp; have hp := hp0; clear hp0
      replace hp : Hp _ _ _ (Res.obj 56 v15 [.int .i64 (0 : Int), .int .i64 (0 : Int)] :: Res.obj 56 v9 [.int .i64 power10c_0, .int .i64 power10c_1] :: Res.obj 56 v5 [.int .i64 (IntKind.i64.wrap ax0_0), .int .i64 (IntKind.i64.wrap ax0_1)] :: Res.obj 56 v7 [.int .i64 (IntKind.i64.wrap bx1_0), .int .i64 (IntKind.i64.wrap bx1_1)] :: ow) := hp
      refine st_stO (us := [.int .i64 q13.1.1, .int .i64 q13.1.2]) hf hp (i := 0) rfl rfl rfl rfl rfl (by rfl) (by kernel_rfl) (Nat.le_of_ble_eq_true rfl) ?_
      clear hf; intro a w hf hp0; clear hp; have hp := hp0; clear hp0
      replace hp : Hp _ _ _ (Res.obj 56 v15 [.int .i64 q13.1.1, .int .i64 q13.1.2] :: Res.obj 56 v9 [.int .i64 power10c_0, .int .i64 power10c_1] :: Res.obj 56 v5 [.int .i64 (IntKind.i64.wrap ax0_0), .int .i64 (IntKind.i64.wrap ax0_1)] :: Res.obj 56 v7 [.int .i64 (IntKind.i64.wrap bx1_0), .int .i64 (IntKind.i64.wrap bx1_1)] :: ow) := hp
      refine st_assign hf rfl rfl (by decide) ?_
      clear hf; intro a ha hf; clear ha
      refine st_nil hf ?_
      refine th_n ?_
      refine wp_seq ?_
      refine wp_seq ?_
      refine wp_reg ?_
      refine st_move hf rfl rfl (by decide) ?_
      clear hf; intro a ha hf; clear ha
      refine st_ineq hf (by decide) rfl rfl rfl ?_
      clear hf; intro a ha hf; clear ha
      refine st_nil hf ?_
      refine th_n ?_
      refine wp_if hf rfl (fun hb => ?_) (fun hb => ?_)
      · replace h := ifT h hb
        refine wp_seq ?_
        refine wp_reg ?_
        refine st_assign hf rfl rfl (by decide) ?_
        clear hf; intro a ha hf; clear ha
        refine st_nil hf ?_
        refine th_n ?_
        refine wp_ret ?_
        refine th_r ?_
        refine ib_r ?_
        refine th_r ?_
        obtain rfl := Option.some.inj h
        have hp : Hp _ _ _ (ow) := Hp.sel (pre := [Res.obj 56 v15 [.int .i64 q13.1.1, .int .i64 q13.1.2], Res.obj 56 v9 [.int .i64 power10c_0, .int .i64 power10c_1], Res.obj 56 v5 [.int .i64 (IntKind.i64.wrap ax0_0), .int .i64 (IntKind.i64.wrap ax0_1)], Res.obj 56 v7 [.int .i64 (IntKind.i64.wrap bx1_0), .int .i64 (IntKind.i64.wrap bx1_1)]]) (tail := ow) (rs' := []) hp [] (by decide) (by simp) rfl
        exact rnd_r (by simp) ⟨rfl, ⟨hf.sub ⟨rfl, trivial⟩, hp⟩⟩
      replace h := ifF h hb
      refine wp_skip ?_
      refine th_n ?_
      refine wp_reg ?_
      refine st_ldOA (m := 2) (us := [.int .i64 q13.1.1, .int .i64 q13.1.2]) hf (by decide) (by kernel_rfl) rfl rfl (hp.ob (i := 0) rfl) rfl rfl ?_
      clear hf; intro a ha hf; clear ha
      refine st_stO (us := [.int .i64 q13.1.1, .int .i64 q13.1.2]) hf hp (i := 1) rfl rfl rfl rfl rfl (by rfl) (by kernel_rfl) (Nat.le_of_ble_eq_true rfl) ?_
      clear hf; intro a w hf hp0; clear hp; have hp := hp0; clear hp0
      replace hp : Hp _ _ _ (Res.obj 56 v15 [.int .i64 q13.1.1, .int .i64 q13.1.2] :: Res.obj 56 v9 [.int .i64 q13.1.1, .int .i64 q13.1.2] :: Res.obj 56 v5 [.int .i64 (IntKind.i64.wrap ax0_0), .int .i64 (IntKind.i64.wrap ax0_1)] :: Res.obj 56 v7 [.int .i64 (IntKind.i64.wrap bx1_0), .int .i64 (IntKind.i64.wrap bx1_1)] :: ow) := hp
      refine st_nil hf ?_
      refine ib_n ?_
      refine th_n ?_
      refine wp_reg ?_
      refine st_move hf rfl rfl (by decide) ?_
      clear hf; intro a ha hf; clear ha
      refine st_iadd hf (by decide) rfl rfl rfl ?_
      clear hf; intro a ha hf; clear ha
      refine st_assign hf rfl rfl (by decide) ?_
      clear hf; intro a ha hf; clear ha
      refine st_nil hf ?_
      obtain rfl := Option.some.inj h
      have hp : Hp _ _ _ (Res.obj 56 v9 [.int .i64 q13.1.1, .int .i64 q13.1.2] :: Res.obj 56 v5 [.int .i64 (IntKind.i64.wrap ax0_0), .int .i64 (IntKind.i64.wrap ax0_1)] :: Res.obj 56 v7 [.int .i64 (IntKind.i64.wrap bx1_0), .int .i64 (IntKind.i64.wrap bx1_1)] :: ow) := Hp.sel (pre := [Res.obj 56 v15 [.int .i64 q13.1.1, .int .i64 q13.1.2], Res.obj 56 v9 [.int .i64 q13.1.1, .int .i64 q13.1.2], Res.obj 56 v5 [.int .i64 (IntKind.i64.wrap ax0_0), .int .i64 (IntKind.i64.wrap ax0_1)], Res.obj 56 v7 [.int .i64 (IntKind.i64.wrap bx1_0), .int .i64 (IntKind.i64.wrap bx1_1)]]) (tail := ow) (rs' := [Res.obj 56 v9 [.int .i64 q13.1.1, .int .i64 q13.1.2], Res.obj 56 v5 [.int .i64 (IntKind.i64.wrap ax0_0), .int .i64 (IntKind.i64.wrap ax0_1)], Res.obj 56 v7 [.int .i64 (IntKind.i64.wrap bx1_0), .int .i64 (IntKind.i64.wrap bx1_1)]]) hp [1, 2, 3] (by decide) (by simp) rfl
      exact rnd_l ⟨hf.sub ⟨rfl, rfl, rfl, rfl, rfl, trivial⟩, hp⟩
    replace h := ifF h hb
    refine wp_exit ?_
    refine th_e ?_
    obtain rfl := Option.some.inj h
    exact rnd_r (by simp) ⟨rfl, hf.sub ⟨rfl, rfl, rfl, rfl, trivial⟩, hp⟩
  clear hl hf hp
  intro e a w hne hO
  rcases q17 with q18 | q19
  · replace h := smL h
    obtain ⟨rfl, hf, hp⟩ := hO
    refine ib_same ?_
    refine th_n ?_
    refine wp_seq ?_
    refine wp_reg ?_
    refine st_ldOA (m := 2) (us := [.int .i64 (IntKind.i64.wrap ax0_0), .int .i64 (IntKind.i64.wrap ax0_1)]) hf (by decide) (by kernel_rfl) rfl rfl (hp.ob (i := 1) rfl) rfl rfl ?_
    clear hf; intro a ha hf; clear ha
    refine st_move hf rfl rfl (by decide) ?_
    clear hf; intro a ha hf; clear ha
    obtain ⟨q20, hcall21, h⟩ := bnd h
    refine st_call hf (by decide) Try.func36 rfl rfl rfl rfl rfl (f_plane_Gauss_Class_c hp _ _ _ hcall21) ?_
    rintro _ w ⟨rfl, hp0⟩
    clear hp; have hp := hp0; clear hp0
    replace hp : Hp _ _ _ (Res.obj 56 v9 [.int .i64 q18.1, .int .i64 q18.2] :: Res.obj 56 v5 [.int .i64 (IntKind.i64.wrap ax0_0), .int .i64 (IntKind.i64.wrap ax0_1)] :: Res.obj 56 v7 [.int .i64 (IntKind.i64.wrap bx1_0), .int .i64 (IntKind.i64.wrap bx1_1)] :: ow) := hp
    refine ⟨_, rfl, ?_⟩
    clear hf; intro a hf
    refine st_move hf rfl rfl (by decide) ?_
    clear hf; intro a ha hf; clear ha
    refine st_extract hf (by decide) rfl rfl rfl ?_
    clear hf; intro a ha hf; clear ha
    refine st_extract hf (by decide) rfl rfl rfl ?_
    clear hf; intro a ha hf; clear ha
    refine st_assign hf rfl rfl (by decide) ?_
    clear hf; intro a ha hf; clear ha
    refine st_assign hf rfl rfl (by decide) ?_
    clear hf; intro a ha hf; clear ha
    refine st_nil hf ?_
    refine th_n ?_
    refine wp_seq ?_
    refine wp_reg ?_
    refine st_ldOA (m := 2) (us := [.int .i64 (IntKind.i64.wrap bx1_0), .int .i64 (IntKind.i64.wrap bx1_1)]) hf (by decide) (by kernel_rfl) rfl rfl (hp.ob (i := 2) rfl) rfl rfl ?_
    clear hf; intro a ha hf; clear ha
    refine st_move hf rfl rfl (by decide) ?_
    clear hf; intro a ha hf; clear ha
    obtain ⟨q22, hcall23, h⟩ := bnd h
    refine st_call hf (by decide) Try.func36 rfl rfl rfl rfl rfl (f_plane_Gauss_Class_c hp _ _ _ hcall23) ?_
    rintro _ w ⟨rfl, hp0⟩
    clear hp; have hp := hp0; clear hp0
    replace hp : Hp _ _ _ (Res.obj 56 v9 [.int .i64 q18.1, .int .i64 q18.2] :: Res.obj 56 v5 [.int .i64 (IntKind.i64.wrap ax0_0), .int .i64 (IntKind.i64.wrap ax0_1)] :: Res.obj 56 v7 [.int .i64 (IntKind.i64.wrap bx1_0), .int .i64 (IntKind.i64.wrap bx1_1)] :: ow) := hp
    refine ⟨_, rfl, ?_⟩
    clear hf; intro a hf
    refine st_move hf rfl rfl (by decide) ?_
    clear hf; intro a ha hf; clear ha
    refine st_extract hf (by decide) rfl rfl rfl ?_
    clear hf; intro a ha hf; clear ha
    refine st_extract hf (by decide) rfl rfl rfl ?_
    clear hf; intro a ha hf; clear ha
    refine st_assign hf rfl rfl (by decide) ?_
    clear hf; intro a ha hf; clear ha
    refine st_assign hf rfl rfl (by decide) ?_
    clear hf; intro a ha hf; clear ha
    refine st_nil hf ?_
    refine th_n ?_
    refine wp_seq ?_
    refine wp_reg ?_
    refine st_fa (o' := 0) hf (by decide) (off := 0) (sz := 1) (by kernel_rfl) (by decide) rfl rfl (hp.ob (i := 1) rfl) rfl ?_
    clear hf; intro a ha hf; clear ha
    refine st_ldO (u := .int .i64 (IntKind.i64.wrap ax0_0)) hf (by decide) pl2 rfl rfl (hp.ob (i := 1) rfl) rfl ?_
    clear hf; intro a ha hf; clear ha
    refine st_fa (o' := 0) hf (by decide) (off := 0) (sz := 1) (by kernel_rfl) (by decide) rfl rfl (hp.ob (i := 2) rfl) rfl ?_
    clear hf; intro a ha hf; clear ha
    refine st_ldO (u := .int .i64 (IntKind.i64.wrap bx1_0)) hf (by decide) pl2 rfl rfl (hp.ob (i := 2) rfl) rfl ?_
    clear hf; intro a ha hf; clear ha
    refine st_isub hf (by decide) rfl rfl rfl ?_
    clear hf; intro a ha hf; clear ha
    refine st_fa (o' := 1) hf (by decide) (off := 1) (sz := 1) (by kernel_rfl) (by decide) rfl rfl (hp.ob (i := 1) rfl) rfl ?_
    clear hf; intro a ha hf; clear ha
    refine st_ldO (u := .int .i64 (IntKind.i64.wrap ax0_1)) hf (by decide) pl2 rfl rfl (hp.ob (i := 1) rfl) rfl ?_
    clear hf; intro a ha hf; clear ha
    refine st_fa (o' := 1) hf (by decide) (off := 1) (sz := 1) (by kernel_rfl) (by decide) rfl rfl (hp.ob (i := 2) rfl) rfl ?_
    clear hf; intro a ha hf; clear ha
    refine st_ldO (u := .int .i64 (IntKind.i64.wrap bx1_1)) hf (by decide) pl2 rfl rfl (hp.ob (i := 2) rfl) rfl ?_
    clear hf; intro a ha hf; clear ha
    refine st_isub hf (by decide) rfl rfl rfl ?_
    clear hf; intro a ha hf; clear ha
    refine st_buildA (vals := [(0, .int .i64 (IntKind.i64.wrap ((IntKind.i64.wrap ax0_0) - (IntKind.i64.wrap bx1_0)))), (1, .int .i64 (IntKind.i64.wrap ((IntKind.i64.wrap ax0_1) - (IntKind.i64.wrap bx1_1))))]) (cells := [.int .i64 (IntKind.i64.wrap ((IntKind.i64.wrap ax0_0) - (IntKind.i64.wrap bx1_0))), .int .i64 (IntKind.i64.wrap ((IntKind.i64.wrap ax0_1) - (IntKind.i64.wrap bx1_1)))]) hf (by decide) rfl (by simp [hf.ev (x := (Operand.tmp 78)) rfl, hf.ev (x := (Operand.tmp 83)) rfl]) (fun w => by kernel_rfl) ?_
    clear hf; intro a ha hf; clear ha
    refine st_alloc (cs := [.int .i64 (0 : Int), .int .i64 (0 : Int)]) (zv := .agg #[.int .i64 (0 : Int), .int .i64 (0 : Int)]) hf (by decide) (by kernel_rfl) rfl hp rfl ?_
    clear hf; intro a w v24 hf hp0; clear hp; have hp := hp0; clear hp0
    replace hp : Hp _ _ _ (Res.obj 56 v24 [.int .i64 (0 : Int), .int .i64 (0 : Int)] :: Res.obj 56 v9 [.int .i64 q18.1, .int .i64 q18.2] :: Res.obj 56 v5 [.int .i64 (IntKind.i64.wrap ax0_0), .int .i64 (IntKind.i64.wrap ax0_1)] :: Res.obj 56 v7 [.int .i64 (IntKind.i64.wrap bx1_0), .int .i64 (IntKind.i64.wrap bx1_1)] :: ow) := hp
    refine st_stO (us := [.int .i64 (IntKind.i64.wrap ((IntKind.i64.wrap ax0_0) - (IntKind.i64.wrap bx1_0))), .int .i64 (IntKind.i64.wrap ((IntKind.i64.wrap ax0_1) - (IntKind.i64.wrap bx1_1)))]) hf hp (i := 0) rfl rfl rfl rfl rfl (by rfl) (by kernel_rfl) (Nat.le_of_ble_eq_true rfl) ?_
    clear hf; intro a w hf hp0; clear hp; have hp := hp0; clear hp0
    replace hp : Hp _ _ _ (Res.obj 56 v24 [.int .i64 (IntKind.i64.wrap ((IntKind.i64.wrap ax0_0) - (IntKind.i64.wrap bx1_0))), .int .i64 (IntKind.i64.wrap ((IntKind.i64.wrap ax0_1) - (IntKind.i64.wrap bx1_1)))] :: Res.obj 56 v9 [.int .i64 q18.1, .int .i64 q18.2] :: Res.obj 56 v5 [.int .i64 (IntKind.i64.wrap ax0_0), .int .i64 (IntKind.i64.wrap ax0_1)] :: Res.obj 56 v7 [.int .i64 (IntKind.i64.wrap bx1_0), .int .i64 (IntKind.i64.wrap bx1_1)] :: ow) := hp
    refine st_nil hf ?_
    refine th_n ?_
    refine wp_seq ?_
    refine wp_reg ?_
    refine st_ldOA (m := 2) (us := [.int .i64 (IntKind.i64.wrap ((IntKind.i64.wrap ax0_0) - (IntKind.i64.wrap bx1_0))), .int .i64 (IntKind.i64.wrap ((IntKind.i64.wrap ax0_1) - (IntKind.i64.wrap bx1_1)))]) hf (by decide) (by kernel_rfl) rfl rfl (hp.ob (i := 0) rfl) rfl rfl ?_
    clear hf; intro a ha hf; clear ha
    obtain ⟨q26, hcall27, h⟩ := bnd h
    refine st_call hf (by decide) Try.func35 rfl rfl rfl rfl rfl (f_plane_Gauss_Norm_c hp _ _ hcall27) ?_
    rintro _ w ⟨rfl, hp0⟩
    clear hp; have hp := hp0; clear hp0
    replace hp : Hp _ _ _ (Res.obj 56 v24 [.int .i64 (IntKind.i64.wrap ((IntKind.i64.wrap ax0_0) - (IntKind.i64.wrap bx1_0))), .int .i64 (IntKind.i64.wrap ((IntKind.i64.wrap ax0_1) - (IntKind.i64.wrap bx1_1)))] :: Res.obj 56 v9 [.int .i64 q18.1, .int .i64 q18.2] :: Res.obj 56 v5 [.int .i64 (IntKind.i64.wrap ax0_0), .int .i64 (IntKind.i64.wrap ax0_1)] :: Res.obj 56 v7 [.int .i64 (IntKind.i64.wrap bx1_0), .int .i64 (IntKind.i64.wrap bx1_1)] :: ow) := hp
    refine ⟨_, rfl, ?_⟩
    clear hf; intro a hf
    refine st_move hf rfl rfl (by decide) ?_
    clear hf; intro a ha hf; clear ha
    refine st_extract hf (by decide) rfl rfl rfl ?_
    clear hf; intro a ha hf; clear ha
    refine st_extract hf (by decide) rfl rfl rfl ?_
    clear hf; intro a ha hf; clear ha
    refine st_assign hf rfl rfl (by decide) ?_
    clear hf; intro a ha hf; clear ha
    refine st_assign hf rfl rfl (by decide) ?_
    clear hf; intro a ha hf; clear ha
    refine st_nil hf ?_
    refine th_n ?_
    refine wp_seq ?_
    refine wp_seq ?_
    refine wp_reg ?_
    refine st_move hf rfl rfl (by decide) ?_
    clear hf; intro a ha hf; clear ha
    refine st_ineq hf (by decide) rfl rfl rfl ?_
    clear hf; intro a ha hf; clear ha
    refine st_move hf rfl rfl (by decide) ?_
    clear hf; intro a ha hf; clear ha
    refine wpList_cut 3 (fun a w => Fr 205 a [(7, .int .i64 (((IntKind.i64.wrap (((depth2).tmod (13 : Int)) + (13 : Int)))).tmod (13 : Int))), (8, optr v5 0), (10, optr v9 0), (14, .int .u32 q20.1), (16, .int .u32 q22.1), (18, optr v24 0), (19, .int .i64 q26.1), (20, .int .i64 q26.2), (95, .bool ((q20.2 != (0 : Int)) || (q22.2 != (0 : Int))))] ∧ Hp S w0 w (Res.obj 56 v24 [.int .i64 (IntKind.i64.wrap ((IntKind.i64.wrap ax0_0) - (IntKind.i64.wrap bx1_0))), .int .i64 (IntKind.i64.wrap ((IntKind.i64.wrap ax0_1) - (IntKind.i64.wrap bx1_1)))] :: Res.obj 56 v9 [.int .i64 q18.1, .int .i64 q18.2] :: Res.obj 56 v5 [.int .i64 (IntKind.i64.wrap ax0_0), .int .i64 (IntKind.i64.wrap ax0_1)] :: Res.obj 56 v7 [.int .i64 (IntKind.i64.wrap bx1_0), .int .i64 (IntKind.i64.wrap bx1_1)] :: ow)) ?_ ?_
    · rcases Bool.eq_false_or_eq_true (q20.2 != (0 : Int)) with hb29 | hb29
      · skip
        refine st_skip hf (wantN hf rfl rfl hb29) rfl (by decide) ?_ rfl
        clear hf; intro a hf
        refine st_skip hf (wantN hf rfl rfl hb29) rfl (by decide) ?_ rfl
        clear hf; intro a hf
        refine st_pick (v := .bool true) hf rfl rfl (fun hb' => ?_) (fun hb' => ?_) (by decide) ?_
        · rfl
        · exact absurd (hb29.symm.trans hb') (by decide)
        clear hf; intro a ha hf; clear ha
        refine st_nil hf (th_n ?_)
        exact ⟨hf.sub ⟨rfl, rfl, rfl, rfl, rfl, rfl, rfl, rfl, (by rw [hb29]; rfl), trivial⟩, hp⟩
      refine st_move hf (wantY hf rfl rfl hb29) rfl (by decide) ?_
      clear hf; intro a ha hf; clear ha
      refine st_ineq hf (by decide) (wantY hf rfl rfl hb29) rfl rfl ?_
      clear hf; intro a ha hf; clear ha
      refine st_pick (v := .bool (q22.2 != (0 : Int))) hf rfl rfl (fun hb' => ?_) (fun hb' => ?_) (by decide) ?_
      · exact absurd (hb29.symm.trans hb') (by decide)
      · rfl
      clear hf; intro a ha hf; clear ha
      refine st_nil hf (th_n ?_)
      exact ⟨hf.sub ⟨rfl, rfl, rfl, rfl, rfl, rfl, rfl, rfl, (by rw [hb29]; rfl), trivial⟩, hp⟩
    rintro a w ⟨hf, hp⟩
    refine st_move hf rfl rfl (by decide) ?_
    clear hf; intro a ha hf; clear ha
    refine wpList_cut 3 (fun a w => Fr 205 a [(7, .int .i64 (((IntKind.i64.wrap (((depth2).tmod (13 : Int)) + (13 : Int)))).tmod (13 : Int))), (8, optr v5 0), (10, optr v9 0), (14, .int .u32 q20.1), (16, .int .u32 q22.1), (18, optr v24 0), (19, .int .i64 q26.1), (99, .bool (((q20.2 != (0 : Int)) || (q22.2 != (0 : Int))) || (q26.2 != (0 : Int))))] ∧ Hp S w0 w (Res.obj 56 v24 [.int .i64 (IntKind.i64.wrap ((IntKind.i64.wrap ax0_0) - (IntKind.i64.wrap bx1_0))), .int .i64 (IntKind.i64.wrap ((IntKind.i64.wrap ax0_1) - (IntKind.i64.wrap bx1_1)))] :: Res.obj 56 v9 [.int .i64 q18.1, .int .i64 q18.2] :: Res.obj 56 v5 [.int .i64 (IntKind.i64.wrap ax0_0), .int .i64 (IntKind.i64.wrap ax0_1)] :: Res.obj 56 v7 [.int .i64 (IntKind.i64.wrap bx1_0), .int .i64 (IntKind.i64.wrap bx1_1)] :: ow)) ?_ ?_
    · rcases Bool.eq_false_or_eq_true ((q20.2 != (0 : Int)) || (q22.2 != (0 : Int))) with hb31 | hb31
      · skip
        refine st_skip hf (wantN hf rfl rfl hb31) rfl (by decide) ?_ rfl
        clear hf; intro a hf
        refine st_skip hf (wantN hf rfl rfl hb31) rfl (by decide) ?_ rfl
        clear hf; intro a hf
        refine st_pick (v := .bool true) hf rfl rfl (fun hb' => ?_) (fun hb' => ?_) (by decide) ?_
        · rfl
        · exact absurd (hb31.symm.trans hb') (by decide)
        clear hf; intro a ha hf; clear ha
        refine st_nil hf (th_n ?_)
        exact ⟨hf.sub ⟨rfl, rfl, rfl, rfl, rfl, rfl, rfl, (by rw [hb31]; rfl), trivial⟩, hp⟩
      refine st_move hf (wantY hf rfl rfl hb31) rfl (by decide) ?_
      clear hf; intro a ha hf; clear ha
      refine st_ineq hf (by decide) (wantY hf rfl rfl hb31) rfl rfl ?_
      clear hf; intro a ha hf; clear ha
      refine st_pick (v := .bool (q26.2 != (0 : Int))) hf rfl rfl (fun hb' => ?_) (fun hb' => ?_) (by decide) ?_
      · exact absurd (hb31.symm.trans hb') (by decide)
      · rfl
      clear hf; intro a ha hf; clear ha
      refine st_nil hf (th_n ?_)
      exact ⟨hf.sub ⟨rfl, rfl, rfl, rfl, rfl, rfl, rfl, (by rw [hb31]; rfl), trivial⟩, hp⟩
    rintro a w ⟨hf, hp⟩
    refine st_move hf rfl rfl (by decide) ?_
    clear hf; intro a ha hf; clear ha
    obtain ⟨z34, hz32, h⟩ := bnd h
    refine wpList_cut 8 (fun a w => Fr 205 a [(7, .int .i64 (((IntKind.i64.wrap (((depth2).tmod (13 : Int)) + (13 : Int)))).tmod (13 : Int))), (8, optr v5 0), (14, .int .u32 q20.1), (16, .int .u32 q22.1), (18, optr v24 0), (19, .int .i64 q26.1), (108, .bool z34)] ∧ Hp S w0 w (Res.obj 56 v24 [.int .i64 (IntKind.i64.wrap ((IntKind.i64.wrap ax0_0) - (IntKind.i64.wrap bx1_0))), .int .i64 (IntKind.i64.wrap ((IntKind.i64.wrap ax0_1) - (IntKind.i64.wrap bx1_1)))] :: Res.obj 56 v9 [.int .i64 q18.1, .int .i64 q18.2] :: Res.obj 56 v5 [.int .i64 (IntKind.i64.wrap ax0_0), .int .i64 (IntKind.i64.wrap ax0_1)] :: Res.obj 56 v7 [.int .i64 (IntKind.i64.wrap bx1_0), .int .i64 (IntKind.i64.wrap bx1_1)] :: ow)) ?_ ?_
    · rcases Bool.eq_false_or_eq_true (((q20.2 != (0 : Int)) || (q22.2 != (0 : Int))) || (q26.2 != (0 : Int))) with hb33 | hb33
      · skip
        replace hz32 := ifT hz32 hb33
        refine st_skip hf (wantN hf rfl rfl hb33) rfl (by decide) ?_ rfl
        clear hf; intro a hf
        refine st_skip hf (wantN hf rfl rfl hb33) rfl (by decide) ?_ rfl
        clear hf; intro a hf
        refine st_skip hf (wantN hf rfl rfl hb33) rfl (by decide) ?_ rfl
        clear hf; intro a hf
        refine st_skip hf (wantN hf rfl rfl hb33) rfl (by decide) ?_ rfl
        clear hf; intro a hf
        refine st_skip hf (wantN hf rfl rfl hb33) rfl (by decide) ?_ rfl
        clear hf; intro a hf
        refine st_skip hf (wantN hf rfl rfl hb33) rfl (by decide) ?_ rfl
        clear hf; intro a hf
        refine st_skip hf (wantN hf rfl rfl hb33) rfl (by decide) ?_ rfl
        clear hf; intro a hf
        obtain rfl := Option.some.inj hz32
        refine st_pick (v := .bool true) hf rfl rfl (fun hb' => ?_) (fun hb' => ?_) (by decide) ?_
        · rfl
        · exact absurd (hb33.symm.trans hb') (by decide)
        clear hf; intro a ha hf; clear ha
        refine st_nil hf (th_n ?_)
        exact ⟨hf.sub ⟨rfl, rfl, rfl, rfl, rfl, rfl, rfl, trivial⟩, hp⟩
      replace hz32 := ifF hz32 hb33
      refine st_move hf (wantY hf rfl rfl hb33) rfl (by decide) ?_
      clear hf; intro a ha hf; clear ha
      refine st_move hf (wantY hf rfl rfl hb33) rfl (by decide) ?_
      clear hf; intro a ha hf; clear ha
      refine st_ieql hf (by decide) (wantY hf rfl rfl hb33) rfl rfl ?_
      clear hf; intro a ha hf; clear ha
      refine st_ldOA (m := 2) (us := [.int .i64 q18.1, .int .i64 q18.2]) hf (by decide) (by kernel_rfl) (wantY hf rfl rfl hb33) rfl (hp.ob (i := 1) rfl) rfl rfl ?_
      clear hf; intro a ha hf; clear ha
      refine st_ldOA (m := 2) (us := [.int .i64 (IntKind.i64.wrap ((IntKind.i64.wrap ax0_0) - (IntKind.i64.wrap bx1_0))), .int .i64 (IntKind.i64.wrap ((IntKind.i64.wrap ax0_1) - (IntKind.i64.wrap bx1_1)))]) hf (by decide) (by kernel_rfl) (wantY hf rfl rfl hb33) rfl (hp.ob (i := 0) rfl) rfl rfl ?_
      clear hf; intro a ha hf; clear ha
      obtain ⟨q35, hcall36, hz32⟩ := bnd hz32
      refine st_call hf (by decide) Try.func33 rfl rfl (wantY hf rfl rfl hb33) rfl rfl (f_foghornlaw03_divides_c hp _ _ _ _ hcall36) ?_
      rintro _ w ⟨rfl, hp0⟩
      clear hp; have hp := hp0; clear hp0
      replace hp : Hp _ _ _ (Res.obj 56 v24 [.int .i64 (IntKind.i64.wrap ((IntKind.i64.wrap ax0_0) - (IntKind.i64.wrap bx1_0))), .int .i64 (IntKind.i64.wrap ((IntKind.i64.wrap ax0_1) - (IntKind.i64.wrap bx1_1)))] :: Res.obj 56 v9 [.int .i64 q18.1, .int .i64 q18.2] :: Res.obj 56 v5 [.int .i64 (IntKind.i64.wrap ax0_0), .int .i64 (IntKind.i64.wrap ax0_1)] :: Res.obj 56 v7 [.int .i64 (IntKind.i64.wrap bx1_0), .int .i64 (IntKind.i64.wrap bx1_1)] :: ow) := hp
      refine ⟨_, rfl, ?_⟩
      clear hf; intro a hf
      refine st_bneq hf (by decide) Try.underlying4 (wantY hf rfl rfl hb33) rfl rfl ?_
      clear hf; intro a ha hf; clear ha
      obtain rfl := Option.some.inj hz32
      refine st_pick (v := .bool ((q20.1 == q22.1) != q35)) hf rfl rfl (fun hb' => ?_) (fun hb' => ?_) (by decide) ?_
      · exact absurd (hb33.symm.trans hb') (by decide)
      · rfl
      clear hf; intro a ha hf; clear ha
      refine st_nil hf (th_n ?_)
      exact ⟨hf.sub ⟨rfl, rfl, rfl, rfl, rfl, rfl, rfl, trivial⟩, hp⟩
    rintro a w ⟨hf, hp⟩
    refine st_move hf rfl rfl (by decide) ?_
    clear hf; intro a ha hf; clear ha
    obtain ⟨z39, hz37, h⟩ := bnd h
    refine wpList_cut 15 (fun a w => Fr 205 a [(7, .int .i64 (((IntKind.i64.wrap (((depth2).tmod (13 : Int)) + (13 : Int)))).tmod (13 : Int))), (8, optr v5 0), (14, .int .u32 q20.1), (124, .bool z39)] ∧ Hp S w0 w (Res.obj 56 v24 [.int .i64 (IntKind.i64.wrap ((IntKind.i64.wrap ax0_0) - (IntKind.i64.wrap bx1_0))), .int .i64 (IntKind.i64.wrap ((IntKind.i64.wrap ax0_1) - (IntKind.i64.wrap bx1_1)))] :: Res.obj 56 v9 [.int .i64 q18.1, .int .i64 q18.2] :: Res.obj 56 v5 [.int .i64 (IntKind.i64.wrap ax0_0), .int .i64 (IntKind.i64.wrap ax0_1)] :: Res.obj 56 v7 [.int .i64 (IntKind.i64.wrap bx1_0), .int .i64 (IntKind.i64.wrap bx1_1)] :: ow)) ?_ ?_
    · rcases Bool.eq_false_or_eq_true z34 with hb38 | hb38
      · skip
        replace hz37 := ifT hz37 hb38
        refine st_skip hf (wantN hf rfl rfl hb38) rfl (by decide) ?_ rfl
        clear hf; intro a hf
        refine st_skip hf (wantN hf rfl rfl hb38) rfl (by decide) ?_ rfl
        clear hf; intro a hf
        refine st_skip hf (wantN hf rfl rfl hb38) rfl (by decide) ?_ rfl
        clear hf; intro a hf
        refine st_skipU hf (wantN hf rfl rfl hb38) rfl (by decide) ?_
        clear hf; intro a hf
        refine st_skip hf (wantU hf rfl rfl) rfl (by decide) ?_ rfl
        clear hf; intro a hf
        refine st_skip hf (wantU hf rfl rfl) rfl (by decide) ?_ rfl
        clear hf; intro a hf
        refine st_skip hf (wantU hf rfl rfl) rfl (by decide) ?_ rfl
        clear hf; intro a hf
        refine st_skip hf (wantN hf rfl rfl hb38) rfl (by decide) ?_ rfl
        clear hf; intro a hf
        refine st_skipU hf (wantN hf rfl rfl hb38) rfl (by decide) ?_
        clear hf; intro a hf
        refine st_skip hf (wantU hf rfl rfl) rfl (by decide) ?_ rfl
        clear hf; intro a hf
        refine st_skip hf (wantU hf rfl rfl) rfl (by decide) ?_ rfl
        clear hf; intro a hf
        refine st_skip hf (wantU hf rfl rfl) rfl (by decide) ?_ rfl
        clear hf; intro a hf
        refine st_skip hf (wantU hf rfl rfl) rfl (by decide) ?_ rfl
        clear hf; intro a hf
        refine st_skip hf (wantN hf rfl rfl hb38) rfl (by decide) ?_ rfl
        clear hf; intro a hf
        obtain rfl := Option.some.inj hz37
        refine st_pick (v := .bool true) hf rfl rfl (fun hb' => ?_) (fun hb' => ?_) (by decide) ?_
        · rfl
        · exact absurd (hb38.symm.trans hb') (by decide)
        clear hf; intro a ha hf; clear ha
        refine st_nil hf (th_n ?_)
        exact ⟨hf.sub ⟨rfl, rfl, rfl, rfl, trivial⟩, hp⟩
      replace hz37 := ifF hz37 hb38
      refine st_move hf (wantY hf rfl rfl hb38) rfl (by decide) ?_
      clear hf; intro a ha hf; clear ha
      refine st_move hf (wantY hf rfl rfl hb38) rfl (by decide) ?_
      clear hf; intro a ha hf; clear ha
      refine st_ieql hf (by decide) (wantY hf rfl rfl hb38) rfl rfl ?_
      clear hf; intro a ha hf; clear ha
      refine st_move hf (wantY hf rfl rfl hb38) rfl (by decide) ?_
      clear hf; intro a ha hf; clear ha
      refine wpList_cut 4 (fun a w => Fr 205 a [(7, .int .i64 (((IntKind.i64.wrap (((depth2).tmod (13 : Int)) + (13 : Int)))).tmod (13 : Int))), (8, optr v5 0), (14, .int .u32 q20.1), (19, .int .i64 q26.1), (109, .bool z34), (117, .bool ((q20.1 == q22.1) && (!(((IntKind.i64.wrap ((IntKind.i64.wrap ax0_0) - (IntKind.i64.wrap bx1_0))) == (0 : Int)) && (((IntKind.i64.wrap ((IntKind.i64.wrap ax0_1) - (IntKind.i64.wrap bx1_1))) == (0 : Int)) && true)))))] ∧ Hp S w0 w (Res.obj 56 v24 [.int .i64 (IntKind.i64.wrap ((IntKind.i64.wrap ax0_0) - (IntKind.i64.wrap bx1_0))), .int .i64 (IntKind.i64.wrap ((IntKind.i64.wrap ax0_1) - (IntKind.i64.wrap bx1_1)))] :: Res.obj 56 v9 [.int .i64 q18.1, .int .i64 q18.2] :: Res.obj 56 v5 [.int .i64 (IntKind.i64.wrap ax0_0), .int .i64 (IntKind.i64.wrap ax0_1)] :: Res.obj 56 v7 [.int .i64 (IntKind.i64.wrap bx1_0), .int .i64 (IntKind.i64.wrap bx1_1)] :: ow)) ?_ ?_
      · rcases Bool.eq_false_or_eq_true (q20.1 == q22.1) with hb41 | hb41
        · skip
          refine st_ldOA (m := 2) (us := [.int .i64 (IntKind.i64.wrap ((IntKind.i64.wrap ax0_0) - (IntKind.i64.wrap bx1_0))), .int .i64 (IntKind.i64.wrap ((IntKind.i64.wrap ax0_1) - (IntKind.i64.wrap bx1_1)))]) hf (by decide) (by kernel_rfl) (wantY hf rfl rfl hb41) rfl (hp.ob (i := 0) rfl) rfl rfl ?_
          clear hf; intro a ha hf; clear ha
          refine st_buildA (vals := []) (cells := [.int .i64 (0 : Int), .int .i64 (0 : Int)]) hf (by decide) (wantY hf rfl rfl hb41) (by simp []) (fun w => by kernel_rfl) ?_
          clear hf; intro a ha hf; clear ha
          refine st_neA (xs := [.int .i64 (IntKind.i64.wrap ((IntKind.i64.wrap ax0_0) - (IntKind.i64.wrap bx1_0))), .int .i64 (IntKind.i64.wrap ((IntKind.i64.wrap ax0_1) - (IntKind.i64.wrap bx1_1)))]) (ys := [.int .i64 (0 : Int), .int .i64 (0 : Int)]) hf (by decide) (by kernel_rfl) (by kernel_rfl) (by kernel_rfl) (by kernel_rfl) (wantY hf rfl rfl hb41) rfl rfl (b := (!(((IntKind.i64.wrap ((IntKind.i64.wrap ax0_0) - (IntKind.i64.wrap bx1_0))) == (0 : Int)) && (((IntKind.i64.wrap ((IntKind.i64.wrap ax0_1) - (IntKind.i64.wrap bx1_1))) == (0 : Int)) && true)))) rfl ?_
          clear hf; intro a ha hf; clear ha
          refine st_pick (v := .bool (!(((IntKind.i64.wrap ((IntKind.i64.wrap ax0_0) - (IntKind.i64.wrap bx1_0))) == (0 : Int)) && (((IntKind.i64.wrap ((IntKind.i64.wrap ax0_1) - (IntKind.i64.wrap bx1_1))) == (0 : Int)) && true)))) hf (wantY hf rfl rfl hb38) rfl (fun hb' => ?_) (fun hb' => ?_) (by decide) ?_
          · rfl
          · exact absurd (hb41.symm.trans hb') (by decide)
          clear hf; intro a ha hf; clear ha
          refine st_nil hf (th_n ?_)
          exact ⟨hf.sub ⟨rfl, rfl, rfl, rfl, rfl, (by rw [hb41]; rfl), trivial⟩, hp⟩
        refine st_skip hf (wantN hf rfl rfl hb41) rfl (by decide) ?_ rfl
        clear hf; intro a hf
        refine st_skip hf (wantN hf rfl rfl hb41) rfl (by decide) ?_ rfl
        clear hf; intro a hf
        refine st_skip hf (wantN hf rfl rfl hb41) rfl (by decide) ?_ rfl
        clear hf; intro a hf
        refine st_pick (v := .bool false) hf (wantY hf rfl rfl hb38) rfl (fun hb' => ?_) (fun hb' => ?_) (by decide) ?_
        · exact absurd (hb41.symm.trans hb') (by decide)
        · rfl
        clear hf; intro a ha hf; clear ha
        refine st_nil hf (th_n ?_)
        exact ⟨hf.sub ⟨rfl, rfl, rfl, rfl, rfl, (by rw [hb41]; rfl), trivial⟩, hp⟩
      rintro a w ⟨hf, hp⟩
      refine st_move hf (wantY hf rfl rfl hb38) rfl (by decide) ?_
      clear hf; intro a ha hf; clear ha
      obtain ⟨z44, hz42, hz37⟩ := bnd hz37
      refine wpList_cut 5 (fun a w => Fr 205 a [(7, .int .i64 (((IntKind.i64.wrap (((depth2).tmod (13 : Int)) + (13 : Int)))).tmod (13 : Int))), (8, optr v5 0), (14, .int .u32 q20.1), (109, .bool z34), (123, .bool z44)] ∧ Hp S w0 w (Res.obj 56 v24 [.int .i64 (IntKind.i64.wrap ((IntKind.i64.wrap ax0_0) - (IntKind.i64.wrap bx1_0))), .int .i64 (IntKind.i64.wrap ((IntKind.i64.wrap ax0_1) - (IntKind.i64.wrap bx1_1)))] :: Res.obj 56 v9 [.int .i64 q18.1, .int .i64 q18.2] :: Res.obj 56 v5 [.int .i64 (IntKind.i64.wrap ax0_0), .int .i64 (IntKind.i64.wrap ax0_1)] :: Res.obj 56 v7 [.int .i64 (IntKind.i64.wrap bx1_0), .int .i64 (IntKind.i64.wrap bx1_1)] :: ow)) ?_ ?_
      · rcases Bool.eq_false_or_eq_true ((q20.1 == q22.1) && (!(((IntKind.i64.wrap ((IntKind.i64.wrap ax0_0) - (IntKind.i64.wrap bx1_0))) == (0 : Int)) && (((IntKind.i64.wrap ((IntKind.i64.wrap ax0_1) - (IntKind.i64.wrap bx1_1))) == (0 : Int)) && true)))) with hb43 | hb43
        · skip
          replace hz42 := ifT hz42 hb43
          refine st_move hf (wantY hf rfl rfl hb43) rfl (by decide) ?_
          clear hf; intro a ha hf; clear ha
          refine st_move hf (wantY hf rfl rfl hb43) rfl (by decide) ?_
          clear hf; intro a ha hf; clear ha
          obtain ⟨hc45, hz42⟩ := chk hz42
          refine st_ishl hf (by decide) (wantY hf rfl rfl hb43) rfl rfl hc45 ?_
          clear hf; intro a ha hf; clear ha
          refine st_ilss hf (by decide) (wantY hf rfl rfl hb43) rfl rfl ?_
          clear hf; intro a ha hf; clear ha
          obtain rfl := Option.some.inj hz42
          refine st_pick (v := .bool (decide (q26.1 < (ishl .i64 (1 : Int) (((IntKind.i64.wrap (((depth2).tmod (13 : Int)) + (13 : Int)))).tmod (13 : Int)))))) hf (wantY hf rfl rfl hb38) rfl (fun hb' => ?_) (fun hb' => ?_) (by decide) ?_
          · rfl
          · exact absurd (hb43.symm.trans hb') (by decide)
          clear hf; intro a ha hf; clear ha
          refine st_nil hf (th_n ?_)
          exact ⟨hf.sub ⟨rfl, rfl, rfl, rfl, rfl, trivial⟩, hp⟩
        replace hz42 := ifF hz42 hb43
        refine st_skip hf (wantN hf rfl rfl hb43) rfl (by decide) ?_ rfl
        clear hf; intro a hf
        refine st_skip hf (wantN hf rfl rfl hb43) rfl (by decide) ?_ rfl
        clear hf; intro a hf
        refine st_skip hf (wantN hf rfl rfl hb43) rfl (by decide) ?_ rfl
        clear hf; intro a hf
        refine st_skip hf (wantN hf rfl rfl hb43) rfl (by decide) ?_ rfl
        clear hf; intro a hf
        obtain rfl := Option.some.inj hz42
        refine st_pick (v := .bool false) hf (wantY hf rfl rfl hb38) rfl (fun hb' => ?_) (fun hb' => ?_) (by decide) ?_
        · exact absurd (hb43.symm.trans hb') (by decide)
        · rfl
        clear hf; intro a ha hf; clear ha
        refine st_nil hf (th_n ?_)
        exact ⟨hf.sub ⟨rfl, rfl, rfl, rfl, rfl, trivial⟩, hp⟩
      rintro a w ⟨hf, hp⟩
      obtain rfl := Option.some.inj hz37
      refine st_pick (v := .bool z44) hf rfl rfl (fun hb' => ?_) (fun hb' => ?_) (by decide) ?_
      · exact absurd (hb38.symm.trans hb') (by decide)
      · rfl
      clear hf; intro a ha hf; clear ha
      refine st_nil hf (th_n ?_)
      exact ⟨hf.sub ⟨rfl, rfl, rfl, rfl, trivial⟩, hp⟩
    rintro a w ⟨hf, hp⟩
    refine st_move hf rfl rfl (by decide) ?_
    clear hf; intro a ha hf; clear ha
    obtain ⟨z48, hz46, h⟩ := bnd h
    refine wpList_cut 5 (fun a w => Fr 205 a [(7, .int .i64 (((IntKind.i64.wrap (((depth2).tmod (13 : Int)) + (13 : Int)))).tmod (13 : Int))), (8, optr v5 0), (14, .int .u32 q20.1), (130, .bool z48)] ∧ Hp S w0 w (Res.obj 56 v24 [.int .i64 (IntKind.i64.wrap ((IntKind.i64.wrap ax0_0) - (IntKind.i64.wrap bx1_0))), .int .i64 (IntKind.i64.wrap ((IntKind.i64.wrap ax0_1) - (IntKind.i64.wrap bx1_1)))] :: Res.obj 56 v9 [.int .i64 q18.1, .int .i64 q18.2] :: Res.obj 56 v5 [.int .i64 (IntKind.i64.wrap ax0_0), .int .i64 (IntKind.i64.wrap ax0_1)] :: Res.obj 56 v7 [.int .i64 (IntKind.i64.wrap bx1_0), .int .i64 (IntKind.i64.wrap bx1_1)] :: ow)) ?_ ?_
    · rcases Bool.eq_false_or_eq_true z39 with hb47 | hb47
      · skip
        replace hz46 := ifT hz46 hb47
        refine st_skip hf (wantN hf rfl rfl hb47) rfl (by decide) ?_ rfl
        clear hf; intro a hf
        refine st_skip hf (wantN hf rfl rfl hb47) rfl (by decide) ?_ rfl
        clear hf; intro a hf
        refine st_skip hf (wantN hf rfl rfl hb47) rfl (by decide) ?_ rfl
        clear hf; intro a hf
        refine st_skip hf (wantN hf rfl rfl hb47) rfl (by decide) ?_ rfl
        clear hf; intro a hf
        obtain rfl := Option.some.inj hz46
        refine st_pick (v := .bool true) hf rfl rfl (fun hb' => ?_) (fun hb' => ?_) (by decide) ?_
        · rfl
        · exact absurd (hb47.symm.trans hb') (by decide)
        clear hf; intro a ha hf; clear ha
        refine st_nil hf (th_n ?_)
        exact ⟨hf.sub ⟨rfl, rfl, rfl, rfl, trivial⟩, hp⟩
      replace hz46 := ifF hz46 hb47
      refine st_move hf (wantY hf rfl rfl hb47) rfl (by decide) ?_
      clear hf; intro a ha hf; clear ha
      refine st_move hf (wantY hf rfl rfl hb47) rfl (by decide) ?_
      clear hf; intro a ha hf; clear ha
      obtain ⟨hc49, hz46⟩ := chk hz46
      refine st_ishr hf (by decide) (wantY hf rfl rfl hb47) rfl rfl hc49 ?_
      clear hf; intro a ha hf; clear ha
      refine st_ineq hf (by decide) (wantY hf rfl rfl hb47) rfl rfl ?_
      clear hf; intro a ha hf; clear ha
      obtain rfl := Option.some.inj hz46
      refine st_pick (v := .bool ((ishr .u32 q20.1 (((IntKind.i64.wrap (((depth2).tmod (13 : Int)) + (13 : Int)))).tmod (13 : Int))) != (0 : Int))) hf rfl rfl (fun hb' => ?_) (fun hb' => ?_) (by decide) ?_
      · exact absurd (hb47.symm.trans hb') (by decide)
      · rfl
      clear hf; intro a ha hf; clear ha
      refine st_nil hf (th_n ?_)
      exact ⟨hf.sub ⟨rfl, rfl, rfl, rfl, trivial⟩, hp⟩
    rintro a w ⟨hf, hp⟩
    refine st_nil hf ?_
    refine th_n ?_
    refine wp_if hf rfl (fun hb => ?_) (fun hb => ?_)
    · replace h := ifT h hb
      refine wp_seq ?_
      refine wp_reg ?_
      refine st_assign hf rfl rfl (by decide) ?_
      clear hf; intro a ha hf; clear ha
      refine st_nil hf ?_
      refine th_n ?_
      refine wp_ret ?_
      refine th_r ?_
      obtain rfl := Option.some.inj h
      have hp : Hp _ _ _ (ow) := Hp.sel (pre := [Res.obj 56 v24 [.int .i64 (IntKind.i64.wrap ((IntKind.i64.wrap ax0_0) - (IntKind.i64.wrap bx1_0))), .int .i64 (IntKind.i64.wrap ((IntKind.i64.wrap ax0_1) - (IntKind.i64.wrap bx1_1)))], Res.obj 56 v9 [.int .i64 q18.1, .int .i64 q18.2], Res.obj 56 v5 [.int .i64 (IntKind.i64.wrap ax0_0), .int .i64 (IntKind.i64.wrap ax0_1)], Res.obj 56 v7 [.int .i64 (IntKind.i64.wrap bx1_0), .int .i64 (IntKind.i64.wrap bx1_1)]]) (tail := ow) (rs' := []) hp [] (by decide) (by simp) rfl
      exact ⟨rfl, ⟨hf.sub ⟨rfl, trivial⟩, hp⟩⟩
    replace h := ifF h hb
    refine wp_skip ?_
    refine th_n ?_
    refine wp_seq ?_
    refine wp_reg ?_
    refine st_move hf rfl rfl (by decide) ?_
    clear hf; intro a ha hf; clear ha
    refine st_move hf rfl rfl (by decide) ?_
    clear hf; intro a ha hf; clear ha
    obtain ⟨q50, hcall51, h⟩ := bnd h
    refine st_call hf (by decide) Try.func37 rfl rfl rfl rfl rfl (f_plane_First_c hp _ _ hcall51) ?_
    rintro _ w ⟨rfl, hp0⟩
    clear hp; have hp := hp0; clear hp0
    replace hp : Hp _ _ _ (Res.obj 56 v24 [.int .i64 (IntKind.i64.wrap ((IntKind.i64.wrap ax0_0) - (IntKind.i64.wrap bx1_0))), .int .i64 (IntKind.i64.wrap ((IntKind.i64.wrap ax0_1) - (IntKind.i64.wrap bx1_1)))] :: Res.obj 56 v9 [.int .i64 q18.1, .int .i64 q18.2] :: Res.obj 56 v5 [.int .i64 (IntKind.i64.wrap ax0_0), .int .i64 (IntKind.i64.wrap ax0_1)] :: Res.obj 56 v7 [.int .i64 (IntKind.i64.wrap bx1_0), .int .i64 (IntKind.i64.wrap bx1_1)] :: ow) := hp
    refine ⟨_, rfl, ?_⟩
    clear hf; intro a hf
    refine st_move hf rfl rfl (by decide) ?_
    clear hf; intro a ha hf; clear ha
    refine st_extract hf (by decide) rfl rfl rfl ?_
    clear hf; intro a ha hf; clear ha
    refine st_extract hf (by decide) rfl rfl rfl ?_
    clear hf; intro a ha hf; clear ha
    refine st_alloc (cs := [.int .i64 (0 : Int), .int .i64 (0 : Int)]) (zv := .agg #[.int .i64 (0 : Int), .int .i64 (0 : Int)]) hf (by decide) (by kernel_rfl) rfl hp rfl ?_
    clear hf; intro a w v52 hf hp0; clear hp; have hp := hp0; clear hp0
    replace hp : Hp _ _ _ (Res.obj 56 v52 [.int .i64 (0 : Int), .int .i64 (0 : Int)] :: Res.obj 56 v24 [.int .i64 (IntKind.i64.wrap ((IntKind.i64.wrap ax0_0) - (IntKind.i64.wrap bx1_0))), .int .i64 (IntKind.i64.wrap ((IntKind.i64.wrap ax0_1) - (IntKind.i64.wrap bx1_1)))] :: Res.obj 56 v9 [.int .i64 q18.1, .int .i64 q18.2] :: Res.obj 56 v5 [.int .i64 (IntKind.i64.wrap ax0_0), .int .i64 (IntKind.i64.wrap ax0_1)] :: Res.obj 56 v7 [.int .i64 (IntKind.i64.wrap bx1_0), .int .i64 (IntKind.i64.wrap bx1_1)] :: ow) := hp
    refine st_stO (us := [.int .i64 q50.1.1, .int .i64 q50.1.2]) hf hp (i := 0) rfl rfl rfl rfl rfl (by rfl) (by kernel_rfl) (Nat.le_of_ble_eq_true rfl) ?_
    clear hf; intro a w hf hp0; clear hp; have hp := hp0; clear hp0
    replace hp : Hp _ _ _ (Res.obj 56 v52 [.int .i64 q50.1.1, .int .i64 q50.1.2] :: Res.obj 56 v24 [.int .i64 (IntKind.i64.wrap ((IntKind.i64.wrap ax0_0) - (IntKind.i64.wrap bx1_0))), .int .i64 (IntKind.i64.wrap ((IntKind.i64.wrap ax0_1) - (IntKind.i64.wrap bx1_1)))] :: Res.obj 56 v9 [.int .i64 q18.1, .int .i64 q18.2] :: Res.obj 56 v5 [.int .i64 (IntKind.i64.wrap ax0_0), .int .i64 (IntKind.i64.wrap ax0_1)] :: Res.obj 56 v7 [.int .i64 (IntKind.i64.wrap bx1_0), .int .i64 (IntKind.i64.wrap bx1_1)] :: ow) := hp
    refine st_assign hf rfl rfl (by decide) ?_
    clear hf; intro a ha hf; clear ha
    refine st_nil hf ?_
    refine th_n ?_
    refine wp_seq ?_
    refine wp_reg ?_
    refine st_ldOA (m := 2) (us := [.int .i64 q50.1.1, .int .i64 q50.1.2]) hf (by decide) (by kernel_rfl) rfl rfl (hp.ob (i := 0) rfl) rfl rfl ?_
    clear hf; intro a ha hf; clear ha
    refine st_move hf rfl rfl (by decide) ?_
    clear hf; intro a ha hf; clear ha
    obtain ⟨q54, hcall55, h⟩ := bnd h
    refine st_call hf (by decide) Try.func36 rfl rfl rfl rfl rfl (f_plane_Gauss_Class_c hp _ _ _ hcall55) ?_
    rintro _ w ⟨rfl, hp0⟩
    clear hp; have hp := hp0; clear hp0
    replace hp : Hp _ _ _ (Res.obj 56 v52 [.int .i64 q50.1.1, .int .i64 q50.1.2] :: Res.obj 56 v24 [.int .i64 (IntKind.i64.wrap ((IntKind.i64.wrap ax0_0) - (IntKind.i64.wrap bx1_0))), .int .i64 (IntKind.i64.wrap ((IntKind.i64.wrap ax0_1) - (IntKind.i64.wrap bx1_1)))] :: Res.obj 56 v9 [.int .i64 q18.1, .int .i64 q18.2] :: Res.obj 56 v5 [.int .i64 (IntKind.i64.wrap ax0_0), .int .i64 (IntKind.i64.wrap ax0_1)] :: Res.obj 56 v7 [.int .i64 (IntKind.i64.wrap bx1_0), .int .i64 (IntKind.i64.wrap bx1_1)] :: ow) := hp
    refine ⟨_, rfl, ?_⟩
    clear hf; intro a hf
    refine st_move hf rfl rfl (by decide) ?_
    clear hf; intro a ha hf; clear ha
    refine st_extract hf (by decide) rfl rfl rfl ?_
    clear hf; intro a ha hf; clear ha
    refine st_extract hf (by decide) rfl rfl rfl ?_
    clear hf; intro a ha hf; clear ha
    refine st_assign hf rfl rfl (by decide) ?_
    clear hf; intro a ha hf; clear ha
    refine st_assign hf rfl rfl (by decide) ?_
    clear hf; intro a ha hf; clear ha
    refine st_nil hf ?_
    refine th_n ?_
    refine wp_seq ?_
    refine wp_reg ?_
    refine st_ldOA (m := 2) (us := [.int .i64 (IntKind.i64.wrap ax0_0), .int .i64 (IntKind.i64.wrap ax0_1)]) hf (by decide) (by kernel_rfl) rfl rfl (hp.ob (i := 3) rfl) rfl rfl ?_
    clear hf; intro a ha hf; clear ha
    refine st_move hf rfl rfl (by decide) ?_
    clear hf; intro a ha hf; clear ha
    refine st_iquo hf (by decide) rfl rfl rfl (by decide) ?_
    clear hf; intro a ha hf; clear ha
    obtain ⟨q56, hcall57, h⟩ := bnd h
    refine st_call hf (by decide) Try.func36 rfl rfl rfl rfl rfl (f_plane_Gauss_Class_c hp _ _ _ hcall57) ?_
    rintro _ w ⟨rfl, hp0⟩
    clear hp; have hp := hp0; clear hp0
    replace hp : Hp _ _ _ (Res.obj 56 v52 [.int .i64 q50.1.1, .int .i64 q50.1.2] :: Res.obj 56 v24 [.int .i64 (IntKind.i64.wrap ((IntKind.i64.wrap ax0_0) - (IntKind.i64.wrap bx1_0))), .int .i64 (IntKind.i64.wrap ((IntKind.i64.wrap ax0_1) - (IntKind.i64.wrap bx1_1)))] :: Res.obj 56 v9 [.int .i64 q18.1, .int .i64 q18.2] :: Res.obj 56 v5 [.int .i64 (IntKind.i64.wrap ax0_0), .int .i64 (IntKind.i64.wrap ax0_1)] :: Res.obj 56 v7 [.int .i64 (IntKind.i64.wrap bx1_0), .int .i64 (IntKind.i64.wrap bx1_1)] :: ow) := hp
    refine ⟨_, rfl, ?_⟩
    clear hf; intro a hf
    refine st_move hf rfl rfl (by decide) ?_
    clear hf; intro a ha hf; clear ha
    refine st_extract hf (by decide) rfl rfl rfl ?_
    clear hf; intro a ha hf; clear ha
    refine st_extract hf (by decide) rfl rfl rfl ?_
    clear hf; intro a ha hf; clear ha
    refine st_assign hf rfl rfl (by decide) ?_
    clear hf; intro a ha hf; clear ha
    refine st_assign hf rfl rfl (by decide) ?_
    clear hf; intro a ha hf; clear ha
    refine st_nil hf ?_
    refine th_n ?_
    refine wp_seq ?_
    refine wp_reg ?_
    refine st_ldOA (m := 2) (us := [.int .i64 (IntKind.i64.wrap ax0_0), .int .i64 (IntKind.i64.wrap ax0_1)]) hf (by decide) (by kernel_rfl) rfl rfl (hp.ob (i := 3) rfl) rfl rfl ?_
    clear hf; intro a ha hf; clear ha
    obtain ⟨q58, hcall59, h⟩ := bnd h
    refine st_call hf (by decide) Try.func38 rfl rfl rfl rfl rfl (f_plane_Gauss_Depth_c hp _ _ hcall59) ?_
    rintro _ w ⟨rfl, hp0⟩
    clear hp; have hp := hp0; clear hp0
    replace hp : Hp _ _ _ (Res.obj 56 v52 [.int .i64 q50.1.1, .int .i64 q50.1.2] :: Res.obj 56 v24 [.int .i64 (IntKind.i64.wrap ((IntKind.i64.wrap ax0_0) - (IntKind.i64.wrap bx1_0))), .int .i64 (IntKind.i64.wrap ((IntKind.i64.wrap ax0_1) - (IntKind.i64.wrap bx1_1)))] :: Res.obj 56 v9 [.int .i64 q18.1, .int .i64 q18.2] :: Res.obj 56 v5 [.int .i64 (IntKind.i64.wrap ax0_0), .int .i64 (IntKind.i64.wrap ax0_1)] :: Res.obj 56 v7 [.int .i64 (IntKind.i64.wrap bx1_0), .int .i64 (IntKind.i64.wrap bx1_1)] :: ow) := hp
    refine ⟨_, rfl, ?_⟩
    clear hf; intro a hf
    refine st_move hf rfl rfl (by decide) ?_
    clear hf; intro a ha hf; clear ha
    refine st_extract hf (by decide) rfl rfl rfl ?_
    clear hf; intro a ha hf; clear ha
    refine st_extract hf (by decide) rfl rfl rfl ?_
    clear hf; intro a ha hf; clear ha
    refine st_assign hf rfl rfl (by decide) ?_
    clear hf; intro a ha hf; clear ha
    refine st_assign hf rfl rfl (by decide) ?_
    clear hf; intro a ha hf; clear ha
    refine st_nil hf ?_
    refine th_n ?_
    refine wp_seq ?_
    refine wp_seq ?_
    refine wp_reg ?_
    refine st_move hf rfl rfl (by decide) ?_
    clear hf; intro a ha hf; clear ha
    refine st_ineq hf (by decide) rfl rfl rfl ?_
    clear hf; intro a ha hf; clear ha
    refine st_move hf rfl rfl (by decide) ?_
    clear hf; intro a ha hf; clear ha
    refine wpList_cut 3 (fun a w => Fr 205 a [(7, .int .i64 (((IntKind.i64.wrap (((depth2).tmod (13 : Int)) + (13 : Int)))).tmod (13 : Int))), (8, optr v5 0), (14, .int .u32 q20.1), (23, .int .u32 q54.1), (25, .int .u32 q56.1), (26, .int .i64 q56.2), (27, .int .i64 q58.1), (28, .int .i64 q58.2), (160, .bool ((q50.2 != (0 : Int)) || (q54.2 != (0 : Int))))] ∧ Hp S w0 w (Res.obj 56 v52 [.int .i64 q50.1.1, .int .i64 q50.1.2] :: Res.obj 56 v24 [.int .i64 (IntKind.i64.wrap ((IntKind.i64.wrap ax0_0) - (IntKind.i64.wrap bx1_0))), .int .i64 (IntKind.i64.wrap ((IntKind.i64.wrap ax0_1) - (IntKind.i64.wrap bx1_1)))] :: Res.obj 56 v9 [.int .i64 q18.1, .int .i64 q18.2] :: Res.obj 56 v5 [.int .i64 (IntKind.i64.wrap ax0_0), .int .i64 (IntKind.i64.wrap ax0_1)] :: Res.obj 56 v7 [.int .i64 (IntKind.i64.wrap bx1_0), .int .i64 (IntKind.i64.wrap bx1_1)] :: ow)) ?_ ?_
    · rcases Bool.eq_false_or_eq_true (q50.2 != (0 : Int)) with hb61 | hb61
      · skip
        refine st_skip hf (wantN hf rfl rfl hb61) rfl (by decide) ?_ rfl
        clear hf; intro a hf
        refine st_skip hf (wantN hf rfl rfl hb61) rfl (by decide) ?_ rfl
        clear hf; intro a hf
        refine st_pick (v := .bool true) hf rfl rfl (fun hb' => ?_) (fun hb' => ?_) (by decide) ?_
        · rfl
        · exact absurd (hb61.symm.trans hb') (by decide)
        clear hf; intro a ha hf; clear ha
        refine st_nil hf (th_n ?_)
        exact ⟨hf.sub ⟨rfl, rfl, rfl, rfl, rfl, rfl, rfl, rfl, (by rw [hb61]; rfl), trivial⟩, hp⟩
      refine st_move hf (wantY hf rfl rfl hb61) rfl (by decide) ?_
      clear hf; intro a ha hf; clear ha
      refine st_ineq hf (by decide) (wantY hf rfl rfl hb61) rfl rfl ?_
      clear hf; intro a ha hf; clear ha
      refine st_pick (v := .bool (q54.2 != (0 : Int))) hf rfl rfl (fun hb' => ?_) (fun hb' => ?_) (by decide) ?_
      · exact absurd (hb61.symm.trans hb') (by decide)
      · rfl
      clear hf; intro a ha hf; clear ha
      refine st_nil hf (th_n ?_)
      exact ⟨hf.sub ⟨rfl, rfl, rfl, rfl, rfl, rfl, rfl, rfl, (by rw [hb61]; rfl), trivial⟩, hp⟩
    rintro a w ⟨hf, hp⟩
    refine st_move hf rfl rfl (by decide) ?_
    clear hf; intro a ha hf; clear ha
    refine wpList_cut 4 (fun a w => Fr 205 a [(7, .int .i64 (((IntKind.i64.wrap (((depth2).tmod (13 : Int)) + (13 : Int)))).tmod (13 : Int))), (8, optr v5 0), (14, .int .u32 q20.1), (25, .int .u32 q56.1), (26, .int .i64 q56.2), (27, .int .i64 q58.1), (28, .int .i64 q58.2), (165, .bool (((q50.2 != (0 : Int)) || (q54.2 != (0 : Int))) || (q54.1 != q20.1)))] ∧ Hp S w0 w (Res.obj 56 v52 [.int .i64 q50.1.1, .int .i64 q50.1.2] :: Res.obj 56 v24 [.int .i64 (IntKind.i64.wrap ((IntKind.i64.wrap ax0_0) - (IntKind.i64.wrap bx1_0))), .int .i64 (IntKind.i64.wrap ((IntKind.i64.wrap ax0_1) - (IntKind.i64.wrap bx1_1)))] :: Res.obj 56 v9 [.int .i64 q18.1, .int .i64 q18.2] :: Res.obj 56 v5 [.int .i64 (IntKind.i64.wrap ax0_0), .int .i64 (IntKind.i64.wrap ax0_1)] :: Res.obj 56 v7 [.int .i64 (IntKind.i64.wrap bx1_0), .int .i64 (IntKind.i64.wrap bx1_1)] :: ow)) ?_ ?_
    · rcases Bool.eq_false_or_eq_true ((q50.2 != (0 : Int)) || (q54.2 != (0 : Int))) with hb63 | hb63
      · skip
        refine st_skip hf (wantN hf rfl rfl hb63) rfl (by decide) ?_ rfl
        clear hf; intro a hf
        refine st_skip hf (wantN hf rfl rfl hb63) rfl (by decide) ?_ rfl
        clear hf; intro a hf
        refine st_skip hf (wantN hf rfl rfl hb63) rfl (by decide) ?_ rfl
        clear hf; intro a hf
        refine st_pick (v := .bool true) hf rfl rfl (fun hb' => ?_) (fun hb' => ?_) (by decide) ?_
        · rfl
        · exact absurd (hb63.symm.trans hb') (by decide)
        clear hf; intro a ha hf; clear ha
        refine st_nil hf (th_n ?_)
        exact ⟨hf.sub ⟨rfl, rfl, rfl, rfl, rfl, rfl, rfl, (by rw [hb63]; rfl), trivial⟩, hp⟩
      refine st_move hf (wantY hf rfl rfl hb63) rfl (by decide) ?_
      clear hf; intro a ha hf; clear ha
      refine st_move hf (wantY hf rfl rfl hb63) rfl (by decide) ?_
      clear hf; intro a ha hf; clear ha
      refine st_ineq hf (by decide) (wantY hf rfl rfl hb63) rfl rfl ?_
      clear hf; intro a ha hf; clear ha
      refine st_pick (v := .bool (q54.1 != q20.1)) hf rfl rfl (fun hb' => ?_) (fun hb' => ?_) (by decide) ?_
      · exact absurd (hb63.symm.trans hb') (by decide)
      · rfl
      clear hf; intro a ha hf; clear ha
      refine st_nil hf (th_n ?_)
      exact ⟨hf.sub ⟨rfl, rfl, rfl, rfl, rfl, rfl, rfl, (by rw [hb63]; rfl), trivial⟩, hp⟩
    rintro a w ⟨hf, hp⟩
    refine st_move hf rfl rfl (by decide) ?_
    clear hf; intro a ha hf; clear ha
    refine wpList_cut 3 (fun a w => Fr 205 a [(7, .int .i64 (((IntKind.i64.wrap (((depth2).tmod (13 : Int)) + (13 : Int)))).tmod (13 : Int))), (8, optr v5 0), (14, .int .u32 q20.1), (25, .int .u32 q56.1), (27, .int .i64 q58.1), (28, .int .i64 q58.2), (169, .bool ((((q50.2 != (0 : Int)) || (q54.2 != (0 : Int))) || (q54.1 != q20.1)) || (q56.2 != (0 : Int))))] ∧ Hp S w0 w (Res.obj 56 v52 [.int .i64 q50.1.1, .int .i64 q50.1.2] :: Res.obj 56 v24 [.int .i64 (IntKind.i64.wrap ((IntKind.i64.wrap ax0_0) - (IntKind.i64.wrap bx1_0))), .int .i64 (IntKind.i64.wrap ((IntKind.i64.wrap ax0_1) - (IntKind.i64.wrap bx1_1)))] :: Res.obj 56 v9 [.int .i64 q18.1, .int .i64 q18.2] :: Res.obj 56 v5 [.int .i64 (IntKind.i64.wrap ax0_0), .int .i64 (IntKind.i64.wrap ax0_1)] :: Res.obj 56 v7 [.int .i64 (IntKind.i64.wrap bx1_0), .int .i64 (IntKind.i64.wrap bx1_1)] :: ow)) ?_ ?_
    · rcases Bool.eq_false_or_eq_true (((q50.2 != (0 : Int)) || (q54.2 != (0 : Int))) || (q54.1 != q20.1)) with hb65 | hb65
      · skip
        refine st_skip hf (wantN hf rfl rfl hb65) rfl (by decide) ?_ rfl
        clear hf; intro a hf
        refine st_skip hf (wantN hf rfl rfl hb65) rfl (by decide) ?_ rfl
        clear hf; intro a hf
        refine st_pick (v := .bool true) hf rfl rfl (fun hb' => ?_) (fun hb' => ?_) (by decide) ?_
        · rfl
        · exact absurd (hb65.symm.trans hb') (by decide)
        clear hf; intro a ha hf; clear ha
        refine st_nil hf (th_n ?_)
        exact ⟨hf.sub ⟨rfl, rfl, rfl, rfl, rfl, rfl, (by rw [hb65]; rfl), trivial⟩, hp⟩
      refine st_move hf (wantY hf rfl rfl hb65) rfl (by decide) ?_
      clear hf; intro a ha hf; clear ha
      refine st_ineq hf (by decide) (wantY hf rfl rfl hb65) rfl rfl ?_
      clear hf; intro a ha hf; clear ha
      refine st_pick (v := .bool (q56.2 != (0 : Int))) hf rfl rfl (fun hb' => ?_) (fun hb' => ?_) (by decide) ?_
      · exact absurd (hb65.symm.trans hb') (by decide)
      · rfl
      clear hf; intro a ha hf; clear ha
      refine st_nil hf (th_n ?_)
      exact ⟨hf.sub ⟨rfl, rfl, rfl, rfl, rfl, rfl, (by rw [hb65]; rfl), trivial⟩, hp⟩
    rintro a w ⟨hf, hp⟩
    refine st_move hf rfl rfl (by decide) ?_
    clear hf; intro a ha hf; clear ha
    obtain ⟨z68, hz66, h⟩ := bnd h
    refine wpList_cut 9 (fun a w => Fr 205 a [(7, .int .i64 (((IntKind.i64.wrap (((depth2).tmod (13 : Int)) + (13 : Int)))).tmod (13 : Int))), (8, optr v5 0), (14, .int .u32 q20.1), (27, .int .i64 q58.1), (28, .int .i64 q58.2), (179, .bool z68)] ∧ Hp S w0 w (Res.obj 56 v52 [.int .i64 q50.1.1, .int .i64 q50.1.2] :: Res.obj 56 v24 [.int .i64 (IntKind.i64.wrap ((IntKind.i64.wrap ax0_0) - (IntKind.i64.wrap bx1_0))), .int .i64 (IntKind.i64.wrap ((IntKind.i64.wrap ax0_1) - (IntKind.i64.wrap bx1_1)))] :: Res.obj 56 v9 [.int .i64 q18.1, .int .i64 q18.2] :: Res.obj 56 v5 [.int .i64 (IntKind.i64.wrap ax0_0), .int .i64 (IntKind.i64.wrap ax0_1)] :: Res.obj 56 v7 [.int .i64 (IntKind.i64.wrap bx1_0), .int .i64 (IntKind.i64.wrap bx1_1)] :: ow)) ?_ ?_
    · rcases Bool.eq_false_or_eq_true ((((q50.2 != (0 : Int)) || (q54.2 != (0 : Int))) || (q54.1 != q20.1)) || (q56.2 != (0 : Int))) with hb67 | hb67
      · skip
        replace hz66 := ifT hz66 hb67
        refine st_skip hf (wantN hf rfl rfl hb67) rfl (by decide) ?_ rfl
        clear hf; intro a hf
        refine st_skip hf (wantN hf rfl rfl hb67) rfl (by decide) ?_ rfl
        clear hf; intro a hf
        refine st_skip hf (wantN hf rfl rfl hb67) rfl (by decide) ?_ rfl
        clear hf; intro a hf
        refine st_skip hf (wantN hf rfl rfl hb67) rfl (by decide) ?_ rfl
        clear hf; intro a hf
        refine st_skip hf (wantN hf rfl rfl hb67) rfl (by decide) ?_ rfl
        clear hf; intro a hf
        refine st_skip hf (wantN hf rfl rfl hb67) rfl (by decide) ?_ rfl
        clear hf; intro a hf
        refine st_skip hf (wantN hf rfl rfl hb67) rfl (by decide) ?_ rfl
        clear hf; intro a hf
        refine st_skip hf (wantN hf rfl rfl hb67) rfl (by decide) ?_ rfl
        clear hf; intro a hf
        obtain rfl := Option.some.inj hz66
        refine st_pick (v := .bool true) hf rfl rfl (fun hb' => ?_) (fun hb' => ?_) (by decide) ?_
        · rfl
        · exact absurd (hb67.symm.trans hb') (by decide)
        clear hf; intro a ha hf; clear ha
        refine st_nil hf (th_n ?_)
        exact ⟨hf.sub ⟨rfl, rfl, rfl, rfl, rfl, rfl, trivial⟩, hp⟩
      replace hz66 := ifF hz66 hb67
      refine st_move hf (wantY hf rfl rfl hb67) rfl (by decide) ?_
      clear hf; intro a ha hf; clear ha
      refine st_move hf (wantY hf rfl rfl hb67) rfl (by decide) ?_
      clear hf; intro a ha hf; clear ha
      refine st_move hf (wantY hf rfl rfl hb67) rfl (by decide) ?_
      clear hf; intro a ha hf; clear ha
      refine st_iquo hf (by decide) (wantY hf rfl rfl hb67) rfl rfl (by decide) ?_
      clear hf; intro a ha hf; clear ha
      obtain ⟨hc69, hz66⟩ := chk hz66
      refine st_ishl hf (by decide) (wantY hf rfl rfl hb67) rfl rfl hc69 ?_
      clear hf; intro a ha hf; clear ha
      refine st_isub hf (by decide) (wantY hf rfl rfl hb67) rfl rfl ?_
      clear hf; intro a ha hf; clear ha
      refine st_iand hf (by decide) (wantY hf rfl rfl hb67) rfl rfl ?_
      clear hf; intro a ha hf; clear ha
      refine st_ineq hf (by decide) (wantY hf rfl rfl hb67) rfl rfl ?_
      clear hf; intro a ha hf; clear ha
      obtain rfl := Option.some.inj hz66
      refine st_pick (v := .bool (q56.1 != (iand .u32 q20.1 (IntKind.u32.wrap ((ishl .u32 (1 : Int) (IntKind.i64.wrap (((((IntKind.i64.wrap (((depth2).tmod (13 : Int)) + (13 : Int)))).tmod (13 : Int))).tdiv (2 : Int)))) - (1 : Int)))))) hf rfl rfl (fun hb' => ?_) (fun hb' => ?_) (by decide) ?_
      · exact absurd (hb67.symm.trans hb') (by decide)
      · rfl
      clear hf; intro a ha hf; clear ha
      refine st_nil hf (th_n ?_)
      exact ⟨hf.sub ⟨rfl, rfl, rfl, rfl, rfl, rfl, trivial⟩, hp⟩
    rintro a w ⟨hf, hp⟩
    refine st_nil hf ?_
    refine th_n ?_
    refine wp_if hf rfl (fun hb => ?_) (fun hb => ?_)
    · replace h := ifT h hb
      refine wp_seq ?_
      refine wp_reg ?_
      refine st_assign hf rfl rfl (by decide) ?_
      clear hf; intro a ha hf; clear ha
      refine st_nil hf ?_
      refine th_n ?_
      refine wp_ret ?_
      refine th_r ?_
      obtain rfl := Option.some.inj h
      have hp : Hp _ _ _ (ow) := Hp.sel (pre := [Res.obj 56 v52 [.int .i64 q50.1.1, .int .i64 q50.1.2], Res.obj 56 v24 [.int .i64 (IntKind.i64.wrap ((IntKind.i64.wrap ax0_0) - (IntKind.i64.wrap bx1_0))), .int .i64 (IntKind.i64.wrap ((IntKind.i64.wrap ax0_1) - (IntKind.i64.wrap bx1_1)))], Res.obj 56 v9 [.int .i64 q18.1, .int .i64 q18.2], Res.obj 56 v5 [.int .i64 (IntKind.i64.wrap ax0_0), .int .i64 (IntKind.i64.wrap ax0_1)], Res.obj 56 v7 [.int .i64 (IntKind.i64.wrap bx1_0), .int .i64 (IntKind.i64.wrap bx1_1)]]) (tail := ow) (rs' := []) hp [] (by decide) (by simp) rfl
      exact ⟨rfl, ⟨hf.sub ⟨rfl, trivial⟩, hp⟩⟩
    replace h := ifF h hb
    refine wp_skip ?_
    refine th_n ?_
    refine wp_seq ?_
    refine wp_seq ?_
    refine wp_reg ?_
    refine st_ldOA (m := 2) (us := [.int .i64 (IntKind.i64.wrap ax0_0), .int .i64 (IntKind.i64.wrap ax0_1)]) hf (by decide) (by kernel_rfl) rfl rfl (hp.ob (i := 3) rfl) rfl rfl ?_
    clear hf; intro a ha hf; clear ha
    refine st_buildA (vals := []) (cells := [.int .i64 (0 : Int), .int .i64 (0 : Int)]) hf (by decide) rfl (by simp []) (fun w => by kernel_rfl) ?_
    clear hf; intro a ha hf; clear ha
    refine st_eqA (xs := [.int .i64 (IntKind.i64.wrap ax0_0), .int .i64 (IntKind.i64.wrap ax0_1)]) (ys := [.int .i64 (0 : Int), .int .i64 (0 : Int)]) hf (by decide) (by kernel_rfl) (by kernel_rfl) (by kernel_rfl) (by kernel_rfl) rfl rfl rfl (b := (((IntKind.i64.wrap ax0_0) == (0 : Int)) && (((IntKind.i64.wrap ax0_1) == (0 : Int)) && true))) rfl ?_
    clear hf; intro a ha hf; clear ha
    refine st_nil hf ?_
    refine th_n ?_
    refine wp_if hf rfl (fun hb => ?_) (fun hb => ?_)
    · replace h := ifT h hb
      refine wp_seq ?_
      refine wp_reg ?_
      refine st_move hf rfl rfl (by decide) ?_
      clear hf; intro a ha hf; clear ha
      refine st_ieql hf (by decide) rfl rfl rfl ?_
      clear hf; intro a ha hf; clear ha
      refine st_move hf rfl rfl (by decide) ?_
      clear hf; intro a ha hf; clear ha
      refine wpList_cut 3 (fun a w => Fr 205 a [(188, .bool ((q58.2 == (6 : Int)) && (q20.1 == (0 : Int))))] ∧ Hp S w0 w (Res.obj 56 v52 [.int .i64 q50.1.1, .int .i64 q50.1.2] :: Res.obj 56 v24 [.int .i64 (IntKind.i64.wrap ((IntKind.i64.wrap ax0_0) - (IntKind.i64.wrap bx1_0))), .int .i64 (IntKind.i64.wrap ((IntKind.i64.wrap ax0_1) - (IntKind.i64.wrap bx1_1)))] :: Res.obj 56 v9 [.int .i64 q18.1, .int .i64 q18.2] :: Res.obj 56 v5 [.int .i64 (IntKind.i64.wrap ax0_0), .int .i64 (IntKind.i64.wrap ax0_1)] :: Res.obj 56 v7 [.int .i64 (IntKind.i64.wrap bx1_0), .int .i64 (IntKind.i64.wrap bx1_1)] :: ow)) ?_ ?_
      · rcases Bool.eq_false_or_eq_true (q58.2 == (6 : Int)) with hb71 | hb71
        · skip
          refine st_move hf (wantY hf rfl rfl hb71) rfl (by decide) ?_
          clear hf; intro a ha hf; clear ha
          refine st_ieql hf (by decide) (wantY hf rfl rfl hb71) rfl rfl ?_
          clear hf; intro a ha hf; clear ha
          refine st_pick (v := .bool (q20.1 == (0 : Int))) hf rfl rfl (fun hb' => ?_) (fun hb' => ?_) (by decide) ?_
          · rfl
          · exact absurd (hb71.symm.trans hb') (by decide)
          clear hf; intro a ha hf; clear ha
          refine st_nil hf (th_n ?_)
          exact ⟨hf.sub ⟨(by rw [hb71]; rfl), trivial⟩, hp⟩
        refine st_skip hf (wantN hf rfl rfl hb71) rfl (by decide) ?_ rfl
        clear hf; intro a hf
        refine st_skip hf (wantN hf rfl rfl hb71) rfl (by decide) ?_ rfl
        clear hf; intro a hf
        refine st_pick (v := .bool false) hf rfl rfl (fun hb' => ?_) (fun hb' => ?_) (by decide) ?_
        · exact absurd (hb71.symm.trans hb') (by decide)
        · rfl
        clear hf; intro a ha hf; clear ha
        refine st_nil hf (th_n ?_)
        exact ⟨hf.sub ⟨(by rw [hb71]; rfl), trivial⟩, hp⟩
      rintro a w ⟨hf, hp⟩
      refine st_move hf rfl rfl (by decide) ?_
      clear hf; intro a ha hf; clear ha
      obtain ⟨z74, hz72, h⟩ := bnd h
      refine wpList_cut 2 (fun a w => Fr 205 a [(191, .bool z74)] ∧ Hp S w0 w (Res.obj 56 v52 [.int .i64 q50.1.1, .int .i64 q50.1.2] :: Res.obj 56 v24 [.int .i64 (IntKind.i64.wrap ((IntKind.i64.wrap ax0_0) - (IntKind.i64.wrap bx1_0))), .int .i64 (IntKind.i64.wrap ((IntKind.i64.wrap ax0_1) - (IntKind.i64.wrap bx1_1)))] :: Res.obj 56 v9 [.int .i64 q18.1, .int .i64 q18.2] :: Res.obj 56 v5 [.int .i64 (IntKind.i64.wrap ax0_0), .int .i64 (IntKind.i64.wrap ax0_1)] :: Res.obj 56 v7 [.int .i64 (IntKind.i64.wrap bx1_0), .int .i64 (IntKind.i64.wrap bx1_1)] :: ow)) ?_ ?_
      · rcases Bool.eq_false_or_eq_true ((q58.2 == (6 : Int)) && (q20.1 == (0 : Int))) with hb73 | hb73
        · skip
          replace hz72 := ifT hz72 hb73
          obtain ⟨q75, hcall76, hz72⟩ := bnd hz72
          refine st_call hf (by decide) Try.func24 rfl rfl (wantY hf rfl rfl hb73) rfl rfl (f_foghornlaw03_awake_c hp  hcall76) ?_
          rintro _ w ⟨rfl, hp0⟩
          clear hp; have hp := hp0; clear hp0
          replace hp : Hp _ _ _ (Res.obj 56 v52 [.int .i64 q50.1.1, .int .i64 q50.1.2] :: Res.obj 56 v24 [.int .i64 (IntKind.i64.wrap ((IntKind.i64.wrap ax0_0) - (IntKind.i64.wrap bx1_0))), .int .i64 (IntKind.i64.wrap ((IntKind.i64.wrap ax0_1) - (IntKind.i64.wrap bx1_1)))] :: Res.obj 56 v9 [.int .i64 q18.1, .int .i64 q18.2] :: Res.obj 56 v5 [.int .i64 (IntKind.i64.wrap ax0_0), .int .i64 (IntKind.i64.wrap ax0_1)] :: Res.obj 56 v7 [.int .i64 (IntKind.i64.wrap bx1_0), .int .i64 (IntKind.i64.wrap bx1_1)] :: ow) := hp
          refine ⟨_, rfl, ?_⟩
          clear hf; intro a hf
          obtain rfl := Option.some.inj hz72
          refine st_pick (v := .bool q75) hf rfl rfl (fun hb' => ?_) (fun hb' => ?_) (by decide) ?_
          · rfl
          · exact absurd (hb73.symm.trans hb') (by decide)
          clear hf; intro a ha hf; clear ha
          refine st_nil hf (th_n ?_)
          exact ⟨hf.sub ⟨rfl, trivial⟩, hp⟩
        replace hz72 := ifF hz72 hb73
        refine st_skip hf (wantN hf rfl rfl hb73) rfl (by decide) ?_ rfl
        clear hf; intro a hf
        obtain rfl := Option.some.inj hz72
        refine st_pick (v := .bool false) hf rfl rfl (fun hb' => ?_) (fun hb' => ?_) (by decide) ?_
        · exact absurd (hb73.symm.trans hb') (by decide)
        · rfl
        clear hf; intro a ha hf; clear ha
        refine st_nil hf (th_n ?_)
        exact ⟨hf.sub ⟨rfl, trivial⟩, hp⟩
      rintro a w ⟨hf, hp⟩
      refine st_assign hf rfl rfl (by decide) ?_
      clear hf; intro a ha hf; clear ha
      refine st_nil hf ?_
      refine th_n ?_
      refine wp_ret ?_
      refine th_r ?_
      obtain rfl := Option.some.inj h
      have hp : Hp _ _ _ (ow) := Hp.sel (pre := [Res.obj 56 v52 [.int .i64 q50.1.1, .int .i64 q50.1.2], Res.obj 56 v24 [.int .i64 (IntKind.i64.wrap ((IntKind.i64.wrap ax0_0) - (IntKind.i64.wrap bx1_0))), .int .i64 (IntKind.i64.wrap ((IntKind.i64.wrap ax0_1) - (IntKind.i64.wrap bx1_1)))], Res.obj 56 v9 [.int .i64 q18.1, .int .i64 q18.2], Res.obj 56 v5 [.int .i64 (IntKind.i64.wrap ax0_0), .int .i64 (IntKind.i64.wrap ax0_1)], Res.obj 56 v7 [.int .i64 (IntKind.i64.wrap bx1_0), .int .i64 (IntKind.i64.wrap bx1_1)]]) (tail := ow) (rs' := []) hp [] (by decide) (by simp) rfl
      exact ⟨rfl, ⟨hf.sub ⟨rfl, trivial⟩, hp⟩⟩
    replace h := ifF h hb
    refine wp_skip ?_
    refine th_n ?_
    refine wp_seq ?_
    refine wp_reg ?_
    refine st_move hf rfl rfl (by decide) ?_
    clear hf; intro a ha hf; clear ha
    refine st_ieql hf (by decide) rfl rfl rfl ?_
    clear hf; intro a ha hf; clear ha
    refine st_move hf rfl rfl (by decide) ?_
    clear hf; intro a ha hf; clear ha
    refine wpList_cut 7 (fun a w => Fr 205 a [(201, .bool ((q58.2 == (0 : Int)) && ((q20.1 == (0 : Int)) == (decide ((((IntKind.i64.wrap (((depth2).tmod (13 : Int)) + (13 : Int)))).tmod (13 : Int)) ≤ q58.1)))))] ∧ Hp S w0 w (Res.obj 56 v52 [.int .i64 q50.1.1, .int .i64 q50.1.2] :: Res.obj 56 v24 [.int .i64 (IntKind.i64.wrap ((IntKind.i64.wrap ax0_0) - (IntKind.i64.wrap bx1_0))), .int .i64 (IntKind.i64.wrap ((IntKind.i64.wrap ax0_1) - (IntKind.i64.wrap bx1_1)))] :: Res.obj 56 v9 [.int .i64 q18.1, .int .i64 q18.2] :: Res.obj 56 v5 [.int .i64 (IntKind.i64.wrap ax0_0), .int .i64 (IntKind.i64.wrap ax0_1)] :: Res.obj 56 v7 [.int .i64 (IntKind.i64.wrap bx1_0), .int .i64 (IntKind.i64.wrap bx1_1)] :: ow)) ?_ ?_
    · rcases Bool.eq_false_or_eq_true (q58.2 == (0 : Int)) with hb78 | hb78
      · skip
        refine st_move hf (wantY hf rfl rfl hb78) rfl (by decide) ?_
        clear hf; intro a ha hf; clear ha
        refine st_ieql hf (by decide) (wantY hf rfl rfl hb78) rfl rfl ?_
        clear hf; intro a ha hf; clear ha
        refine st_move hf (wantY hf rfl rfl hb78) rfl (by decide) ?_
        clear hf; intro a ha hf; clear ha
        refine st_move hf (wantY hf rfl rfl hb78) rfl (by decide) ?_
        clear hf; intro a ha hf; clear ha
        refine st_igeq hf (by decide) (wantY hf rfl rfl hb78) rfl rfl ?_
        clear hf; intro a ha hf; clear ha
        refine st_beql hf (by decide) Try.underlying4 (wantY hf rfl rfl hb78) rfl rfl ?_
        clear hf; intro a ha hf; clear ha
        refine st_pick (v := .bool ((q20.1 == (0 : Int)) == (decide ((((IntKind.i64.wrap (((depth2).tmod (13 : Int)) + (13 : Int)))).tmod (13 : Int)) ≤ q58.1)))) hf rfl rfl (fun hb' => ?_) (fun hb' => ?_) (by decide) ?_
        · rfl
        · exact absurd (hb78.symm.trans hb') (by decide)
        clear hf; intro a ha hf; clear ha
        refine st_nil hf (th_n ?_)
        exact ⟨hf.sub ⟨(by rw [hb78]; rfl), trivial⟩, hp⟩
      refine st_skip hf (wantN hf rfl rfl hb78) rfl (by decide) ?_ rfl
      clear hf; intro a hf
      refine st_skip hf (wantN hf rfl rfl hb78) rfl (by decide) ?_ rfl
      clear hf; intro a hf
      refine st_skip hf (wantN hf rfl rfl hb78) rfl (by decide) ?_ rfl
      clear hf; intro a hf
      refine st_skip hf (wantN hf rfl rfl hb78) rfl (by decide) ?_ rfl
      clear hf; intro a hf
      refine st_skip hf (wantN hf rfl rfl hb78) rfl (by decide) ?_ rfl
      clear hf; intro a hf
      refine st_skip hf (wantN hf rfl rfl hb78) rfl (by decide) ?_ rfl
      clear hf; intro a hf
      refine st_pick (v := .bool false) hf rfl rfl (fun hb' => ?_) (fun hb' => ?_) (by decide) ?_
      · exact absurd (hb78.symm.trans hb') (by decide)
      · rfl
      clear hf; intro a ha hf; clear ha
      refine st_nil hf (th_n ?_)
      exact ⟨hf.sub ⟨(by rw [hb78]; rfl), trivial⟩, hp⟩
    rintro a w ⟨hf, hp⟩
    refine st_move hf rfl rfl (by decide) ?_
    clear hf; intro a ha hf; clear ha
    obtain ⟨z81, hz79, h⟩ := bnd h
    refine wpList_cut 2 (fun a w => Fr 205 a [(204, .bool z81)] ∧ Hp S w0 w (Res.obj 56 v52 [.int .i64 q50.1.1, .int .i64 q50.1.2] :: Res.obj 56 v24 [.int .i64 (IntKind.i64.wrap ((IntKind.i64.wrap ax0_0) - (IntKind.i64.wrap bx1_0))), .int .i64 (IntKind.i64.wrap ((IntKind.i64.wrap ax0_1) - (IntKind.i64.wrap bx1_1)))] :: Res.obj 56 v9 [.int .i64 q18.1, .int .i64 q18.2] :: Res.obj 56 v5 [.int .i64 (IntKind.i64.wrap ax0_0), .int .i64 (IntKind.i64.wrap ax0_1)] :: Res.obj 56 v7 [.int .i64 (IntKind.i64.wrap bx1_0), .int .i64 (IntKind.i64.wrap bx1_1)] :: ow)) ?_ ?_
    · rcases Bool.eq_false_or_eq_true ((q58.2 == (0 : Int)) && ((q20.1 == (0 : Int)) == (decide ((((IntKind.i64.wrap (((depth2).tmod (13 : Int)) + (13 : Int)))).tmod (13 : Int)) ≤ q58.1)))) with hb80 | hb80
      · skip
        replace hz79 := ifT hz79 hb80
        obtain ⟨q82, hcall83, hz79⟩ := bnd hz79
        refine st_call hf (by decide) Try.func24 rfl rfl (wantY hf rfl rfl hb80) rfl rfl (f_foghornlaw03_awake_c hp  hcall83) ?_
        rintro _ w ⟨rfl, hp0⟩
        clear hp; have hp := hp0; clear hp0
        replace hp : Hp _ _ _ (Res.obj 56 v52 [.int .i64 q50.1.1, .int .i64 q50.1.2] :: Res.obj 56 v24 [.int .i64 (IntKind.i64.wrap ((IntKind.i64.wrap ax0_0) - (IntKind.i64.wrap bx1_0))), .int .i64 (IntKind.i64.wrap ((IntKind.i64.wrap ax0_1) - (IntKind.i64.wrap bx1_1)))] :: Res.obj 56 v9 [.int .i64 q18.1, .int .i64 q18.2] :: Res.obj 56 v5 [.int .i64 (IntKind.i64.wrap ax0_0), .int .i64 (IntKind.i64.wrap ax0_1)] :: Res.obj 56 v7 [.int .i64 (IntKind.i64.wrap bx1_0), .int .i64 (IntKind.i64.wrap bx1_1)] :: ow) := hp
        refine ⟨_, rfl, ?_⟩
        clear hf; intro a hf
        obtain rfl := Option.some.inj hz79
        refine st_pick (v := .bool q82) hf rfl rfl (fun hb' => ?_) (fun hb' => ?_) (by decide) ?_
        · rfl
        · exact absurd (hb80.symm.trans hb') (by decide)
        clear hf; intro a ha hf; clear ha
        refine st_nil hf (th_n ?_)
        exact ⟨hf.sub ⟨rfl, trivial⟩, hp⟩
      replace hz79 := ifF hz79 hb80
      refine st_skip hf (wantN hf rfl rfl hb80) rfl (by decide) ?_ rfl
      clear hf; intro a hf
      obtain rfl := Option.some.inj hz79
      refine st_pick (v := .bool false) hf rfl rfl (fun hb' => ?_) (fun hb' => ?_) (by decide) ?_
      · exact absurd (hb80.symm.trans hb') (by decide)
      · rfl
      clear hf; intro a ha hf; clear ha
      refine st_nil hf (th_n ?_)
      exact ⟨hf.sub ⟨rfl, trivial⟩, hp⟩
    rintro a w ⟨hf, hp⟩
    refine st_assign hf rfl rfl (by decide) ?_
    clear hf; intro a ha hf; clear ha
    refine st_nil hf ?_
    refine th_n ?_
    refine wp_ret ?_
    obtain rfl := Option.some.inj h
    have hp : Hp _ _ _ (ow) := Hp.sel (pre := [Res.obj 56 v52 [.int .i64 q50.1.1, .int .i64 q50.1.2], Res.obj 56 v24 [.int .i64 (IntKind.i64.wrap ((IntKind.i64.wrap ax0_0) - (IntKind.i64.wrap bx1_0))), .int .i64 (IntKind.i64.wrap ((IntKind.i64.wrap ax0_1) - (IntKind.i64.wrap bx1_1)))], Res.obj 56 v9 [.int .i64 q18.1, .int .i64 q18.2], Res.obj 56 v5 [.int .i64 (IntKind.i64.wrap ax0_0), .int .i64 (IntKind.i64.wrap ax0_1)], Res.obj 56 v7 [.int .i64 (IntKind.i64.wrap bx1_0), .int .i64 (IntKind.i64.wrap bx1_1)]]) (tail := ow) (rs' := []) hp [] (by decide) (by simp) rfl
    exact ⟨rfl, ⟨hf.sub ⟨rfl, trivial⟩, hp⟩⟩
  replace h := smR h
  obtain ⟨rfl, hf, hp⟩ := hO
  refine ib_r ?_
  refine th_r ?_
  obtain rfl := Option.some.inj h
  exact ⟨rfl, ⟨hf.sub ⟨rfl, trivial⟩, hp⟩⟩

end Go.Proofs.Yteifkccomfdciaa
