/- The functions foghorn foghornlaw22.HardReach: what each answers, as a plain function, and that its call answers it; printed by gen.py. -/
import Derived.Test.YthajdlihjobcoaaProg
import Derived.Test.YthajdlihjobcoaaGlT
import Derived.KernelRfl
import Derived.Test.YthajdlihjobcoaaG11p2
set_option linter.unusedVariables false
set_option linter.unusedSimpArgs false
set_option maxRecDepth 100000
set_option maxHeartbeats 4000000
namespace Go.Proofs.Ythajdlihjobcoaa
open GL
noncomputable def f_foghornlaw22_fit (x0_Length : Int) (x0_One : Int) (x0_Two : Int) : Option (Int × Int × Int) := (if 0 ≤ (IntKind.i64.wrap ((2 : Int) + (IntKind.i64.wrap (((IntKind.u64.wrap x0_Length)).tmod (6 : Int))))) then (if 0 ≤ (IntKind.i64.wrap ((IntKind.i64.wrap ((2 : Int) + (IntKind.i64.wrap (((IntKind.u64.wrap x0_Length)).tmod (6 : Int))))) - (1 : Int))) then (if ((iand .u32 x0_Two (IntKind.u32.wrap ((ishl .u32 (1 : Int) (IntKind.i64.wrap ((2 : Int) + (IntKind.i64.wrap (((IntKind.u64.wrap x0_Length)).tmod (6 : Int)))))) - (1 : Int)))) == (0 : Int)) = true then (some ((IntKind.i64.wrap ((2 : Int) + (IntKind.i64.wrap (((IntKind.u64.wrap x0_Length)).tmod (6 : Int))))), (ior .u32 (iand .u32 x0_One (IntKind.u32.wrap ((ishl .u32 (1 : Int) (IntKind.i64.wrap ((2 : Int) + (IntKind.i64.wrap (((IntKind.u64.wrap x0_Length)).tmod (6 : Int)))))) - (1 : Int)))) (ishl .u32 (1 : Int) (IntKind.i64.wrap ((IntKind.i64.wrap ((2 : Int) + (IntKind.i64.wrap (((IntKind.u64.wrap x0_Length)).tmod (6 : Int))))) - (1 : Int))))), (1 : Int))) else (some ((IntKind.i64.wrap ((2 : Int) + (IntKind.i64.wrap (((IntKind.u64.wrap x0_Length)).tmod (6 : Int))))), (ior .u32 (iand .u32 x0_One (IntKind.u32.wrap ((ishl .u32 (1 : Int) (IntKind.i64.wrap ((2 : Int) + (IntKind.i64.wrap (((IntKind.u64.wrap x0_Length)).tmod (6 : Int)))))) - (1 : Int)))) (ishl .u32 (1 : Int) (IntKind.i64.wrap ((IntKind.i64.wrap ((2 : Int) + (IntKind.i64.wrap (((IntKind.u64.wrap x0_Length)).tmod (6 : Int))))) - (1 : Int))))), (iand .u32 x0_Two (IntKind.u32.wrap ((ishl .u32 (1 : Int) (IntKind.i64.wrap ((2 : Int) + (IntKind.i64.wrap (((IntKind.u64.wrap x0_Length)).tmod (6 : Int)))))) - (1 : Int))))))) else none) else none)
theorem f_foghornlaw22_fit_c {S : Nat → Prop} {w0 w : World} {ow : List Res} (hp : Hp S w0 w ow) (x0_Length : Int) (x0_One : Int) (x0_Two : Int) {r : (Int × Int × Int)} (h : f_foghornlaw22_fit x0_Length x0_One x0_Two = some r) :
    Calls Try.prog 24 #[.agg #[.int .i64 x0_Length, .int .u32 x0_One, .int .u32 x0_Two]] w (fun e w' => e = .returned (.agg #[.int .i64 r.1, .int .u32 r.2.1, .int .u32 r.2.2]) ∧ Hp S w0 w' (ow)) := by
  unfold f_foghornlaw22_fit at h
  refine enter (n := 36) (args := [.agg #[.int .i64 x0_Length, .int .u32 x0_One, .int .u32 x0_Two]]) Try.func24 rfl rfl (Nat.le_of_ble_eq_true rfl) fun a hf => ?_
  replace hf : Fr 36 a [(0, .agg #[.int .i64 x0_Length, .int .u32 x0_One, .int .u32 x0_Two])] := hf
  refine wp_mono (Q := fun e a w => e = .ret ∧ ∃ (c0 : Value), Fr 36 a [(2, optr c0 0)] ∧ Hp S w0 w (Res.obj 40 c0 [.int .i64 r.1, .int .u32 r.2.1, .int .u32 r.2.2] :: ow)) ?_ ?_
  rotate_left
  · rintro e a w ⟨rfl, c0, hf, hp⟩
    exact retG1 hf rfl ⟨_, _, rfl, hp.ob (i := 0) rfl, .inr ⟨by kernel_rfl, rfl⟩⟩ ⟨rfl, hp.drop⟩
  refine wp_seq ?_
  refine wp_reg ?_
  refine st_boxO (cs := [.int .i64 x0_Length, .int .u32 x0_One, .int .u32 x0_Two]) hf (by decide) hp rfl rfl rfl ?_
  clear hf; intro a w v1 hf hp0; clear hp; have hp := hp0; clear hp0
  replace hp : Hp _ _ _ (Res.obj 39 v1 [.int .i64 x0_Length, .int .u32 x0_One, .int .u32 x0_Two] :: ow) := hp
  refine st_alloc (cs := [.int .i64 (0 : Int), .int .u32 (0 : Int), .int .u32 (0 : Int)]) (zv := .agg #[.int .i64 (0 : Int), .int .u32 (0 : Int), .int .u32 (0 : Int)]) hf (by decide) (by kernel_rfl) rfl hp rfl ?_
  clear hf; intro a w v3 hf hp0; clear hp; have hp := hp0; clear hp0
  replace hp : Hp _ _ _ (Res.obj 40 v3 [.int .i64 (0 : Int), .int .u32 (0 : Int), .int .u32 (0 : Int)] :: Res.obj 39 v1 [.int .i64 x0_Length, .int .u32 x0_One, .int .u32 x0_Two] :: ow) := hp
  refine st_nil hf ?_
  refine th_n ?_
  refine wp_seq ?_
  refine wp_reg ?_
  refine st_fa (o' := 0) hf (by decide) (off := 0) (sz := 1) (by kernel_rfl) (by decide) rfl rfl (hp.ob (i := 1) rfl) rfl ?_
  clear hf; intro a ha hf; clear ha
  refine st_ldO (u := .int .i64 x0_Length) hf (by decide) pl3 rfl rfl (hp.ob (i := 1) rfl) rfl ?_
  clear hf; intro a ha hf; clear ha
  refine st_conv_ii hf (by decide) (by rw [Try.underlying3]; rfl) Try.underlying60 rfl rfl ?_
  clear hf; intro a ha hf; clear ha
  refine st_irem hf (by decide) rfl rfl rfl (by decide) ?_
  clear hf; intro a ha hf; clear ha
  refine st_conv_ii hf (by decide) (by rw [Try.underlying60]; rfl) Try.underlying3 rfl rfl ?_
  clear hf; intro a ha hf; clear ha
  refine st_iadd hf (by decide) rfl rfl rfl ?_
  clear hf; intro a ha hf; clear ha
  refine st_buildA (vals := [(0, .int .i64 (IntKind.i64.wrap ((2 : Int) + (IntKind.i64.wrap (((IntKind.u64.wrap x0_Length)).tmod (6 : Int))))))]) (cells := [.int .i64 (IntKind.i64.wrap ((2 : Int) + (IntKind.i64.wrap (((IntKind.u64.wrap x0_Length)).tmod (6 : Int))))), .int .u32 (0 : Int), .int .u32 (0 : Int)]) hf (by decide) rfl (by simp [hf.ev (x := (Operand.tmp 10)) rfl]) (fun w => by kernel_rfl) ?_
  clear hf; intro a ha hf; clear ha
  refine st_alloc (cs := [.int .i64 (0 : Int), .int .u32 (0 : Int), .int .u32 (0 : Int)]) (zv := .agg #[.int .i64 (0 : Int), .int .u32 (0 : Int), .int .u32 (0 : Int)]) hf (by decide) (by kernel_rfl) rfl hp rfl ?_
  clear hf; intro a w v5 hf hp0; clear hp; have hp := hp0; clear hp0
  replace hp : Hp _ _ _ (Res.obj 40 v5 [.int .i64 (0 : Int), .int .u32 (0 : Int), .int .u32 (0 : Int)] :: Res.obj 40 v3 [.int .i64 (0 : Int), .int .u32 (0 : Int), .int .u32 (0 : Int)] :: Res.obj 39 v1 [.int .i64 x0_Length, .int .u32 x0_One, .int .u32 x0_Two] :: ow) := hp
  refine st_stO (us := [.int .i64 (IntKind.i64.wrap ((2 : Int) + (IntKind.i64.wrap (((IntKind.u64.wrap x0_Length)).tmod (6 : Int))))), .int .u32 (0 : Int), .int .u32 (0 : Int)]) hf hp (i := 0) rfl rfl rfl rfl rfl (by rfl) (by kernel_rfl) (Nat.le_of_ble_eq_true rfl) ?_
  clear hf; intro a w hf hp0; clear hp; have hp := hp0; clear hp0
  replace hp : Hp _ _ _ (Res.obj 40 v5 [.int .i64 (IntKind.i64.wrap ((2 : Int) + (IntKind.i64.wrap (((IntKind.u64.wrap x0_Length)).tmod (6 : Int))))), .int .u32 (0 : Int), .int .u32 (0 : Int)] :: Res.obj 40 v3 [.int .i64 (0 : Int), .int .u32 (0 : Int), .int .u32 (0 : Int)] :: Res.obj 39 v1 [.int .i64 x0_Length, .int .u32 x0_One, .int .u32 x0_Two] :: ow) := hp
  refine st_nil hf ?_
  refine th_n ?_
  refine wp_seq ?_
  refine wp_reg ?_
  refine st_fa (o' := 0) hf (by decide) (off := 0) (sz := 1) (by kernel_rfl) (by decide) rfl rfl (hp.ob (i := 0) rfl) rfl ?_
  clear hf; intro a ha hf; clear ha
  refine st_ldO (u := .int .i64 (IntKind.i64.wrap ((2 : Int) + (IntKind.i64.wrap (((IntKind.u64.wrap x0_Length)).tmod (6 : Int)))))) hf (by decide) pl3 rfl rfl (hp.ob (i := 0) rfl) rfl ?_
  clear hf; intro a ha hf; clear ha
  obtain ⟨hc7, h⟩ := chk h
  refine st_ishl hf (by decide) rfl rfl rfl hc7 ?_
  clear hf; intro a ha hf; clear ha
  refine st_isub hf (by decide) rfl rfl rfl ?_
  clear hf; intro a ha hf; clear ha
  refine st_assign hf rfl rfl (by decide) ?_
  clear hf; intro a ha hf; clear ha
  refine st_nil hf ?_
  refine th_n ?_
  refine wp_seq ?_
  obtain ⟨S8, hp9, rd10, up11, bk12⟩ := Hp.lendO hp (i := 2) rfl
  obtain ⟨S13, hp14, rd15, up16, bk17⟩ := Hp.lendO hp9 (i := 0) rfl
  have rl18 := ((rd10.now hp9).mono up16)
  have rl19 := rd15
  obtain ⟨hc20, h⟩ := chk h
  refine wp_cutN (fun a w => Fr 36 a [(1, optr v1 0), (2, optr v3 0), (3, optr v5 0), (4, .int .u32 (IntKind.u32.wrap ((ishl .u32 (1 : Int) (IntKind.i64.wrap ((2 : Int) + (IntKind.i64.wrap (((IntKind.u64.wrap x0_Length)).tmod (6 : Int)))))) - (1 : Int))))] ∧ Hp S w0 w (Res.obj 39 v1 [.int .i64 x0_Length, .int .u32 x0_One, .int .u32 x0_Two] :: Res.obj 40 v5 [.int .i64 (IntKind.i64.wrap ((2 : Int) + (IntKind.i64.wrap (((IntKind.u64.wrap x0_Length)).tmod (6 : Int))))), .int .u32 (ior .u32 (iand .u32 x0_One (IntKind.u32.wrap ((ishl .u32 (1 : Int) (IntKind.i64.wrap ((2 : Int) + (IntKind.i64.wrap (((IntKind.u64.wrap x0_Length)).tmod (6 : Int)))))) - (1 : Int)))) (ishl .u32 (1 : Int) (IntKind.i64.wrap ((IntKind.i64.wrap ((2 : Int) + (IntKind.i64.wrap (((IntKind.u64.wrap x0_Length)).tmod (6 : Int))))) - (1 : Int))))), .int .u32 (0 : Int)] :: Res.obj 40 v3 [.int .i64 (0 : Int), .int .u32 (0 : Int), .int .u32 (0 : Int)] :: ow)) ?_ ?_
  · have hp := hp14.same (Same.drew w)
    refine dr_begin' (fun a w => Fr 36 a [(1, optr v1 0), (2, optr v3 0), (3, optr v5 0), (4, .int .u32 (IntKind.u32.wrap ((ishl .u32 (1 : Int) (IntKind.i64.wrap ((2 : Int) + (IntKind.i64.wrap (((IntKind.u64.wrap x0_Length)).tmod (6 : Int)))))) - (1 : Int))))] ∧ Hp S w0 w (Res.obj 39 v1 [.int .i64 x0_Length, .int .u32 x0_One, .int .u32 x0_Two] :: Res.obj 40 v5 [.int .i64 (IntKind.i64.wrap ((2 : Int) + (IntKind.i64.wrap (((IntKind.u64.wrap x0_Length)).tmod (6 : Int))))), .int .u32 (ior .u32 (iand .u32 x0_One (IntKind.u32.wrap ((ishl .u32 (1 : Int) (IntKind.i64.wrap ((2 : Int) + (IntKind.i64.wrap (((IntKind.u64.wrap x0_Length)).tmod (6 : Int)))))) - (1 : Int)))) (ishl .u32 (1 : Int) (IntKind.i64.wrap ((IntKind.i64.wrap ((2 : Int) + (IntKind.i64.wrap (((IntKind.u64.wrap x0_Length)).tmod (6 : Int))))) - (1 : Int))))), .int .u32 (0 : Int)] :: Res.obj 40 v3 [.int .i64 (0 : Int), .int .u32 (0 : Int), .int .u32 (0 : Int)] :: ow)) (fun w' => ∃ l, Hp S13 w w' l) [10] (by kernel_rfl) ?_
    refine dr_takeP 0 (optr v1 1) rfl (by kernel_rfl) (by kernel_rfl) (by kernel_rfl) rfl rfl hf (by decide) rfl (fun w => ?_) ?_
    · skip
      refine st_fa (o' := 1) hf (by decide) (off := 1) (sz := 1) (by kernel_rfl) (by decide) rfl rfl (rl18.mono fun _ _ => trivial) rfl ?_
      clear hf; intro a ha hf
      exact st_nil hf (th_n ⟨ha, rfl⟩)
    clear hf; intro a hf
    refine dr_take2 1 (.int .u32 x0_One) rfl (by kernel_rfl) (by kernel_rfl) (by kernel_rfl) (by kernel_rfl) (by kernel_rfl) rfl rfl hf (by decide) rfl (fun w hp => ?_) ⟨_, hp⟩ ?_
    · obtain ⟨_, hp⟩ := hp
      refine st_ldO (u := .int .u32 x0_One) hf (by decide) pl37 rfl rfl (rl18.ob hp) rfl ?_
      clear hf; intro a ha hf
      exact st_nil hf (th_n ⟨ha, rfl⟩)
    clear hf; intro a hf
    refine dr_takeP 2 (.int .u32 (IntKind.u32.wrap ((ishl .u32 (1 : Int) (IntKind.i64.wrap ((2 : Int) + (IntKind.i64.wrap (((IntKind.u64.wrap x0_Length)).tmod (6 : Int)))))) - (1 : Int)))) rfl (by kernel_rfl) (by kernel_rfl) (by kernel_rfl) rfl rfl hf (by decide) rfl (fun w => ?_) ?_
    · skip
      refine st_move hf rfl rfl (by decide) ?_
      clear hf; intro a ha hf
      exact st_nil hf (th_n ⟨ha, rfl⟩)
    clear hf; intro a hf
    refine dr_takeP 3 (.int .u32 (iand .u32 x0_One (IntKind.u32.wrap ((ishl .u32 (1 : Int) (IntKind.i64.wrap ((2 : Int) + (IntKind.i64.wrap (((IntKind.u64.wrap x0_Length)).tmod (6 : Int)))))) - (1 : Int))))) rfl (by kernel_rfl) (by kernel_rfl) (by kernel_rfl) rfl rfl hf (by decide) rfl (fun w => ?_) ?_
    · skip
      refine st_iand hf (by decide) rfl rfl rfl ?_
      clear hf; intro a ha hf
      exact st_nil hf (th_n ⟨ha, rfl⟩)
    clear hf; intro a hf
    refine dr_takeP 4 (optr v5 0) rfl (by kernel_rfl) (by kernel_rfl) (by kernel_rfl) rfl rfl hf (by decide) rfl (fun w => ?_) ?_
    · skip
      refine st_fa (o' := 0) hf (by decide) (off := 0) (sz := 1) (by kernel_rfl) (by decide) rfl rfl (rl19.mono fun _ _ => trivial) rfl ?_
      clear hf; intro a ha hf
      exact st_nil hf (th_n ⟨ha, rfl⟩)
    clear hf; intro a hf
    refine dr_take2 5 (.int .i64 (IntKind.i64.wrap ((2 : Int) + (IntKind.i64.wrap (((IntKind.u64.wrap x0_Length)).tmod (6 : Int)))))) rfl (by kernel_rfl) (by kernel_rfl) (by kernel_rfl) (by kernel_rfl) (by kernel_rfl) rfl rfl hf (by decide) rfl (fun w hp => ?_) ⟨_, hp⟩ ?_
    · obtain ⟨_, hp⟩ := hp
      refine st_ldO (u := .int .i64 (IntKind.i64.wrap ((2 : Int) + (IntKind.i64.wrap (((IntKind.u64.wrap x0_Length)).tmod (6 : Int)))))) hf (by decide) pl3 rfl rfl (rl19.ob hp) rfl ?_
      clear hf; intro a ha hf
      exact st_nil hf (th_n ⟨ha, rfl⟩)
    clear hf; intro a hf
    refine dr_takeP 6 (.int .i64 (IntKind.i64.wrap ((IntKind.i64.wrap ((2 : Int) + (IntKind.i64.wrap (((IntKind.u64.wrap x0_Length)).tmod (6 : Int))))) - (1 : Int)))) rfl (by kernel_rfl) (by kernel_rfl) (by kernel_rfl) rfl rfl hf (by decide) rfl (fun w => ?_) ?_
    · skip
      refine st_isub hf (by decide) rfl rfl rfl ?_
      clear hf; intro a ha hf
      exact st_nil hf (th_n ⟨ha, rfl⟩)
    clear hf; intro a hf
    refine dr_takeP 7 (.int .u32 (ishl .u32 (1 : Int) (IntKind.i64.wrap ((IntKind.i64.wrap ((2 : Int) + (IntKind.i64.wrap (((IntKind.u64.wrap x0_Length)).tmod (6 : Int))))) - (1 : Int))))) rfl (by kernel_rfl) (by kernel_rfl) (by kernel_rfl) rfl rfl hf (by decide) rfl (fun w => ?_) ?_
    · skip
      refine st_ishl hf (by decide) rfl rfl rfl hc20 ?_
      clear hf; intro a ha hf
      exact st_nil hf (th_n ⟨ha, rfl⟩)
    clear hf; intro a hf
    refine dr_takeP 8 (.int .u32 (ior .u32 (iand .u32 x0_One (IntKind.u32.wrap ((ishl .u32 (1 : Int) (IntKind.i64.wrap ((2 : Int) + (IntKind.i64.wrap (((IntKind.u64.wrap x0_Length)).tmod (6 : Int)))))) - (1 : Int)))) (ishl .u32 (1 : Int) (IntKind.i64.wrap ((IntKind.i64.wrap ((2 : Int) + (IntKind.i64.wrap (((IntKind.u64.wrap x0_Length)).tmod (6 : Int))))) - (1 : Int)))))) rfl (by kernel_rfl) (by kernel_rfl) (by kernel_rfl) rfl rfl hf (by decide) rfl (fun w => ?_) ?_
    · skip
      refine st_ior hf (by decide) rfl rfl rfl ?_
      clear hf; intro a ha hf
      exact st_nil hf (th_n ⟨ha, rfl⟩)
    clear hf; intro a hf
    refine dr_takeP 9 (optr v5 1) rfl (by kernel_rfl) (by kernel_rfl) (by kernel_rfl) rfl rfl hf (by decide) rfl (fun w => ?_) ?_
    · skip
      refine st_fa (o' := 1) hf (by decide) (off := 1) (sz := 1) (by kernel_rfl) (by decide) rfl rfl (rl19.mono fun _ _ => trivial) rfl ?_
      clear hf; intro a ha hf
      exact st_nil hf (th_n ⟨ha, rfl⟩)
    clear hf; intro a hf
    have hp := bk17 _ _ hp
    have hp := bk12 _ _ hp
    refine dr_one 10 rfl (by kernel_rfl) ?_
    refine st_stO (us := [.int .u32 (ior .u32 (iand .u32 x0_One (IntKind.u32.wrap ((ishl .u32 (1 : Int) (IntKind.i64.wrap ((2 : Int) + (IntKind.i64.wrap (((IntKind.u64.wrap x0_Length)).tmod (6 : Int)))))) - (1 : Int)))) (ishl .u32 (1 : Int) (IntKind.i64.wrap ((IntKind.i64.wrap ((2 : Int) + (IntKind.i64.wrap (((IntKind.u64.wrap x0_Length)).tmod (6 : Int))))) - (1 : Int)))))]) hf hp (i := 1) rfl rfl rfl rfl rfl (by rfl) (by kernel_rfl) (Nat.le_of_ble_eq_true rfl) ?_
    clear hf; intro a w hf hp0; clear hp; have hp := hp0; clear hp0
    replace hp : Hp _ _ _ (Res.obj 39 v1 [.int .i64 x0_Length, .int .u32 x0_One, .int .u32 x0_Two] :: Res.obj 40 v5 [.int .i64 (IntKind.i64.wrap ((2 : Int) + (IntKind.i64.wrap (((IntKind.u64.wrap x0_Length)).tmod (6 : Int))))), .int .u32 (ior .u32 (iand .u32 x0_One (IntKind.u32.wrap ((ishl .u32 (1 : Int) (IntKind.i64.wrap ((2 : Int) + (IntKind.i64.wrap (((IntKind.u64.wrap x0_Length)).tmod (6 : Int)))))) - (1 : Int)))) (ishl .u32 (1 : Int) (IntKind.i64.wrap ((IntKind.i64.wrap ((2 : Int) + (IntKind.i64.wrap (((IntKind.u64.wrap x0_Length)).tmod (6 : Int))))) - (1 : Int))))), .int .u32 (0 : Int)] :: Res.obj 40 v3 [.int .i64 (0 : Int), .int .u32 (0 : Int), .int .u32 (0 : Int)] :: ow) := hp
    refine st_nil hf (th_n ⟨fun hn => absurd hn (by decide), ?_⟩)
    refine dr_end (by kernel_rfl) ?_ _
    exact ⟨hf.sub ⟨rfl, rfl, rfl, rfl, trivial⟩, hp⟩
  rintro a w ⟨hf, hp⟩
  refine th_n ?_
  refine wp_seq ?_
  refine wp_reg ?_
  refine st_fa (o' := 2) hf (by decide) (off := 2) (sz := 1) (by kernel_rfl) (by decide) rfl rfl (hp.ob (i := 0) rfl) rfl ?_
  clear hf; intro a ha hf; clear ha
  refine st_ldO (u := .int .u32 x0_Two) hf (by decide) pl37 rfl rfl (hp.ob (i := 0) rfl) rfl ?_
  clear hf; intro a ha hf; clear ha
  refine st_move hf rfl rfl (by decide) ?_
  clear hf; intro a ha hf; clear ha
  refine st_iand hf (by decide) rfl rfl rfl ?_
  clear hf; intro a ha hf; clear ha
  refine st_fa (o' := 2) hf (by decide) (off := 2) (sz := 1) (by kernel_rfl) (by decide) rfl rfl (hp.ob (i := 1) rfl) rfl ?_
  clear hf; intro a ha hf; clear ha
  refine st_stO (us := [.int .u32 (iand .u32 x0_Two (IntKind.u32.wrap ((ishl .u32 (1 : Int) (IntKind.i64.wrap ((2 : Int) + (IntKind.i64.wrap (((IntKind.u64.wrap x0_Length)).tmod (6 : Int)))))) - (1 : Int))))]) hf hp (i := 1) rfl rfl rfl rfl rfl (by rfl) (by kernel_rfl) (Nat.le_of_ble_eq_true rfl) ?_
  clear hf; intro a w hf hp0; clear hp; have hp := hp0; clear hp0
  replace hp : Hp _ _ _ (Res.obj 39 v1 [.int .i64 x0_Length, .int .u32 x0_One, .int .u32 x0_Two] :: Res.obj 40 v5 [.int .i64 (IntKind.i64.wrap ((2 : Int) + (IntKind.i64.wrap (((IntKind.u64.wrap x0_Length)).tmod (6 : Int))))), .int .u32 (ior .u32 (iand .u32 x0_One (IntKind.u32.wrap ((ishl .u32 (1 : Int) (IntKind.i64.wrap ((2 : Int) + (IntKind.i64.wrap (((IntKind.u64.wrap x0_Length)).tmod (6 : Int)))))) - (1 : Int)))) (ishl .u32 (1 : Int) (IntKind.i64.wrap ((IntKind.i64.wrap ((2 : Int) + (IntKind.i64.wrap (((IntKind.u64.wrap x0_Length)).tmod (6 : Int))))) - (1 : Int))))), .int .u32 (iand .u32 x0_Two (IntKind.u32.wrap ((ishl .u32 (1 : Int) (IntKind.i64.wrap ((2 : Int) + (IntKind.i64.wrap (((IntKind.u64.wrap x0_Length)).tmod (6 : Int)))))) - (1 : Int))))] :: Res.obj 40 v3 [.int .i64 (0 : Int), .int .u32 (0 : Int), .int .u32 (0 : Int)] :: ow) := hp
  refine st_nil hf ?_
  refine th_n ?_
  refine wp_seq ?_
  refine wp_seq ?_
  refine wp_reg ?_
  refine st_fa (o' := 2) hf (by decide) (off := 2) (sz := 1) (by kernel_rfl) (by decide) rfl rfl (hp.ob (i := 1) rfl) rfl ?_
  clear hf; intro a ha hf; clear ha
  refine st_ldO (u := .int .u32 (iand .u32 x0_Two (IntKind.u32.wrap ((ishl .u32 (1 : Int) (IntKind.i64.wrap ((2 : Int) + (IntKind.i64.wrap (((IntKind.u64.wrap x0_Length)).tmod (6 : Int)))))) - (1 : Int))))) hf (by decide) pl37 rfl rfl (hp.ob (i := 1) rfl) rfl ?_
  clear hf; intro a ha hf; clear ha
  refine st_ieql hf (by decide) rfl rfl rfl ?_
  clear hf; intro a ha hf; clear ha
  refine st_nil hf ?_
  refine th_n ?_
  refine wp_if hf rfl (fun hb => ?_) (fun hb => ?_)
  · replace h := ifT h hb
    refine wp_reg ?_
    refine st_fa (o' := 2) hf (by decide) (off := 2) (sz := 1) (by kernel_rfl) (by decide) rfl rfl (hp.ob (i := 1) rfl) rfl ?_
    clear hf; intro a ha hf; clear ha
    refine st_stO (us := [.int .u32 (1 : Int)]) hf hp (i := 1) rfl rfl rfl rfl rfl (by rfl) (by kernel_rfl) (Nat.le_of_ble_eq_true rfl) ?_
    clear hf; intro a w hf hp0; clear hp; have hp := hp0; clear hp0
    replace hp : Hp _ _ _ (Res.obj 39 v1 [.int .i64 x0_Length, .int .u32 x0_One, .int .u32 x0_Two] :: Res.obj 40 v5 [.int .i64 (IntKind.i64.wrap ((2 : Int) + (IntKind.i64.wrap (((IntKind.u64.wrap x0_Length)).tmod (6 : Int))))), .int .u32 (ior .u32 (iand .u32 x0_One (IntKind.u32.wrap ((ishl .u32 (1 : Int) (IntKind.i64.wrap ((2 : Int) + (IntKind.i64.wrap (((IntKind.u64.wrap x0_Length)).tmod (6 : Int)))))) - (1 : Int)))) (ishl .u32 (1 : Int) (IntKind.i64.wrap ((IntKind.i64.wrap ((2 : Int) + (IntKind.i64.wrap (((IntKind.u64.wrap x0_Length)).tmod (6 : Int))))) - (1 : Int))))), .int .u32 (1 : Int)] :: Res.obj 40 v3 [.int .i64 (0 : Int), .int .u32 (0 : Int), .int .u32 (0 : Int)] :: ow) := hp
    refine st_nil hf ?_
    refine th_n ?_
    refine wp_seq ?_
    refine wp_reg ?_
    refine st_ldOA (m := 3) (us := [.int .i64 (IntKind.i64.wrap ((2 : Int) + (IntKind.i64.wrap (((IntKind.u64.wrap x0_Length)).tmod (6 : Int))))), .int .u32 (ior .u32 (iand .u32 x0_One (IntKind.u32.wrap ((ishl .u32 (1 : Int) (IntKind.i64.wrap ((2 : Int) + (IntKind.i64.wrap (((IntKind.u64.wrap x0_Length)).tmod (6 : Int)))))) - (1 : Int)))) (ishl .u32 (1 : Int) (IntKind.i64.wrap ((IntKind.i64.wrap ((2 : Int) + (IntKind.i64.wrap (((IntKind.u64.wrap x0_Length)).tmod (6 : Int))))) - (1 : Int))))), .int .u32 (1 : Int)]) hf (by decide) (by kernel_rfl) rfl rfl (hp.ob (i := 1) rfl) rfl rfl ?_
    clear hf; intro a ha hf; clear ha
    refine st_stO (us := [.int .i64 (IntKind.i64.wrap ((2 : Int) + (IntKind.i64.wrap (((IntKind.u64.wrap x0_Length)).tmod (6 : Int))))), .int .u32 (ior .u32 (iand .u32 x0_One (IntKind.u32.wrap ((ishl .u32 (1 : Int) (IntKind.i64.wrap ((2 : Int) + (IntKind.i64.wrap (((IntKind.u64.wrap x0_Length)).tmod (6 : Int)))))) - (1 : Int)))) (ishl .u32 (1 : Int) (IntKind.i64.wrap ((IntKind.i64.wrap ((2 : Int) + (IntKind.i64.wrap (((IntKind.u64.wrap x0_Length)).tmod (6 : Int))))) - (1 : Int))))), .int .u32 (1 : Int)]) hf hp (i := 2) rfl rfl rfl rfl rfl (by rfl) (by kernel_rfl) (Nat.le_of_ble_eq_true rfl) ?_
    clear hf; intro a w hf hp0; clear hp; have hp := hp0; clear hp0
    replace hp : Hp _ _ _ (Res.obj 39 v1 [.int .i64 x0_Length, .int .u32 x0_One, .int .u32 x0_Two] :: Res.obj 40 v5 [.int .i64 (IntKind.i64.wrap ((2 : Int) + (IntKind.i64.wrap (((IntKind.u64.wrap x0_Length)).tmod (6 : Int))))), .int .u32 (ior .u32 (iand .u32 x0_One (IntKind.u32.wrap ((ishl .u32 (1 : Int) (IntKind.i64.wrap ((2 : Int) + (IntKind.i64.wrap (((IntKind.u64.wrap x0_Length)).tmod (6 : Int)))))) - (1 : Int)))) (ishl .u32 (1 : Int) (IntKind.i64.wrap ((IntKind.i64.wrap ((2 : Int) + (IntKind.i64.wrap (((IntKind.u64.wrap x0_Length)).tmod (6 : Int))))) - (1 : Int))))), .int .u32 (1 : Int)] :: Res.obj 40 v3 [.int .i64 (IntKind.i64.wrap ((2 : Int) + (IntKind.i64.wrap (((IntKind.u64.wrap x0_Length)).tmod (6 : Int))))), .int .u32 (ior .u32 (iand .u32 x0_One (IntKind.u32.wrap ((ishl .u32 (1 : Int) (IntKind.i64.wrap ((2 : Int) + (IntKind.i64.wrap (((IntKind.u64.wrap x0_Length)).tmod (6 : Int)))))) - (1 : Int)))) (ishl .u32 (1 : Int) (IntKind.i64.wrap ((IntKind.i64.wrap ((2 : Int) + (IntKind.i64.wrap (((IntKind.u64.wrap x0_Length)).tmod (6 : Int))))) - (1 : Int))))), .int .u32 (1 : Int)] :: ow) := hp
    refine st_nil hf ?_
    refine th_n ?_
    refine wp_ret ?_
    obtain rfl := Option.some.inj h
    have hp : Hp _ _ _ (Res.obj 40 v3 [.int .i64 (IntKind.i64.wrap ((2 : Int) + (IntKind.i64.wrap (((IntKind.u64.wrap x0_Length)).tmod (6 : Int))))), .int .u32 (ior .u32 (iand .u32 x0_One (IntKind.u32.wrap ((ishl .u32 (1 : Int) (IntKind.i64.wrap ((2 : Int) + (IntKind.i64.wrap (((IntKind.u64.wrap x0_Length)).tmod (6 : Int)))))) - (1 : Int)))) (ishl .u32 (1 : Int) (IntKind.i64.wrap ((IntKind.i64.wrap ((2 : Int) + (IntKind.i64.wrap (((IntKind.u64.wrap x0_Length)).tmod (6 : Int))))) - (1 : Int))))), .int .u32 (1 : Int)] :: ow) := Hp.sel (pre := [Res.obj 39 v1 [.int .i64 x0_Length, .int .u32 x0_One, .int .u32 x0_Two], Res.obj 40 v5 [.int .i64 (IntKind.i64.wrap ((2 : Int) + (IntKind.i64.wrap (((IntKind.u64.wrap x0_Length)).tmod (6 : Int))))), .int .u32 (ior .u32 (iand .u32 x0_One (IntKind.u32.wrap ((ishl .u32 (1 : Int) (IntKind.i64.wrap ((2 : Int) + (IntKind.i64.wrap (((IntKind.u64.wrap x0_Length)).tmod (6 : Int)))))) - (1 : Int)))) (ishl .u32 (1 : Int) (IntKind.i64.wrap ((IntKind.i64.wrap ((2 : Int) + (IntKind.i64.wrap (((IntKind.u64.wrap x0_Length)).tmod (6 : Int))))) - (1 : Int))))), .int .u32 (1 : Int)], Res.obj 40 v3 [.int .i64 (IntKind.i64.wrap ((2 : Int) + (IntKind.i64.wrap (((IntKind.u64.wrap x0_Length)).tmod (6 : Int))))), .int .u32 (ior .u32 (iand .u32 x0_One (IntKind.u32.wrap ((ishl .u32 (1 : Int) (IntKind.i64.wrap ((2 : Int) + (IntKind.i64.wrap (((IntKind.u64.wrap x0_Length)).tmod (6 : Int)))))) - (1 : Int)))) (ishl .u32 (1 : Int) (IntKind.i64.wrap ((IntKind.i64.wrap ((2 : Int) + (IntKind.i64.wrap (((IntKind.u64.wrap x0_Length)).tmod (6 : Int))))) - (1 : Int))))), .int .u32 (1 : Int)]]) (tail := ow) (rs' := [Res.obj 40 v3 [.int .i64 (IntKind.i64.wrap ((2 : Int) + (IntKind.i64.wrap (((IntKind.u64.wrap x0_Length)).tmod (6 : Int))))), .int .u32 (ior .u32 (iand .u32 x0_One (IntKind.u32.wrap ((ishl .u32 (1 : Int) (IntKind.i64.wrap ((2 : Int) + (IntKind.i64.wrap (((IntKind.u64.wrap x0_Length)).tmod (6 : Int)))))) - (1 : Int)))) (ishl .u32 (1 : Int) (IntKind.i64.wrap ((IntKind.i64.wrap ((2 : Int) + (IntKind.i64.wrap (((IntKind.u64.wrap x0_Length)).tmod (6 : Int))))) - (1 : Int))))), .int .u32 (1 : Int)]]) hp [2] (by decide) (by simp) rfl
    exact ⟨rfl, ⟨_, hf.sub ⟨rfl, trivial⟩, hp⟩⟩
  replace h := ifF h hb
  refine wp_skip ?_
  refine th_n ?_
  refine wp_seq ?_
  refine wp_reg ?_
  refine st_ldOA (m := 3) (us := [.int .i64 (IntKind.i64.wrap ((2 : Int) + (IntKind.i64.wrap (((IntKind.u64.wrap x0_Length)).tmod (6 : Int))))), .int .u32 (ior .u32 (iand .u32 x0_One (IntKind.u32.wrap ((ishl .u32 (1 : Int) (IntKind.i64.wrap ((2 : Int) + (IntKind.i64.wrap (((IntKind.u64.wrap x0_Length)).tmod (6 : Int)))))) - (1 : Int)))) (ishl .u32 (1 : Int) (IntKind.i64.wrap ((IntKind.i64.wrap ((2 : Int) + (IntKind.i64.wrap (((IntKind.u64.wrap x0_Length)).tmod (6 : Int))))) - (1 : Int))))), .int .u32 (iand .u32 x0_Two (IntKind.u32.wrap ((ishl .u32 (1 : Int) (IntKind.i64.wrap ((2 : Int) + (IntKind.i64.wrap (((IntKind.u64.wrap x0_Length)).tmod (6 : Int)))))) - (1 : Int))))]) hf (by decide) (by kernel_rfl) rfl rfl (hp.ob (i := 1) rfl) rfl rfl ?_
  clear hf; intro a ha hf; clear ha
  refine st_stO (us := [.int .i64 (IntKind.i64.wrap ((2 : Int) + (IntKind.i64.wrap (((IntKind.u64.wrap x0_Length)).tmod (6 : Int))))), .int .u32 (ior .u32 (iand .u32 x0_One (IntKind.u32.wrap ((ishl .u32 (1 : Int) (IntKind.i64.wrap ((2 : Int) + (IntKind.i64.wrap (((IntKind.u64.wrap x0_Length)).tmod (6 : Int)))))) - (1 : Int)))) (ishl .u32 (1 : Int) (IntKind.i64.wrap ((IntKind.i64.wrap ((2 : Int) + (IntKind.i64.wrap (((IntKind.u64.wrap x0_Length)).tmod (6 : Int))))) - (1 : Int))))), .int .u32 (iand .u32 x0_Two (IntKind.u32.wrap ((ishl .u32 (1 : Int) (IntKind.i64.wrap ((2 : Int) + (IntKind.i64.wrap (((IntKind.u64.wrap x0_Length)).tmod (6 : Int)))))) - (1 : Int))))]) hf hp (i := 2) rfl rfl rfl rfl rfl (by rfl) (by kernel_rfl) (Nat.le_of_ble_eq_true rfl) ?_
  clear hf; intro a w hf hp0; clear hp; have hp := hp0; clear hp0
  replace hp : Hp _ _ _ (Res.obj 39 v1 [.int .i64 x0_Length, .int .u32 x0_One, .int .u32 x0_Two] :: Res.obj 40 v5 [.int .i64 (IntKind.i64.wrap ((2 : Int) + (IntKind.i64.wrap (((IntKind.u64.wrap x0_Length)).tmod (6 : Int))))), .int .u32 (ior .u32 (iand .u32 x0_One (IntKind.u32.wrap ((ishl .u32 (1 : Int) (IntKind.i64.wrap ((2 : Int) + (IntKind.i64.wrap (((IntKind.u64.wrap x0_Length)).tmod (6 : Int)))))) - (1 : Int)))) (ishl .u32 (1 : Int) (IntKind.i64.wrap ((IntKind.i64.wrap ((2 : Int) + (IntKind.i64.wrap (((IntKind.u64.wrap x0_Length)).tmod (6 : Int))))) - (1 : Int))))), .int .u32 (iand .u32 x0_Two (IntKind.u32.wrap ((ishl .u32 (1 : Int) (IntKind.i64.wrap ((2 : Int) + (IntKind.i64.wrap (((IntKind.u64.wrap x0_Length)).tmod (6 : Int)))))) - (1 : Int))))] :: Res.obj 40 v3 [.int .i64 (IntKind.i64.wrap ((2 : Int) + (IntKind.i64.wrap (((IntKind.u64.wrap x0_Length)).tmod (6 : Int))))), .int .u32 (ior .u32 (iand .u32 x0_One (IntKind.u32.wrap ((ishl .u32 (1 : Int) (IntKind.i64.wrap ((2 : Int) + (IntKind.i64.wrap (((IntKind.u64.wrap x0_Length)).tmod (6 : Int)))))) - (1 : Int)))) (ishl .u32 (1 : Int) (IntKind.i64.wrap ((IntKind.i64.wrap ((2 : Int) + (IntKind.i64.wrap (((IntKind.u64.wrap x0_Length)).tmod (6 : Int))))) - (1 : Int))))), .int .u32 (iand .u32 x0_Two (IntKind.u32.wrap ((ishl .u32 (1 : Int) (IntKind.i64.wrap ((2 : Int) + (IntKind.i64.wrap (((IntKind.u64.wrap x0_Length)).tmod (6 : Int)))))) - (1 : Int))))] :: ow) := hp
  refine st_nil hf ?_
  refine th_n ?_
  refine wp_ret ?_
  obtain rfl := Option.some.inj h
  have hp : Hp _ _ _ (Res.obj 40 v3 [.int .i64 (IntKind.i64.wrap ((2 : Int) + (IntKind.i64.wrap (((IntKind.u64.wrap x0_Length)).tmod (6 : Int))))), .int .u32 (ior .u32 (iand .u32 x0_One (IntKind.u32.wrap ((ishl .u32 (1 : Int) (IntKind.i64.wrap ((2 : Int) + (IntKind.i64.wrap (((IntKind.u64.wrap x0_Length)).tmod (6 : Int)))))) - (1 : Int)))) (ishl .u32 (1 : Int) (IntKind.i64.wrap ((IntKind.i64.wrap ((2 : Int) + (IntKind.i64.wrap (((IntKind.u64.wrap x0_Length)).tmod (6 : Int))))) - (1 : Int))))), .int .u32 (iand .u32 x0_Two (IntKind.u32.wrap ((ishl .u32 (1 : Int) (IntKind.i64.wrap ((2 : Int) + (IntKind.i64.wrap (((IntKind.u64.wrap x0_Length)).tmod (6 : Int)))))) - (1 : Int))))] :: ow) := Hp.sel (pre := [Res.obj 39 v1 [.int .i64 x0_Length, .int .u32 x0_One, .int .u32 x0_Two], Res.obj 40 v5 [.int .i64 (IntKind.i64.wrap ((2 : Int) + (IntKind.i64.wrap (((IntKind.u64.wrap x0_Length)).tmod (6 : Int))))), .int .u32 (ior .u32 (iand .u32 x0_One (IntKind.u32.wrap ((ishl .u32 (1 : Int) (IntKind.i64.wrap ((2 : Int) + (IntKind.i64.wrap (((IntKind.u64.wrap x0_Length)).tmod (6 : Int)))))) - (1 : Int)))) (ishl .u32 (1 : Int) (IntKind.i64.wrap ((IntKind.i64.wrap ((2 : Int) + (IntKind.i64.wrap (((IntKind.u64.wrap x0_Length)).tmod (6 : Int))))) - (1 : Int))))), .int .u32 (iand .u32 x0_Two (IntKind.u32.wrap ((ishl .u32 (1 : Int) (IntKind.i64.wrap ((2 : Int) + (IntKind.i64.wrap (((IntKind.u64.wrap x0_Length)).tmod (6 : Int)))))) - (1 : Int))))], Res.obj 40 v3 [.int .i64 (IntKind.i64.wrap ((2 : Int) + (IntKind.i64.wrap (((IntKind.u64.wrap x0_Length)).tmod (6 : Int))))), .int .u32 (ior .u32 (iand .u32 x0_One (IntKind.u32.wrap ((ishl .u32 (1 : Int) (IntKind.i64.wrap ((2 : Int) + (IntKind.i64.wrap (((IntKind.u64.wrap x0_Length)).tmod (6 : Int)))))) - (1 : Int)))) (ishl .u32 (1 : Int) (IntKind.i64.wrap ((IntKind.i64.wrap ((2 : Int) + (IntKind.i64.wrap (((IntKind.u64.wrap x0_Length)).tmod (6 : Int))))) - (1 : Int))))), .int .u32 (iand .u32 x0_Two (IntKind.u32.wrap ((ishl .u32 (1 : Int) (IntKind.i64.wrap ((2 : Int) + (IntKind.i64.wrap (((IntKind.u64.wrap x0_Length)).tmod (6 : Int)))))) - (1 : Int))))]]) (tail := ow) (rs' := [Res.obj 40 v3 [.int .i64 (IntKind.i64.wrap ((2 : Int) + (IntKind.i64.wrap (((IntKind.u64.wrap x0_Length)).tmod (6 : Int))))), .int .u32 (ior .u32 (iand .u32 x0_One (IntKind.u32.wrap ((ishl .u32 (1 : Int) (IntKind.i64.wrap ((2 : Int) + (IntKind.i64.wrap (((IntKind.u64.wrap x0_Length)).tmod (6 : Int)))))) - (1 : Int)))) (ishl .u32 (1 : Int) (IntKind.i64.wrap ((IntKind.i64.wrap ((2 : Int) + (IntKind.i64.wrap (((IntKind.u64.wrap x0_Length)).tmod (6 : Int))))) - (1 : Int))))), .int .u32 (iand .u32 x0_Two (IntKind.u32.wrap ((ishl .u32 (1 : Int) (IntKind.i64.wrap ((2 : Int) + (IntKind.i64.wrap (((IntKind.u64.wrap x0_Length)).tmod (6 : Int)))))) - (1 : Int))))]]) hp [2] (by decide) (by simp) rfl
  exact ⟨rfl, ⟨_, hf.sub ⟨rfl, trivial⟩, hp⟩⟩

noncomputable def f_trellis_Code_step_1 (n0 : Int) : Option Bool := ((f_math_bits_OnesCount32 n0).bind fun q1 => (some (decide ((0 : Int) < (iand .i64 q1 (1 : Int))))))
theorem f_trellis_Code_step_1_c {S : Nat → Prop} {w0 w : World} {ow : List Res} (hp : Hp S w0 w ow) (n0 : Int) {r : Bool} (h : f_trellis_Code_step_1 n0 = some r) :
    Calls Try.prog 51 #[.int .u32 n0] w (fun e w' => e = .returned (.bool r) ∧ Hp S w0 w' (ow)) := by
  unfold f_trellis_Code_step_1 at h
  refine enter (n := 7) (args := [.int .u32 n0]) Try.func51 rfl rfl (Nat.le_of_ble_eq_true rfl) fun a hf => ?_
  replace hf : Fr 7 a [(0, .int .u32 n0)] := hf
  refine wp_mono (Q := fun e a w => e = .ret ∧ Fr 7 a [(2, .bool r)] ∧ Hp S w0 w (ow)) ?_ ?_
  rotate_left
  · rintro e a w ⟨rfl, hf, hp⟩
    exact ret1 hf rfl rfl ⟨rfl, hp⟩
  refine wp_seq ?_
  refine wp_reg ?_
  refine st_assign hf rfl rfl (by decide) ?_
  clear hf; intro a ha hf; clear ha
  refine st_nil hf ?_
  refine th_n ?_
  refine wp_seq ?_
  refine wp_reg ?_
  refine st_move hf rfl rfl (by decide) ?_
  clear hf; intro a ha hf; clear ha
  obtain ⟨q1, hcall2, h⟩ := bnd h
  refine st_call hf (by decide) Try.func47 rfl rfl rfl rfl rfl (f_math_bits_OnesCount32_c hp _ hcall2) ?_
  rintro _ w ⟨rfl, hp0⟩
  clear hp; have hp := hp0; clear hp0
  replace hp : Hp _ _ _ (ow) := hp
  refine ⟨_, rfl, ?_⟩
  clear hf; intro a hf
  refine st_iand hf (by decide) rfl rfl rfl ?_
  clear hf; intro a ha hf; clear ha
  refine st_igtr hf (by decide) rfl rfl rfl ?_
  clear hf; intro a ha hf; clear ha
  refine st_assign hf rfl rfl (by decide) ?_
  clear hf; intro a ha hf; clear ha
  refine st_nil hf ?_
  refine th_n ?_
  refine wp_ret ?_
  obtain rfl := Option.some.inj h
  exact ⟨rfl, ⟨hf.sub ⟨rfl, trivial⟩, hp⟩⟩

noncomputable def f_trellis_Code_step.j1 (c0_One : Int) (c0_Two : Int) (all9 : Int) : Option (Int × Bool × Bool) := ((f_trellis_Code_step_1 (iand .u32 all9 c0_One)).bind fun q9 => ((f_trellis_Code_step_1 (iand .u32 all9 c0_Two)).bind fun q11 => (some ((IntKind.i64.wrap (ishr .u32 all9 (1 : Int))), q9, q11))))
noncomputable def f_trellis_Code_step (c0_Length : Int) (c0_One : Int) (c0_Two : Int) (state1 : Int) (bit2 : Bool) : Option (Int × Bool × Bool) := (if bit2 = true then (if 0 ≤ (IntKind.i64.wrap (c0_Length - (1 : Int))) then (f_trellis_Code_step.j1 c0_One c0_Two (ior .u32 (IntKind.u32.wrap state1) (ishl .u32 (1 : Int) (IntKind.i64.wrap (c0_Length - (1 : Int)))))) else none) else (f_trellis_Code_step.j1 c0_One c0_Two (IntKind.u32.wrap state1)))
theorem f_trellis_Code_step_c {S : Nat → Prop} {w0 w : World} {ow : List Res} (hp : Hp S w0 w ow) (c0_Length : Int) (c0_One : Int) (c0_Two : Int) (state1 : Int) (bit2 : Bool) {r : (Int × Bool × Bool)} (h : f_trellis_Code_step c0_Length c0_One c0_Two state1 bit2 = some r) :
    Calls Try.prog 39 #[.agg #[.int .i64 c0_Length, .int .u32 c0_One, .int .u32 c0_Two], .int .i64 state1, .bool bit2] w (fun e w' => e = .returned (.tuple #[.int .i64 r.1, .bool r.2.1, .bool r.2.2]) ∧ Hp S w0 w' (ow)) := by
  unfold f_trellis_Code_step at h
  refine enter (n := 35) (args := [.agg #[.int .i64 c0_Length, .int .u32 c0_One, .int .u32 c0_Two], .int .i64 state1, .bool bit2]) Try.func39 rfl rfl (Nat.le_of_ble_eq_true rfl) fun a hf => ?_
  replace hf : Fr 35 a [(0, .agg #[.int .i64 c0_Length, .int .u32 c0_One, .int .u32 c0_Two]), (1, .int .i64 state1), (2, .bool bit2)] := hf
  refine wp_mono (Q := fun e a w => e = .ret ∧ Fr 35 a [(6, .int .i64 r.1), (7, .bool r.2.1), (8, .bool r.2.2)] ∧ Hp S w0 w (ow)) ?_ ?_
  rotate_left
  · rintro e a w ⟨rfl, hf, hp⟩
    exact ret3 hf rfl rfl rfl rfl ⟨rfl, hp⟩
  refine wp_seq ?_
  refine wp_reg ?_
  refine st_boxO (cs := [.int .i64 c0_Length, .int .u32 c0_One, .int .u32 c0_Two]) hf (by decide) hp rfl rfl rfl ?_
  clear hf; intro a w v1 hf hp0; clear hp; have hp := hp0; clear hp0
  replace hp : Hp _ _ _ (Res.obj 40 v1 [.int .i64 c0_Length, .int .u32 c0_One, .int .u32 c0_Two] :: ow) := hp
  refine st_assign hf rfl rfl (by decide) ?_
  clear hf; intro a ha hf; clear ha
  refine st_assign hf rfl rfl (by decide) ?_
  clear hf; intro a ha hf; clear ha
  refine st_assign hf rfl rfl (by decide) ?_
  clear hf; intro a ha hf; clear ha
  refine st_nil hf ?_
  refine th_n ?_
  refine wp_seq ?_
  refine wp_reg ?_
  refine st_move hf rfl rfl (by decide) ?_
  clear hf; intro a ha hf; clear ha
  refine st_conv_ii hf (by decide) (by rw [Try.underlying3]; rfl) Try.underlying37 rfl rfl ?_
  clear hf; intro a ha hf; clear ha
  refine st_assign hf rfl rfl (by decide) ?_
  clear hf; intro a ha hf; clear ha
  refine st_nil hf ?_
  refine th_n ?_
  refine wp_seq_cut (fun a w => ∃ (all9 : Int), f_trellis_Code_step.j1 c0_One c0_Two all9 = some r ∧ Fr 35 a [(3, optr v1 0), (9, .int .u32 all9)] ∧ Hp S w0 w (Res.obj 40 v1 [.int .i64 c0_Length, .int .u32 c0_One, .int .u32 c0_Two] :: ow)) ?_ ?_
  · skip
    refine wp_seq ?_
    refine wp_reg ?_
    refine st_move hf rfl rfl (by decide) ?_
    clear hf; intro a ha hf; clear ha
    refine st_nil hf ?_
    refine th_n ?_
    refine wp_if hf rfl (fun hb => ?_) (fun hb => ?_)
    · replace h := ifT h hb
      refine wp_reg ?_
      refine st_move hf rfl rfl (by decide) ?_
      clear hf; intro a ha hf; clear ha
      refine st_fa (o' := 0) hf (by decide) (off := 0) (sz := 1) (by kernel_rfl) (by decide) rfl rfl (hp.ob (i := 0) rfl) rfl ?_
      clear hf; intro a ha hf; clear ha
      refine st_ldO (u := .int .i64 c0_Length) hf (by decide) pl3 rfl rfl (hp.ob (i := 0) rfl) rfl ?_
      clear hf; intro a ha hf; clear ha
      refine st_isub hf (by decide) rfl rfl rfl ?_
      clear hf; intro a ha hf; clear ha
      obtain ⟨hc13, h⟩ := chk h
      refine st_ishl hf (by decide) rfl rfl rfl hc13 ?_
      clear hf; intro a ha hf; clear ha
      refine st_ior hf (by decide) rfl rfl rfl ?_
      clear hf; intro a ha hf; clear ha
      refine st_assign hf rfl rfl (by decide) ?_
      clear hf; intro a ha hf; clear ha
      refine st_nil hf ?_
      refine th_n ?_
      exact ⟨_, h, hf.sub ⟨rfl, rfl, trivial⟩, hp⟩
    replace h := ifF h hb
    refine wp_skip ?_
    refine th_n ?_
    exact ⟨_, h, hf.sub ⟨rfl, rfl, trivial⟩, hp⟩
  rintro a w ⟨all9, h, hf, hp⟩
  unfold f_trellis_Code_step.j1 at h
  refine wp_seq ?_
  refine wp_reg ?_
  refine st_assign hf rfl rfl (by decide) ?_
  clear hf; intro a ha hf; clear ha
  refine st_nil hf ?_
  refine th_n ?_
  refine wp_seq ?_
  obtain ⟨S3, hp4, rd5, up6, bk7⟩ := Hp.lendO hp (i := 0) rfl
  have rl8 := rd5
  obtain ⟨q9, hcall10, h⟩ := bnd h
  obtain ⟨q11, hcall12, h⟩ := bnd h
  refine wp_cutN (fun a w => Fr 35 a [(6, .int .i64 (IntKind.i64.wrap (ishr .u32 all9 (1 : Int)))), (7, .bool q9), (8, .bool q11)] ∧ Hp S w0 w (Res.obj 40 v1 [.int .i64 c0_Length, .int .u32 c0_One, .int .u32 c0_Two] :: ow)) ?_ ?_
  · have hp := hp4.same (Same.drew w)
    refine dr_begin' (fun a w => Fr 35 a [(6, .int .i64 (IntKind.i64.wrap (ishr .u32 all9 (1 : Int)))), (7, .bool q9), (8, .bool q11)] ∧ Hp S w0 w (Res.obj 40 v1 [.int .i64 c0_Length, .int .u32 c0_One, .int .u32 c0_Two] :: ow)) (fun w' => ∃ l, Hp S3 w w' l) [] (by kernel_rfl) ?_
    refine dr_take 0 (.int .u32 all9) rfl (by kernel_rfl) (by kernel_rfl) (by kernel_rfl) (by kernel_rfl) rfl rfl hf (by decide) rfl (fun w hp => ?_) ⟨_, hp⟩ ?_
    · obtain ⟨_, hp⟩ := hp
      refine st_move hf rfl rfl (by decide) ?_
      clear hf; intro a ha hf
      exact st_nil hf (th_n ⟨ha, rfl⟩)
    clear hf; intro a hf
    refine dr_take 1 (.int .u32 (ishr .u32 all9 (1 : Int))) rfl (by kernel_rfl) (by kernel_rfl) (by kernel_rfl) (by kernel_rfl) rfl rfl hf (by decide) rfl (fun w hp => ?_) ⟨_, hp⟩ ?_
    · obtain ⟨_, hp⟩ := hp
      refine st_ishr hf (by decide) rfl rfl rfl (by decide) ?_
      clear hf; intro a ha hf
      exact st_nil hf (th_n ⟨ha, rfl⟩)
    clear hf; intro a hf
    refine dr_take 2 (.int .i64 (IntKind.i64.wrap (ishr .u32 all9 (1 : Int)))) rfl (by kernel_rfl) (by kernel_rfl) (by kernel_rfl) (by kernel_rfl) rfl rfl hf (by decide) rfl (fun w hp => ?_) ⟨_, hp⟩ ?_
    · obtain ⟨_, hp⟩ := hp
      refine st_conv_ii hf (by decide) (by rw [Try.underlying37]; rfl) Try.underlying3 rfl rfl ?_
      clear hf; intro a ha hf
      exact st_nil hf (th_n ⟨ha, rfl⟩)
    clear hf; intro a hf
    refine dr_take 3 (.func (.func 51) #[] #[]) rfl (by kernel_rfl) (by kernel_rfl) (by kernel_rfl) (by kernel_rfl) rfl rfl hf (by decide) rfl (fun w hp => ?_) ⟨_, hp⟩ ?_
    · obtain ⟨_, hp⟩ := hp
      refine st_move hf rfl rfl (by decide) ?_
      clear hf; intro a ha hf
      exact st_nil hf (th_n ⟨ha, rfl⟩)
    clear hf; intro a hf
    refine dr_take 4 (.int .u32 all9) rfl (by kernel_rfl) (by kernel_rfl) (by kernel_rfl) (by kernel_rfl) rfl rfl hf (by decide) rfl (fun w hp => ?_) ⟨_, hp⟩ ?_
    · obtain ⟨_, hp⟩ := hp
      refine st_move hf rfl rfl (by decide) ?_
      clear hf; intro a ha hf
      exact st_nil hf (th_n ⟨ha, rfl⟩)
    clear hf; intro a hf
    refine dr_take 5 (optr v1 1) rfl (by kernel_rfl) (by kernel_rfl) (by kernel_rfl) (by kernel_rfl) rfl rfl hf (by decide) rfl (fun w hp => ?_) ⟨_, hp⟩ ?_
    · obtain ⟨_, hp⟩ := hp
      refine st_fa (o' := 1) hf (by decide) (off := 1) (sz := 1) (by kernel_rfl) (by decide) rfl rfl (rl8.ob hp) rfl ?_
      clear hf; intro a ha hf
      exact st_nil hf (th_n ⟨ha, rfl⟩)
    clear hf; intro a hf
    refine dr_take 6 (.int .u32 c0_One) rfl (by kernel_rfl) (by kernel_rfl) (by kernel_rfl) (by kernel_rfl) rfl rfl hf (by decide) rfl (fun w hp => ?_) ⟨_, hp⟩ ?_
    · obtain ⟨_, hp⟩ := hp
      refine st_ldO (u := .int .u32 c0_One) hf (by decide) pl37 rfl rfl (rl8.ob hp) rfl ?_
      clear hf; intro a ha hf
      exact st_nil hf (th_n ⟨ha, rfl⟩)
    clear hf; intro a hf
    refine dr_take 7 (.int .u32 (iand .u32 all9 c0_One)) rfl (by kernel_rfl) (by kernel_rfl) (by kernel_rfl) (by kernel_rfl) rfl rfl hf (by decide) rfl (fun w hp => ?_) ⟨_, hp⟩ ?_
    · obtain ⟨_, hp⟩ := hp
      refine st_iand hf (by decide) rfl rfl rfl ?_
      clear hf; intro a ha hf
      exact st_nil hf (th_n ⟨ha, rfl⟩)
    clear hf; intro a hf
    refine dr_take 9 (.func (.func 51) #[] #[]) rfl (by kernel_rfl) (by kernel_rfl) (by kernel_rfl) (by kernel_rfl) rfl rfl hf (by decide) rfl (fun w hp => ?_) ⟨_, hp⟩ ?_
    · obtain ⟨_, hp⟩ := hp
      refine st_move hf rfl rfl (by decide) ?_
      clear hf; intro a ha hf
      exact st_nil hf (th_n ⟨ha, rfl⟩)
    clear hf; intro a hf
    refine dr_take 10 (.int .u32 all9) rfl (by kernel_rfl) (by kernel_rfl) (by kernel_rfl) (by kernel_rfl) rfl rfl hf (by decide) rfl (fun w hp => ?_) ⟨_, hp⟩ ?_
    · obtain ⟨_, hp⟩ := hp
      refine st_move hf rfl rfl (by decide) ?_
      clear hf; intro a ha hf
      exact st_nil hf (th_n ⟨ha, rfl⟩)
    clear hf; intro a hf
    refine dr_take 11 (optr v1 2) rfl (by kernel_rfl) (by kernel_rfl) (by kernel_rfl) (by kernel_rfl) rfl rfl hf (by decide) rfl (fun w hp => ?_) ⟨_, hp⟩ ?_
    · obtain ⟨_, hp⟩ := hp
      refine st_fa (o' := 2) hf (by decide) (off := 2) (sz := 1) (by kernel_rfl) (by decide) rfl rfl (rl8.ob hp) rfl ?_
      clear hf; intro a ha hf
      exact st_nil hf (th_n ⟨ha, rfl⟩)
    clear hf; intro a hf
    refine dr_take 12 (.int .u32 c0_Two) rfl (by kernel_rfl) (by kernel_rfl) (by kernel_rfl) (by kernel_rfl) rfl rfl hf (by decide) rfl (fun w hp => ?_) ⟨_, hp⟩ ?_
    · obtain ⟨_, hp⟩ := hp
      refine st_ldO (u := .int .u32 c0_Two) hf (by decide) pl37 rfl rfl (rl8.ob hp) rfl ?_
      clear hf; intro a ha hf
      exact st_nil hf (th_n ⟨ha, rfl⟩)
    clear hf; intro a hf
    refine dr_take 13 (.int .u32 (iand .u32 all9 c0_Two)) rfl (by kernel_rfl) (by kernel_rfl) (by kernel_rfl) (by kernel_rfl) rfl rfl hf (by decide) rfl (fun w hp => ?_) ⟨_, hp⟩ ?_
    · obtain ⟨_, hp⟩ := hp
      refine st_iand hf (by decide) rfl rfl rfl ?_
      clear hf; intro a ha hf
      exact st_nil hf (th_n ⟨ha, rfl⟩)
    clear hf; intro a hf
    refine dr_one 8 rfl (by kernel_rfl) ?_
    refine st_call hf (by decide) Try.func51 rfl rfl rfl rfl rfl (f_trellis_Code_step_1_c hp _ hcall10) ?_
    rintro _ w ⟨rfl, hp0⟩
    clear hp; have hp := hp0; clear hp0
    replace hp : Hp _ _ _ (ow) := hp
    refine ⟨_, rfl, ?_⟩
    clear hf; intro a hf
    refine st_nil hf (th_n ⟨fun _ _ => ⟨_, hp⟩, ?_⟩)
    refine dr_one 14 rfl (by kernel_rfl) ?_
    refine st_call hf (by decide) Try.func51 rfl rfl rfl rfl rfl (f_trellis_Code_step_1_c hp _ hcall12) ?_
    rintro _ w ⟨rfl, hp0⟩
    clear hp; have hp := hp0; clear hp0
    replace hp : Hp _ _ _ (ow) := hp
    refine ⟨_, rfl, ?_⟩
    clear hf; intro a hf
    refine st_nil hf (th_n ⟨fun _ _ => ⟨_, hp⟩, ?_⟩)
    refine dr_take 15 (.int .i64 (IntKind.i64.wrap (ishr .u32 all9 (1 : Int)))) rfl (by kernel_rfl) (by kernel_rfl) (by kernel_rfl) (by kernel_rfl) rfl rfl hf (by decide) rfl (fun w hp => ?_) ⟨_, hp⟩ ?_
    · obtain ⟨_, hp⟩ := hp
      refine st_assign hf rfl rfl (by decide) ?_
      clear hf; intro a ha hf
      exact st_nil hf (th_n ⟨ha, rfl⟩)
    clear hf; intro a hf
    refine dr_take 16 (.bool q9) rfl (by kernel_rfl) (by kernel_rfl) (by kernel_rfl) (by kernel_rfl) rfl rfl hf (by decide) rfl (fun w hp => ?_) ⟨_, hp⟩ ?_
    · obtain ⟨_, hp⟩ := hp
      refine st_assign hf rfl rfl (by decide) ?_
      clear hf; intro a ha hf
      exact st_nil hf (th_n ⟨ha, rfl⟩)
    clear hf; intro a hf
    refine dr_take 17 (.bool q11) rfl (by kernel_rfl) (by kernel_rfl) (by kernel_rfl) (by kernel_rfl) rfl rfl hf (by decide) rfl (fun w hp => ?_) ⟨_, hp⟩ ?_
    · obtain ⟨_, hp⟩ := hp
      refine st_assign hf rfl rfl (by decide) ?_
      clear hf; intro a ha hf
      exact st_nil hf (th_n ⟨ha, rfl⟩)
    clear hf; intro a hf
    refine dr_end (by kernel_rfl) ?_ _
    have hp := bk7 _ _ hp
    exact ⟨hf.sub ⟨rfl, rfl, rfl, trivial⟩, hp⟩
  rintro a w ⟨hf, hp⟩
  refine th_n ?_
  refine wp_ret ?_
  obtain rfl := Option.some.inj h
  have hp : Hp _ _ _ (ow) := Hp.sel (pre := [Res.obj 40 v1 [.int .i64 c0_Length, .int .u32 c0_One, .int .u32 c0_Two]]) (tail := ow) (rs' := []) hp [] (by decide) (by simp) rfl
  exact ⟨rfl, ⟨hf.sub ⟨rfl, rfl, rfl, trivial⟩, hp⟩⟩

noncomputable def f_trellis_Code_Encode_1 (t0 : Int) (one1 : Bool) (two2 : Bool) (t3 : (List Bool)) : Option (List Bool) := (if (t3.length + ([one1, two2]).length) * 1 ≤ 140737488355328 then (some (t3 ++ [one1, two2])) else none)
theorem f_trellis_Code_Encode_1_c {S : Nat → Prop} {w0 w : World} {ow : List Res} (t0 : Int) (one1 : Bool) (two2 : Bool) (vt3 : Value) (t3 : (List Bool)) (ot3 : Value) (hp : Hp S w0 w (Res.sl Ek.bool 4 vt3 t3 :: Res.obj 22 ot3 [vt3] :: ow)) {r : (List Bool)} (h : f_trellis_Code_Encode_1 t0 one1 two2 t3 = some r) :
    Calls Try.prog 40 #[.int .i64 t0, .bool one1, .bool two2, optr ot3 0] w (fun e w' => ∃ (u0 : Value), e = .returned (.tuple #[]) ∧ Hp S w0 w' (Res.sl Ek.bool 4 u0 r :: Res.obj 22 ot3 [u0] :: ow)) := by
  unfold f_trellis_Code_Encode_1 at h
  refine enter (n := 12) (args := [.int .i64 t0, .bool one1, .bool two2, optr ot3 0]) Try.func40 rfl rfl (Nat.le_of_ble_eq_true rfl) fun a hf => ?_
  replace hf : Fr 12 a [(0, .int .i64 t0), (1, .bool one1), (2, .bool two2), (3, optr ot3 0)] := hf
  refine wp_mono (Q := fun e a w => (e = .ret ∨ e = .normal) ∧ ∃ (u0 : Value), Fr 12 a [] ∧ Hp S w0 w (Res.sl Ek.bool 4 u0 r :: Res.obj 22 ot3 [u0] :: ow)) ?_ ?_
  rotate_left
  · rintro e a w ⟨rfl | rfl, x0, hf, hp⟩
    · exact ret0 hf rfl ⟨x0, rfl, hp⟩
    · exact ret0n hf rfl ⟨x0, rfl, hp⟩
  refine wp_reg ?_
  refine st_ldO (u := vt3) hf (by decide) pl22 rfl rfl (hp.ob (i := 1) rfl) rfl ?_
  clear hf; intro a ha hf; clear ha
  refine st_move hf rfl rfl (by decide) ?_
  clear hf; intro a ha hf; clear ha
  refine st_move hf rfl rfl (by decide) ?_
  clear hf; intro a ha hf; clear ha
  refine st_build (E := Ek.bool) (xs := [one1, two2]) hf (by decide) elt4 Try.underlying22 hp (vals := #[(0, .bool one1), (1, .bool two2)]) (cells := #[.bool one1, .bool two2]) rfl (by simp [hf.ev (x := (Operand.tmp 8)) rfl, hf.ev (x := (Operand.tmp 9)) rfl]) (by decide) (by decide) (z := .bool false) (by kernel_rfl) (by kernel_rfl) rfl (reps_cons (cs := [.bool one1]) rfl (reps_cons (cs := [.bool two2]) rfl (reps_nil _))) ?_
  clear hf; intro a w v3 hf hp0; clear hp; have hp := hp0; clear hp0
  replace hp : Hp _ _ _ (Res.sl Ek.bool 4 v3 ([one1, two2]) :: Res.sl Ek.bool 4 vt3 t3 :: Res.obj 22 ot3 [vt3] :: ow) := hp
  obtain ⟨hc5, h⟩ := chk h
  refine st_append (E := Ek.bool) hf (by decide) elt4 Try.underlying22 (by decide) hp (i := 1) rfl rfl rfl rfl (hp.sl (i := 0) rfl) hc5 ?_
  clear hf; intro a w v6 hf hp0; clear hp; have hp := hp0; clear hp0
  replace hp : Hp _ _ _ (Res.sl Ek.bool 4 v3 ([one1, two2]) :: Res.sl Ek.bool 4 v6 (t3 ++ [one1, two2]) :: Res.obj 22 ot3 [vt3] :: ow) := hp
  refine st_stO (us := [v6]) hf hp (i := 2) rfl rfl rfl rfl (cells_sh (hp.sl (i := 1) rfl).shapeV) (ones_sh (hp.sl (i := 1) rfl).shapeV) (by kernel_rfl) (Nat.le_of_ble_eq_true rfl) ?_
  clear hf; intro a w hf hp0; clear hp; have hp := hp0; clear hp0
  replace hp : Hp _ _ _ (Res.sl Ek.bool 4 v3 ([one1, two2]) :: Res.sl Ek.bool 4 v6 (t3 ++ [one1, two2]) :: Res.obj 22 ot3 [v6] :: ow) := hp
  refine st_nil hf ?_
  obtain rfl := Option.some.inj h
  have hp : Hp _ _ _ (Res.sl Ek.bool 4 v6 (t3 ++ [one1, two2]) :: Res.obj 22 ot3 [v6] :: ow) := Hp.sel (pre := [Res.sl Ek.bool 4 v3 ([one1, two2]), Res.sl Ek.bool 4 v6 (t3 ++ [one1, two2]), Res.obj 22 ot3 [v6]]) (tail := ow) (rs' := [Res.sl Ek.bool 4 v6 (t3 ++ [one1, two2]), Res.obj 22 ot3 [v6]]) hp [1, 2] (by decide) (by simp) rfl
  exact ⟨(.inr rfl), ⟨_, hf.sub trivial, hp⟩⟩

noncomputable def f_trellis_Code_through.s1c (c0_Length : Int) (l1 : (List Bool)) (t6000_Length : Int) (t6000_One : Int) (t6000_Two : Int) (tell3_0c : (List Bool)) (state10 : Int) (t33 : Int) : Option (((List Bool) × Int × Int) ⊕ (List Bool)) := (if (decide (t33 < (IntKind.i64.wrap ((IntKind.i64.wrap ((l1.length : Int) + c0_Length)) - (1 : Int))))) = true then ((if (decide (t33 < (l1.length : Int))) = true then (if 0 ≤ t33 ∧ t33 < (l1.length : Int) then (some (gt l1 t33)) else none) else (some false)).bind fun z15 => ((f_trellis_Code_step t6000_Length t6000_One t6000_Two state10 z15).bind fun q17 => ((f_trellis_Code_Encode_1 q17.1 q17.2.1 q17.2.2 tell3_0c).bind fun q19 => (some (Sum.inl (q19, q17.1, (IntKind.i64.wrap (t33 + (1 : Int))))))))) else (some (Sum.inr tell3_0c)))
noncomputable def f_trellis_Code_through.s1 (c0_Length : Int) (l1 : (List Bool)) (t6000_Length : Int) (t6000_One : Int) (t6000_Two : Int) (s : ((List Bool) × Int × Int)) : Option (((List Bool) × Int × Int) ⊕ (List Bool)) := f_trellis_Code_through.s1c c0_Length l1 t6000_Length t6000_One t6000_Two s.1 s.2.1 s.2.2
noncomputable def f_trellis_Code_through (c0_Length : Int) (c0_One : Int) (c0_Two : Int) (l1 : (List Bool)) (t6000_Length : Int) (t6000_One : Int) (t6000_Two : Int) (t4000 : (List Bool)) : Option (Int × (List Bool)) := ((f_trellis_Code_Check c0_Length c0_One c0_Two).bind fun q5 => (if (q5 != (0 : Int)) = true then (some (q5, t4000)) else (if (decide ((16384 : Int) < (IntKind.i64.wrap ((IntKind.i64.wrap ((l1.length : Int) + c0_Length)) - (1 : Int))))) = true then (some ((1 : Int), t4000)) else ((loop (f_trellis_Code_through.s1 c0_Length l1 t6000_Length t6000_One t6000_Two) (t4000, (0 : Int), (0 : Int))).bind (fun q24 => (some ((0 : Int), q24)))))))
theorem f_trellis_Code_through_c {S : Nat → Prop} {w0 w : World} {ow : List Res} (c0_Length : Int) (c0_One : Int) (c0_Two : Int) (vl1 : Value) (l1 : (List Bool)) (hl1 : RdS Ek.bool S w0 vl1 l1) (t6000_Length : Int) (t6000_One : Int) (t6000_Two : Int) (vt4000 : Value) (t4000 : (List Bool)) (ot4000 : Value) (hp : Hp S w0 w (Res.sl Ek.bool 4 vt4000 t4000 :: Res.obj 22 ot4000 [vt4000] :: ow)) {r : (Int × (List Bool))} (h : f_trellis_Code_through c0_Length c0_One c0_Two l1 t6000_Length t6000_One t6000_Two t4000 = some r) :
    Calls Try.prog 38 #[.agg #[.int .i64 c0_Length, .int .u32 c0_One, .int .u32 c0_Two], vl1, .func (.func 39) #[.agg #[.int .i64 t6000_Length, .int .u32 t6000_One, .int .u32 t6000_Two]] #[], .func (.func 40) #[] #[optr ot4000 0]] w (fun e w' => ∃ (u0 : Value), e = .returned (.int .i64 r.1) ∧ Hp S w0 w' (Res.sl Ek.bool 4 u0 r.2 :: Res.obj 22 ot4000 [u0] :: ow)) := by
  unfold f_trellis_Code_through at h
  refine enter (n := 60) (args := [.agg #[.int .i64 c0_Length, .int .u32 c0_One, .int .u32 c0_Two], vl1, .func (.func 39) #[.agg #[.int .i64 t6000_Length, .int .u32 t6000_One, .int .u32 t6000_Two]] #[], .func (.func 40) #[] #[optr ot4000 0]]) Try.func38 rfl rfl (Nat.le_of_ble_eq_true rfl) fun a hf => ?_
  replace hf : Fr 60 a [(0, .agg #[.int .i64 c0_Length, .int .u32 c0_One, .int .u32 c0_Two]), (1, vl1), (2, .func (.func 39) #[.agg #[.int .i64 t6000_Length, .int .u32 t6000_One, .int .u32 t6000_Two]] #[]), (3, .func (.func 40) #[] #[optr ot4000 0])] := hf
  refine wp_mono (Q := fun e a w => e = .ret ∧ ∃ (u0 : Value), Fr 60 a [(8, .int .i64 r.1)] ∧ Hp S w0 w (Res.sl Ek.bool 4 u0 r.2 :: Res.obj 22 ot4000 [u0] :: ow)) ?_ ?_
  rotate_left
  · rintro e a w ⟨rfl, x0, hf, hp⟩
    exact ret1 hf rfl rfl ⟨x0, rfl, hp⟩
  refine wp_seq ?_
  refine wp_reg ?_
  refine st_boxO (cs := [.int .i64 c0_Length, .int .u32 c0_One, .int .u32 c0_Two]) hf (by decide) hp rfl rfl rfl ?_
  clear hf; intro a w v3 hf hp0; clear hp; have hp := hp0; clear hp0
  replace hp : Hp _ _ _ (Res.obj 40 v3 [.int .i64 c0_Length, .int .u32 c0_One, .int .u32 c0_Two] :: Res.sl Ek.bool 4 vt4000 t4000 :: Res.obj 22 ot4000 [vt4000] :: ow) := hp
  refine st_assign hf rfl rfl (by decide) ?_
  clear hf; intro a ha hf; clear ha
  refine st_nil hf ?_
  refine th_n ?_
  refine wp_seq ?_
  refine wp_seq ?_
  refine wp_reg ?_
  refine st_ldOA (m := 3) (us := [.int .i64 c0_Length, .int .u32 c0_One, .int .u32 c0_Two]) hf (by decide) (by kernel_rfl) rfl rfl (hp.ob (i := 0) rfl) rfl rfl ?_
  clear hf; intro a ha hf; clear ha
  obtain ⟨q5, hcall6, h⟩ := bnd h
  refine st_call hf (by decide) Try.func44 rfl rfl rfl rfl rfl (f_trellis_Code_Check_c hp _ _ _ hcall6) ?_
  rintro _ w ⟨rfl, hp0⟩
  clear hp; have hp := hp0; clear hp0
  replace hp : Hp _ _ _ (Res.obj 40 v3 [.int .i64 c0_Length, .int .u32 c0_One, .int .u32 c0_Two] :: Res.sl Ek.bool 4 vt4000 t4000 :: Res.obj 22 ot4000 [vt4000] :: ow) := hp
  refine ⟨_, rfl, ?_⟩
  clear hf; intro a hf
  refine st_assign hf rfl rfl (by decide) ?_
  clear hf; intro a ha hf; clear ha
  refine st_nil hf ?_
  refine th_n ?_
  refine wp_seq ?_
  refine wp_reg ?_
  refine st_move hf rfl rfl (by decide) ?_
  clear hf; intro a ha hf; clear ha
  refine st_ineq hf (by decide) rfl rfl rfl ?_
  clear hf; intro a ha hf; clear ha
  refine st_nil hf ?_
  refine th_n ?_
  refine wp_if hf rfl (fun hb => ?_) (fun hb => ?_)
  · replace h := ifT h hb
    refine wp_seq ?_
    refine wp_reg ?_
    refine st_move hf rfl rfl (by decide) ?_
    clear hf; intro a ha hf; clear ha
    refine st_assign hf rfl rfl (by decide) ?_
    clear hf; intro a ha hf; clear ha
    refine st_nil hf ?_
    refine th_n ?_
    refine wp_ret ?_
    refine th_r ?_
    obtain rfl := Option.some.inj h
    have hp : Hp _ _ _ (Res.sl Ek.bool 4 vt4000 t4000 :: Res.obj 22 ot4000 [vt4000] :: ow) := Hp.sel (pre := [Res.obj 40 v3 [.int .i64 c0_Length, .int .u32 c0_One, .int .u32 c0_Two], Res.sl Ek.bool 4 vt4000 t4000, Res.obj 22 ot4000 [vt4000]]) (tail := ow) (rs' := [Res.sl Ek.bool 4 vt4000 t4000, Res.obj 22 ot4000 [vt4000]]) hp [1, 2] (by decide) (by simp) rfl
    exact ⟨rfl, ⟨_, hf.sub ⟨rfl, trivial⟩, hp⟩⟩
  replace h := ifF h hb
  refine wp_skip ?_
  refine th_n ?_
  refine wp_seq ?_
  refine wp_seq ?_
  refine wp_reg ?_
  refine st_move hf rfl rfl (by decide) ?_
  clear hf; intro a ha hf; clear ha
  refine st_len (E := Ek.bool) hf (by decide) Try.underlying22 rfl rfl (hl1.sl hp) ?_
  clear hf; intro a ha hf; clear ha
  refine st_fa (o' := 0) hf (by decide) (off := 0) (sz := 1) (by kernel_rfl) (by decide) rfl rfl (hp.ob (i := 0) rfl) rfl ?_
  clear hf; intro a ha hf; clear ha
  refine st_ldO (u := .int .i64 c0_Length) hf (by decide) pl3 rfl rfl (hp.ob (i := 0) rfl) rfl ?_
  clear hf; intro a ha hf; clear ha
  refine st_iadd hf (by decide) rfl rfl rfl ?_
  clear hf; intro a ha hf; clear ha
  refine st_isub hf (by decide) rfl rfl rfl ?_
  clear hf; intro a ha hf; clear ha
  refine st_igtr hf (by decide) rfl rfl rfl ?_
  clear hf; intro a ha hf; clear ha
  refine st_nil hf ?_
  refine th_n ?_
  refine wp_if hf rfl (fun hb => ?_) (fun hb => ?_)
  · replace h := ifT h hb
    refine wp_seq ?_
    refine wp_reg ?_
    refine st_assign hf rfl rfl (by decide) ?_
    clear hf; intro a ha hf; clear ha
    refine st_nil hf ?_
    refine th_n ?_
    refine wp_ret ?_
    refine th_r ?_
    obtain rfl := Option.some.inj h
    have hp : Hp _ _ _ (Res.sl Ek.bool 4 vt4000 t4000 :: Res.obj 22 ot4000 [vt4000] :: ow) := Hp.sel (pre := [Res.obj 40 v3 [.int .i64 c0_Length, .int .u32 c0_One, .int .u32 c0_Two], Res.sl Ek.bool 4 vt4000 t4000, Res.obj 22 ot4000 [vt4000]]) (tail := ow) (rs' := [Res.sl Ek.bool 4 vt4000 t4000, Res.obj 22 ot4000 [vt4000]]) hp [1, 2] (by decide) (by simp) rfl
    exact ⟨rfl, ⟨_, hf.sub ⟨rfl, trivial⟩, hp⟩⟩
  replace h := ifF h hb
  refine wp_skip ?_
  refine th_n ?_
  refine wp_seq ?_
  refine wp_reg ?_
  refine st_assign hf rfl rfl (by decide) ?_
  clear hf; intro a ha hf; clear ha
  refine st_nil hf ?_
  refine th_n ?_
  refine wp_seq ?_
  refine wp_seq ?_
  refine wp_reg ?_
  refine st_move hf rfl rfl (by decide) ?_
  clear hf; intro a ha hf; clear ha
  refine st_len (E := Ek.bool) hf (by decide) Try.underlying22 rfl rfl (hl1.sl hp) ?_
  clear hf; intro a ha hf; clear ha
  refine st_fa (o' := 0) hf (by decide) (off := 0) (sz := 1) (by kernel_rfl) (by decide) rfl rfl (hp.ob (i := 0) rfl) rfl ?_
  clear hf; intro a ha hf; clear ha
  refine st_ldO (u := .int .i64 c0_Length) hf (by decide) pl3 rfl rfl (hp.ob (i := 0) rfl) rfl ?_
  clear hf; intro a ha hf; clear ha
  refine st_iadd hf (by decide) rfl rfl rfl ?_
  clear hf; intro a ha hf; clear ha
  refine st_isub hf (by decide) rfl rfl rfl ?_
  clear hf; intro a ha hf; clear ha
  refine st_move hf rfl rfl (by decide) ?_
  clear hf; intro a ha hf; clear ha
  refine st_nil hf ?_
  refine th_n ?_
  refine wp_block ?_
  obtain ⟨q24, hl, h⟩ := bnd h
  have hp : Hp _ _ _ (Res.sl Ek.bool 4 vt4000 t4000 :: Res.obj 22 ot4000 [vt4000] :: ow) := Hp.sel (pre := [Res.obj 40 v3 [.int .i64 c0_Length, .int .u32 c0_One, .int .u32 c0_Two], Res.sl Ek.bool 4 vt4000 t4000, Res.obj 22 ot4000 [vt4000]]) (tail := ow) (rs' := [Res.sl Ek.bool 4 vt4000 t4000, Res.obj 22 ot4000 [vt4000]]) hp [1, 2] (by decide) (by simp) rfl
  refine wp_loop_pure (f := (f_trellis_Code_through.s1 c0_Length l1 t6000_Length t6000_One t6000_Two)) (s := (t4000, (0 : Int), (0 : Int))) (fun s a w => ∃ (v7 : Value), Fr 60 a [(1, vl1), (2, .func (.func 39) #[.agg #[.int .i64 t6000_Length, .int .u32 t6000_One, .int .u32 t6000_Two]] #[]), (3, .func (.func 40) #[] #[optr ot4000 0]), (10, .int .i64 s.2.1), (32, .int .i64 (IntKind.i64.wrap ((IntKind.i64.wrap ((l1.length : Int) + c0_Length)) - (1 : Int)))), (33, .int .i64 s.2.2)] ∧ Hp S w0 w (Res.sl Ek.bool 4 v7 s.1 :: Res.obj 22 ot4000 [v7] :: ow)) (fun q e a w => e = .exit 0 ∧ ∃ (v10 : Value), Fr 60 a [(3, .func (.func 40) #[] #[optr ot4000 0])] ∧ Hp S w0 w (Res.sl Ek.bool 4 v10 q :: Res.obj 22 ot4000 [v10] :: ow)) ?_ hl ⟨_, hf.sub ⟨rfl, rfl, rfl, rfl, rfl, rfl, trivial⟩, hp⟩ ?_
  · clear hl hf hp
    intro s x a w h hI
    obtain ⟨tell3_0c, state10, t33⟩ := s
    obtain ⟨v7, hf, hp⟩ : ∃ (v7 : Value), Fr 60 a [(1, vl1), (2, .func (.func 39) #[.agg #[.int .i64 t6000_Length, .int .u32 t6000_One, .int .u32 t6000_Two]] #[]), (3, .func (.func 40) #[] #[optr ot4000 0]), (10, .int .i64 state10), (32, .int .i64 (IntKind.i64.wrap ((IntKind.i64.wrap ((l1.length : Int) + c0_Length)) - (1 : Int)))), (33, .int .i64 t33)] ∧ Hp S w0 w (Res.sl Ek.bool 4 v7 tell3_0c :: Res.obj 22 ot4000 [v7] :: ow) := hI
    replace h : f_trellis_Code_through.s1c c0_Length l1 t6000_Length t6000_One t6000_Two tell3_0c state10 t33 = some x := h
    unfold f_trellis_Code_through.s1c at h
    refine wp_seq ?_
    refine wp_reg ?_
    refine st_ilss hf (by decide) rfl rfl rfl ?_
    clear hf; intro a ha hf; clear ha
    refine st_nil hf ?_
    refine th_n ?_
    refine wp_seq ?_
    refine wp_if hf rfl (fun hb => ?_) (fun hb => ?_)
    · replace h := ifT h hb
      refine wp_skip ?_
      refine th_n ?_
      refine wp_seq ?_
      refine wp_block ?_
      refine wp_seq ?_
      refine wp_reg ?_
      refine st_move hf rfl rfl (by decide) ?_
      clear hf; intro a ha hf; clear ha
      refine st_assign hf rfl rfl (by decide) ?_
      clear hf; intro a ha hf; clear ha
      refine st_nil hf ?_
      refine th_n ?_
      refine wp_seq ?_
      refine wp_reg ?_
      refine st_move hf rfl rfl (by decide) ?_
      clear hf; intro a ha hf; clear ha
      refine st_move hf rfl rfl (by decide) ?_
      clear hf; intro a ha hf; clear ha
      refine st_move hf rfl rfl (by decide) ?_
      clear hf; intro a ha hf; clear ha
      refine st_move hf rfl rfl (by decide) ?_
      clear hf; intro a ha hf; clear ha
      refine st_len (E := Ek.bool) hf (by decide) Try.underlying22 rfl rfl (hl1.sl hp) ?_
      clear hf; intro a ha hf; clear ha
      refine st_ilss hf (by decide) rfl rfl rfl ?_
      clear hf; intro a ha hf; clear ha
      refine st_move hf rfl rfl (by decide) ?_
      clear hf; intro a ha hf; clear ha
      obtain ⟨z15, hz13, h⟩ := bnd h
      refine wpList_cut 5 (fun a w => Fr 60 a [(1, vl1), (2, .func (.func 39) #[.agg #[.int .i64 t6000_Length, .int .u32 t6000_One, .int .u32 t6000_Two]] #[]), (3, .func (.func 40) #[] #[optr ot4000 0]), (32, .int .i64 (IntKind.i64.wrap ((IntKind.i64.wrap ((l1.length : Int) + c0_Length)) - (1 : Int)))), (33, .int .i64 t33), (37, .func (.func 39) #[.agg #[.int .i64 t6000_Length, .int .u32 t6000_One, .int .u32 t6000_Two]] #[]), (38, .int .i64 state10), (48, .bool z15)] ∧ Hp S w0 w (Res.sl Ek.bool 4 v7 tell3_0c :: Res.obj 22 ot4000 [v7] :: ow)) ?_ ?_
      · rcases Bool.eq_false_or_eq_true (decide (t33 < (l1.length : Int))) with hb14 | hb14
        · skip
          replace hz13 := ifT hz13 hb14
          refine st_move hf (wantY hf rfl rfl hb14) rfl (by decide) ?_
          clear hf; intro a ha hf; clear ha
          refine st_move hf (wantY hf rfl rfl hb14) rfl (by decide) ?_
          clear hf; intro a ha hf; clear ha
          obtain ⟨hc16, hz13⟩ := chk hz13
          refine st_index (E := Ek.bool) hf (by decide) Try.underlying22 elt4 (wantY hf rfl rfl hb14) rfl rfl (hl1.sl hp) hc16.1 hc16.2 ?_
          clear hf; intro a ha hf; clear ha
          refine st_ldB hf (by decide) pl4 (wantY hf rfl rfl hb14) rfl (hl1.sl hp) hc16.1 hc16.2 ?_
          clear hf; intro a ha hf; clear ha
          obtain rfl := Option.some.inj hz13
          refine st_pick (v := .bool (gt l1 t33)) hf rfl rfl (fun hb' => ?_) (fun hb' => ?_) (by decide) ?_
          · rfl
          · exact absurd (hb14.symm.trans hb') (by decide)
          clear hf; intro a ha hf; clear ha
          refine st_nil hf (th_n ?_)
          exact ⟨hf.sub ⟨rfl, rfl, rfl, rfl, rfl, rfl, rfl, rfl, trivial⟩, hp⟩
        replace hz13 := ifF hz13 hb14
        refine st_skip hf (wantN hf rfl rfl hb14) rfl (by decide) ?_ rfl
        clear hf; intro a hf
        refine st_skip hf (wantN hf rfl rfl hb14) rfl (by decide) ?_ rfl
        clear hf; intro a hf
        refine st_skip hf (wantN hf rfl rfl hb14) rfl (by decide) ?_ rfl
        clear hf; intro a hf
        refine st_skip hf (wantN hf rfl rfl hb14) rfl (by decide) ?_ rfl
        clear hf; intro a hf
        obtain rfl := Option.some.inj hz13
        refine st_pick (v := .bool false) hf rfl rfl (fun hb' => ?_) (fun hb' => ?_) (by decide) ?_
        · exact absurd (hb14.symm.trans hb') (by decide)
        · rfl
        clear hf; intro a ha hf; clear ha
        refine st_nil hf (th_n ?_)
        exact ⟨hf.sub ⟨rfl, rfl, rfl, rfl, rfl, rfl, rfl, rfl, trivial⟩, hp⟩
      rintro a w ⟨hf, hp⟩
      obtain ⟨q17, hcall18, h⟩ := bnd h
      refine st_callM hf (by decide) Try.func39 rfl rfl rfl rfl rfl (f_trellis_Code_step_c hp _ _ _ _ _ hcall18) ?_
      rintro _ w ⟨rfl, hp0⟩
      clear hp; have hp := hp0; clear hp0
      replace hp : Hp _ _ _ (Res.sl Ek.bool 4 v7 tell3_0c :: Res.obj 22 ot4000 [v7] :: ow) := hp
      refine ⟨_, rfl, ?_⟩
      clear hf; intro a hf
      refine st_move hf rfl rfl (by decide) ?_
      clear hf; intro a ha hf; clear ha
      refine st_extract hf (by decide) rfl rfl rfl ?_
      clear hf; intro a ha hf; clear ha
      refine st_extract hf (by decide) rfl rfl rfl ?_
      clear hf; intro a ha hf; clear ha
      refine st_extract hf (by decide) rfl rfl rfl ?_
      clear hf; intro a ha hf; clear ha
      refine st_assign hf rfl rfl (by decide) ?_
      clear hf; intro a ha hf; clear ha
      refine st_assign hf rfl rfl (by decide) ?_
      clear hf; intro a ha hf; clear ha
      refine st_assign hf rfl rfl (by decide) ?_
      clear hf; intro a ha hf; clear ha
      refine st_nil hf ?_
      refine th_n ?_
      refine wp_seq ?_
      refine wp_reg ?_
      refine st_move hf rfl rfl (by decide) ?_
      clear hf; intro a ha hf; clear ha
      refine st_move hf rfl rfl (by decide) ?_
      clear hf; intro a ha hf; clear ha
      refine st_move hf rfl rfl (by decide) ?_
      clear hf; intro a ha hf; clear ha
      refine st_move hf rfl rfl (by decide) ?_
      clear hf; intro a ha hf; clear ha
      obtain ⟨q19, hcall20, h⟩ := bnd h
      have hp21 : Hp _ _ _ (Res.sl Ek.bool 4 v7 tell3_0c :: Res.obj 22 ot4000 [v7] :: ow) := Hp.sel (pre := [Res.sl Ek.bool 4 v7 tell3_0c, Res.obj 22 ot4000 [v7]]) (tail := ow) (rs' := [Res.sl Ek.bool 4 v7 tell3_0c, Res.obj 22 ot4000 [v7]]) hp [0, 1] (by decide) (by simp) rfl
      refine st_call hf (by decide) Try.func40 rfl rfl rfl rfl rfl (f_trellis_Code_Encode_1_c _ _ _ _ _ _ hp21 hcall20) ?_
      rintro _ w ⟨v22, rfl, hp0⟩
      clear hp; have hp := hp0; clear hp0
      replace hp : Hp _ _ _ (Res.sl Ek.bool 4 v22 q19 :: Res.obj 22 ot4000 [v22] :: ow) := hp
      refine ⟨_, rfl, ?_⟩
      clear hf; intro a hf
      refine st_nil hf ?_
      refine th_n ?_
      refine wp_reg ?_
      refine st_move hf rfl rfl (by decide) ?_
      clear hf; intro a ha hf; clear ha
      refine st_assign hf rfl rfl (by decide) ?_
      clear hf; intro a ha hf; clear ha
      refine st_nil hf ?_
      refine ib_n ?_
      refine th_n ?_
      refine wp_reg ?_
      refine st_iadd hf (by decide) rfl rfl rfl ?_
      clear hf; intro a ha hf; clear ha
      refine st_move hf rfl rfl (by decide) ?_
      clear hf; intro a ha hf; clear ha
      refine st_nil hf ?_
      obtain rfl := Option.some.inj h
      exact rnd_l ⟨_, hf.sub ⟨rfl, rfl, rfl, rfl, rfl, rfl, trivial⟩, hp⟩
    replace h := ifF h hb
    refine wp_exit ?_
    refine th_e ?_
    obtain rfl := Option.some.inj h
    exact rnd_r (by simp) ⟨rfl, _, hf.sub ⟨rfl, trivial⟩, hp⟩
  clear hl hf hp
  intro e a w hne hO
  obtain ⟨rfl, v10, hf, hp⟩ := hO
  refine ib_same ?_
  refine th_n ?_
  refine wp_seq ?_
  refine wp_reg ?_
  refine st_assign hf rfl rfl (by decide) ?_
  clear hf; intro a ha hf; clear ha
  refine st_nil hf ?_
  refine th_n ?_
  refine wp_ret ?_
  obtain rfl := Option.some.inj h
  exact ⟨rfl, ⟨_, hf.sub ⟨rfl, trivial⟩, hp⟩⟩

noncomputable def f_trellis_Code_Encode (c0_Length : Int) (c0_One : Int) (c0_Two : Int) (bits1 : (List Bool)) : Option ((List Bool) × Int) := ((f_trellis_Code_through c0_Length c0_One c0_Two bits1 c0_Length c0_One c0_Two ([])).bind fun q5 => (some (q5.2, q5.1)))
theorem f_trellis_Code_Encode_c {S : Nat → Prop} {w0 w : World} {ow : List Res} (hp : Hp S w0 w ow) (c0_Length : Int) (c0_One : Int) (c0_Two : Int) (vbits1 : Value) (bits1 : (List Bool)) (hbits1 : RdS Ek.bool S w0 vbits1 bits1) {r : ((List Bool) × Int)} (h : f_trellis_Code_Encode c0_Length c0_One c0_Two bits1 = some r) :
    Calls Try.prog 27 #[.agg #[.int .i64 c0_Length, .int .u32 c0_One, .int .u32 c0_Two], vbits1] w (fun e w' => ∃ (u0 : Value), e = .returned (.tuple #[u0, .int .i64 r.2]) ∧ Hp S w0 w' (Res.sl Ek.bool 4 u0 r.1 :: ow)) := by
  unfold f_trellis_Code_Encode at h
  refine enter (n := 16) (args := [.agg #[.int .i64 c0_Length, .int .u32 c0_One, .int .u32 c0_Two], vbits1]) Try.func27 rfl rfl (Nat.le_of_ble_eq_true rfl) fun a hf => ?_
  replace hf : Fr 16 a [(0, .agg #[.int .i64 c0_Length, .int .u32 c0_One, .int .u32 c0_Two]), (1, vbits1)] := hf
  refine wp_mono (Q := fun e a w => e = .ret ∧ ∃ (u0 : Value), Fr 16 a [(4, u0), (5, .int .i64 r.2)] ∧ Hp S w0 w (Res.sl Ek.bool 4 u0 r.1 :: ow)) ?_ ?_
  rotate_left
  · rintro e a w ⟨rfl, x0, hf, hp⟩
    exact ret2 hf rfl rfl rfl ⟨x0, rfl, hp⟩
  refine wp_seq ?_
  refine wp_reg ?_
  refine st_boxO (cs := [.int .i64 c0_Length, .int .u32 c0_One, .int .u32 c0_Two]) hf (by decide) hp rfl rfl rfl ?_
  clear hf; intro a w v1 hf hp0; clear hp; have hp := hp0; clear hp0
  replace hp : Hp _ _ _ (Res.obj 40 v1 [.int .i64 c0_Length, .int .u32 c0_One, .int .u32 c0_Two] :: ow) := hp
  refine st_assign hf rfl rfl (by decide) ?_
  clear hf; intro a ha hf; clear ha
  refine st_assign hf rfl rfl (by decide) ?_
  clear hf; intro a ha hf; clear ha
  refine st_nil hf ?_
  refine th_n ?_
  refine wp_seq ?_
  refine wp_reg ?_
  refine st_alloc (cs := [.slice none 0 0]) (zv := .slice none 0 0) hf (by decide) (by kernel_rfl) rfl hp rfl ?_
  clear hf; intro a w v3 hf hp0; clear hp; have hp := hp0; clear hp0
  replace hp : Hp _ _ _ (Res.obj 22 v3 [.slice none 0 0] :: Res.obj 40 v1 [.int .i64 c0_Length, .int .u32 c0_One, .int .u32 c0_Two] :: ow) := hp
  refine st_nil hf ?_
  refine th_n ?_
  refine wp_seq ?_
  refine wp_reg ?_
  refine st_ldOA (m := 3) (us := [.int .i64 c0_Length, .int .u32 c0_One, .int .u32 c0_Two]) hf (by decide) (by kernel_rfl) rfl rfl (hp.ob (i := 1) rfl) rfl rfl ?_
  clear hf; intro a ha hf; clear ha
  refine st_move hf rfl rfl (by decide) ?_
  clear hf; intro a ha hf; clear ha
  refine st_ldOA (m := 3) (us := [.int .i64 c0_Length, .int .u32 c0_One, .int .u32 c0_Two]) hf (by decide) (by kernel_rfl) rfl rfl (hp.ob (i := 1) rfl) rfl rfl ?_
  clear hf; intro a ha hf; clear ha
  refine st_makeFuncM hf (by decide) rfl rfl ?_
  clear hf; intro a ha hf; clear ha
  refine st_makeFunc1 hf (by decide) rfl rfl ?_
  clear hf; intro a ha hf; clear ha
  obtain ⟨q5, hcall6, h⟩ := bnd h
  have hp := hp.nil Ek.bool 4
  have hp8 : Hp _ _ _ (Res.sl Ek.bool 4 (.slice none 0 0) ([] : List Bool) :: Res.obj 22 v3 [.slice none 0 0] :: Res.obj 40 v1 [.int .i64 c0_Length, .int .u32 c0_One, .int .u32 c0_Two] :: ow) := Hp.sel (pre := [Res.sl Ek.bool 4 (.slice none 0 0) ([] : List Bool), Res.obj 22 v3 [.slice none 0 0], Res.obj 40 v1 [.int .i64 c0_Length, .int .u32 c0_One, .int .u32 c0_Two]]) (tail := ow) (rs' := [Res.sl Ek.bool 4 (.slice none 0 0) ([] : List Bool), Res.obj 22 v3 [.slice none 0 0], Res.obj 40 v1 [.int .i64 c0_Length, .int .u32 c0_One, .int .u32 c0_Two]]) hp [0, 1, 2] (by decide) (by simp) rfl
  refine st_call hf (by decide) Try.func38 rfl rfl rfl rfl rfl (f_trellis_Code_through_c _ _ _ _ _ hbits1 _ _ _ _ _ _ hp8 hcall6) ?_
  rintro _ w ⟨v9, rfl, hp0⟩
  clear hp; have hp := hp0; clear hp0
  replace hp : Hp _ _ _ (Res.sl Ek.bool 4 v9 q5.2 :: Res.obj 22 v3 [v9] :: Res.obj 40 v1 [.int .i64 c0_Length, .int .u32 c0_One, .int .u32 c0_Two] :: ow) := hp
  refine ⟨_, rfl, ?_⟩
  clear hf; intro a hf
  refine st_assign hf rfl rfl (by decide) ?_
  clear hf; intro a ha hf; clear ha
  refine st_nil hf ?_
  refine th_n ?_
  refine wp_seq ?_
  refine wp_reg ?_
  refine st_ldO (u := v9) hf (by decide) pl22 rfl rfl (hp.ob (i := 1) rfl) rfl ?_
  clear hf; intro a ha hf; clear ha
  refine st_move hf rfl rfl (by decide) ?_
  clear hf; intro a ha hf; clear ha
  refine st_assign hf rfl rfl (by decide) ?_
  clear hf; intro a ha hf; clear ha
  refine st_assign hf rfl rfl (by decide) ?_
  clear hf; intro a ha hf; clear ha
  refine st_nil hf ?_
  refine th_n ?_
  refine wp_ret ?_
  obtain rfl := Option.some.inj h
  have hp : Hp _ _ _ (Res.sl Ek.bool 4 v9 q5.2 :: ow) := Hp.sel (pre := [Res.sl Ek.bool 4 v9 q5.2, Res.obj 22 v3 [v9], Res.obj 40 v1 [.int .i64 c0_Length, .int .u32 c0_One, .int .u32 c0_Two]]) (tail := ow) (rs' := [Res.sl Ek.bool 4 v9 q5.2]) hp [0] (by decide) (by simp) rfl
  exact ⟨rfl, ⟨_, hf.sub ⟨rfl, rfl, trivial⟩, hp⟩⟩

noncomputable def f_trellis_Code_States (c0_Length : Int) (c0_One : Int) (c0_Two : Int) : Option (Int × Int) := ((f_trellis_Code_Check c0_Length c0_One c0_Two).bind fun q3 => (if (q3 != (0 : Int)) = true then (some ((0 : Int), q3)) else (if 0 ≤ (IntKind.i64.wrap (c0_Length - (1 : Int))) then (some ((ishl .i64 (1 : Int) (IntKind.i64.wrap (c0_Length - (1 : Int)))), (0 : Int))) else none)))
theorem f_trellis_Code_States_c {S : Nat → Prop} {w0 w : World} {ow : List Res} (hp : Hp S w0 w ow) (c0_Length : Int) (c0_One : Int) (c0_Two : Int) {r : (Int × Int)} (h : f_trellis_Code_States c0_Length c0_One c0_Two = some r) :
    Calls Try.prog 41 #[.agg #[.int .i64 c0_Length, .int .u32 c0_One, .int .u32 c0_Two]] w (fun e w' => e = .returned (.tuple #[.int .i64 r.1, .int .i64 r.2]) ∧ Hp S w0 w' (ow)) := by
  unfold f_trellis_Code_States at h
  refine enter (n := 14) (args := [.agg #[.int .i64 c0_Length, .int .u32 c0_One, .int .u32 c0_Two]]) Try.func41 rfl rfl (Nat.le_of_ble_eq_true rfl) fun a hf => ?_
  replace hf : Fr 14 a [(0, .agg #[.int .i64 c0_Length, .int .u32 c0_One, .int .u32 c0_Two])] := hf
  refine wp_mono (Q := fun e a w => e = .ret ∧ Fr 14 a [(2, .int .i64 r.1), (3, .int .i64 r.2)] ∧ Hp S w0 w (ow)) ?_ ?_
  rotate_left
  · rintro e a w ⟨rfl, hf, hp⟩
    exact ret2 hf rfl rfl rfl ⟨rfl, hp⟩
  refine wp_seq ?_
  refine wp_reg ?_
  refine st_boxO (cs := [.int .i64 c0_Length, .int .u32 c0_One, .int .u32 c0_Two]) hf (by decide) hp rfl rfl rfl ?_
  clear hf; intro a w v1 hf hp0; clear hp; have hp := hp0; clear hp0
  replace hp : Hp _ _ _ (Res.obj 40 v1 [.int .i64 c0_Length, .int .u32 c0_One, .int .u32 c0_Two] :: ow) := hp
  refine st_assign hf rfl rfl (by decide) ?_
  clear hf; intro a ha hf; clear ha
  refine st_assign hf rfl rfl (by decide) ?_
  clear hf; intro a ha hf; clear ha
  refine st_nil hf ?_
  refine th_n ?_
  refine wp_seq ?_
  refine wp_seq ?_
  refine wp_reg ?_
  refine st_ldOA (m := 3) (us := [.int .i64 c0_Length, .int .u32 c0_One, .int .u32 c0_Two]) hf (by decide) (by kernel_rfl) rfl rfl (hp.ob (i := 0) rfl) rfl rfl ?_
  clear hf; intro a ha hf; clear ha
  obtain ⟨q3, hcall4, h⟩ := bnd h
  refine st_call hf (by decide) Try.func44 rfl rfl rfl rfl rfl (f_trellis_Code_Check_c hp _ _ _ hcall4) ?_
  rintro _ w ⟨rfl, hp0⟩
  clear hp; have hp := hp0; clear hp0
  replace hp : Hp _ _ _ (Res.obj 40 v1 [.int .i64 c0_Length, .int .u32 c0_One, .int .u32 c0_Two] :: ow) := hp
  refine ⟨_, rfl, ?_⟩
  clear hf; intro a hf
  refine st_assign hf rfl rfl (by decide) ?_
  clear hf; intro a ha hf; clear ha
  refine st_nil hf ?_
  refine th_n ?_
  refine wp_seq ?_
  refine wp_reg ?_
  refine st_move hf rfl rfl (by decide) ?_
  clear hf; intro a ha hf; clear ha
  refine st_ineq hf (by decide) rfl rfl rfl ?_
  clear hf; intro a ha hf; clear ha
  refine st_nil hf ?_
  refine th_n ?_
  refine wp_if hf rfl (fun hb => ?_) (fun hb => ?_)
  · replace h := ifT h hb
    refine wp_seq ?_
    refine wp_reg ?_
    refine st_move hf rfl rfl (by decide) ?_
    clear hf; intro a ha hf; clear ha
    refine st_assign hf rfl rfl (by decide) ?_
    clear hf; intro a ha hf; clear ha
    refine st_assign hf rfl rfl (by decide) ?_
    clear hf; intro a ha hf; clear ha
    refine st_nil hf ?_
    refine th_n ?_
    refine wp_ret ?_
    refine th_r ?_
    obtain rfl := Option.some.inj h
    have hp : Hp _ _ _ (ow) := Hp.sel (pre := [Res.obj 40 v1 [.int .i64 c0_Length, .int .u32 c0_One, .int .u32 c0_Two]]) (tail := ow) (rs' := []) hp [] (by decide) (by simp) rfl
    exact ⟨rfl, ⟨hf.sub ⟨rfl, rfl, trivial⟩, hp⟩⟩
  replace h := ifF h hb
  refine wp_skip ?_
  refine th_n ?_
  refine wp_seq ?_
  refine wp_reg ?_
  refine st_fa (o' := 0) hf (by decide) (off := 0) (sz := 1) (by kernel_rfl) (by decide) rfl rfl (hp.ob (i := 0) rfl) rfl ?_
  clear hf; intro a ha hf; clear ha
  refine st_ldO (u := .int .i64 c0_Length) hf (by decide) pl3 rfl rfl (hp.ob (i := 0) rfl) rfl ?_
  clear hf; intro a ha hf; clear ha
  refine st_isub hf (by decide) rfl rfl rfl ?_
  clear hf; intro a ha hf; clear ha
  obtain ⟨hc5, h⟩ := chk h
  refine st_ishl hf (by decide) rfl rfl rfl hc5 ?_
  clear hf; intro a ha hf; clear ha
  refine st_assign hf rfl rfl (by decide) ?_
  clear hf; intro a ha hf; clear ha
  refine st_assign hf rfl rfl (by decide) ?_
  clear hf; intro a ha hf; clear ha
  refine st_nil hf ?_
  refine th_n ?_
  refine wp_ret ?_
  obtain rfl := Option.some.inj h
  have hp : Hp _ _ _ (ow) := Hp.sel (pre := [Res.obj 40 v1 [.int .i64 c0_Length, .int .u32 c0_One, .int .u32 c0_Two]]) (tail := ow) (rs' := []) hp [] (by decide) (by simp) rfl
  exact ⟨rfl, ⟨hf.sub ⟨rfl, rfl, trivial⟩, hp⟩⟩

noncomputable def f_trellis_Code_Free_1.s1c (l0 : (List Bool)) (w3 : Int) (t8 : Int) : Option ((Int × Int) ⊕ Int) := (if (decide (t8 < (l0.length : Int))) = true then (if 0 ≤ t8 ∧ t8 < (l0.length : Int) then (if (gt l0 t8) = true then (some (Sum.inl ((IntKind.i64.wrap (w3 + (1 : Int))), (IntKind.i64.wrap (t8 + (1 : Int)))))) else (some (Sum.inl (w3, (IntKind.i64.wrap (t8 + (1 : Int))))))) else none) else (some (Sum.inr w3)))
noncomputable def f_trellis_Code_Free_1.s1 (l0 : (List Bool)) (s : (Int × Int)) : Option ((Int × Int) ⊕ Int) := f_trellis_Code_Free_1.s1c l0 s.1 s.2
noncomputable def f_trellis_Code_Free_1 (l0 : (List Bool)) : Option Int := ((loop (f_trellis_Code_Free_1.s1 l0) ((0 : Int), (0 : Int))).bind (fun q2 => (some q2)))
theorem f_trellis_Code_Free_1_c {S : Nat → Prop} {w0 w : World} {ow : List Res} (hp : Hp S w0 w ow) (vl0 : Value) (l0 : (List Bool)) (hl0 : RdS Ek.bool S w0 vl0 l0) {r : Int} (h : f_trellis_Code_Free_1 l0 = some r) :
    Calls Try.prog 42 #[vl0] w (fun e w' => e = .returned (.int .i64 r) ∧ Hp S w0 w' (ow)) := by
  unfold f_trellis_Code_Free_1 at h
  refine enter (n := 17) (args := [vl0]) Try.func42 rfl rfl (Nat.le_of_ble_eq_true rfl) fun a hf => ?_
  replace hf : Fr 17 a [(0, vl0)] := hf
  refine wp_mono (Q := fun e a w => e = .ret ∧ Fr 17 a [(2, .int .i64 r)] ∧ Hp S w0 w (ow)) ?_ ?_
  rotate_left
  · rintro e a w ⟨rfl, hf, hp⟩
    exact ret1 hf rfl rfl ⟨rfl, hp⟩
  refine wp_seq ?_
  refine wp_reg ?_
  refine st_assign hf rfl rfl (by decide) ?_
  clear hf; intro a ha hf; clear ha
  refine st_nil hf ?_
  refine th_n ?_
  refine wp_seq ?_
  refine wp_reg ?_
  refine st_assign hf rfl rfl (by decide) ?_
  clear hf; intro a ha hf; clear ha
  refine st_nil hf ?_
  refine th_n ?_
  refine wp_seq ?_
  refine wp_seq ?_
  refine wp_reg ?_
  refine st_move hf rfl rfl (by decide) ?_
  clear hf; intro a ha hf; clear ha
  refine st_len (E := Ek.bool) hf (by decide) Try.underlying22 rfl rfl (hl0.sl hp) ?_
  clear hf; intro a ha hf; clear ha
  refine st_move hf rfl rfl (by decide) ?_
  clear hf; intro a ha hf; clear ha
  refine st_nil hf ?_
  refine th_n ?_
  refine wp_block ?_
  obtain ⟨q2, hl, h⟩ := bnd h
  refine wp_loop_pure (f := (f_trellis_Code_Free_1.s1 l0)) (s := ((0 : Int), (0 : Int))) (fun s a w => Fr 17 a [(3, .int .i64 s.1), (6, vl0), (7, .int .i64 (l0.length : Int)), (8, .int .i64 s.2)] ∧ Hp S w0 w (ow)) (fun q e a w => e = .exit 0 ∧ Fr 17 a [(3, .int .i64 q)] ∧ Hp S w0 w (ow)) ?_ hl ⟨hf.sub ⟨rfl, rfl, rfl, rfl, trivial⟩, hp⟩ ?_
  · clear hl hf hp
    intro s x a w h hI
    obtain ⟨w3, t8⟩ := s
    obtain ⟨hf, hp⟩ : Fr 17 a [(3, .int .i64 w3), (6, vl0), (7, .int .i64 (l0.length : Int)), (8, .int .i64 t8)] ∧ Hp S w0 w (ow) := hI
    replace h : f_trellis_Code_Free_1.s1c l0 w3 t8 = some x := h
    unfold f_trellis_Code_Free_1.s1c at h
    refine wp_seq ?_
    refine wp_reg ?_
    refine st_ilss hf (by decide) rfl rfl rfl ?_
    clear hf; intro a ha hf; clear ha
    refine st_nil hf ?_
    refine th_n ?_
    refine wp_seq ?_
    refine wp_if hf rfl (fun hb => ?_) (fun hb => ?_)
    · replace h := ifT h hb
      refine wp_skip ?_
      refine th_n ?_
      refine wp_seq ?_
      refine wp_block ?_
      refine wp_seq ?_
      refine wp_reg ?_
      obtain ⟨hc1, h⟩ := chk h
      refine st_index (E := Ek.bool) hf (by decide) Try.underlying22 elt4 rfl rfl rfl (hl0.sl hp) hc1.1 hc1.2 ?_
      clear hf; intro a ha hf; clear ha
      refine st_ldB hf (by decide) pl4 rfl rfl (hl0.sl hp) hc1.1 hc1.2 ?_
      clear hf; intro a ha hf; clear ha
      refine st_assign hf rfl rfl (by decide) ?_
      clear hf; intro a ha hf; clear ha
      refine st_nil hf ?_
      refine th_n ?_
      refine wp_seq ?_
      refine wp_reg ?_
      refine st_move hf rfl rfl (by decide) ?_
      clear hf; intro a ha hf; clear ha
      refine st_nil hf ?_
      refine th_n ?_
      refine wp_if hf rfl (fun hb => ?_) (fun hb => ?_)
      · replace h := ifT h hb
        refine wp_reg ?_
        refine st_move hf rfl rfl (by decide) ?_
        clear hf; intro a ha hf; clear ha
        refine st_iadd hf (by decide) rfl rfl rfl ?_
        clear hf; intro a ha hf; clear ha
        refine st_assign hf rfl rfl (by decide) ?_
        clear hf; intro a ha hf; clear ha
        refine st_nil hf ?_
        refine ib_n ?_
        refine th_n ?_
        refine wp_reg ?_
        refine st_iadd hf (by decide) rfl rfl rfl ?_
        clear hf; intro a ha hf; clear ha
        refine st_move hf rfl rfl (by decide) ?_
        clear hf; intro a ha hf; clear ha
        refine st_nil hf ?_
        obtain rfl := Option.some.inj h
        exact rnd_l ⟨hf.sub ⟨rfl, rfl, rfl, rfl, trivial⟩, hp⟩
      replace h := ifF h hb
      refine wp_skip ?_
      refine ib_n ?_
      refine th_n ?_
      refine wp_reg ?_
      refine st_iadd hf (by decide) rfl rfl rfl ?_
      clear hf; intro a ha hf; clear ha
      refine st_move hf rfl rfl (by decide) ?_
      clear hf; intro a ha hf; clear ha
      refine st_nil hf ?_
      obtain rfl := Option.some.inj h
      exact rnd_l ⟨hf.sub ⟨rfl, rfl, rfl, rfl, trivial⟩, hp⟩
    replace h := ifF h hb
    refine wp_exit ?_
    refine th_e ?_
    obtain rfl := Option.some.inj h
    exact rnd_r (by simp) ⟨rfl, hf.sub ⟨rfl, trivial⟩, hp⟩
  clear hl hf hp
  intro e a w hne hO
  obtain ⟨rfl, hf, hp⟩ := hO
  refine ib_same ?_
  refine th_n ?_
  refine wp_seq ?_
  refine wp_reg ?_
  refine st_move hf rfl rfl (by decide) ?_
  clear hf; intro a ha hf; clear ha
  refine st_assign hf rfl rfl (by decide) ?_
  clear hf; intro a ha hf; clear ha
  refine st_nil hf ?_
  refine th_n ?_
  refine wp_ret ?_
  obtain rfl := Option.some.inj h
  exact ⟨rfl, ⟨hf.sub ⟨rfl, trivial⟩, hp⟩⟩

noncomputable def f_trellis_Code_Free.s1c (least7 : (List Int)) (t26 : Int) : Option (((List Int) × Int) ⊕ (List Int)) := (if (decide (t26 < (64 : Int))) = true then (if 0 ≤ t26 ∧ t26 < (64 : Int) then (some (Sum.inl ((least7.set (t26).toNat (1048576 : Int)), (IntKind.i64.wrap (t26 + (1 : Int)))))) else none) else (some (Sum.inr least7)))
noncomputable def f_trellis_Code_Free.s1  (s : ((List Int) × Int)) : Option (((List Int) × Int) ⊕ (List Int)) := f_trellis_Code_Free.s1c s.1 s.2
noncomputable def f_trellis_Code_Free.s4c (c0_Length : Int) (c0_One : Int) (c0_Two : Int) (s12 : Int) (least7 : (List Int)) (t55 : Int) : Option (((List Int) × Int) ⊕ (List Int)) := (if (decide (t55 < (([false, true]).length : Int))) = true then (if 0 ≤ t55 ∧ t55 < (([false, true]).length : Int) then ((f_trellis_Code_step c0_Length c0_One c0_Two s12 (gt ([false, true]) t55)).bind fun q34 => (if 0 ≤ q34.1 ∧ q34.1 < (64 : Int) then (if 0 ≤ s12 ∧ s12 < (64 : Int) then ((f_trellis_Code_Free_1 ([q34.2.1, q34.2.2])).bind fun q48 => (if 0 ≤ q34.1 ∧ q34.1 < (64 : Int) then (some (Sum.inl ((least7.set (q34.1).toNat (imin (gt least7 q34.1) (IntKind.i64.wrap ((gt least7 s12) + q48)))), (IntKind.i64.wrap (t55 + (1 : Int)))))) else none)) else none) else none)) else none) else (some (Sum.inr least7)))
noncomputable def f_trellis_Code_Free.s4 (c0_Length : Int) (c0_One : Int) (c0_Two : Int) (s12 : Int) (s : ((List Int) × Int)) : Option (((List Int) × Int) ⊕ (List Int)) := f_trellis_Code_Free.s4c c0_Length c0_One c0_Two s12 s.1 s.2
noncomputable def f_trellis_Code_Free.s3c (c0_Length : Int) (c0_One : Int) (c0_Two : Int) (q3 : (Int × Int)) (least7 : (List Int)) (s12 : Int) : Option (((List Int) × Int) ⊕ (List Int)) := (if (decide (s12 < q3.1)) = true then ((loop (f_trellis_Code_Free.s4 c0_Length c0_One c0_Two s12) (least7, (0 : Int))).bind (fun q57 => (some (Sum.inl (q57, (IntKind.i64.wrap (s12 + (1 : Int)))))))) else (some (Sum.inr least7)))
noncomputable def f_trellis_Code_Free.s3 (c0_Length : Int) (c0_One : Int) (c0_Two : Int) (q3 : (Int × Int)) (s : ((List Int) × Int)) : Option (((List Int) × Int) ⊕ (List Int)) := f_trellis_Code_Free.s3c c0_Length c0_One c0_Two q3 s.1 s.2
noncomputable def f_trellis_Code_Free.s2c (c0_Length : Int) (c0_One : Int) (c0_Two : Int) (q3 : (Int × Int)) (least7 : (List Int)) (t46 : Int) : Option (((List Int) × Int) ⊕ (List Int)) := (if (decide (t46 < q3.1)) = true then ((loop (f_trellis_Code_Free.s3 c0_Length c0_One c0_Two q3) (least7, (1 : Int))).bind (fun q58 => (some (Sum.inl (q58, (IntKind.i64.wrap (t46 + (1 : Int)))))))) else (some (Sum.inr least7)))
noncomputable def f_trellis_Code_Free.s2 (c0_Length : Int) (c0_One : Int) (c0_Two : Int) (q3 : (Int × Int)) (s : ((List Int) × Int)) : Option (((List Int) × Int) ⊕ (List Int)) := f_trellis_Code_Free.s2c c0_Length c0_One c0_Two q3 s.1 s.2
noncomputable def f_trellis_Code_Free (c0_Length : Int) (c0_One : Int) (c0_Two : Int) : Option (Int × Int) := ((f_trellis_Code_States c0_Length c0_One c0_Two).bind fun q3 => (if (q3.2 != (0 : Int)) = true then (some ((0 : Int), q3.2)) else ((loop f_trellis_Code_Free.s1 ((List.replicate 64 (0 : Int)), (0 : Int))).bind (fun q11 => ((f_trellis_Code_step c0_Length c0_One c0_Two (0 : Int) true).bind fun q12 => ((f_trellis_Code_Free_1 ([q12.2.1, q12.2.2])).bind fun q16 => (if 0 ≤ q12.1 ∧ q12.1 < (64 : Int) then ((loop (f_trellis_Code_Free.s2 c0_Length c0_One c0_Two q3) ((q11.set (q12.1).toNat q16), (0 : Int))).bind (fun q59 => (some ((gt q59 (0 : Int)), (0 : Int))))) else none)))))))
theorem f_trellis_Code_Free_c {S : Nat → Prop} {w0 w : World} {ow : List Res} (hp : Hp S w0 w ow) (c0_Length : Int) (c0_One : Int) (c0_Two : Int) {r : (Int × Int)} (h : f_trellis_Code_Free c0_Length c0_One c0_Two = some r) :
    Calls Try.prog 28 #[.agg #[.int .i64 c0_Length, .int .u32 c0_One, .int .u32 c0_Two]] w (fun e w' => e = .returned (.tuple #[.int .i64 r.1, .int .i64 r.2]) ∧ Hp S w0 w' (ow)) := by
  unfold f_trellis_Code_Free at h
  refine enter (n := 86) (args := [.agg #[.int .i64 c0_Length, .int .u32 c0_One, .int .u32 c0_Two]]) Try.func28 rfl rfl (Nat.le_of_ble_eq_true rfl) fun a hf => ?_
  replace hf : Fr 86 a [(0, .agg #[.int .i64 c0_Length, .int .u32 c0_One, .int .u32 c0_Two])] := hf
  refine wp_mono (Q := fun e a w => e = .ret ∧ Fr 86 a [(2, .int .i64 r.1), (3, .int .i64 r.2)] ∧ Hp S w0 w (ow)) ?_ ?_
  rotate_left
  · rintro e a w ⟨rfl, hf, hp⟩
    exact ret2 hf rfl rfl rfl ⟨rfl, hp⟩
  refine wp_seq ?_
  refine wp_reg ?_
  refine st_boxO (cs := [.int .i64 c0_Length, .int .u32 c0_One, .int .u32 c0_Two]) hf (by decide) hp rfl rfl rfl ?_
  clear hf; intro a w v1 hf hp0; clear hp; have hp := hp0; clear hp0
  replace hp : Hp _ _ _ (Res.obj 40 v1 [.int .i64 c0_Length, .int .u32 c0_One, .int .u32 c0_Two] :: ow) := hp
  refine st_assign hf rfl rfl (by decide) ?_
  clear hf; intro a ha hf; clear ha
  refine st_assign hf rfl rfl (by decide) ?_
  clear hf; intro a ha hf; clear ha
  refine st_nil hf ?_
  refine th_n ?_
  refine wp_seq ?_
  refine wp_reg ?_
  refine st_ldOA (m := 3) (us := [.int .i64 c0_Length, .int .u32 c0_One, .int .u32 c0_Two]) hf (by decide) (by kernel_rfl) rfl rfl (hp.ob (i := 0) rfl) rfl rfl ?_
  clear hf; intro a ha hf; clear ha
  obtain ⟨q3, hcall4, h⟩ := bnd h
  refine st_call hf (by decide) Try.func41 rfl rfl rfl rfl rfl (f_trellis_Code_States_c hp _ _ _ hcall4) ?_
  rintro _ w ⟨rfl, hp0⟩
  clear hp; have hp := hp0; clear hp0
  replace hp : Hp _ _ _ (Res.obj 40 v1 [.int .i64 c0_Length, .int .u32 c0_One, .int .u32 c0_Two] :: ow) := hp
  refine ⟨_, rfl, ?_⟩
  clear hf; intro a hf
  refine st_move hf rfl rfl (by decide) ?_
  clear hf; intro a ha hf; clear ha
  refine st_extract hf (by decide) rfl rfl rfl ?_
  clear hf; intro a ha hf; clear ha
  refine st_extract hf (by decide) rfl rfl rfl ?_
  clear hf; intro a ha hf; clear ha
  refine st_assign hf rfl rfl (by decide) ?_
  clear hf; intro a ha hf; clear ha
  refine st_assign hf rfl rfl (by decide) ?_
  clear hf; intro a ha hf; clear ha
  refine st_nil hf ?_
  refine th_n ?_
  refine wp_seq ?_
  refine wp_seq ?_
  refine wp_reg ?_
  refine st_move hf rfl rfl (by decide) ?_
  clear hf; intro a ha hf; clear ha
  refine st_ineq hf (by decide) rfl rfl rfl ?_
  clear hf; intro a ha hf; clear ha
  refine st_nil hf ?_
  refine th_n ?_
  refine wp_if hf rfl (fun hb => ?_) (fun hb => ?_)
  · replace h := ifT h hb
    refine wp_seq ?_
    refine wp_reg ?_
    refine st_move hf rfl rfl (by decide) ?_
    clear hf; intro a ha hf; clear ha
    refine st_assign hf rfl rfl (by decide) ?_
    clear hf; intro a ha hf; clear ha
    refine st_assign hf rfl rfl (by decide) ?_
    clear hf; intro a ha hf; clear ha
    refine st_nil hf ?_
    refine th_n ?_
    refine wp_ret ?_
    refine th_r ?_
    obtain rfl := Option.some.inj h
    have hp : Hp _ _ _ (ow) := Hp.sel (pre := [Res.obj 40 v1 [.int .i64 c0_Length, .int .u32 c0_One, .int .u32 c0_Two]]) (tail := ow) (rs' := []) hp [] (by decide) (by simp) rfl
    exact ⟨rfl, ⟨hf.sub ⟨rfl, rfl, trivial⟩, hp⟩⟩
  replace h := ifF h hb
  refine wp_skip ?_
  refine th_n ?_
  refine wp_seq ?_
  refine wp_reg ?_
  refine st_assign hf rfl rfl (by decide) ?_
  clear hf; intro a ha hf; clear ha
  refine st_nil hf ?_
  refine th_n ?_
  refine wp_seq ?_
  refine wp_reg ?_
  refine st_allocA (E := (Ek.int .i64)) (N := 64) (zs := List.replicate 64 (0 : Int)) (zv := .agg ((List.replicate 64 ([.int .i64 0] : List Value)).flatten).toArray) hf (by decide) (by decide) (by decide) (by kernel_rfl) (reps_replicate (E := (Ek.int .i64)) (vs := ([.int .i64 0] : List Value)) (x := (0 : Int)) rfl 64) (by simp) hp rfl ?_
  clear hf; intro a w v5 hf hp0; clear hp; have hp := hp0; clear hp0
  replace hp : Hp _ _ _ (Res.sl (Ek.int .i64) 80 (aslv v5 64) (List.replicate 64 (0 : Int)) :: Res.obj 40 v1 [.int .i64 c0_Length, .int .u32 c0_One, .int .u32 c0_Two] :: ow) := hp
  refine st_nil hf ?_
  refine th_n ?_
  refine wp_seq ?_
  refine wp_seq ?_
  refine wp_reg ?_
  refine st_move hf rfl rfl (by decide) ?_
  clear hf; intro a ha hf; clear ha
  refine st_nil hf ?_
  refine th_n ?_
  refine wp_block ?_
  obtain ⟨q11, hl, h⟩ := bnd h
  refine wp_loop_pure (f := f_trellis_Code_Free.s1) (s := ((List.replicate 64 (0 : Int)), (0 : Int))) (fun s a w => Fr 86 a [(1, optr v1 0), (4, .int .i64 q3.1), (6, .func (.func 42) #[] #[]), (7, v5), (26, .int .i64 s.2)] ∧ Hp S w0 w (Res.sl (Ek.int .i64) 80 (aslv v5 64) s.1 :: Res.obj 40 v1 [.int .i64 c0_Length, .int .u32 c0_One, .int .u32 c0_Two] :: ow)) (fun q e a w => e = .exit 0 ∧ Fr 86 a [(1, optr v1 0), (4, .int .i64 q3.1), (6, .func (.func 42) #[] #[]), (7, v5)] ∧ Hp S w0 w (Res.sl (Ek.int .i64) 80 (aslv v5 64) q :: Res.obj 40 v1 [.int .i64 c0_Length, .int .u32 c0_One, .int .u32 c0_Two] :: ow)) ?_ hl ⟨hf.sub ⟨rfl, rfl, rfl, rfl, rfl, trivial⟩, hp⟩ ?_
  · clear hl hf hp
    intro s x a w h hI
    obtain ⟨least7, t26⟩ := s
    obtain ⟨hf, hp⟩ : Fr 86 a [(1, optr v1 0), (4, .int .i64 q3.1), (6, .func (.func 42) #[] #[]), (7, v5), (26, .int .i64 t26)] ∧ Hp S w0 w (Res.sl (Ek.int .i64) 80 (aslv v5 64) least7 :: Res.obj 40 v1 [.int .i64 c0_Length, .int .u32 c0_One, .int .u32 c0_Two] :: ow) := hI
    replace h : f_trellis_Code_Free.s1c least7 t26 = some x := h
    unfold f_trellis_Code_Free.s1c at h
    refine wp_seq ?_
    refine wp_reg ?_
    refine st_ilss hf (by decide) rfl rfl rfl ?_
    clear hf; intro a ha hf; clear ha
    refine st_nil hf ?_
    refine th_n ?_
    refine wp_seq ?_
    refine wp_if hf rfl (fun hb => ?_) (fun hb => ?_)
    · replace h := ifT h hb
      refine wp_skip ?_
      refine th_n ?_
      refine wp_seq ?_
      refine wp_block ?_
      refine wp_seq ?_
      refine wp_reg ?_
      refine st_move hf rfl rfl (by decide) ?_
      clear hf; intro a ha hf; clear ha
      refine st_assign hf rfl rfl (by decide) ?_
      clear hf; intro a ha hf; clear ha
      refine st_nil hf ?_
      refine th_n ?_
      refine wp_reg ?_
      refine st_move hf rfl rfl (by decide) ?_
      clear hf; intro a ha hf; clear ha
      obtain ⟨hc9, h⟩ := chk h
      refine st_iaA (E := (Ek.int .i64)) (N := 64) hf (by decide) Try.underlying80 (by kernel_rfl) rfl rfl rfl (hp.sl (i := 0) rfl) rfl hc9.1 hc9.2 ?_
      clear hf; intro a ha hf; clear ha
      refine st_store (E := (Ek.int .i64)) hf elt3 hp (i := 0) rfl rfl rfl rfl rfl (aslv_ix (hp.sl (i := 0) rfl) hc9).1 (aslv_ix (hp.sl (i := 0) rfl) hc9).2 ?_
      clear hf; intro a w hf hp0; clear hp; have hp := hp0; clear hp0
      replace hp : Hp _ _ _ (Res.sl (Ek.int .i64) 80 (aslv v5 64) (least7.set (t26).toNat (1048576 : Int)) :: Res.obj 40 v1 [.int .i64 c0_Length, .int .u32 c0_One, .int .u32 c0_Two] :: ow) := hp
      refine st_nil hf ?_
      refine ib_n ?_
      refine th_n ?_
      refine wp_reg ?_
      refine st_iadd hf (by decide) rfl rfl rfl ?_
      clear hf; intro a ha hf; clear ha
      refine st_move hf rfl rfl (by decide) ?_
      clear hf; intro a ha hf; clear ha
      refine st_nil hf ?_
      obtain rfl := Option.some.inj h
      exact rnd_l ⟨hf.sub ⟨rfl, rfl, rfl, rfl, rfl, trivial⟩, hp⟩
    replace h := ifF h hb
    refine wp_exit ?_
    refine th_e ?_
    obtain rfl := Option.some.inj h
    exact rnd_r (by simp) ⟨rfl, hf.sub ⟨rfl, rfl, rfl, rfl, trivial⟩, hp⟩
  clear hl hf hp
  intro e a w hne hO
  obtain ⟨rfl, hf, hp⟩ := hO
  refine ib_same ?_
  refine th_n ?_
  refine wp_seq ?_
  refine wp_reg ?_
  refine st_ldOA (m := 3) (us := [.int .i64 c0_Length, .int .u32 c0_One, .int .u32 c0_Two]) hf (by decide) (by kernel_rfl) rfl rfl (hp.ob (i := 1) rfl) rfl rfl ?_
  clear hf; intro a ha hf; clear ha
  obtain ⟨q12, hcall13, h⟩ := bnd h
  refine st_call hf (by decide) Try.func39 rfl rfl rfl rfl rfl (f_trellis_Code_step_c hp _ _ _ _ _ hcall13) ?_
  rintro _ w ⟨rfl, hp0⟩
  clear hp; have hp := hp0; clear hp0
  replace hp : Hp _ _ _ (Res.sl (Ek.int .i64) 80 (aslv v5 64) q11 :: Res.obj 40 v1 [.int .i64 c0_Length, .int .u32 c0_One, .int .u32 c0_Two] :: ow) := hp
  refine ⟨_, rfl, ?_⟩
  clear hf; intro a hf
  refine st_move hf rfl rfl (by decide) ?_
  clear hf; intro a ha hf; clear ha
  refine st_extract hf (by decide) rfl rfl rfl ?_
  clear hf; intro a ha hf; clear ha
  refine st_extract hf (by decide) rfl rfl rfl ?_
  clear hf; intro a ha hf; clear ha
  refine st_extract hf (by decide) rfl rfl rfl ?_
  clear hf; intro a ha hf; clear ha
  refine st_assign hf rfl rfl (by decide) ?_
  clear hf; intro a ha hf; clear ha
  refine st_assign hf rfl rfl (by decide) ?_
  clear hf; intro a ha hf; clear ha
  refine st_assign hf rfl rfl (by decide) ?_
  clear hf; intro a ha hf; clear ha
  refine st_nil hf ?_
  refine th_n ?_
  refine wp_seq ?_
  refine wp_reg ?_
  refine st_move hf rfl rfl (by decide) ?_
  clear hf; intro a ha hf; clear ha
  refine st_move hf rfl rfl (by decide) ?_
  clear hf; intro a ha hf; clear ha
  refine st_move hf rfl rfl (by decide) ?_
  clear hf; intro a ha hf; clear ha
  refine st_move hf rfl rfl (by decide) ?_
  clear hf; intro a ha hf; clear ha
  refine st_build (E := Ek.bool) (xs := [q12.2.1, q12.2.2]) hf (by decide) elt4 Try.underlying22 hp (vals := #[(0, .bool q12.2.1), (1, .bool q12.2.2)]) (cells := #[.bool q12.2.1, .bool q12.2.2]) rfl (by simp [hf.ev (x := (Operand.tmp 40)) rfl, hf.ev (x := (Operand.tmp 41)) rfl]) (by decide) (by decide) (z := .bool false) (by kernel_rfl) (by kernel_rfl) rfl (reps_cons (cs := [.bool q12.2.1]) rfl (reps_cons (cs := [.bool q12.2.2]) rfl (reps_nil _))) ?_
  clear hf; intro a w v14 hf hp0; clear hp; have hp := hp0; clear hp0
  replace hp : Hp _ _ _ (Res.sl Ek.bool 4 v14 ([q12.2.1, q12.2.2]) :: Res.sl (Ek.int .i64) 80 (aslv v5 64) q11 :: Res.obj 40 v1 [.int .i64 c0_Length, .int .u32 c0_One, .int .u32 c0_Two] :: ow) := hp
  obtain ⟨q16, hcall17, h⟩ := bnd h
  obtain ⟨S18, hp19, rd20, up21, bk22⟩ := Hp.lendS hp (i := 0) rfl
  refine st_call hf (by decide) Try.func42 rfl rfl rfl rfl rfl (f_trellis_Code_Free_1_c hp19 _ _ rd20 hcall17) ?_
  rintro _ w ⟨rfl, hp0⟩
  have hp0 := bk22 _ _ hp0
  clear hp; have hp := hp0; clear hp0
  replace hp : Hp _ _ _ (Res.sl Ek.bool 4 v14 ([q12.2.1, q12.2.2]) :: Res.sl (Ek.int .i64) 80 (aslv v5 64) q11 :: Res.obj 40 v1 [.int .i64 c0_Length, .int .u32 c0_One, .int .u32 c0_Two] :: ow) := hp
  refine ⟨_, rfl, ?_⟩
  clear hf; intro a hf
  obtain ⟨hc23, h⟩ := chk h
  refine st_iaA (E := (Ek.int .i64)) (N := 64) hf (by decide) Try.underlying80 (by kernel_rfl) rfl rfl rfl (hp.sl (i := 1) rfl) rfl hc23.1 hc23.2 ?_
  clear hf; intro a ha hf; clear ha
  refine st_store (E := (Ek.int .i64)) hf elt3 hp (i := 1) rfl rfl rfl rfl rfl (aslv_ix (hp.sl (i := 1) rfl) hc23).1 (aslv_ix (hp.sl (i := 1) rfl) hc23).2 ?_
  clear hf; intro a w hf hp0; clear hp; have hp := hp0; clear hp0
  replace hp : Hp _ _ _ (Res.sl Ek.bool 4 v14 ([q12.2.1, q12.2.2]) :: Res.sl (Ek.int .i64) 80 (aslv v5 64) (q11.set (q12.1).toNat q16) :: Res.obj 40 v1 [.int .i64 c0_Length, .int .u32 c0_One, .int .u32 c0_Two] :: ow) := hp
  refine st_nil hf ?_
  refine th_n ?_
  refine wp_seq ?_
  refine wp_seq ?_
  refine wp_reg ?_
  refine st_move hf rfl rfl (by decide) ?_
  clear hf; intro a ha hf; clear ha
  refine st_move hf rfl rfl (by decide) ?_
  clear hf; intro a ha hf; clear ha
  refine st_nil hf ?_
  refine th_n ?_
  refine wp_block ?_
  obtain ⟨q59, hl, h⟩ := bnd h
  have hp : Hp _ _ _ (Res.sl (Ek.int .i64) 80 (aslv v5 64) (q11.set (q12.1).toNat q16) :: Res.obj 40 v1 [.int .i64 c0_Length, .int .u32 c0_One, .int .u32 c0_Two] :: ow) := Hp.sel (pre := [Res.sl Ek.bool 4 v14 ([q12.2.1, q12.2.2]), Res.sl (Ek.int .i64) 80 (aslv v5 64) (q11.set (q12.1).toNat q16), Res.obj 40 v1 [.int .i64 c0_Length, .int .u32 c0_One, .int .u32 c0_Two]]) (tail := ow) (rs' := [Res.sl (Ek.int .i64) 80 (aslv v5 64) (q11.set (q12.1).toNat q16), Res.obj 40 v1 [.int .i64 c0_Length, .int .u32 c0_One, .int .u32 c0_Two]]) hp [1, 2] (by decide) (by simp) rfl
  refine wp_loop_pure (f := (f_trellis_Code_Free.s2 c0_Length c0_One c0_Two q3)) (s := ((q11.set (q12.1).toNat q16), (0 : Int))) (fun s a w => Fr 86 a [(1, optr v1 0), (4, .int .i64 q3.1), (6, .func (.func 42) #[] #[]), (7, v5), (45, .int .i64 q3.1), (46, .int .i64 s.2)] ∧ Hp S w0 w (Res.sl (Ek.int .i64) 80 (aslv v5 64) s.1 :: Res.obj 40 v1 [.int .i64 c0_Length, .int .u32 c0_One, .int .u32 c0_Two] :: ow)) (fun q e a w => e = .exit 2 ∧ Fr 86 a [(7, v5)] ∧ Hp S w0 w (Res.sl (Ek.int .i64) 80 (aslv v5 64) q :: ow)) ?_ hl ⟨hf.sub ⟨rfl, rfl, rfl, rfl, rfl, rfl, trivial⟩, hp⟩ ?_
  · clear hl hf hp
    intro s x a w h hI
    obtain ⟨least7, t46⟩ := s
    obtain ⟨hf, hp⟩ : Fr 86 a [(1, optr v1 0), (4, .int .i64 q3.1), (6, .func (.func 42) #[] #[]), (7, v5), (45, .int .i64 q3.1), (46, .int .i64 t46)] ∧ Hp S w0 w (Res.sl (Ek.int .i64) 80 (aslv v5 64) least7 :: Res.obj 40 v1 [.int .i64 c0_Length, .int .u32 c0_One, .int .u32 c0_Two] :: ow) := hI
    replace h : f_trellis_Code_Free.s2c c0_Length c0_One c0_Two q3 least7 t46 = some x := h
    unfold f_trellis_Code_Free.s2c at h
    refine wp_seq ?_
    refine wp_reg ?_
    refine st_ilss hf (by decide) rfl rfl rfl ?_
    clear hf; intro a ha hf; clear ha
    refine st_nil hf ?_
    refine th_n ?_
    refine wp_seq ?_
    refine wp_if hf rfl (fun hb => ?_) (fun hb => ?_)
    · replace h := ifT h hb
      refine wp_skip ?_
      refine th_n ?_
      refine wp_seq ?_
      refine wp_block ?_
      refine wp_seq ?_
      refine wp_reg ?_
      refine st_assign hf rfl rfl (by decide) ?_
      clear hf; intro a ha hf; clear ha
      refine st_nil hf ?_
      refine th_n ?_
      refine wp_block ?_
      obtain ⟨q58, hl, h⟩ := bnd h
      refine wp_loop_pure (f := (f_trellis_Code_Free.s3 c0_Length c0_One c0_Two q3)) (s := (least7, (1 : Int))) (fun s a w => Fr 86 a [(1, optr v1 0), (4, .int .i64 q3.1), (6, .func (.func 42) #[] #[]), (7, v5), (12, .int .i64 s.2), (45, .int .i64 q3.1), (46, .int .i64 t46)] ∧ Hp S w0 w (Res.sl (Ek.int .i64) 80 (aslv v5 64) s.1 :: Res.obj 40 v1 [.int .i64 c0_Length, .int .u32 c0_One, .int .u32 c0_Two] :: ow)) (fun q e a w => e = .exit 4 ∧ Fr 86 a [(1, optr v1 0), (4, .int .i64 q3.1), (6, .func (.func 42) #[] #[]), (7, v5), (45, .int .i64 q3.1), (46, .int .i64 t46)] ∧ Hp S w0 w (Res.sl (Ek.int .i64) 80 (aslv v5 64) q :: Res.obj 40 v1 [.int .i64 c0_Length, .int .u32 c0_One, .int .u32 c0_Two] :: ow)) ?_ hl ⟨hf.sub ⟨rfl, rfl, rfl, rfl, rfl, rfl, rfl, trivial⟩, hp⟩ ?_
      · clear hl hf hp
        intro s x a w h hI
        obtain ⟨least7, s12⟩ := s
        obtain ⟨hf, hp⟩ : Fr 86 a [(1, optr v1 0), (4, .int .i64 q3.1), (6, .func (.func 42) #[] #[]), (7, v5), (12, .int .i64 s12), (45, .int .i64 q3.1), (46, .int .i64 t46)] ∧ Hp S w0 w (Res.sl (Ek.int .i64) 80 (aslv v5 64) least7 :: Res.obj 40 v1 [.int .i64 c0_Length, .int .u32 c0_One, .int .u32 c0_Two] :: ow) := hI
        replace h : f_trellis_Code_Free.s3c c0_Length c0_One c0_Two q3 least7 s12 = some x := h
        unfold f_trellis_Code_Free.s3c at h
        refine wp_seq ?_
        refine wp_seq ?_
        refine wp_reg ?_
        refine st_move hf rfl rfl (by decide) ?_
        clear hf; intro a ha hf; clear ha
        refine st_move hf rfl rfl (by decide) ?_
        clear hf; intro a ha hf; clear ha
        refine st_ilss hf (by decide) rfl rfl rfl ?_
        clear hf; intro a ha hf; clear ha
        refine st_nil hf ?_
        refine th_n ?_
        refine wp_if hf rfl (fun hb => ?_) (fun hb => ?_)
        · replace h := ifT h hb
          refine wp_skip ?_
          refine th_n ?_
          refine wp_seq ?_
          refine wp_block ?_
          refine wp_seq ?_
          refine wp_reg ?_
          refine st_build (E := Ek.bool) (xs := [false, true]) hf (by decide) elt4 Try.underlying22 hp (vals := #[(0, .bool false), (1, .bool true)]) (cells := #[.bool false, .bool true]) rfl (by simp [hf.ev (x := (Operand.const (.bool false))) rfl, hf.ev (x := (Operand.const (.bool true))) rfl]) (by decide) (by decide) (z := .bool false) (by kernel_rfl) (by kernel_rfl) rfl (reps_cons (cs := [.bool false]) rfl (reps_cons (cs := [.bool true]) rfl (reps_nil _))) ?_
          clear hf; intro a w v29 hf hp0; clear hp; have hp := hp0; clear hp0
          replace hp : Hp _ _ _ (Res.sl Ek.bool 4 v29 ([false, true]) :: Res.sl (Ek.int .i64) 80 (aslv v5 64) least7 :: Res.obj 40 v1 [.int .i64 c0_Length, .int .u32 c0_One, .int .u32 c0_Two] :: ow) := hp
          refine st_len (E := Ek.bool) hf (by decide) Try.underlying22 rfl rfl (hp.sl (i := 0) rfl) ?_
          clear hf; intro a ha hf; clear ha
          refine st_move hf rfl rfl (by decide) ?_
          clear hf; intro a ha hf; clear ha
          refine st_nil hf ?_
          refine th_n ?_
          refine wp_block ?_
          obtain ⟨q57, hl, h⟩ := bnd h
          have hp : Hp _ _ _ (Res.sl (Ek.int .i64) 80 (aslv v5 64) least7 :: Res.obj 40 v1 [.int .i64 c0_Length, .int .u32 c0_One, .int .u32 c0_Two] :: Res.sl Ek.bool 4 v29 ([false, true]) :: ow) := Hp.sel (pre := [Res.sl Ek.bool 4 v29 ([false, true]), Res.sl (Ek.int .i64) 80 (aslv v5 64) least7, Res.obj 40 v1 [.int .i64 c0_Length, .int .u32 c0_One, .int .u32 c0_Two]]) (tail := ow) (rs' := [Res.sl (Ek.int .i64) 80 (aslv v5 64) least7, Res.obj 40 v1 [.int .i64 c0_Length, .int .u32 c0_One, .int .u32 c0_Two], Res.sl Ek.bool 4 v29 ([false, true])]) hp [1, 2, 0] (by decide) (by simp) rfl
          refine wp_loop_pure (f := (f_trellis_Code_Free.s4 c0_Length c0_One c0_Two s12)) (s := (least7, (0 : Int))) (fun s a w => Fr 86 a [(1, optr v1 0), (4, .int .i64 q3.1), (6, .func (.func 42) #[] #[]), (7, v5), (12, .int .i64 s12), (45, .int .i64 q3.1), (46, .int .i64 t46), (53, v29), (54, .int .i64 (([false, true]).length : Int)), (55, .int .i64 s.2)] ∧ Hp S w0 w (Res.sl (Ek.int .i64) 80 (aslv v5 64) s.1 :: Res.obj 40 v1 [.int .i64 c0_Length, .int .u32 c0_One, .int .u32 c0_Two] :: Res.sl Ek.bool 4 v29 ([false, true]) :: ow)) (fun q e a w => e = .exit 6 ∧ Fr 86 a [(1, optr v1 0), (4, .int .i64 q3.1), (6, .func (.func 42) #[] #[]), (7, v5), (12, .int .i64 s12), (45, .int .i64 q3.1), (46, .int .i64 t46)] ∧ Hp S w0 w (Res.sl (Ek.int .i64) 80 (aslv v5 64) q :: Res.obj 40 v1 [.int .i64 c0_Length, .int .u32 c0_One, .int .u32 c0_Two] :: ow)) ?_ hl ⟨hf.sub ⟨rfl, rfl, rfl, rfl, rfl, rfl, rfl, rfl, rfl, rfl, trivial⟩, hp⟩ ?_
          · clear hl hf hp
            intro s x a w h hI
            obtain ⟨least7, t55⟩ := s
            obtain ⟨hf, hp⟩ : Fr 86 a [(1, optr v1 0), (4, .int .i64 q3.1), (6, .func (.func 42) #[] #[]), (7, v5), (12, .int .i64 s12), (45, .int .i64 q3.1), (46, .int .i64 t46), (53, v29), (54, .int .i64 (([false, true]).length : Int)), (55, .int .i64 t55)] ∧ Hp S w0 w (Res.sl (Ek.int .i64) 80 (aslv v5 64) least7 :: Res.obj 40 v1 [.int .i64 c0_Length, .int .u32 c0_One, .int .u32 c0_Two] :: Res.sl Ek.bool 4 v29 ([false, true]) :: ow) := hI
            replace h : f_trellis_Code_Free.s4c c0_Length c0_One c0_Two s12 least7 t55 = some x := h
            unfold f_trellis_Code_Free.s4c at h
            refine wp_seq ?_
            refine wp_reg ?_
            refine st_ilss hf (by decide) rfl rfl rfl ?_
            clear hf; intro a ha hf; clear ha
            refine st_nil hf ?_
            refine th_n ?_
            refine wp_seq ?_
            refine wp_if hf rfl (fun hb => ?_) (fun hb => ?_)
            · replace h := ifT h hb
              refine wp_skip ?_
              refine th_n ?_
              refine wp_seq ?_
              refine wp_block ?_
              refine wp_seq ?_
              refine wp_reg ?_
              obtain ⟨hc33, h⟩ := chk h
              refine st_index (E := Ek.bool) hf (by decide) Try.underlying22 elt4 rfl rfl rfl (hp.sl (i := 2) rfl) hc33.1 hc33.2 ?_
              clear hf; intro a ha hf; clear ha
              refine st_ldB hf (by decide) pl4 rfl rfl (hp.sl (i := 2) rfl) hc33.1 hc33.2 ?_
              clear hf; intro a ha hf; clear ha
              refine st_assign hf rfl rfl (by decide) ?_
              clear hf; intro a ha hf; clear ha
              refine st_nil hf ?_
              refine th_n ?_
              refine wp_seq ?_
              refine wp_reg ?_
              refine st_ldOA (m := 3) (us := [.int .i64 c0_Length, .int .u32 c0_One, .int .u32 c0_Two]) hf (by decide) (by kernel_rfl) rfl rfl (hp.ob (i := 1) rfl) rfl rfl ?_
              clear hf; intro a ha hf; clear ha
              refine st_move hf rfl rfl (by decide) ?_
              clear hf; intro a ha hf; clear ha
              refine st_move hf rfl rfl (by decide) ?_
              clear hf; intro a ha hf; clear ha
              obtain ⟨q34, hcall35, h⟩ := bnd h
              refine st_call hf (by decide) Try.func39 rfl rfl rfl rfl rfl (f_trellis_Code_step_c hp _ _ _ _ _ hcall35) ?_
              rintro _ w ⟨rfl, hp0⟩
              clear hp; have hp := hp0; clear hp0
              replace hp : Hp _ _ _ (Res.sl (Ek.int .i64) 80 (aslv v5 64) least7 :: Res.obj 40 v1 [.int .i64 c0_Length, .int .u32 c0_One, .int .u32 c0_Two] :: Res.sl Ek.bool 4 v29 ([false, true]) :: ow) := hp
              refine ⟨_, rfl, ?_⟩
              clear hf; intro a hf
              refine st_move hf rfl rfl (by decide) ?_
              clear hf; intro a ha hf; clear ha
              refine st_extract hf (by decide) rfl rfl rfl ?_
              clear hf; intro a ha hf; clear ha
              refine st_extract hf (by decide) rfl rfl rfl ?_
              clear hf; intro a ha hf; clear ha
              refine st_extract hf (by decide) rfl rfl rfl ?_
              clear hf; intro a ha hf; clear ha
              refine st_assign hf rfl rfl (by decide) ?_
              clear hf; intro a ha hf; clear ha
              refine st_assign hf rfl rfl (by decide) ?_
              clear hf; intro a ha hf; clear ha
              refine st_assign hf rfl rfl (by decide) ?_
              clear hf; intro a ha hf; clear ha
              refine st_nil hf ?_
              refine th_n ?_
              obtain ⟨S36, hp37, rd38, up39, bk40⟩ := Hp.lendS hp (i := 0) rfl
              have rl41 := rd38
              obtain ⟨hc42, h⟩ := chk h
              have hc43 := aslv_ix rl41 hc42
              obtain ⟨hc44, h⟩ := chk h
              have hc45 := aslv_ix rl41 hc44
              obtain ⟨q48, hcall49, h⟩ := bnd h
              obtain ⟨hc55, h⟩ := chk h
              have hc56 := aslv_ix rl41 hc55
              refine wp_cutN (fun a w => ∃ (v46 : Value), Fr 86 a [(1, optr v1 0), (4, .int .i64 q3.1), (6, .func (.func 42) #[] #[]), (7, v5), (12, .int .i64 s12), (45, .int .i64 q3.1), (46, .int .i64 t46), (53, v29), (54, .int .i64 (([false, true]).length : Int)), (55, .int .i64 t55)] ∧ Hp S w0 w (Res.sl (Ek.int .i64) 80 (aslv v5 64) (least7.set (q34.1).toNat (imin (gt least7 q34.1) (IntKind.i64.wrap ((gt least7 s12) + q48)))) :: Res.sl Ek.bool 4 v46 ([q34.2.1, q34.2.2]) :: Res.obj 40 v1 [.int .i64 c0_Length, .int .u32 c0_One, .int .u32 c0_Two] :: Res.sl Ek.bool 4 v29 ([false, true]) :: ow)) ?_ ?_
              · have hp := hp37.same (Same.drew w)
                refine dr_begin' (fun a w => ∃ (v46 : Value), Fr 86 a [(1, optr v1 0), (4, .int .i64 q3.1), (6, .func (.func 42) #[] #[]), (7, v5), (12, .int .i64 s12), (45, .int .i64 q3.1), (46, .int .i64 t46), (53, v29), (54, .int .i64 (([false, true]).length : Int)), (55, .int .i64 t55)] ∧ Hp S w0 w (Res.sl (Ek.int .i64) 80 (aslv v5 64) (least7.set (q34.1).toNat (imin (gt least7 q34.1) (IntKind.i64.wrap ((gt least7 s12) + q48)))) :: Res.sl Ek.bool 4 v46 ([q34.2.1, q34.2.2]) :: Res.obj 40 v1 [.int .i64 c0_Length, .int .u32 c0_One, .int .u32 c0_Two] :: Res.sl Ek.bool 4 v29 ([false, true]) :: ow)) (fun w' => ∃ l, Hp S36 w w' l) [15] (by kernel_rfl) ?_
                refine dr_takeP 0 (.int .i64 q34.1) rfl (by kernel_rfl) (by kernel_rfl) (by kernel_rfl) rfl rfl hf (by decide) rfl (fun w => ?_) ?_
                · skip
                  refine st_move hf rfl rfl (by decide) ?_
                  clear hf; intro a ha hf
                  exact st_nil hf (th_n ⟨ha, rfl⟩)
                clear hf; intro a hf
                refine dr_takeP 1 (.int .i64 q34.1) rfl (by kernel_rfl) (by kernel_rfl) (by kernel_rfl) rfl rfl hf (by decide) rfl (fun w => ?_) ?_
                · skip
                  refine st_move hf rfl rfl (by decide) ?_
                  clear hf; intro a ha hf
                  exact st_nil hf (th_n ⟨ha, rfl⟩)
                clear hf; intro a hf
                refine dr_takeP 2 (eptr (aslv v5 64) q34.1 1) rfl (by kernel_rfl) (by kernel_rfl) (by kernel_rfl) rfl rfl hf (by decide) rfl (fun w => ?_) ?_
                · skip
                  refine st_iaA (E := (Ek.int .i64)) (N := 64) hf (by decide) Try.underlying80 (by kernel_rfl) rfl rfl rfl rl41.any rfl hc42.1 hc42.2 ?_
                  clear hf; intro a ha hf
                  exact st_nil hf (th_n ⟨ha, rfl⟩)
                clear hf; intro a hf
                refine dr_take2 3 (.int .i64 (gt least7 q34.1)) rfl (by kernel_rfl) (by kernel_rfl) (by kernel_rfl) (by kernel_rfl) (by kernel_rfl) rfl rfl hf (by decide) rfl (fun w hp => ?_) ⟨_, hp⟩ ?_
                · obtain ⟨_, hp⟩ := hp
                  refine st_ldI hf (by decide) pl3 rfl rfl (rl41.sl hp) hc43.1 hc43.2 ?_
                  clear hf; intro a ha hf
                  exact st_nil hf (th_n ⟨ha, rfl⟩)
                clear hf; intro a hf
                refine dr_takeP 4 (.int .i64 s12) rfl (by kernel_rfl) (by kernel_rfl) (by kernel_rfl) rfl rfl hf (by decide) rfl (fun w => ?_) ?_
                · skip
                  refine st_move hf rfl rfl (by decide) ?_
                  clear hf; intro a ha hf
                  exact st_nil hf (th_n ⟨ha, rfl⟩)
                clear hf; intro a hf
                refine dr_takeP 5 (eptr (aslv v5 64) s12 1) rfl (by kernel_rfl) (by kernel_rfl) (by kernel_rfl) rfl rfl hf (by decide) rfl (fun w => ?_) ?_
                · skip
                  refine st_iaA (E := (Ek.int .i64)) (N := 64) hf (by decide) Try.underlying80 (by kernel_rfl) rfl rfl rfl rl41.any rfl hc44.1 hc44.2 ?_
                  clear hf; intro a ha hf
                  exact st_nil hf (th_n ⟨ha, rfl⟩)
                clear hf; intro a hf
                refine dr_take2 6 (.int .i64 (gt least7 s12)) rfl (by kernel_rfl) (by kernel_rfl) (by kernel_rfl) (by kernel_rfl) (by kernel_rfl) rfl rfl hf (by decide) rfl (fun w hp => ?_) ⟨_, hp⟩ ?_
                · obtain ⟨_, hp⟩ := hp
                  refine st_ldI hf (by decide) pl3 rfl rfl (rl41.sl hp) hc45.1 hc45.2 ?_
                  clear hf; intro a ha hf
                  exact st_nil hf (th_n ⟨ha, rfl⟩)
                clear hf; intro a hf
                refine dr_takeP 7 (.func (.func 42) #[] #[]) rfl (by kernel_rfl) (by kernel_rfl) (by kernel_rfl) rfl rfl hf (by decide) rfl (fun w => ?_) ?_
                · skip
                  refine st_move hf rfl rfl (by decide) ?_
                  clear hf; intro a ha hf
                  exact st_nil hf (th_n ⟨ha, rfl⟩)
                clear hf; intro a hf
                refine dr_takeP 8 (.bool q34.2.1) rfl (by kernel_rfl) (by kernel_rfl) (by kernel_rfl) rfl rfl hf (by decide) rfl (fun w => ?_) ?_
                · skip
                  refine st_move hf rfl rfl (by decide) ?_
                  clear hf; intro a ha hf
                  exact st_nil hf (th_n ⟨ha, rfl⟩)
                clear hf; intro a hf
                refine dr_takeP 9 (.bool q34.2.2) rfl (by kernel_rfl) (by kernel_rfl) (by kernel_rfl) rfl rfl hf (by decide) rfl (fun w => ?_) ?_
                · skip
                  refine st_move hf rfl rfl (by decide) ?_
                  clear hf; intro a ha hf
                  exact st_nil hf (th_n ⟨ha, rfl⟩)
                clear hf; intro a hf
                refine dr_one 10 rfl (by kernel_rfl) ?_
                refine st_build (E := Ek.bool) (xs := [q34.2.1, q34.2.2]) hf (by decide) elt4 Try.underlying22 hp (vals := #[(0, .bool q34.2.1), (1, .bool q34.2.2)]) (cells := #[.bool q34.2.1, .bool q34.2.2]) rfl (by simp [hf.ev (x := (Operand.tmp 75)) rfl, hf.ev (x := (Operand.tmp 76)) rfl]) (by decide) (by decide) (z := .bool false) (by kernel_rfl) (by kernel_rfl) rfl (reps_cons (cs := [.bool q34.2.1]) rfl (reps_cons (cs := [.bool q34.2.2]) rfl (reps_nil _))) ?_
                clear hf; intro a w v46 hf hp0; clear hp; have hp := hp0; clear hp0
                replace hp : Hp _ _ _ (Res.sl Ek.bool 4 v46 ([q34.2.1, q34.2.2]) :: Res.obj 40 v1 [.int .i64 c0_Length, .int .u32 c0_One, .int .u32 c0_Two] :: Res.sl Ek.bool 4 v29 ([false, true]) :: ow) := hp
                refine st_nil hf (th_n ⟨fun _ _ => ⟨_, hp⟩, ?_⟩)
                refine dr_one 11 rfl (by kernel_rfl) ?_
                obtain ⟨S50, hp51, rd52, up53, bk54⟩ := Hp.lendS hp (i := 0) rfl
                refine st_call hf (by decide) Try.func42 rfl rfl rfl rfl rfl (f_trellis_Code_Free_1_c hp51 _ _ rd52 hcall49) ?_
                rintro _ w ⟨rfl, hp0⟩
                have hp0 := bk54 _ _ hp0
                clear hp; have hp := hp0; clear hp0
                replace hp : Hp _ _ _ (Res.sl Ek.bool 4 v46 ([q34.2.1, q34.2.2]) :: Res.obj 40 v1 [.int .i64 c0_Length, .int .u32 c0_One, .int .u32 c0_Two] :: Res.sl Ek.bool 4 v29 ([false, true]) :: ow) := hp
                refine ⟨_, rfl, ?_⟩
                clear hf; intro a hf
                refine st_nil hf (th_n ⟨fun _ _ => ⟨_, hp⟩, ?_⟩)
                refine dr_takeP 12 (.int .i64 (IntKind.i64.wrap ((gt least7 s12) + q48))) rfl (by kernel_rfl) (by kernel_rfl) (by kernel_rfl) rfl rfl hf (by decide) rfl (fun w => ?_) ?_
                · skip
                  refine st_iadd hf (by decide) rfl rfl rfl ?_
                  clear hf; intro a ha hf
                  exact st_nil hf (th_n ⟨ha, rfl⟩)
                clear hf; intro a hf
                refine dr_takeP 13 (.int .i64 (imin (gt least7 q34.1) (IntKind.i64.wrap ((gt least7 s12) + q48)))) rfl (by kernel_rfl) (by kernel_rfl) (by kernel_rfl) rfl rfl hf (by decide) rfl (fun w => ?_) ?_
                · skip
                  refine st_imin hf (by decide) rfl rfl rfl ?_
                  clear hf; intro a ha hf
                  exact st_nil hf (th_n ⟨ha, rfl⟩)
                clear hf; intro a hf
                refine dr_takeP 14 (eptr (aslv v5 64) q34.1 1) rfl (by kernel_rfl) (by kernel_rfl) (by kernel_rfl) rfl rfl hf (by decide) rfl (fun w => ?_) ?_
                · skip
                  refine st_iaA (E := (Ek.int .i64)) (N := 64) hf (by decide) Try.underlying80 (by kernel_rfl) rfl rfl rfl rl41.any rfl hc55.1 hc55.2 ?_
                  clear hf; intro a ha hf
                  exact st_nil hf (th_n ⟨ha, rfl⟩)
                clear hf; intro a hf
                have hp := bk40 _ _ hp
                refine dr_one 15 rfl (by kernel_rfl) ?_
                refine st_store (E := (Ek.int .i64)) hf elt3 hp (i := 0) rfl rfl rfl rfl rfl hc56.1 hc56.2 ?_
                clear hf; intro a w hf hp0; clear hp; have hp := hp0; clear hp0
                replace hp : Hp _ _ _ (Res.sl (Ek.int .i64) 80 (aslv v5 64) (least7.set (q34.1).toNat (imin (gt least7 q34.1) (IntKind.i64.wrap ((gt least7 s12) + q48)))) :: Res.sl Ek.bool 4 v46 ([q34.2.1, q34.2.2]) :: Res.obj 40 v1 [.int .i64 c0_Length, .int .u32 c0_One, .int .u32 c0_Two] :: Res.sl Ek.bool 4 v29 ([false, true]) :: ow) := hp
                refine st_nil hf (th_n ⟨fun hn => absurd hn (by decide), ?_⟩)
                refine dr_end (by kernel_rfl) ?_ _
                exact ⟨v46, hf.sub ⟨rfl, rfl, rfl, rfl, rfl, rfl, rfl, rfl, rfl, rfl, trivial⟩, hp⟩
              rintro a w ⟨v46, hf, hp⟩
              refine ib_n ?_
              refine th_n ?_
              refine wp_reg ?_
              refine st_iadd hf (by decide) rfl rfl rfl ?_
              clear hf; intro a ha hf; clear ha
              refine st_move hf rfl rfl (by decide) ?_
              clear hf; intro a ha hf; clear ha
              refine st_nil hf ?_
              obtain rfl := Option.some.inj h
              have hp : Hp _ _ _ (Res.sl (Ek.int .i64) 80 (aslv v5 64) (least7.set (q34.1).toNat (imin (gt least7 q34.1) (IntKind.i64.wrap ((gt least7 s12) + q48)))) :: Res.obj 40 v1 [.int .i64 c0_Length, .int .u32 c0_One, .int .u32 c0_Two] :: Res.sl Ek.bool 4 v29 ([false, true]) :: ow) := Hp.sel (pre := [Res.sl (Ek.int .i64) 80 (aslv v5 64) (least7.set (q34.1).toNat (imin (gt least7 q34.1) (IntKind.i64.wrap ((gt least7 s12) + q48)))), Res.sl Ek.bool 4 v46 ([q34.2.1, q34.2.2]), Res.obj 40 v1 [.int .i64 c0_Length, .int .u32 c0_One, .int .u32 c0_Two], Res.sl Ek.bool 4 v29 ([false, true])]) (tail := ow) (rs' := [Res.sl (Ek.int .i64) 80 (aslv v5 64) (least7.set (q34.1).toNat (imin (gt least7 q34.1) (IntKind.i64.wrap ((gt least7 s12) + q48)))), Res.obj 40 v1 [.int .i64 c0_Length, .int .u32 c0_One, .int .u32 c0_Two], Res.sl Ek.bool 4 v29 ([false, true])]) hp [0, 2, 3] (by decide) (by simp) rfl
              exact rnd_l ⟨hf.sub ⟨rfl, rfl, rfl, rfl, rfl, rfl, rfl, rfl, rfl, rfl, trivial⟩, hp⟩
            replace h := ifF h hb
            refine wp_exit ?_
            refine th_e ?_
            obtain rfl := Option.some.inj h
            have hp : Hp _ _ _ (Res.sl (Ek.int .i64) 80 (aslv v5 64) least7 :: Res.obj 40 v1 [.int .i64 c0_Length, .int .u32 c0_One, .int .u32 c0_Two] :: ow) := Hp.sel (pre := [Res.sl (Ek.int .i64) 80 (aslv v5 64) least7, Res.obj 40 v1 [.int .i64 c0_Length, .int .u32 c0_One, .int .u32 c0_Two], Res.sl Ek.bool 4 v29 ([false, true])]) (tail := ow) (rs' := [Res.sl (Ek.int .i64) 80 (aslv v5 64) least7, Res.obj 40 v1 [.int .i64 c0_Length, .int .u32 c0_One, .int .u32 c0_Two]]) hp [0, 1] (by decide) (by simp) rfl
            exact rnd_r (by simp) ⟨rfl, hf.sub ⟨rfl, rfl, rfl, rfl, rfl, rfl, rfl, trivial⟩, hp⟩
          clear hl hf hp
          intro e a w hne hO
          obtain ⟨rfl, hf, hp⟩ := hO
          refine ib_same ?_
          refine ib_n ?_
          refine th_n ?_
          refine wp_reg ?_
          refine st_move hf rfl rfl (by decide) ?_
          clear hf; intro a ha hf; clear ha
          refine st_iadd hf (by decide) rfl rfl rfl ?_
          clear hf; intro a ha hf; clear ha
          refine st_assign hf rfl rfl (by decide) ?_
          clear hf; intro a ha hf; clear ha
          refine st_nil hf ?_
          obtain rfl := Option.some.inj h
          exact rnd_l ⟨hf.sub ⟨rfl, rfl, rfl, rfl, rfl, rfl, rfl, trivial⟩, hp⟩
        replace h := ifF h hb
        refine wp_exit ?_
        refine th_e ?_
        obtain rfl := Option.some.inj h
        exact rnd_r (by simp) ⟨rfl, hf.sub ⟨rfl, rfl, rfl, rfl, rfl, rfl, trivial⟩, hp⟩
      clear hl hf hp
      intro e a w hne hO
      obtain ⟨rfl, hf, hp⟩ := hO
      refine ib_same ?_
      refine ib_n ?_
      refine th_n ?_
      refine wp_reg ?_
      refine st_iadd hf (by decide) rfl rfl rfl ?_
      clear hf; intro a ha hf; clear ha
      refine st_move hf rfl rfl (by decide) ?_
      clear hf; intro a ha hf; clear ha
      refine st_nil hf ?_
      obtain rfl := Option.some.inj h
      exact rnd_l ⟨hf.sub ⟨rfl, rfl, rfl, rfl, rfl, rfl, trivial⟩, hp⟩
    replace h := ifF h hb
    refine wp_exit ?_
    refine th_e ?_
    obtain rfl := Option.some.inj h
    have hp : Hp _ _ _ (Res.sl (Ek.int .i64) 80 (aslv v5 64) least7 :: ow) := Hp.sel (pre := [Res.sl (Ek.int .i64) 80 (aslv v5 64) least7, Res.obj 40 v1 [.int .i64 c0_Length, .int .u32 c0_One, .int .u32 c0_Two]]) (tail := ow) (rs' := [Res.sl (Ek.int .i64) 80 (aslv v5 64) least7]) hp [0] (by decide) (by simp) rfl
    exact rnd_r (by simp) ⟨rfl, hf.sub ⟨rfl, trivial⟩, hp⟩
  clear hl hf hp
  intro e a w hne hO
  obtain ⟨rfl, hf, hp⟩ := hO
  refine ib_same ?_
  refine th_n ?_
  refine wp_seq ?_
  refine wp_reg ?_
  have hc60 : 0 ≤ (0 : Int) ∧ (0 : Int) < (64 : Int) := by decide
  refine st_iaA (E := (Ek.int .i64)) (N := 64) hf (by decide) Try.underlying80 (by kernel_rfl) rfl rfl rfl (hp.sl (i := 0) rfl) rfl hc60.1 hc60.2 ?_
  clear hf; intro a ha hf; clear ha
  refine st_ldI hf (by decide) pl3 rfl rfl (hp.sl (i := 0) rfl) (aslv_ix (hp.sl (i := 0) rfl) hc60).1 (aslv_ix (hp.sl (i := 0) rfl) hc60).2 ?_
  clear hf; intro a ha hf; clear ha
  refine st_assign hf rfl rfl (by decide) ?_
  clear hf; intro a ha hf; clear ha
  refine st_assign hf rfl rfl (by decide) ?_
  clear hf; intro a ha hf; clear ha
  refine st_nil hf ?_
  refine th_n ?_
  refine wp_ret ?_
  obtain rfl := Option.some.inj h
  have hp : Hp _ _ _ (ow) := Hp.sel (pre := [Res.sl (Ek.int .i64) 80 (aslv v5 64) q59]) (tail := ow) (rs' := []) hp [] (by decide) (by simp) rfl
  exact ⟨rfl, ⟨hf.sub ⟨rfl, rfl, trivial⟩, hp⟩⟩

noncomputable def f_foghornlaw22_HardReach.s1c (hits2 : (List Int)) (q16 : ((List Bool) × Int)) (in12 : (List Int)) (left13 : Int) (turned14 : Int) (seen15 : (List Bool)) (i16 : Int) : Option (((List Int) × Int × Int × (List Bool) × Int) ⊕ ((List Int) × Int)) := (if ((decide (i16 < (hits2.length : Int))) && (decide ((0 : Int) < left13))) = true then (if 0 ≤ i16 ∧ i16 < (hits2.length : Int) then (if (q16.1.length : Int) ≠ 0 then (if 0 ≤ (((IntKind.i64.wrap (ishr .u16 (gt hits2 i16) (1 : Int)))).tmod (q16.1.length : Int)) ∧ (((IntKind.i64.wrap (ishr .u16 (gt hits2 i16) (1 : Int)))).tmod (q16.1.length : Int)) < (seen15.length : Int) then (if (gt seen15 (((IntKind.i64.wrap (ishr .u16 (gt hits2 i16) (1 : Int)))).tmod (q16.1.length : Int))) = true then (some (Sum.inl (in12, left13, turned14, seen15, (IntKind.i64.wrap (i16 + (1 : Int)))))) else (if 0 ≤ (((IntKind.i64.wrap (ishr .u16 (gt hits2 i16) (1 : Int)))).tmod (q16.1.length : Int)) ∧ (((IntKind.i64.wrap (ishr .u16 (gt hits2 i16) (1 : Int)))).tmod (q16.1.length : Int)) < (seen15.length : Int) then (if 0 ≤ i16 ∧ i16 < (hits2.length : Int) then (if (((iand .u16 (gt hits2 i16) (1 : Int)) == (1 : Int)) || (decide (left13 < (2 : Int)))) = true then (if 0 ≤ (((IntKind.i64.wrap (ishr .u16 (gt hits2 i16) (1 : Int)))).tmod (q16.1.length : Int)) ∧ (((IntKind.i64.wrap (ishr .u16 (gt hits2 i16) (1 : Int)))).tmod (q16.1.length : Int)) < (in12.length : Int) then (some (Sum.inl ((in12.set ((((IntKind.i64.wrap (ishr .u16 (gt hits2 i16) (1 : Int)))).tmod (q16.1.length : Int))).toNat (2 : Int)), (IntKind.i64.wrap (left13 - (1 : Int))), turned14, (seen15.set ((((IntKind.i64.wrap (ishr .u16 (gt hits2 i16) (1 : Int)))).tmod (q16.1.length : Int))).toNat true), (IntKind.i64.wrap (i16 + (1 : Int)))))) else none) else (if 0 ≤ (((IntKind.i64.wrap (ishr .u16 (gt hits2 i16) (1 : Int)))).tmod (q16.1.length : Int)) ∧ (((IntKind.i64.wrap (ishr .u16 (gt hits2 i16) (1 : Int)))).tmod (q16.1.length : Int)) < (in12.length : Int) then (if 0 ≤ (((IntKind.i64.wrap (ishr .u16 (gt hits2 i16) (1 : Int)))).tmod (q16.1.length : Int)) ∧ (((IntKind.i64.wrap (ishr .u16 (gt hits2 i16) (1 : Int)))).tmod (q16.1.length : Int)) < (in12.length : Int) then (some (Sum.inl ((in12.set ((((IntKind.i64.wrap (ishr .u16 (gt hits2 i16) (1 : Int)))).tmod (q16.1.length : Int))).toNat (IntKind.u8.wrap ((1 : Int) - (gt in12 (((IntKind.i64.wrap (ishr .u16 (gt hits2 i16) (1 : Int)))).tmod (q16.1.length : Int)))))), (IntKind.i64.wrap (left13 - (2 : Int))), (IntKind.i64.wrap (turned14 + (1 : Int))), (seen15.set ((((IntKind.i64.wrap (ishr .u16 (gt hits2 i16) (1 : Int)))).tmod (q16.1.length : Int))).toNat true), (IntKind.i64.wrap (i16 + (1 : Int)))))) else none) else none)) else none) else none)) else none) else none) else none) else (some (Sum.inr (in12, turned14))))
noncomputable def f_foghornlaw22_HardReach.s1 (hits2 : (List Int)) (q16 : ((List Bool) × Int)) (s : ((List Int) × Int × Int × (List Bool) × Int)) : Option (((List Int) × Int × Int × (List Bool) × Int) ⊕ ((List Int) × Int)) := f_foghornlaw22_HardReach.s1c hits2 q16 s.1 s.2.1 s.2.2.1 s.2.2.2.1 s.2.2.2.2
noncomputable def f_foghornlaw22_HardReach (x0_Length : Int) (x0_One : Int) (x0_Two : Int) (message1 : (List Bool)) (hits2 : (List Int)) : Option Bool := ((f_foghornlaw22_works).bind fun q3 => (if (!q3) = true then (some false) else ((f_foghornlaw22_fit x0_Length x0_One x0_Two).bind fun q5 => (if 0 ≤ (imin (message1.length : Int) (2000 : Int)) ∧ (imin (message1.length : Int) (2000 : Int)) ≤ (message1.length : Int) then (if (([] : List Bool).length + ((message1.drop 0).take (((imin (message1.length : Int) (2000 : Int))).toNat - 0)).length) * 1 ≤ 140737488355328 then ((f_trellis_Code_Encode q5.1 q5.2.1 q5.2.2 (([] : List Bool) ++ ((message1.drop 0).take (((imin (message1.length : Int) (2000 : Int))).toNat - 0)))).bind fun q16 => ((f_trellis_Code_Free q5.1 q5.2.1 q5.2.2).bind fun q25 => (if ((((q16.2 != (0 : Int)) || (q25.2 != (0 : Int))) || ((q16.1.length : Int) != (IntKind.i64.wrap ((2 : Int) * (IntKind.i64.wrap ((IntKind.i64.wrap (((([] : List Bool) ++ ((message1.drop 0).take (((imin (message1.length : Int) (2000 : Int))).toNat - 0))).length : Int) + q5.1)) - (1 : Int))))))) || (decide (q25.1 < (1 : Int)))) = true then (some false) else ((f_hard_Marks q16.1).bind fun q33 => (if ((q33.length : Int) != (q16.1.length : Int)) = true then (some false) else (if 0 ≤ (q16.1.length : Int) ∧ (q16.1.length : Int) ≤ (q16.1.length : Int) ∧ (q16.1.length : Int) * 1 ≤ 281474976710656 then ((loop (f_foghornlaw22_HardReach.s1 hits2 q16) (q33, (IntKind.i64.wrap (q25.1 - (1 : Int))), (0 : Int), (List.replicate ((q16.1.length : Int)).toNat false), (0 : Int))).bind (fun q63 => ((f_hard_Path q5.1 q5.2.1 q5.2.2 q63.1).bind fun q64 => ((f_hard_Marks q16.1).bind fun q79 => ((f_hard_Path q5.1 q5.2.1 q5.2.2 q79).bind fun q88 => ((if ((q64.2.2 == (0 : Int)) && (q88.2.2 == (0 : Int))) = true then ((f_foghornlaw22_sameBits q64.1 (([] : List Bool) ++ ((message1.drop 0).take (((imin (message1.length : Int) (2000 : Int))).toNat - 0)))).bind fun q102 => (some q102)) else (some false)).bind fun z101 => ((if (z101 && (q64.2.1 == q63.2)) = true then ((f_foghornlaw22_sameBits q88.1 (([] : List Bool) ++ ((message1.drop 0).take (((imin (message1.length : Int) (2000 : Int))).toNat - 0)))).bind fun q119 => (some q119)) else (some false)).bind fun z118 => (some (z118 && (q88.2.1 == (0 : Int))))))))))) else none)))))) else none) else none))))
theorem f_foghornlaw22_HardReach_c {S : Nat → Prop} {w0 w : World} {ow : List Res} (hp : Hp S w0 w ow) (x0_Length : Int) (x0_One : Int) (x0_Two : Int) (vmessage1 : Value) (message1 : (List Bool)) (hmessage1 : RdS Ek.bool S w0 vmessage1 message1) (vhits2 : Value) (hits2 : (List Int)) (hhits2 : RdS (Ek.int .u16) S w0 vhits2 hits2) {r : Bool} (h : f_foghornlaw22_HardReach x0_Length x0_One x0_Two message1 hits2 = some r) :
    Calls Try.prog 8 #[.agg #[.int .i64 x0_Length, .int .u32 x0_One, .int .u32 x0_Two], vmessage1, vhits2] w (fun e w' => e = .returned (.bool r) ∧ Hp S w0 w' (ow)) := by
  unfold f_foghornlaw22_HardReach at h
  refine enter (n := 173) (args := [.agg #[.int .i64 x0_Length, .int .u32 x0_One, .int .u32 x0_Two], vmessage1, vhits2]) Try.func8 rfl rfl (Nat.le_of_ble_eq_true rfl) fun a hf => ?_
  replace hf : Fr 173 a [(0, .agg #[.int .i64 x0_Length, .int .u32 x0_One, .int .u32 x0_Two]), (1, vmessage1), (2, vhits2)] := hf
  refine wp_mono (Q := fun e a w => e = .ret ∧ Fr 173 a [(6, .bool r)] ∧ Hp S w0 w (ow)) ?_ ?_
  rotate_left
  · rintro e a w ⟨rfl, hf, hp⟩
    exact ret1 hf rfl rfl ⟨rfl, hp⟩
  refine wp_seq ?_
  refine wp_reg ?_
  refine st_boxO (cs := [.int .i64 x0_Length, .int .u32 x0_One, .int .u32 x0_Two]) hf (by decide) hp rfl rfl rfl ?_
  clear hf; intro a w v1 hf hp0; clear hp; have hp := hp0; clear hp0
  replace hp : Hp _ _ _ (Res.obj 39 v1 [.int .i64 x0_Length, .int .u32 x0_One, .int .u32 x0_Two] :: ow) := hp
  refine st_assign hf rfl rfl (by decide) ?_
  clear hf; intro a ha hf; clear ha
  refine st_nil hf ?_
  refine th_n ?_
  refine wp_seq ?_
  refine wp_seq ?_
  refine wp_reg ?_
  obtain ⟨q3, hcall4, h⟩ := bnd h
  refine st_call hf (by decide) Try.func23 rfl rfl rfl rfl rfl (f_foghornlaw22_works_c hp  hcall4) ?_
  rintro _ w ⟨rfl, hp0⟩
  clear hp; have hp := hp0; clear hp0
  replace hp : Hp _ _ _ (Res.obj 39 v1 [.int .i64 x0_Length, .int .u32 x0_One, .int .u32 x0_Two] :: ow) := hp
  refine ⟨_, rfl, ?_⟩
  clear hf; intro a hf
  refine st_not hf (by decide) rfl rfl ?_
  clear hf; intro a ha hf; clear ha
  refine st_nil hf ?_
  refine th_n ?_
  refine wp_if hf rfl (fun hb => ?_) (fun hb => ?_)
  · replace h := ifT h hb
    refine wp_seq ?_
    refine wp_reg ?_
    refine st_assign hf rfl rfl (by decide) ?_
    clear hf; intro a ha hf; clear ha
    refine st_nil hf ?_
    refine th_n ?_
    refine wp_ret ?_
    refine th_r ?_
    obtain rfl := Option.some.inj h
    have hp : Hp _ _ _ (ow) := Hp.sel (pre := [Res.obj 39 v1 [.int .i64 x0_Length, .int .u32 x0_One, .int .u32 x0_Two]]) (tail := ow) (rs' := []) hp [] (by decide) (by simp) rfl
    exact ⟨rfl, ⟨hf.sub ⟨rfl, trivial⟩, hp⟩⟩
  replace h := ifF h hb
  refine wp_skip ?_
  refine th_n ?_
  refine wp_seq ?_
  refine wp_reg ?_
  refine st_ldOA (m := 3) (us := [.int .i64 x0_Length, .int .u32 x0_One, .int .u32 x0_Two]) hf (by decide) (by kernel_rfl) rfl rfl (hp.ob (i := 0) rfl) rfl rfl ?_
  clear hf; intro a ha hf; clear ha
  obtain ⟨q5, hcall6, h⟩ := bnd h
  refine st_call hf (by decide) Try.func24 rfl rfl rfl rfl rfl (f_foghornlaw22_fit_c hp _ _ _ hcall6) ?_
  rintro _ w ⟨rfl, hp0⟩
  clear hp; have hp := hp0; clear hp0
  replace hp : Hp _ _ _ (Res.obj 39 v1 [.int .i64 x0_Length, .int .u32 x0_One, .int .u32 x0_Two] :: ow) := hp
  refine ⟨_, rfl, ?_⟩
  clear hf; intro a hf
  refine st_alloc (cs := [.int .i64 (0 : Int), .int .u32 (0 : Int), .int .u32 (0 : Int)]) (zv := .agg #[.int .i64 (0 : Int), .int .u32 (0 : Int), .int .u32 (0 : Int)]) hf (by decide) (by kernel_rfl) rfl hp rfl ?_
  clear hf; intro a w v7 hf hp0; clear hp; have hp := hp0; clear hp0
  replace hp : Hp _ _ _ (Res.obj 40 v7 [.int .i64 (0 : Int), .int .u32 (0 : Int), .int .u32 (0 : Int)] :: Res.obj 39 v1 [.int .i64 x0_Length, .int .u32 x0_One, .int .u32 x0_Two] :: ow) := hp
  refine st_stO (us := [.int .i64 q5.1, .int .u32 q5.2.1, .int .u32 q5.2.2]) hf hp (i := 0) rfl rfl rfl rfl rfl (by rfl) (by kernel_rfl) (Nat.le_of_ble_eq_true rfl) ?_
  clear hf; intro a w hf hp0; clear hp; have hp := hp0; clear hp0
  replace hp : Hp _ _ _ (Res.obj 40 v7 [.int .i64 q5.1, .int .u32 q5.2.1, .int .u32 q5.2.2] :: Res.obj 39 v1 [.int .i64 x0_Length, .int .u32 x0_One, .int .u32 x0_Two] :: ow) := hp
  refine st_nil hf ?_
  refine th_n ?_
  refine wp_seq ?_
  refine wp_reg ?_
  refine st_build0 (E := Ek.bool) hf (by decide) elt4 Try.underlying22 hp rfl ?_
  clear hf; intro a w v9 hf hp0; clear hp; have hp := hp0; clear hp0
  replace hp : Hp _ _ _ (Res.sl Ek.bool 4 v9 ([] : List Bool) :: Res.obj 40 v7 [.int .i64 q5.1, .int .u32 q5.2.1, .int .u32 q5.2.2] :: Res.obj 39 v1 [.int .i64 x0_Length, .int .u32 x0_One, .int .u32 x0_Two] :: ow) := hp
  refine st_move hf rfl rfl (by decide) ?_
  clear hf; intro a ha hf; clear ha
  refine st_move hf rfl rfl (by decide) ?_
  clear hf; intro a ha hf; clear ha
  refine st_len (E := Ek.bool) hf (by decide) Try.underlying22 rfl rfl (hmessage1.sl hp) ?_
  clear hf; intro a ha hf; clear ha
  refine st_imin hf (by decide) rfl rfl rfl ?_
  clear hf; intro a ha hf; clear ha
  obtain ⟨hc11, h⟩ := chk h
  have hc12 : 0 ≤ ((imin (message1.length : Int) (2000 : Int))).toNat := by omega
  have hc13 : ((imin (message1.length : Int) (2000 : Int))).toNat ≤ message1.length := by omega
  refine st_cutS (E := Ek.bool) hf (by decide) Try.underlying22 elt4 rfl rfl (hmessage1.sl hp) (.inl ⟨rfl, rfl⟩) (.inr ⟨_, _, rfl, evI rfl (by omega)⟩) hc12 hc13 ?_
  clear hf; intro a ha hf; clear ha
  obtain ⟨hc14, h⟩ := chk h
  refine st_append (E := Ek.bool) hf (by decide) elt4 Try.underlying22 (by decide) hp (i := 0) rfl rfl rfl rfl ((RdS.cut hmessage1 hc12 hc13).sl hp) hc14 ?_
  clear hf; intro a w v15 hf hp0; clear hp; have hp := hp0; clear hp0
  replace hp : Hp _ _ _ (Res.sl Ek.bool 4 v15 (([] : List Bool) ++ ((message1.drop 0).take (((imin (message1.length : Int) (2000 : Int))).toNat - 0))) :: Res.obj 40 v7 [.int .i64 q5.1, .int .u32 q5.2.1, .int .u32 q5.2.2] :: Res.obj 39 v1 [.int .i64 x0_Length, .int .u32 x0_One, .int .u32 x0_Two] :: ow) := hp
  refine st_assign hf rfl rfl (by decide) ?_
  clear hf; intro a ha hf; clear ha
  refine st_nil hf ?_
  refine th_n ?_
  refine wp_seq ?_
  refine wp_reg ?_
  refine st_ldOA (m := 3) (us := [.int .i64 q5.1, .int .u32 q5.2.1, .int .u32 q5.2.2]) hf (by decide) (by kernel_rfl) rfl rfl (hp.ob (i := 1) rfl) rfl rfl ?_
  clear hf; intro a ha hf; clear ha
  refine st_move hf rfl rfl (by decide) ?_
  clear hf; intro a ha hf; clear ha
  obtain ⟨q16, hcall17, h⟩ := bnd h
  obtain ⟨S18, hp19, rd20, up21, bk22⟩ := Hp.lendS hp (i := 0) rfl
  refine st_call hf (by decide) Try.func27 rfl rfl rfl rfl rfl (f_trellis_Code_Encode_c hp19 _ _ _ _ _ rd20 hcall17) ?_
  rintro _ w ⟨v23, rfl, hp0⟩
  have hp0 := bk22 _ _ hp0
  clear hp; have hp := hp0; clear hp0
  replace hp : Hp _ _ _ (Res.sl Ek.bool 4 v15 (([] : List Bool) ++ ((message1.drop 0).take (((imin (message1.length : Int) (2000 : Int))).toNat - 0))) :: Res.sl Ek.bool 4 v23 q16.1 :: Res.obj 40 v7 [.int .i64 q5.1, .int .u32 q5.2.1, .int .u32 q5.2.2] :: Res.obj 39 v1 [.int .i64 x0_Length, .int .u32 x0_One, .int .u32 x0_Two] :: ow) := hp
  refine ⟨_, rfl, ?_⟩
  clear hf; intro a hf
  refine st_move hf rfl rfl (by decide) ?_
  clear hf; intro a ha hf; clear ha
  refine st_extract hf (by decide) rfl rfl rfl ?_
  clear hf; intro a ha hf; clear ha
  refine st_extract hf (by decide) rfl rfl rfl ?_
  clear hf; intro a ha hf; clear ha
  refine st_assign hf rfl rfl (by decide) ?_
  clear hf; intro a ha hf; clear ha
  refine st_assign hf rfl rfl (by decide) ?_
  clear hf; intro a ha hf; clear ha
  refine st_nil hf ?_
  refine th_n ?_
  refine wp_seq ?_
  refine wp_reg ?_
  refine st_ldOA (m := 3) (us := [.int .i64 q5.1, .int .u32 q5.2.1, .int .u32 q5.2.2]) hf (by decide) (by kernel_rfl) rfl rfl (hp.ob (i := 2) rfl) rfl rfl ?_
  clear hf; intro a ha hf; clear ha
  obtain ⟨q25, hcall26, h⟩ := bnd h
  refine st_call hf (by decide) Try.func28 rfl rfl rfl rfl rfl (f_trellis_Code_Free_c hp _ _ _ hcall26) ?_
  rintro _ w ⟨rfl, hp0⟩
  clear hp; have hp := hp0; clear hp0
  replace hp : Hp _ _ _ (Res.sl Ek.bool 4 v15 (([] : List Bool) ++ ((message1.drop 0).take (((imin (message1.length : Int) (2000 : Int))).toNat - 0))) :: Res.sl Ek.bool 4 v23 q16.1 :: Res.obj 40 v7 [.int .i64 q5.1, .int .u32 q5.2.1, .int .u32 q5.2.2] :: Res.obj 39 v1 [.int .i64 x0_Length, .int .u32 x0_One, .int .u32 x0_Two] :: ow) := hp
  refine ⟨_, rfl, ?_⟩
  clear hf; intro a hf
  refine st_move hf rfl rfl (by decide) ?_
  clear hf; intro a ha hf; clear ha
  refine st_extract hf (by decide) rfl rfl rfl ?_
  clear hf; intro a ha hf; clear ha
  refine st_extract hf (by decide) rfl rfl rfl ?_
  clear hf; intro a ha hf; clear ha
  refine st_assign hf rfl rfl (by decide) ?_
  clear hf; intro a ha hf; clear ha
  refine st_assign hf rfl rfl (by decide) ?_
  clear hf; intro a ha hf; clear ha
  refine st_nil hf ?_
  refine th_n ?_
  refine wp_seq ?_
  refine wp_seq ?_
  refine wp_reg ?_
  refine st_move hf rfl rfl (by decide) ?_
  clear hf; intro a ha hf; clear ha
  refine st_ineq hf (by decide) rfl rfl rfl ?_
  clear hf; intro a ha hf; clear ha
  refine st_move hf rfl rfl (by decide) ?_
  clear hf; intro a ha hf; clear ha
  refine wpList_cut 3 (fun a w => Fr 173 a [(1, v15), (2, vhits2), (7, optr v7 0), (8, v23), (10, .int .i64 q25.1), (51, .bool ((q16.2 != (0 : Int)) || (q25.2 != (0 : Int))))] ∧ Hp S w0 w (Res.sl Ek.bool 4 v15 (([] : List Bool) ++ ((message1.drop 0).take (((imin (message1.length : Int) (2000 : Int))).toNat - 0))) :: Res.sl Ek.bool 4 v23 q16.1 :: Res.obj 40 v7 [.int .i64 q5.1, .int .u32 q5.2.1, .int .u32 q5.2.2] :: Res.obj 39 v1 [.int .i64 x0_Length, .int .u32 x0_One, .int .u32 x0_Two] :: ow)) ?_ ?_
  · rcases Bool.eq_false_or_eq_true (q16.2 != (0 : Int)) with hb28 | hb28
    · skip
      refine st_skip hf (wantN hf rfl rfl hb28) rfl (by decide) ?_ rfl
      clear hf; intro a hf
      refine st_skip hf (wantN hf rfl rfl hb28) rfl (by decide) ?_ rfl
      clear hf; intro a hf
      refine st_pick (v := .bool true) hf rfl rfl (fun hb' => ?_) (fun hb' => ?_) (by decide) ?_
      · rfl
      · exact absurd (hb28.symm.trans hb') (by decide)
      clear hf; intro a ha hf; clear ha
      refine st_nil hf (th_n ?_)
      exact ⟨hf.sub ⟨rfl, rfl, rfl, rfl, rfl, (by rw [hb28]; rfl), trivial⟩, hp⟩
    refine st_move hf (wantY hf rfl rfl hb28) rfl (by decide) ?_
    clear hf; intro a ha hf; clear ha
    refine st_ineq hf (by decide) (wantY hf rfl rfl hb28) rfl rfl ?_
    clear hf; intro a ha hf; clear ha
    refine st_pick (v := .bool (q25.2 != (0 : Int))) hf rfl rfl (fun hb' => ?_) (fun hb' => ?_) (by decide) ?_
    · exact absurd (hb28.symm.trans hb') (by decide)
    · rfl
    clear hf; intro a ha hf; clear ha
    refine st_nil hf (th_n ?_)
    exact ⟨hf.sub ⟨rfl, rfl, rfl, rfl, rfl, (by rw [hb28]; rfl), trivial⟩, hp⟩
  rintro a w ⟨hf, hp⟩
  refine st_move hf rfl rfl (by decide) ?_
  clear hf; intro a ha hf; clear ha
  refine wpList_cut 11 (fun a w => Fr 173 a [(1, v15), (2, vhits2), (7, optr v7 0), (8, v23), (10, .int .i64 q25.1), (63, .bool (((q16.2 != (0 : Int)) || (q25.2 != (0 : Int))) || ((q16.1.length : Int) != (IntKind.i64.wrap ((2 : Int) * (IntKind.i64.wrap ((IntKind.i64.wrap (((([] : List Bool) ++ ((message1.drop 0).take (((imin (message1.length : Int) (2000 : Int))).toNat - 0))).length : Int) + q5.1)) - (1 : Int))))))))] ∧ Hp S w0 w (Res.sl Ek.bool 4 v15 (([] : List Bool) ++ ((message1.drop 0).take (((imin (message1.length : Int) (2000 : Int))).toNat - 0))) :: Res.sl Ek.bool 4 v23 q16.1 :: Res.obj 40 v7 [.int .i64 q5.1, .int .u32 q5.2.1, .int .u32 q5.2.2] :: Res.obj 39 v1 [.int .i64 x0_Length, .int .u32 x0_One, .int .u32 x0_Two] :: ow)) ?_ ?_
  · rcases Bool.eq_false_or_eq_true ((q16.2 != (0 : Int)) || (q25.2 != (0 : Int))) with hb30 | hb30
    · skip
      refine st_skip hf (wantN hf rfl rfl hb30) rfl (by decide) ?_ rfl
      clear hf; intro a hf
      refine st_skip hf (wantN hf rfl rfl hb30) rfl (by decide) ?_ rfl
      clear hf; intro a hf
      refine st_skip hf (wantN hf rfl rfl hb30) rfl (by decide) ?_ rfl
      clear hf; intro a hf
      refine st_skip hf (wantN hf rfl rfl hb30) rfl (by decide) ?_ rfl
      clear hf; intro a hf
      refine st_skip hf (wantN hf rfl rfl hb30) rfl (by decide) ?_ rfl
      clear hf; intro a hf
      refine st_skip hf (wantN hf rfl rfl hb30) rfl (by decide) ?_ rfl
      clear hf; intro a hf
      refine st_skip hf (wantN hf rfl rfl hb30) rfl (by decide) ?_ rfl
      clear hf; intro a hf
      refine st_skip hf (wantN hf rfl rfl hb30) rfl (by decide) ?_ rfl
      clear hf; intro a hf
      refine st_skip hf (wantN hf rfl rfl hb30) rfl (by decide) ?_ rfl
      clear hf; intro a hf
      refine st_skip hf (wantN hf rfl rfl hb30) rfl (by decide) ?_ rfl
      clear hf; intro a hf
      refine st_pick (v := .bool true) hf rfl rfl (fun hb' => ?_) (fun hb' => ?_) (by decide) ?_
      · rfl
      · exact absurd (hb30.symm.trans hb') (by decide)
      clear hf; intro a ha hf; clear ha
      refine st_nil hf (th_n ?_)
      exact ⟨hf.sub ⟨rfl, rfl, rfl, rfl, rfl, (by rw [hb30]; rfl), trivial⟩, hp⟩
    refine st_move hf (wantY hf rfl rfl hb30) rfl (by decide) ?_
    clear hf; intro a ha hf; clear ha
    refine st_len (E := Ek.bool) hf (by decide) Try.underlying22 (wantY hf rfl rfl hb30) rfl (hp.sl (i := 1) rfl) ?_
    clear hf; intro a ha hf; clear ha
    refine st_move hf (wantY hf rfl rfl hb30) rfl (by decide) ?_
    clear hf; intro a ha hf; clear ha
    refine st_len (E := Ek.bool) hf (by decide) Try.underlying22 (wantY hf rfl rfl hb30) rfl (hp.sl (i := 0) rfl) ?_
    clear hf; intro a ha hf; clear ha
    refine st_fa (o' := 0) hf (by decide) (off := 0) (sz := 1) (by kernel_rfl) (by decide) (wantY hf rfl rfl hb30) rfl (hp.ob (i := 2) rfl) rfl ?_
    clear hf; intro a ha hf; clear ha
    refine st_ldO (u := .int .i64 q5.1) hf (by decide) pl3 (wantY hf rfl rfl hb30) rfl (hp.ob (i := 2) rfl) rfl ?_
    clear hf; intro a ha hf; clear ha
    refine st_iadd hf (by decide) (wantY hf rfl rfl hb30) rfl rfl ?_
    clear hf; intro a ha hf; clear ha
    refine st_isub hf (by decide) (wantY hf rfl rfl hb30) rfl rfl ?_
    clear hf; intro a ha hf; clear ha
    refine st_imul hf (by decide) (wantY hf rfl rfl hb30) rfl rfl ?_
    clear hf; intro a ha hf; clear ha
    refine st_ineq hf (by decide) (wantY hf rfl rfl hb30) rfl rfl ?_
    clear hf; intro a ha hf; clear ha
    refine st_pick (v := .bool ((q16.1.length : Int) != (IntKind.i64.wrap ((2 : Int) * (IntKind.i64.wrap ((IntKind.i64.wrap (((([] : List Bool) ++ ((message1.drop 0).take (((imin (message1.length : Int) (2000 : Int))).toNat - 0))).length : Int) + q5.1)) - (1 : Int))))))) hf rfl rfl (fun hb' => ?_) (fun hb' => ?_) (by decide) ?_
    · exact absurd (hb30.symm.trans hb') (by decide)
    · rfl
    clear hf; intro a ha hf; clear ha
    refine st_nil hf (th_n ?_)
    exact ⟨hf.sub ⟨rfl, rfl, rfl, rfl, rfl, (by rw [hb30]; rfl), trivial⟩, hp⟩
  rintro a w ⟨hf, hp⟩
  refine st_move hf rfl rfl (by decide) ?_
  clear hf; intro a ha hf; clear ha
  refine wpList_cut 3 (fun a w => Fr 173 a [(1, v15), (2, vhits2), (7, optr v7 0), (8, v23), (10, .int .i64 q25.1), (67, .bool ((((q16.2 != (0 : Int)) || (q25.2 != (0 : Int))) || ((q16.1.length : Int) != (IntKind.i64.wrap ((2 : Int) * (IntKind.i64.wrap ((IntKind.i64.wrap (((([] : List Bool) ++ ((message1.drop 0).take (((imin (message1.length : Int) (2000 : Int))).toNat - 0))).length : Int) + q5.1)) - (1 : Int))))))) || (decide (q25.1 < (1 : Int)))))] ∧ Hp S w0 w (Res.sl Ek.bool 4 v15 (([] : List Bool) ++ ((message1.drop 0).take (((imin (message1.length : Int) (2000 : Int))).toNat - 0))) :: Res.sl Ek.bool 4 v23 q16.1 :: Res.obj 40 v7 [.int .i64 q5.1, .int .u32 q5.2.1, .int .u32 q5.2.2] :: Res.obj 39 v1 [.int .i64 x0_Length, .int .u32 x0_One, .int .u32 x0_Two] :: ow)) ?_ ?_
  · rcases Bool.eq_false_or_eq_true (((q16.2 != (0 : Int)) || (q25.2 != (0 : Int))) || ((q16.1.length : Int) != (IntKind.i64.wrap ((2 : Int) * (IntKind.i64.wrap ((IntKind.i64.wrap (((([] : List Bool) ++ ((message1.drop 0).take (((imin (message1.length : Int) (2000 : Int))).toNat - 0))).length : Int) + q5.1)) - (1 : Int))))))) with hb32 | hb32
    · skip
      refine st_skip hf (wantN hf rfl rfl hb32) rfl (by decide) ?_ rfl
      clear hf; intro a hf
      refine st_skip hf (wantN hf rfl rfl hb32) rfl (by decide) ?_ rfl
      clear hf; intro a hf
      refine st_pick (v := .bool true) hf rfl rfl (fun hb' => ?_) (fun hb' => ?_) (by decide) ?_
      · rfl
      · exact absurd (hb32.symm.trans hb') (by decide)
      clear hf; intro a ha hf; clear ha
      refine st_nil hf (th_n ?_)
      exact ⟨hf.sub ⟨rfl, rfl, rfl, rfl, rfl, (by rw [hb32]; rfl), trivial⟩, hp⟩
    refine st_move hf (wantY hf rfl rfl hb32) rfl (by decide) ?_
    clear hf; intro a ha hf; clear ha
    refine st_ilss hf (by decide) (wantY hf rfl rfl hb32) rfl rfl ?_
    clear hf; intro a ha hf; clear ha
    refine st_pick (v := .bool (decide (q25.1 < (1 : Int)))) hf rfl rfl (fun hb' => ?_) (fun hb' => ?_) (by decide) ?_
    · exact absurd (hb32.symm.trans hb') (by decide)
    · rfl
    clear hf; intro a ha hf; clear ha
    refine st_nil hf (th_n ?_)
    exact ⟨hf.sub ⟨rfl, rfl, rfl, rfl, rfl, (by rw [hb32]; rfl), trivial⟩, hp⟩
  rintro a w ⟨hf, hp⟩
  refine st_nil hf ?_
  refine th_n ?_
  refine wp_if hf rfl (fun hb => ?_) (fun hb => ?_)
  · replace h := ifT h hb
    refine wp_seq ?_
    refine wp_reg ?_
    refine st_assign hf rfl rfl (by decide) ?_
    clear hf; intro a ha hf; clear ha
    refine st_nil hf ?_
    refine th_n ?_
    refine wp_ret ?_
    refine th_r ?_
    obtain rfl := Option.some.inj h
    have hp : Hp _ _ _ (ow) := Hp.sel (pre := [Res.sl Ek.bool 4 v15 (([] : List Bool) ++ ((message1.drop 0).take (((imin (message1.length : Int) (2000 : Int))).toNat - 0))), Res.sl Ek.bool 4 v23 q16.1, Res.obj 40 v7 [.int .i64 q5.1, .int .u32 q5.2.1, .int .u32 q5.2.2], Res.obj 39 v1 [.int .i64 x0_Length, .int .u32 x0_One, .int .u32 x0_Two]]) (tail := ow) (rs' := []) hp [] (by decide) (by simp) rfl
    exact ⟨rfl, ⟨hf.sub ⟨rfl, trivial⟩, hp⟩⟩
  replace h := ifF h hb
  refine wp_skip ?_
  refine th_n ?_
  refine wp_seq ?_
  refine wp_reg ?_
  refine st_move hf rfl rfl (by decide) ?_
  clear hf; intro a ha hf; clear ha
  obtain ⟨q33, hcall34, h⟩ := bnd h
  obtain ⟨S35, hp36, rd37, up38, bk39⟩ := Hp.lendS hp (i := 1) rfl
  refine st_call hf (by decide) Try.func15 rfl rfl rfl rfl rfl (f_hard_Marks_c hp36 _ _ rd37 hcall34) ?_
  rintro _ w ⟨v40, rfl, hp0⟩
  have hp0 := bk39 _ _ hp0
  clear hp; have hp := hp0; clear hp0
  replace hp : Hp _ _ _ (Res.sl Ek.bool 4 v23 q16.1 :: Res.sl (Ek.int .u8) 51 v40 q33 :: Res.sl Ek.bool 4 v15 (([] : List Bool) ++ ((message1.drop 0).take (((imin (message1.length : Int) (2000 : Int))).toNat - 0))) :: Res.obj 40 v7 [.int .i64 q5.1, .int .u32 q5.2.1, .int .u32 q5.2.2] :: Res.obj 39 v1 [.int .i64 x0_Length, .int .u32 x0_One, .int .u32 x0_Two] :: ow) := hp
  refine ⟨_, rfl, ?_⟩
  clear hf; intro a hf
  refine st_assign hf rfl rfl (by decide) ?_
  clear hf; intro a ha hf; clear ha
  refine st_nil hf ?_
  refine th_n ?_
  refine wp_seq ?_
  refine wp_seq ?_
  refine wp_reg ?_
  refine st_move hf rfl rfl (by decide) ?_
  clear hf; intro a ha hf; clear ha
  refine st_len (E := (Ek.int .u8)) hf (by decide) Try.underlying26 rfl rfl (hp.sl (i := 1) rfl) ?_
  clear hf; intro a ha hf; clear ha
  refine st_move hf rfl rfl (by decide) ?_
  clear hf; intro a ha hf; clear ha
  refine st_len (E := Ek.bool) hf (by decide) Try.underlying22 rfl rfl (hp.sl (i := 0) rfl) ?_
  clear hf; intro a ha hf; clear ha
  refine st_ineq hf (by decide) rfl rfl rfl ?_
  clear hf; intro a ha hf; clear ha
  refine st_nil hf ?_
  refine th_n ?_
  refine wp_if hf rfl (fun hb => ?_) (fun hb => ?_)
  · replace h := ifT h hb
    refine wp_seq ?_
    refine wp_reg ?_
    refine st_assign hf rfl rfl (by decide) ?_
    clear hf; intro a ha hf; clear ha
    refine st_nil hf ?_
    refine th_n ?_
    refine wp_ret ?_
    refine th_r ?_
    obtain rfl := Option.some.inj h
    have hp : Hp _ _ _ (ow) := Hp.sel (pre := [Res.sl Ek.bool 4 v23 q16.1, Res.sl (Ek.int .u8) 51 v40 q33, Res.sl Ek.bool 4 v15 (([] : List Bool) ++ ((message1.drop 0).take (((imin (message1.length : Int) (2000 : Int))).toNat - 0))), Res.obj 40 v7 [.int .i64 q5.1, .int .u32 q5.2.1, .int .u32 q5.2.2], Res.obj 39 v1 [.int .i64 x0_Length, .int .u32 x0_One, .int .u32 x0_Two]]) (tail := ow) (rs' := []) hp [] (by decide) (by simp) rfl
    exact ⟨rfl, ⟨hf.sub ⟨rfl, trivial⟩, hp⟩⟩
  replace h := ifF h hb
  refine wp_skip ?_
  refine th_n ?_
  refine wp_seq ?_
  refine wp_reg ?_
  refine st_move hf rfl rfl (by decide) ?_
  clear hf; intro a ha hf; clear ha
  refine st_isub hf (by decide) rfl rfl rfl ?_
  clear hf; intro a ha hf; clear ha
  refine st_assign hf rfl rfl (by decide) ?_
  clear hf; intro a ha hf; clear ha
  refine st_nil hf ?_
  refine th_n ?_
  refine wp_seq ?_
  refine wp_reg ?_
  refine st_assign hf rfl rfl (by decide) ?_
  clear hf; intro a ha hf; clear ha
  refine st_nil hf ?_
  refine th_n ?_
  refine wp_seq ?_
  refine wp_reg ?_
  refine st_move hf rfl rfl (by decide) ?_
  clear hf; intro a ha hf; clear ha
  refine st_len (E := Ek.bool) hf (by decide) Try.underlying22 rfl rfl (hp.sl (i := 0) rfl) ?_
  clear hf; intro a ha hf; clear ha
  obtain ⟨hc42, h⟩ := chk h
  refine st_make (E := Ek.bool) hf (by decide) elt4 Try.underlying22 (by decide) hp rfl rfl rfl hc42.1 hc42.2.1 hc42.2.2 ?_
  clear hf; intro a w v43 hf hp0; clear hp; have hp := hp0; clear hp0
  replace hp : Hp _ _ _ (Res.sl Ek.bool 4 v43 (List.replicate ((q16.1.length : Int)).toNat false) :: Res.sl Ek.bool 4 v23 q16.1 :: Res.sl (Ek.int .u8) 51 v40 q33 :: Res.sl Ek.bool 4 v15 (([] : List Bool) ++ ((message1.drop 0).take (((imin (message1.length : Int) (2000 : Int))).toNat - 0))) :: Res.obj 40 v7 [.int .i64 q5.1, .int .u32 q5.2.1, .int .u32 q5.2.2] :: Res.obj 39 v1 [.int .i64 x0_Length, .int .u32 x0_One, .int .u32 x0_Two] :: ow) := hp
  refine st_assign hf rfl rfl (by decide) ?_
  clear hf; intro a ha hf; clear ha
  refine st_nil hf ?_
  refine th_n ?_
  refine wp_seq ?_
  refine wp_seq ?_
  refine wp_reg ?_
  refine st_assign hf rfl rfl (by decide) ?_
  clear hf; intro a ha hf; clear ha
  refine st_nil hf ?_
  refine th_n ?_
  refine wp_block ?_
  obtain ⟨q63, hl, h⟩ := bnd h
  have hp : Hp _ _ _ (Res.sl (Ek.int .u8) 51 v40 q33 :: Res.sl Ek.bool 4 v43 (List.replicate ((q16.1.length : Int)).toNat false) :: Res.sl Ek.bool 4 v15 (([] : List Bool) ++ ((message1.drop 0).take (((imin (message1.length : Int) (2000 : Int))).toNat - 0))) :: Res.obj 40 v7 [.int .i64 q5.1, .int .u32 q5.2.1, .int .u32 q5.2.2] :: Res.sl Ek.bool 4 v23 q16.1 :: ow) := Hp.sel (pre := [Res.sl Ek.bool 4 v43 (List.replicate ((q16.1.length : Int)).toNat false), Res.sl Ek.bool 4 v23 q16.1, Res.sl (Ek.int .u8) 51 v40 q33, Res.sl Ek.bool 4 v15 (([] : List Bool) ++ ((message1.drop 0).take (((imin (message1.length : Int) (2000 : Int))).toNat - 0))), Res.obj 40 v7 [.int .i64 q5.1, .int .u32 q5.2.1, .int .u32 q5.2.2], Res.obj 39 v1 [.int .i64 x0_Length, .int .u32 x0_One, .int .u32 x0_Two]]) (tail := ow) (rs' := [Res.sl (Ek.int .u8) 51 v40 q33, Res.sl Ek.bool 4 v43 (List.replicate ((q16.1.length : Int)).toNat false), Res.sl Ek.bool 4 v15 (([] : List Bool) ++ ((message1.drop 0).take (((imin (message1.length : Int) (2000 : Int))).toNat - 0))), Res.obj 40 v7 [.int .i64 q5.1, .int .u32 q5.2.1, .int .u32 q5.2.2], Res.sl Ek.bool 4 v23 q16.1]) hp [2, 0, 3, 4, 1] (by decide) (by simp) rfl
  refine wp_loop_pure (f := (f_foghornlaw22_HardReach.s1 hits2 q16)) (s := (q33, (IntKind.i64.wrap (q25.1 - (1 : Int))), (0 : Int), (List.replicate ((q16.1.length : Int)).toNat false), (0 : Int))) (fun s a w => ∃ (v45 : Value) (v47 : Value), Fr 173 a [(1, v15), (2, vhits2), (7, optr v7 0), (8, v23), (12, v45), (13, .int .i64 s.2.1), (14, .int .i64 s.2.2.1), (15, v47), (16, .int .i64 s.2.2.2.2)] ∧ Hp S w0 w (Res.sl (Ek.int .u8) 51 v45 s.1 :: Res.sl Ek.bool 4 v47 s.2.2.2.1 :: Res.sl Ek.bool 4 v15 (([] : List Bool) ++ ((message1.drop 0).take (((imin (message1.length : Int) (2000 : Int))).toNat - 0))) :: Res.obj 40 v7 [.int .i64 q5.1, .int .u32 q5.2.1, .int .u32 q5.2.2] :: Res.sl Ek.bool 4 v23 q16.1 :: ow)) (fun q e a w => e = .exit 0 ∧ ∃ (v49 : Value), Fr 173 a [(1, v15), (7, optr v7 0), (8, v23), (12, v49), (14, .int .i64 q.2)] ∧ Hp S w0 w (Res.sl (Ek.int .u8) 51 v49 q.1 :: Res.sl Ek.bool 4 v15 (([] : List Bool) ++ ((message1.drop 0).take (((imin (message1.length : Int) (2000 : Int))).toNat - 0))) :: Res.obj 40 v7 [.int .i64 q5.1, .int .u32 q5.2.1, .int .u32 q5.2.2] :: Res.sl Ek.bool 4 v23 q16.1 :: ow)) ?_ hl ⟨_, _, hf.sub ⟨rfl, rfl, rfl, rfl, rfl, rfl, rfl, rfl, rfl, trivial⟩, hp⟩ ?_
  · clear hl hf hp
    intro s x a w h hI
    obtain ⟨in12, left13, turned14, seen15, i16⟩ := s
    obtain ⟨v45, v47, hf, hp⟩ : ∃ (v45 : Value) (v47 : Value), Fr 173 a [(1, v15), (2, vhits2), (7, optr v7 0), (8, v23), (12, v45), (13, .int .i64 left13), (14, .int .i64 turned14), (15, v47), (16, .int .i64 i16)] ∧ Hp S w0 w (Res.sl (Ek.int .u8) 51 v45 in12 :: Res.sl Ek.bool 4 v47 seen15 :: Res.sl Ek.bool 4 v15 (([] : List Bool) ++ ((message1.drop 0).take (((imin (message1.length : Int) (2000 : Int))).toNat - 0))) :: Res.obj 40 v7 [.int .i64 q5.1, .int .u32 q5.2.1, .int .u32 q5.2.2] :: Res.sl Ek.bool 4 v23 q16.1 :: ow) := hI
    replace h : f_foghornlaw22_HardReach.s1c hits2 q16 in12 left13 turned14 seen15 i16 = some x := h
    unfold f_foghornlaw22_HardReach.s1c at h
    refine wp_seq ?_
    refine wp_seq ?_
    refine wp_reg ?_
    refine st_move hf rfl rfl (by decide) ?_
    clear hf; intro a ha hf; clear ha
    refine st_move hf rfl rfl (by decide) ?_
    clear hf; intro a ha hf; clear ha
    refine st_len (E := (Ek.int .u16)) hf (by decide) Try.underlying56 rfl rfl (hhits2.sl hp) ?_
    clear hf; intro a ha hf; clear ha
    refine st_ilss hf (by decide) rfl rfl rfl ?_
    clear hf; intro a ha hf; clear ha
    refine st_move hf rfl rfl (by decide) ?_
    clear hf; intro a ha hf; clear ha
    refine wpList_cut 3 (fun a w => Fr 173 a [(1, v15), (2, vhits2), (7, optr v7 0), (8, v23), (12, v45), (13, .int .i64 left13), (14, .int .i64 turned14), (15, v47), (16, .int .i64 i16), (87, .bool ((decide (i16 < (hits2.length : Int))) && (decide ((0 : Int) < left13))))] ∧ Hp S w0 w (Res.sl (Ek.int .u8) 51 v45 in12 :: Res.sl Ek.bool 4 v47 seen15 :: Res.sl Ek.bool 4 v15 (([] : List Bool) ++ ((message1.drop 0).take (((imin (message1.length : Int) (2000 : Int))).toNat - 0))) :: Res.obj 40 v7 [.int .i64 q5.1, .int .u32 q5.2.1, .int .u32 q5.2.2] :: Res.sl Ek.bool 4 v23 q16.1 :: ow)) ?_ ?_
    · rcases Bool.eq_false_or_eq_true (decide (i16 < (hits2.length : Int))) with hb52 | hb52
      · skip
        refine st_move hf (wantY hf rfl rfl hb52) rfl (by decide) ?_
        clear hf; intro a ha hf; clear ha
        refine st_igtr hf (by decide) (wantY hf rfl rfl hb52) rfl rfl ?_
        clear hf; intro a ha hf; clear ha
        refine st_pick (v := .bool (decide ((0 : Int) < left13))) hf rfl rfl (fun hb' => ?_) (fun hb' => ?_) (by decide) ?_
        · rfl
        · exact absurd (hb52.symm.trans hb') (by decide)
        clear hf; intro a ha hf; clear ha
        refine st_nil hf (th_n ?_)
        exact ⟨hf.sub ⟨rfl, rfl, rfl, rfl, rfl, rfl, rfl, rfl, rfl, (by rw [hb52]; rfl), trivial⟩, hp⟩
      refine st_skip hf (wantN hf rfl rfl hb52) rfl (by decide) ?_ rfl
      clear hf; intro a hf
      refine st_skip hf (wantN hf rfl rfl hb52) rfl (by decide) ?_ rfl
      clear hf; intro a hf
      refine st_pick (v := .bool false) hf rfl rfl (fun hb' => ?_) (fun hb' => ?_) (by decide) ?_
      · exact absurd (hb52.symm.trans hb') (by decide)
      · rfl
      clear hf; intro a ha hf; clear ha
      refine st_nil hf (th_n ?_)
      exact ⟨hf.sub ⟨rfl, rfl, rfl, rfl, rfl, rfl, rfl, rfl, rfl, (by rw [hb52]; rfl), trivial⟩, hp⟩
    rintro a w ⟨hf, hp⟩
    refine st_nil hf ?_
    refine th_n ?_
    refine wp_if hf rfl (fun hb => ?_) (fun hb => ?_)
    · replace h := ifT h hb
      refine wp_skip ?_
      refine th_n ?_
      refine wp_seq ?_
      refine wp_block ?_
      refine wp_seq ?_
      refine wp_reg ?_
      refine st_move hf rfl rfl (by decide) ?_
      clear hf; intro a ha hf; clear ha
      refine st_move hf rfl rfl (by decide) ?_
      clear hf; intro a ha hf; clear ha
      obtain ⟨hc53, h⟩ := chk h
      refine st_index (E := (Ek.int .u16)) hf (by decide) Try.underlying56 elt59 rfl rfl rfl (hhits2.sl hp) hc53.1 hc53.2 ?_
      clear hf; intro a ha hf; clear ha
      refine st_ldI hf (by decide) pl59 rfl rfl (hhits2.sl hp) hc53.1 hc53.2 ?_
      clear hf; intro a ha hf; clear ha
      refine st_ishr hf (by decide) rfl rfl rfl (by decide) ?_
      clear hf; intro a ha hf; clear ha
      refine st_conv_ii hf (by decide) (by rw [Try.underlying59]; rfl) Try.underlying3 rfl rfl ?_
      clear hf; intro a ha hf; clear ha
      refine st_move hf rfl rfl (by decide) ?_
      clear hf; intro a ha hf; clear ha
      refine st_len (E := Ek.bool) hf (by decide) Try.underlying22 rfl rfl (hp.sl (i := 4) rfl) ?_
      clear hf; intro a ha hf; clear ha
      obtain ⟨hc54, h⟩ := chk h
      refine st_irem hf (by decide) rfl rfl rfl hc54 ?_
      clear hf; intro a ha hf; clear ha
      refine st_assign hf rfl rfl (by decide) ?_
      clear hf; intro a ha hf; clear ha
      refine st_nil hf ?_
      refine th_n ?_
      refine wp_seq ?_
      refine wp_seq ?_
      refine wp_reg ?_
      refine st_move hf rfl rfl (by decide) ?_
      clear hf; intro a ha hf; clear ha
      refine st_move hf rfl rfl (by decide) ?_
      clear hf; intro a ha hf; clear ha
      obtain ⟨hc55, h⟩ := chk h
      refine st_index (E := Ek.bool) hf (by decide) Try.underlying22 elt4 rfl rfl rfl (hp.sl (i := 1) rfl) hc55.1 hc55.2 ?_
      clear hf; intro a ha hf; clear ha
      refine st_ldB hf (by decide) pl4 rfl rfl (hp.sl (i := 1) rfl) hc55.1 hc55.2 ?_
      clear hf; intro a ha hf; clear ha
      refine st_nil hf ?_
      refine th_n ?_
      refine wp_if hf rfl (fun hb => ?_) (fun hb => ?_)
      · replace h := ifT h hb
        refine wp_exit ?_
        refine th_e ?_
        refine ib_same ?_
        refine th_n ?_
        refine wp_reg ?_
        refine st_move hf rfl rfl (by decide) ?_
        clear hf; intro a ha hf; clear ha
        refine st_iadd hf (by decide) rfl rfl rfl ?_
        clear hf; intro a ha hf; clear ha
        refine st_assign hf rfl rfl (by decide) ?_
        clear hf; intro a ha hf; clear ha
        refine st_nil hf ?_
        obtain rfl := Option.some.inj h
        exact rnd_l ⟨_, _, hf.sub ⟨rfl, rfl, rfl, rfl, rfl, rfl, rfl, rfl, rfl, trivial⟩, hp⟩
      replace h := ifF h hb
      refine wp_skip ?_
      refine th_n ?_
      refine wp_seq ?_
      refine wp_reg ?_
      refine st_move hf rfl rfl (by decide) ?_
      clear hf; intro a ha hf; clear ha
      refine st_move hf rfl rfl (by decide) ?_
      clear hf; intro a ha hf; clear ha
      obtain ⟨hc56, h⟩ := chk h
      refine st_index (E := Ek.bool) hf (by decide) Try.underlying22 elt4 rfl rfl rfl (hp.sl (i := 1) rfl) hc56.1 hc56.2 ?_
      clear hf; intro a ha hf; clear ha
      refine st_store (E := Ek.bool) hf elt4 hp (i := 1) rfl rfl rfl rfl rfl hc56.1 hc56.2 ?_
      clear hf; intro a w hf hp0; clear hp; have hp := hp0; clear hp0
      replace hp : Hp _ _ _ (Res.sl (Ek.int .u8) 51 v45 in12 :: Res.sl Ek.bool 4 v47 (seen15.set ((((IntKind.i64.wrap (ishr .u16 (gt hits2 i16) (1 : Int)))).tmod (q16.1.length : Int))).toNat true) :: Res.sl Ek.bool 4 v15 (([] : List Bool) ++ ((message1.drop 0).take (((imin (message1.length : Int) (2000 : Int))).toNat - 0))) :: Res.obj 40 v7 [.int .i64 q5.1, .int .u32 q5.2.1, .int .u32 q5.2.2] :: Res.sl Ek.bool 4 v23 q16.1 :: ow) := hp
      refine st_nil hf ?_
      refine th_n ?_
      refine wp_seq ?_
      refine wp_seq ?_
      refine wp_reg ?_
      refine st_move hf rfl rfl (by decide) ?_
      clear hf; intro a ha hf; clear ha
      refine st_move hf rfl rfl (by decide) ?_
      clear hf; intro a ha hf; clear ha
      obtain ⟨hc57, h⟩ := chk h
      refine st_index (E := (Ek.int .u16)) hf (by decide) Try.underlying56 elt59 rfl rfl rfl (hhits2.sl hp) hc57.1 hc57.2 ?_
      clear hf; intro a ha hf; clear ha
      refine st_ldI hf (by decide) pl59 rfl rfl (hhits2.sl hp) hc57.1 hc57.2 ?_
      clear hf; intro a ha hf; clear ha
      refine st_iand hf (by decide) rfl rfl rfl ?_
      clear hf; intro a ha hf; clear ha
      refine st_ieql hf (by decide) rfl rfl rfl ?_
      clear hf; intro a ha hf; clear ha
      refine st_move hf rfl rfl (by decide) ?_
      clear hf; intro a ha hf; clear ha
      refine wpList_cut 3 (fun a w => Fr 173 a [(1, v15), (2, vhits2), (7, optr v7 0), (8, v23), (12, v45), (13, .int .i64 left13), (14, .int .i64 turned14), (15, v47), (16, .int .i64 i16), (17, .int .i64 (((IntKind.i64.wrap (ishr .u16 (gt hits2 i16) (1 : Int)))).tmod (q16.1.length : Int))), (115, .bool (((iand .u16 (gt hits2 i16) (1 : Int)) == (1 : Int)) || (decide (left13 < (2 : Int)))))] ∧ Hp S w0 w (Res.sl (Ek.int .u8) 51 v45 in12 :: Res.sl Ek.bool 4 v47 (seen15.set ((((IntKind.i64.wrap (ishr .u16 (gt hits2 i16) (1 : Int)))).tmod (q16.1.length : Int))).toNat true) :: Res.sl Ek.bool 4 v15 (([] : List Bool) ++ ((message1.drop 0).take (((imin (message1.length : Int) (2000 : Int))).toNat - 0))) :: Res.obj 40 v7 [.int .i64 q5.1, .int .u32 q5.2.1, .int .u32 q5.2.2] :: Res.sl Ek.bool 4 v23 q16.1 :: ow)) ?_ ?_
      · rcases Bool.eq_false_or_eq_true ((iand .u16 (gt hits2 i16) (1 : Int)) == (1 : Int)) with hb59 | hb59
        · skip
          refine st_skip hf (wantN hf rfl rfl hb59) rfl (by decide) ?_ rfl
          clear hf; intro a hf
          refine st_skip hf (wantN hf rfl rfl hb59) rfl (by decide) ?_ rfl
          clear hf; intro a hf
          refine st_pick (v := .bool true) hf rfl rfl (fun hb' => ?_) (fun hb' => ?_) (by decide) ?_
          · rfl
          · exact absurd (hb59.symm.trans hb') (by decide)
          clear hf; intro a ha hf; clear ha
          refine st_nil hf (th_n ?_)
          exact ⟨hf.sub ⟨rfl, rfl, rfl, rfl, rfl, rfl, rfl, rfl, rfl, rfl, (by rw [hb59]; rfl), trivial⟩, hp⟩
        refine st_move hf (wantY hf rfl rfl hb59) rfl (by decide) ?_
        clear hf; intro a ha hf; clear ha
        refine st_ilss hf (by decide) (wantY hf rfl rfl hb59) rfl rfl ?_
        clear hf; intro a ha hf; clear ha
        refine st_pick (v := .bool (decide (left13 < (2 : Int)))) hf rfl rfl (fun hb' => ?_) (fun hb' => ?_) (by decide) ?_
        · exact absurd (hb59.symm.trans hb') (by decide)
        · rfl
        clear hf; intro a ha hf; clear ha
        refine st_nil hf (th_n ?_)
        exact ⟨hf.sub ⟨rfl, rfl, rfl, rfl, rfl, rfl, rfl, rfl, rfl, rfl, (by rw [hb59]; rfl), trivial⟩, hp⟩
      rintro a w ⟨hf, hp⟩
      refine st_nil hf ?_
      refine th_n ?_
      refine wp_if hf rfl (fun hb => ?_) (fun hb => ?_)
      · replace h := ifT h hb
        refine wp_seq ?_
        refine wp_reg ?_
        refine st_move hf rfl rfl (by decide) ?_
        clear hf; intro a ha hf; clear ha
        refine st_move hf rfl rfl (by decide) ?_
        clear hf; intro a ha hf; clear ha
        obtain ⟨hc60, h⟩ := chk h
        refine st_index (E := (Ek.int .u8)) hf (by decide) Try.underlying26 elt51 rfl rfl rfl (hp.sl (i := 0) rfl) hc60.1 hc60.2 ?_
        clear hf; intro a ha hf; clear ha
        refine st_store (E := (Ek.int .u8)) hf elt51 hp (i := 0) rfl rfl rfl rfl rfl hc60.1 hc60.2 ?_
        clear hf; intro a w hf hp0; clear hp; have hp := hp0; clear hp0
        replace hp : Hp _ _ _ (Res.sl (Ek.int .u8) 51 v45 (in12.set ((((IntKind.i64.wrap (ishr .u16 (gt hits2 i16) (1 : Int)))).tmod (q16.1.length : Int))).toNat (2 : Int)) :: Res.sl Ek.bool 4 v47 (seen15.set ((((IntKind.i64.wrap (ishr .u16 (gt hits2 i16) (1 : Int)))).tmod (q16.1.length : Int))).toNat true) :: Res.sl Ek.bool 4 v15 (([] : List Bool) ++ ((message1.drop 0).take (((imin (message1.length : Int) (2000 : Int))).toNat - 0))) :: Res.obj 40 v7 [.int .i64 q5.1, .int .u32 q5.2.1, .int .u32 q5.2.2] :: Res.sl Ek.bool 4 v23 q16.1 :: ow) := hp
        refine st_nil hf ?_
        refine th_n ?_
        refine wp_seq ?_
        refine wp_reg ?_
        refine st_move hf rfl rfl (by decide) ?_
        clear hf; intro a ha hf; clear ha
        refine st_isub hf (by decide) rfl rfl rfl ?_
        clear hf; intro a ha hf; clear ha
        refine st_assign hf rfl rfl (by decide) ?_
        clear hf; intro a ha hf; clear ha
        refine st_nil hf ?_
        refine th_n ?_
        refine wp_exit ?_
        refine th_e ?_
        refine ib_same ?_
        refine th_n ?_
        refine wp_reg ?_
        refine st_move hf rfl rfl (by decide) ?_
        clear hf; intro a ha hf; clear ha
        refine st_iadd hf (by decide) rfl rfl rfl ?_
        clear hf; intro a ha hf; clear ha
        refine st_assign hf rfl rfl (by decide) ?_
        clear hf; intro a ha hf; clear ha
        refine st_nil hf ?_
        obtain rfl := Option.some.inj h
        exact rnd_l ⟨_, _, hf.sub ⟨rfl, rfl, rfl, rfl, rfl, rfl, rfl, rfl, rfl, trivial⟩, hp⟩
      replace h := ifF h hb
      refine wp_skip ?_
      refine th_n ?_
      refine wp_seq ?_
      refine wp_reg ?_
      refine st_move hf rfl rfl (by decide) ?_
      clear hf; intro a ha hf; clear ha
      refine st_move hf rfl rfl (by decide) ?_
      clear hf; intro a ha hf; clear ha
      refine st_move hf rfl rfl (by decide) ?_
      clear hf; intro a ha hf; clear ha
      refine st_move hf rfl rfl (by decide) ?_
      clear hf; intro a ha hf; clear ha
      obtain ⟨hc61, h⟩ := chk h
      refine st_index (E := (Ek.int .u8)) hf (by decide) Try.underlying26 elt51 rfl rfl rfl (hp.sl (i := 0) rfl) hc61.1 hc61.2 ?_
      clear hf; intro a ha hf; clear ha
      refine st_ldI hf (by decide) pl51 rfl rfl (hp.sl (i := 0) rfl) hc61.1 hc61.2 ?_
      clear hf; intro a ha hf; clear ha
      refine st_isub hf (by decide) rfl rfl rfl ?_
      clear hf; intro a ha hf; clear ha
      obtain ⟨hc62, h⟩ := chk h
      refine st_index (E := (Ek.int .u8)) hf (by decide) Try.underlying26 elt51 rfl rfl rfl (hp.sl (i := 0) rfl) hc62.1 hc62.2 ?_
      clear hf; intro a ha hf; clear ha
      refine st_store (E := (Ek.int .u8)) hf elt51 hp (i := 0) rfl rfl rfl rfl rfl hc62.1 hc62.2 ?_
      clear hf; intro a w hf hp0; clear hp; have hp := hp0; clear hp0
      replace hp : Hp _ _ _ (Res.sl (Ek.int .u8) 51 v45 (in12.set ((((IntKind.i64.wrap (ishr .u16 (gt hits2 i16) (1 : Int)))).tmod (q16.1.length : Int))).toNat (IntKind.u8.wrap ((1 : Int) - (gt in12 (((IntKind.i64.wrap (ishr .u16 (gt hits2 i16) (1 : Int)))).tmod (q16.1.length : Int)))))) :: Res.sl Ek.bool 4 v47 (seen15.set ((((IntKind.i64.wrap (ishr .u16 (gt hits2 i16) (1 : Int)))).tmod (q16.1.length : Int))).toNat true) :: Res.sl Ek.bool 4 v15 (([] : List Bool) ++ ((message1.drop 0).take (((imin (message1.length : Int) (2000 : Int))).toNat - 0))) :: Res.obj 40 v7 [.int .i64 q5.1, .int .u32 q5.2.1, .int .u32 q5.2.2] :: Res.sl Ek.bool 4 v23 q16.1 :: ow) := hp
      refine st_nil hf ?_
      refine th_n ?_
      refine wp_seq ?_
      refine wp_reg ?_
      refine st_move hf rfl rfl (by decide) ?_
      clear hf; intro a ha hf; clear ha
      refine st_isub hf (by decide) rfl rfl rfl ?_
      clear hf; intro a ha hf; clear ha
      refine st_assign hf rfl rfl (by decide) ?_
      clear hf; intro a ha hf; clear ha
      refine st_nil hf ?_
      refine th_n ?_
      refine wp_reg ?_
      refine st_move hf rfl rfl (by decide) ?_
      clear hf; intro a ha hf; clear ha
      refine st_iadd hf (by decide) rfl rfl rfl ?_
      clear hf; intro a ha hf; clear ha
      refine st_assign hf rfl rfl (by decide) ?_
      clear hf; intro a ha hf; clear ha
      refine st_nil hf ?_
      refine ib_n ?_
      refine th_n ?_
      refine wp_reg ?_
      refine st_move hf rfl rfl (by decide) ?_
      clear hf; intro a ha hf; clear ha
      refine st_iadd hf (by decide) rfl rfl rfl ?_
      clear hf; intro a ha hf; clear ha
      refine st_assign hf rfl rfl (by decide) ?_
      clear hf; intro a ha hf; clear ha
      refine st_nil hf ?_
      obtain rfl := Option.some.inj h
      exact rnd_l ⟨_, _, hf.sub ⟨rfl, rfl, rfl, rfl, rfl, rfl, rfl, rfl, rfl, trivial⟩, hp⟩
    replace h := ifF h hb
    refine wp_exit ?_
    refine th_e ?_
    obtain rfl := Option.some.inj h
    have hp : Hp _ _ _ (Res.sl (Ek.int .u8) 51 v45 in12 :: Res.sl Ek.bool 4 v15 (([] : List Bool) ++ ((message1.drop 0).take (((imin (message1.length : Int) (2000 : Int))).toNat - 0))) :: Res.obj 40 v7 [.int .i64 q5.1, .int .u32 q5.2.1, .int .u32 q5.2.2] :: Res.sl Ek.bool 4 v23 q16.1 :: ow) := Hp.sel (pre := [Res.sl (Ek.int .u8) 51 v45 in12, Res.sl Ek.bool 4 v47 seen15, Res.sl Ek.bool 4 v15 (([] : List Bool) ++ ((message1.drop 0).take (((imin (message1.length : Int) (2000 : Int))).toNat - 0))), Res.obj 40 v7 [.int .i64 q5.1, .int .u32 q5.2.1, .int .u32 q5.2.2], Res.sl Ek.bool 4 v23 q16.1]) (tail := ow) (rs' := [Res.sl (Ek.int .u8) 51 v45 in12, Res.sl Ek.bool 4 v15 (([] : List Bool) ++ ((message1.drop 0).take (((imin (message1.length : Int) (2000 : Int))).toNat - 0))), Res.obj 40 v7 [.int .i64 q5.1, .int .u32 q5.2.1, .int .u32 q5.2.2], Res.sl Ek.bool 4 v23 q16.1]) hp [0, 2, 3, 4] (by decide) (by simp) rfl
    exact rnd_r (by simp) ⟨rfl, _, hf.sub ⟨rfl, rfl, rfl, rfl, rfl, trivial⟩, hp⟩
  clear hl hf hp
  intro e a w hne hO
  obtain ⟨rfl, v49, hf, hp⟩ := hO
  refine ib_same ?_
  refine th_n ?_
  refine wp_seq ?_
  refine wp_reg ?_
  refine st_ldOA (m := 3) (us := [.int .i64 q5.1, .int .u32 q5.2.1, .int .u32 q5.2.2]) hf (by decide) (by kernel_rfl) rfl rfl (hp.ob (i := 2) rfl) rfl rfl ?_
  clear hf; intro a ha hf; clear ha
  refine st_move hf rfl rfl (by decide) ?_
  clear hf; intro a ha hf; clear ha
  obtain ⟨q64, hcall65, h⟩ := bnd h
  obtain ⟨S66, hp67, rd68, up69, bk70⟩ := Hp.lendS hp (i := 0) rfl
  refine st_call hf (by decide) Try.func19 rfl rfl rfl rfl rfl (f_hard_Path_c hp67 _ _ _ _ _ rd68 hcall65) ?_
  rintro _ w ⟨v71, rfl, hp0⟩
  have hp0 := bk70 _ _ hp0
  clear hp; have hp := hp0; clear hp0
  replace hp : Hp _ _ _ (Res.sl (Ek.int .u8) 51 v49 q63.1 :: Res.sl Ek.bool 4 v71 q64.1 :: Res.sl Ek.bool 4 v15 (([] : List Bool) ++ ((message1.drop 0).take (((imin (message1.length : Int) (2000 : Int))).toNat - 0))) :: Res.obj 40 v7 [.int .i64 q5.1, .int .u32 q5.2.1, .int .u32 q5.2.2] :: Res.sl Ek.bool 4 v23 q16.1 :: ow) := hp
  refine ⟨_, rfl, ?_⟩
  clear hf; intro a hf
  refine st_move hf rfl rfl (by decide) ?_
  clear hf; intro a ha hf; clear ha
  refine st_extract hf (by decide) rfl rfl rfl ?_
  clear hf; intro a ha hf; clear ha
  refine st_extract hf (by decide) rfl rfl rfl ?_
  clear hf; intro a ha hf; clear ha
  refine st_extract hf (by decide) rfl rfl rfl ?_
  clear hf; intro a ha hf; clear ha
  refine st_assign hf rfl rfl (by decide) ?_
  clear hf; intro a ha hf; clear ha
  refine st_assign hf rfl rfl (by decide) ?_
  clear hf; intro a ha hf; clear ha
  refine st_assign hf rfl rfl (by decide) ?_
  clear hf; intro a ha hf; clear ha
  refine st_nil hf ?_
  refine th_n ?_
  refine wp_seq ?_
  obtain ⟨S73, hp74, rd75, up76, bk77⟩ := Hp.lendO hp (i := 3) rfl
  have rl78 := rd75
  obtain ⟨q79, hcall80, h⟩ := bnd h
  obtain ⟨q88, hcall89, h⟩ := bnd h
  refine wp_cutN (fun a w => ∃ (v86 : Value) (v95 : Value), Fr 173 a [(1, v15), (14, .int .i64 q63.2), (18, v71), (19, .int .i64 q64.2.1), (20, .int .i64 q64.2.2), (21, v95), (22, .int .i64 q88.2.1), (23, .int .i64 q88.2.2)] ∧ Hp S w0 w (Res.obj 40 v7 [.int .i64 q5.1, .int .u32 q5.2.1, .int .u32 q5.2.2] :: Res.sl (Ek.int .u8) 51 v86 q79 :: Res.sl Ek.bool 4 v95 q88.1 :: Res.sl Ek.bool 4 v23 q16.1 :: Res.sl (Ek.int .u8) 51 v49 q63.1 :: Res.sl Ek.bool 4 v71 q64.1 :: Res.sl Ek.bool 4 v15 (([] : List Bool) ++ ((message1.drop 0).take (((imin (message1.length : Int) (2000 : Int))).toNat - 0))) :: ow)) ?_ ?_
  · have hp := hp74.same (Same.drew w)
    refine dr_begin' (fun a w => ∃ (v86 : Value) (v95 : Value), Fr 173 a [(1, v15), (14, .int .i64 q63.2), (18, v71), (19, .int .i64 q64.2.1), (20, .int .i64 q64.2.2), (21, v95), (22, .int .i64 q88.2.1), (23, .int .i64 q88.2.2)] ∧ Hp S w0 w (Res.obj 40 v7 [.int .i64 q5.1, .int .u32 q5.2.1, .int .u32 q5.2.2] :: Res.sl (Ek.int .u8) 51 v86 q79 :: Res.sl Ek.bool 4 v95 q88.1 :: Res.sl Ek.bool 4 v23 q16.1 :: Res.sl (Ek.int .u8) 51 v49 q63.1 :: Res.sl Ek.bool 4 v71 q64.1 :: Res.sl Ek.bool 4 v15 (([] : List Bool) ++ ((message1.drop 0).take (((imin (message1.length : Int) (2000 : Int))).toNat - 0))) :: ow)) (fun w' => ∃ l, Hp S73 w w' l) [] (by kernel_rfl) ?_
    refine dr_take 0 (.agg #[.int .i64 q5.1, .int .u32 q5.2.1, .int .u32 q5.2.2]) rfl (by kernel_rfl) (by kernel_rfl) (by kernel_rfl) (by kernel_rfl) rfl rfl hf (by decide) rfl (fun w hp => ?_) ⟨_, hp⟩ ?_
    · obtain ⟨_, hp⟩ := hp
      refine st_ldOA (m := 3) (us := [.int .i64 q5.1, .int .u32 q5.2.1, .int .u32 q5.2.2]) hf (by decide) (by kernel_rfl) rfl rfl (rl78.ob hp) rfl rfl ?_
      clear hf; intro a ha hf
      exact st_nil hf (th_n ⟨ha, rfl⟩)
    clear hf; intro a hf
    refine dr_take 1 (v23) rfl (by kernel_rfl) (by kernel_rfl) (by kernel_rfl) (by kernel_rfl) rfl rfl hf (by decide) rfl (fun w hp => ?_) ⟨_, hp⟩ ?_
    · obtain ⟨_, hp⟩ := hp
      refine st_move hf rfl rfl (by decide) ?_
      clear hf; intro a ha hf
      exact st_nil hf (th_n ⟨ha, rfl⟩)
    clear hf; intro a hf
    refine dr_one 2 rfl (by kernel_rfl) ?_
    obtain ⟨S81, hp82, rd83, up84, bk85⟩ := Hp.lendS hp (i := 3) rfl
    refine st_call hf (by decide) Try.func15 rfl rfl rfl rfl rfl (f_hard_Marks_c hp82 _ _ rd83 hcall80) ?_
    rintro _ w ⟨v86, rfl, hp0⟩
    have hp0 := bk85 _ _ hp0
    clear hp; have hp := hp0; clear hp0
    replace hp : Hp _ _ _ (Res.sl Ek.bool 4 v23 q16.1 :: Res.sl (Ek.int .u8) 51 v86 q79 :: Res.sl (Ek.int .u8) 51 v49 q63.1 :: Res.sl Ek.bool 4 v71 q64.1 :: Res.sl Ek.bool 4 v15 (([] : List Bool) ++ ((message1.drop 0).take (((imin (message1.length : Int) (2000 : Int))).toNat - 0))) :: ow) := hp
    refine ⟨_, rfl, ?_⟩
    clear hf; intro a hf
    refine st_nil hf (th_n ⟨fun _ _ => ⟨_, hp⟩, ?_⟩)
    refine dr_one 3 rfl (by kernel_rfl) ?_
    obtain ⟨S90, hp91, rd92, up93, bk94⟩ := Hp.lendS hp (i := 1) rfl
    refine st_call hf (by decide) Try.func19 rfl rfl rfl rfl rfl (f_hard_Path_c hp91 _ _ _ _ _ rd92 hcall89) ?_
    rintro _ w ⟨v95, rfl, hp0⟩
    have hp0 := bk94 _ _ hp0
    clear hp; have hp := hp0; clear hp0
    replace hp : Hp _ _ _ (Res.sl (Ek.int .u8) 51 v86 q79 :: Res.sl Ek.bool 4 v95 q88.1 :: Res.sl Ek.bool 4 v23 q16.1 :: Res.sl (Ek.int .u8) 51 v49 q63.1 :: Res.sl Ek.bool 4 v71 q64.1 :: Res.sl Ek.bool 4 v15 (([] : List Bool) ++ ((message1.drop 0).take (((imin (message1.length : Int) (2000 : Int))).toNat - 0))) :: ow) := hp
    refine ⟨_, rfl, ?_⟩
    clear hf; intro a hf
    refine st_nil hf (th_n ⟨fun _ _ => ⟨_, hp⟩, ?_⟩)
    refine dr_take 4 (.tuple #[v95, .int .i64 q88.2.1, .int .i64 q88.2.2]) rfl (by kernel_rfl) (by kernel_rfl) (by kernel_rfl) (by kernel_rfl) rfl rfl hf (by decide) rfl (fun w hp => ?_) ⟨_, hp⟩ ?_
    · obtain ⟨_, hp⟩ := hp
      refine st_move hf rfl rfl (by decide) ?_
      clear hf; intro a ha hf
      exact st_nil hf (th_n ⟨ha, rfl⟩)
    clear hf; intro a hf
    refine dr_take 5 (v95) rfl (by kernel_rfl) (by kernel_rfl) (by kernel_rfl) (by kernel_rfl) rfl rfl hf (by decide) rfl (fun w hp => ?_) ⟨_, hp⟩ ?_
    · obtain ⟨_, hp⟩ := hp
      refine st_extract hf (by decide) rfl rfl rfl ?_
      clear hf; intro a ha hf
      exact st_nil hf (th_n ⟨ha, rfl⟩)
    clear hf; intro a hf
    refine dr_take 6 (.int .i64 q88.2.1) rfl (by kernel_rfl) (by kernel_rfl) (by kernel_rfl) (by kernel_rfl) rfl rfl hf (by decide) rfl (fun w hp => ?_) ⟨_, hp⟩ ?_
    · obtain ⟨_, hp⟩ := hp
      refine st_extract hf (by decide) rfl rfl rfl ?_
      clear hf; intro a ha hf
      exact st_nil hf (th_n ⟨ha, rfl⟩)
    clear hf; intro a hf
    refine dr_take 7 (.int .i64 q88.2.2) rfl (by kernel_rfl) (by kernel_rfl) (by kernel_rfl) (by kernel_rfl) rfl rfl hf (by decide) rfl (fun w hp => ?_) ⟨_, hp⟩ ?_
    · obtain ⟨_, hp⟩ := hp
      refine st_extract hf (by decide) rfl rfl rfl ?_
      clear hf; intro a ha hf
      exact st_nil hf (th_n ⟨ha, rfl⟩)
    clear hf; intro a hf
    refine dr_take 8 (v95) rfl (by kernel_rfl) (by kernel_rfl) (by kernel_rfl) (by kernel_rfl) rfl rfl hf (by decide) rfl (fun w hp => ?_) ⟨_, hp⟩ ?_
    · obtain ⟨_, hp⟩ := hp
      refine st_assign hf rfl rfl (by decide) ?_
      clear hf; intro a ha hf
      exact st_nil hf (th_n ⟨ha, rfl⟩)
    clear hf; intro a hf
    refine dr_take 9 (.int .i64 q88.2.1) rfl (by kernel_rfl) (by kernel_rfl) (by kernel_rfl) (by kernel_rfl) rfl rfl hf (by decide) rfl (fun w hp => ?_) ⟨_, hp⟩ ?_
    · obtain ⟨_, hp⟩ := hp
      refine st_assign hf rfl rfl (by decide) ?_
      clear hf; intro a ha hf
      exact st_nil hf (th_n ⟨ha, rfl⟩)
    clear hf; intro a hf
    refine dr_take 10 (.int .i64 q88.2.2) rfl (by kernel_rfl) (by kernel_rfl) (by kernel_rfl) (by kernel_rfl) rfl rfl hf (by decide) rfl (fun w hp => ?_) ⟨_, hp⟩ ?_
    · obtain ⟨_, hp⟩ := hp
      refine st_assign hf rfl rfl (by decide) ?_
      clear hf; intro a ha hf
      exact st_nil hf (th_n ⟨ha, rfl⟩)
    clear hf; intro a hf
    refine dr_end (by kernel_rfl) ?_ _
    have hp := bk77 _ _ hp
    exact ⟨v86, v95, hf.sub ⟨rfl, rfl, rfl, rfl, rfl, rfl, rfl, rfl, trivial⟩, hp⟩
  rintro a w ⟨v86, v95, hf, hp⟩
  refine th_n ?_
  refine wp_seq ?_
  refine wp_reg ?_
  refine st_move hf rfl rfl (by decide) ?_
  clear hf; intro a ha hf; clear ha
  refine st_ieql hf (by decide) rfl rfl rfl ?_
  clear hf; intro a ha hf; clear ha
  refine st_move hf rfl rfl (by decide) ?_
  clear hf; intro a ha hf; clear ha
  refine wpList_cut 3 (fun a w => Fr 173 a [(1, v15), (14, .int .i64 q63.2), (18, v71), (19, .int .i64 q64.2.1), (21, v95), (22, .int .i64 q88.2.1), (153, .bool ((q64.2.2 == (0 : Int)) && (q88.2.2 == (0 : Int))))] ∧ Hp S w0 w (Res.obj 40 v7 [.int .i64 q5.1, .int .u32 q5.2.1, .int .u32 q5.2.2] :: Res.sl (Ek.int .u8) 51 v86 q79 :: Res.sl Ek.bool 4 v95 q88.1 :: Res.sl Ek.bool 4 v23 q16.1 :: Res.sl (Ek.int .u8) 51 v49 q63.1 :: Res.sl Ek.bool 4 v71 q64.1 :: Res.sl Ek.bool 4 v15 (([] : List Bool) ++ ((message1.drop 0).take (((imin (message1.length : Int) (2000 : Int))).toNat - 0))) :: ow)) ?_ ?_
  · rcases Bool.eq_false_or_eq_true (q64.2.2 == (0 : Int)) with hb98 | hb98
    · skip
      refine st_move hf (wantY hf rfl rfl hb98) rfl (by decide) ?_
      clear hf; intro a ha hf; clear ha
      refine st_ieql hf (by decide) (wantY hf rfl rfl hb98) rfl rfl ?_
      clear hf; intro a ha hf; clear ha
      refine st_pick (v := .bool (q88.2.2 == (0 : Int))) hf rfl rfl (fun hb' => ?_) (fun hb' => ?_) (by decide) ?_
      · rfl
      · exact absurd (hb98.symm.trans hb') (by decide)
      clear hf; intro a ha hf; clear ha
      refine st_nil hf (th_n ?_)
      exact ⟨hf.sub ⟨rfl, rfl, rfl, rfl, rfl, rfl, (by rw [hb98]; rfl), trivial⟩, hp⟩
    refine st_skip hf (wantN hf rfl rfl hb98) rfl (by decide) ?_ rfl
    clear hf; intro a hf
    refine st_skip hf (wantN hf rfl rfl hb98) rfl (by decide) ?_ rfl
    clear hf; intro a hf
    refine st_pick (v := .bool false) hf rfl rfl (fun hb' => ?_) (fun hb' => ?_) (by decide) ?_
    · exact absurd (hb98.symm.trans hb') (by decide)
    · rfl
    clear hf; intro a ha hf; clear ha
    refine st_nil hf (th_n ?_)
    exact ⟨hf.sub ⟨rfl, rfl, rfl, rfl, rfl, rfl, (by rw [hb98]; rfl), trivial⟩, hp⟩
  rintro a w ⟨hf, hp⟩
  refine st_move hf rfl rfl (by decide) ?_
  clear hf; intro a ha hf; clear ha
  obtain ⟨z101, hz99, h⟩ := bnd h
  refine wpList_cut 4 (fun a w => Fr 173 a [(1, v15), (14, .int .i64 q63.2), (19, .int .i64 q64.2.1), (21, v95), (22, .int .i64 q88.2.1), (158, .bool z101)] ∧ Hp S w0 w (Res.obj 40 v7 [.int .i64 q5.1, .int .u32 q5.2.1, .int .u32 q5.2.2] :: Res.sl (Ek.int .u8) 51 v86 q79 :: Res.sl Ek.bool 4 v95 q88.1 :: Res.sl Ek.bool 4 v23 q16.1 :: Res.sl (Ek.int .u8) 51 v49 q63.1 :: Res.sl Ek.bool 4 v71 q64.1 :: Res.sl Ek.bool 4 v15 (([] : List Bool) ++ ((message1.drop 0).take (((imin (message1.length : Int) (2000 : Int))).toNat - 0))) :: ow)) ?_ ?_
  · rcases Bool.eq_false_or_eq_true ((q64.2.2 == (0 : Int)) && (q88.2.2 == (0 : Int))) with hb100 | hb100
    · skip
      replace hz99 := ifT hz99 hb100
      refine st_move hf (wantY hf rfl rfl hb100) rfl (by decide) ?_
      clear hf; intro a ha hf; clear ha
      refine st_move hf (wantY hf rfl rfl hb100) rfl (by decide) ?_
      clear hf; intro a ha hf; clear ha
      obtain ⟨q102, hcall103, hz99⟩ := bnd hz99
      obtain ⟨S104, hp105, rd106, up107, bk108⟩ := Hp.lendS hp (i := 5) rfl
      obtain ⟨S109, hp110, rd111, up112, bk113⟩ := Hp.lendS hp105 (i := 5) rfl
      refine st_call hf (by decide) Try.func13 rfl rfl (wantY hf rfl rfl hb100) rfl rfl (f_foghornlaw22_sameBits_c hp110 _ _ ((rd106.now hp105).mono up112) _ _ rd111 hcall103) ?_
      rintro _ w ⟨rfl, hp0⟩
      have hp0 := bk113 _ _ hp0
      have hp0 := bk108 _ _ hp0
      clear hp; have hp := hp0; clear hp0
      replace hp : Hp _ _ _ (Res.sl Ek.bool 4 v71 q64.1 :: Res.sl Ek.bool 4 v15 (([] : List Bool) ++ ((message1.drop 0).take (((imin (message1.length : Int) (2000 : Int))).toNat - 0))) :: Res.obj 40 v7 [.int .i64 q5.1, .int .u32 q5.2.1, .int .u32 q5.2.2] :: Res.sl (Ek.int .u8) 51 v86 q79 :: Res.sl Ek.bool 4 v95 q88.1 :: Res.sl Ek.bool 4 v23 q16.1 :: Res.sl (Ek.int .u8) 51 v49 q63.1 :: ow) := hp
      refine ⟨_, rfl, ?_⟩
      clear hf; intro a hf
      obtain rfl := Option.some.inj hz99
      refine st_pick (v := .bool q102) hf rfl rfl (fun hb' => ?_) (fun hb' => ?_) (by decide) ?_
      · rfl
      · exact absurd (hb100.symm.trans hb') (by decide)
      clear hf; intro a ha hf; clear ha
      refine st_nil hf (th_n ?_)
      have hp : Hp _ _ _ (Res.obj 40 v7 [.int .i64 q5.1, .int .u32 q5.2.1, .int .u32 q5.2.2] :: Res.sl (Ek.int .u8) 51 v86 q79 :: Res.sl Ek.bool 4 v95 q88.1 :: Res.sl Ek.bool 4 v23 q16.1 :: Res.sl (Ek.int .u8) 51 v49 q63.1 :: Res.sl Ek.bool 4 v71 q64.1 :: Res.sl Ek.bool 4 v15 (([] : List Bool) ++ ((message1.drop 0).take (((imin (message1.length : Int) (2000 : Int))).toNat - 0))) :: ow) := Hp.sel (pre := [Res.sl Ek.bool 4 v71 q64.1, Res.sl Ek.bool 4 v15 (([] : List Bool) ++ ((message1.drop 0).take (((imin (message1.length : Int) (2000 : Int))).toNat - 0))), Res.obj 40 v7 [.int .i64 q5.1, .int .u32 q5.2.1, .int .u32 q5.2.2], Res.sl (Ek.int .u8) 51 v86 q79, Res.sl Ek.bool 4 v95 q88.1, Res.sl Ek.bool 4 v23 q16.1, Res.sl (Ek.int .u8) 51 v49 q63.1]) (tail := ow) (rs' := [Res.obj 40 v7 [.int .i64 q5.1, .int .u32 q5.2.1, .int .u32 q5.2.2], Res.sl (Ek.int .u8) 51 v86 q79, Res.sl Ek.bool 4 v95 q88.1, Res.sl Ek.bool 4 v23 q16.1, Res.sl (Ek.int .u8) 51 v49 q63.1, Res.sl Ek.bool 4 v71 q64.1, Res.sl Ek.bool 4 v15 (([] : List Bool) ++ ((message1.drop 0).take (((imin (message1.length : Int) (2000 : Int))).toNat - 0)))]) hp [2, 3, 4, 5, 6, 0, 1] (by decide) (by simp) rfl
      exact ⟨hf.sub ⟨rfl, rfl, rfl, rfl, rfl, rfl, trivial⟩, hp⟩
    replace hz99 := ifF hz99 hb100
    refine st_skip hf (wantN hf rfl rfl hb100) rfl (by decide) ?_ rfl
    clear hf; intro a hf
    refine st_skip hf (wantN hf rfl rfl hb100) rfl (by decide) ?_ rfl
    clear hf; intro a hf
    refine st_skip hf (wantN hf rfl rfl hb100) rfl (by decide) ?_ rfl
    clear hf; intro a hf
    obtain rfl := Option.some.inj hz99
    refine st_pick (v := .bool false) hf rfl rfl (fun hb' => ?_) (fun hb' => ?_) (by decide) ?_
    · exact absurd (hb100.symm.trans hb') (by decide)
    · rfl
    clear hf; intro a ha hf; clear ha
    refine st_nil hf (th_n ?_)
    exact ⟨hf.sub ⟨rfl, rfl, rfl, rfl, rfl, rfl, trivial⟩, hp⟩
  rintro a w ⟨hf, hp⟩
  refine st_move hf rfl rfl (by decide) ?_
  clear hf; intro a ha hf; clear ha
  refine wpList_cut 4 (fun a w => Fr 173 a [(1, v15), (21, v95), (22, .int .i64 q88.2.1), (163, .bool (z101 && (q64.2.1 == q63.2)))] ∧ Hp S w0 w (Res.obj 40 v7 [.int .i64 q5.1, .int .u32 q5.2.1, .int .u32 q5.2.2] :: Res.sl (Ek.int .u8) 51 v86 q79 :: Res.sl Ek.bool 4 v95 q88.1 :: Res.sl Ek.bool 4 v23 q16.1 :: Res.sl (Ek.int .u8) 51 v49 q63.1 :: Res.sl Ek.bool 4 v71 q64.1 :: Res.sl Ek.bool 4 v15 (([] : List Bool) ++ ((message1.drop 0).take (((imin (message1.length : Int) (2000 : Int))).toNat - 0))) :: ow)) ?_ ?_
  · rcases Bool.eq_false_or_eq_true z101 with hb115 | hb115
    · skip
      refine st_move hf (wantY hf rfl rfl hb115) rfl (by decide) ?_
      clear hf; intro a ha hf; clear ha
      refine st_move hf (wantY hf rfl rfl hb115) rfl (by decide) ?_
      clear hf; intro a ha hf; clear ha
      refine st_ieql hf (by decide) (wantY hf rfl rfl hb115) rfl rfl ?_
      clear hf; intro a ha hf; clear ha
      refine st_pick (v := .bool (q64.2.1 == q63.2)) hf rfl rfl (fun hb' => ?_) (fun hb' => ?_) (by decide) ?_
      · rfl
      · exact absurd (hb115.symm.trans hb') (by decide)
      clear hf; intro a ha hf; clear ha
      refine st_nil hf (th_n ?_)
      exact ⟨hf.sub ⟨rfl, rfl, rfl, (by rw [hb115]; rfl), trivial⟩, hp⟩
    refine st_skip hf (wantN hf rfl rfl hb115) rfl (by decide) ?_ rfl
    clear hf; intro a hf
    refine st_skip hf (wantN hf rfl rfl hb115) rfl (by decide) ?_ rfl
    clear hf; intro a hf
    refine st_skip hf (wantN hf rfl rfl hb115) rfl (by decide) ?_ rfl
    clear hf; intro a hf
    refine st_pick (v := .bool false) hf rfl rfl (fun hb' => ?_) (fun hb' => ?_) (by decide) ?_
    · exact absurd (hb115.symm.trans hb') (by decide)
    · rfl
    clear hf; intro a ha hf; clear ha
    refine st_nil hf (th_n ?_)
    exact ⟨hf.sub ⟨rfl, rfl, rfl, (by rw [hb115]; rfl), trivial⟩, hp⟩
  rintro a w ⟨hf, hp⟩
  refine st_move hf rfl rfl (by decide) ?_
  clear hf; intro a ha hf; clear ha
  obtain ⟨z118, hz116, h⟩ := bnd h
  refine wpList_cut 4 (fun a w => Fr 173 a [(22, .int .i64 q88.2.1), (168, .bool z118)] ∧ Hp S w0 w (Res.obj 40 v7 [.int .i64 q5.1, .int .u32 q5.2.1, .int .u32 q5.2.2] :: Res.sl (Ek.int .u8) 51 v86 q79 :: Res.sl Ek.bool 4 v95 q88.1 :: Res.sl Ek.bool 4 v23 q16.1 :: Res.sl (Ek.int .u8) 51 v49 q63.1 :: Res.sl Ek.bool 4 v71 q64.1 :: Res.sl Ek.bool 4 v15 (([] : List Bool) ++ ((message1.drop 0).take (((imin (message1.length : Int) (2000 : Int))).toNat - 0))) :: ow)) ?_ ?_
  · rcases Bool.eq_false_or_eq_true (z101 && (q64.2.1 == q63.2)) with hb117 | hb117
    · skip
      replace hz116 := ifT hz116 hb117
      refine st_move hf (wantY hf rfl rfl hb117) rfl (by decide) ?_
      clear hf; intro a ha hf; clear ha
      refine st_move hf (wantY hf rfl rfl hb117) rfl (by decide) ?_
      clear hf; intro a ha hf; clear ha
      obtain ⟨q119, hcall120, hz116⟩ := bnd hz116
      obtain ⟨S121, hp122, rd123, up124, bk125⟩ := Hp.lendS hp (i := 2) rfl
      obtain ⟨S126, hp127, rd128, up129, bk130⟩ := Hp.lendS hp122 (i := 5) rfl
      refine st_call hf (by decide) Try.func13 rfl rfl (wantY hf rfl rfl hb117) rfl rfl (f_foghornlaw22_sameBits_c hp127 _ _ ((rd123.now hp122).mono up129) _ _ rd128 hcall120) ?_
      rintro _ w ⟨rfl, hp0⟩
      have hp0 := bk130 _ _ hp0
      have hp0 := bk125 _ _ hp0
      clear hp; have hp := hp0; clear hp0
      replace hp : Hp _ _ _ (Res.sl Ek.bool 4 v95 q88.1 :: Res.sl Ek.bool 4 v15 (([] : List Bool) ++ ((message1.drop 0).take (((imin (message1.length : Int) (2000 : Int))).toNat - 0))) :: Res.obj 40 v7 [.int .i64 q5.1, .int .u32 q5.2.1, .int .u32 q5.2.2] :: Res.sl (Ek.int .u8) 51 v86 q79 :: Res.sl Ek.bool 4 v23 q16.1 :: Res.sl (Ek.int .u8) 51 v49 q63.1 :: Res.sl Ek.bool 4 v71 q64.1 :: ow) := hp
      refine ⟨_, rfl, ?_⟩
      clear hf; intro a hf
      obtain rfl := Option.some.inj hz116
      refine st_pick (v := .bool q119) hf rfl rfl (fun hb' => ?_) (fun hb' => ?_) (by decide) ?_
      · rfl
      · exact absurd (hb117.symm.trans hb') (by decide)
      clear hf; intro a ha hf; clear ha
      refine st_nil hf (th_n ?_)
      have hp : Hp _ _ _ (Res.obj 40 v7 [.int .i64 q5.1, .int .u32 q5.2.1, .int .u32 q5.2.2] :: Res.sl (Ek.int .u8) 51 v86 q79 :: Res.sl Ek.bool 4 v95 q88.1 :: Res.sl Ek.bool 4 v23 q16.1 :: Res.sl (Ek.int .u8) 51 v49 q63.1 :: Res.sl Ek.bool 4 v71 q64.1 :: Res.sl Ek.bool 4 v15 (([] : List Bool) ++ ((message1.drop 0).take (((imin (message1.length : Int) (2000 : Int))).toNat - 0))) :: ow) := Hp.sel (pre := [Res.sl Ek.bool 4 v95 q88.1, Res.sl Ek.bool 4 v15 (([] : List Bool) ++ ((message1.drop 0).take (((imin (message1.length : Int) (2000 : Int))).toNat - 0))), Res.obj 40 v7 [.int .i64 q5.1, .int .u32 q5.2.1, .int .u32 q5.2.2], Res.sl (Ek.int .u8) 51 v86 q79, Res.sl Ek.bool 4 v23 q16.1, Res.sl (Ek.int .u8) 51 v49 q63.1, Res.sl Ek.bool 4 v71 q64.1]) (tail := ow) (rs' := [Res.obj 40 v7 [.int .i64 q5.1, .int .u32 q5.2.1, .int .u32 q5.2.2], Res.sl (Ek.int .u8) 51 v86 q79, Res.sl Ek.bool 4 v95 q88.1, Res.sl Ek.bool 4 v23 q16.1, Res.sl (Ek.int .u8) 51 v49 q63.1, Res.sl Ek.bool 4 v71 q64.1, Res.sl Ek.bool 4 v15 (([] : List Bool) ++ ((message1.drop 0).take (((imin (message1.length : Int) (2000 : Int))).toNat - 0)))]) hp [2, 3, 0, 4, 5, 6, 1] (by decide) (by simp) rfl
      exact ⟨hf.sub ⟨rfl, rfl, trivial⟩, hp⟩
    replace hz116 := ifF hz116 hb117
    refine st_skip hf (wantN hf rfl rfl hb117) rfl (by decide) ?_ rfl
    clear hf; intro a hf
    refine st_skip hf (wantN hf rfl rfl hb117) rfl (by decide) ?_ rfl
    clear hf; intro a hf
    refine st_skip hf (wantN hf rfl rfl hb117) rfl (by decide) ?_ rfl
    clear hf; intro a hf
    obtain rfl := Option.some.inj hz116
    refine st_pick (v := .bool false) hf rfl rfl (fun hb' => ?_) (fun hb' => ?_) (by decide) ?_
    · exact absurd (hb117.symm.trans hb') (by decide)
    · rfl
    clear hf; intro a ha hf; clear ha
    refine st_nil hf (th_n ?_)
    exact ⟨hf.sub ⟨rfl, rfl, trivial⟩, hp⟩
  rintro a w ⟨hf, hp⟩
  refine st_move hf rfl rfl (by decide) ?_
  clear hf; intro a ha hf; clear ha
  refine wpList_cut 3 (fun a w => Fr 173 a [(172, .bool (z118 && (q88.2.1 == (0 : Int))))] ∧ Hp S w0 w (Res.obj 40 v7 [.int .i64 q5.1, .int .u32 q5.2.1, .int .u32 q5.2.2] :: Res.sl (Ek.int .u8) 51 v86 q79 :: Res.sl Ek.bool 4 v95 q88.1 :: Res.sl Ek.bool 4 v23 q16.1 :: Res.sl (Ek.int .u8) 51 v49 q63.1 :: Res.sl Ek.bool 4 v71 q64.1 :: Res.sl Ek.bool 4 v15 (([] : List Bool) ++ ((message1.drop 0).take (((imin (message1.length : Int) (2000 : Int))).toNat - 0))) :: ow)) ?_ ?_
  · rcases Bool.eq_false_or_eq_true z118 with hb132 | hb132
    · skip
      refine st_move hf (wantY hf rfl rfl hb132) rfl (by decide) ?_
      clear hf; intro a ha hf; clear ha
      refine st_ieql hf (by decide) (wantY hf rfl rfl hb132) rfl rfl ?_
      clear hf; intro a ha hf; clear ha
      refine st_pick (v := .bool (q88.2.1 == (0 : Int))) hf rfl rfl (fun hb' => ?_) (fun hb' => ?_) (by decide) ?_
      · rfl
      · exact absurd (hb132.symm.trans hb') (by decide)
      clear hf; intro a ha hf; clear ha
      refine st_nil hf (th_n ?_)
      exact ⟨hf.sub ⟨(by rw [hb132]; rfl), trivial⟩, hp⟩
    refine st_skip hf (wantN hf rfl rfl hb132) rfl (by decide) ?_ rfl
    clear hf; intro a hf
    refine st_skip hf (wantN hf rfl rfl hb132) rfl (by decide) ?_ rfl
    clear hf; intro a hf
    refine st_pick (v := .bool false) hf rfl rfl (fun hb' => ?_) (fun hb' => ?_) (by decide) ?_
    · exact absurd (hb132.symm.trans hb') (by decide)
    · rfl
    clear hf; intro a ha hf; clear ha
    refine st_nil hf (th_n ?_)
    exact ⟨hf.sub ⟨(by rw [hb132]; rfl), trivial⟩, hp⟩
  rintro a w ⟨hf, hp⟩
  refine st_assign hf rfl rfl (by decide) ?_
  clear hf; intro a ha hf; clear ha
  refine st_nil hf ?_
  refine th_n ?_
  refine wp_ret ?_
  obtain rfl := Option.some.inj h
  have hp : Hp _ _ _ (ow) := Hp.sel (pre := [Res.obj 40 v7 [.int .i64 q5.1, .int .u32 q5.2.1, .int .u32 q5.2.2], Res.sl (Ek.int .u8) 51 v86 q79, Res.sl Ek.bool 4 v95 q88.1, Res.sl Ek.bool 4 v23 q16.1, Res.sl (Ek.int .u8) 51 v49 q63.1, Res.sl Ek.bool 4 v71 q64.1, Res.sl Ek.bool 4 v15 (([] : List Bool) ++ ((message1.drop 0).take (((imin (message1.length : Int) (2000 : Int))).toNat - 0)))]) (tail := ow) (rs' := []) hp [] (by decide) (by simp) rfl
  exact ⟨rfl, ⟨hf.sub ⟨rfl, trivial⟩, hp⟩⟩

end Go.Proofs.Ythajdlihjobcoaa
