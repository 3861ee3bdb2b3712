/- The functions foghorn foghornlaw22.HardPaths: what each answers, as a plain function, and that its call answers it; printed by gen.py. -/
import Derived.Test.YthajdlihjobcoaaProg
import Derived.Test.YthajdlihjobcoaaGlT
import Derived.KernelRfl
import Derived.Test.YthajdlihjobcoaaG10p1
set_option linter.unusedVariables false
set_option linter.unusedSimpArgs false
set_option maxRecDepth 100000
set_option maxHeartbeats 4000000
namespace Go.Proofs.Ythajdlihjobcoaa
open GL
noncomputable def f_hard_Path.s1c (c0_Length : Int) (marks1 : (List Int)) (rest10 : (List (List Int))) (t40 : Int) : Option (((List (List Int)) × Int) ⊕ (List (List Int))) := (if (decide (t40 < (ishl .u32 (1 : Int) (IntKind.i64.wrap (c0_Length - (1 : Int)))))) = true then (if 0 ≤ (IntKind.i64.wrap (((marks1.length : Int)).tdiv (2 : Int))) ∧ (IntKind.i64.wrap (((marks1.length : Int)).tdiv (2 : Int))) < (rest10.length : Int) then (if 0 ≤ t40 ∧ t40 < (64 : Int) then (some (Sum.inl ((rest10.set ((IntKind.i64.wrap (((marks1.length : Int)).tdiv (2 : Int)))).toNat ((gt rest10 (IntKind.i64.wrap (((marks1.length : Int)).tdiv (2 : Int)))).set (t40).toNat (1048576 : Int))), (IntKind.u32.wrap (t40 + (1 : Int)))))) else none) else none) else (some (Sum.inr rest10)))
noncomputable def f_hard_Path.s1 (c0_Length : Int) (marks1 : (List Int)) (s : ((List (List Int)) × Int)) : Option (((List (List Int)) × Int) ⊕ (List (List Int))) := f_hard_Path.s1c c0_Length marks1 s.1 s.2
noncomputable def f_hard_Path.s3c (c0_Length : Int) (c0_One : Int) (c0_Two : Int) (marks1 : (List Int)) (t12 : Int) (rest10 : (List (List Int))) (t60 : Int) : Option (((List (List Int)) × Int) ⊕ (List (List Int))) := (if (decide (t60 < (ishl .u32 (1 : Int) (IntKind.i64.wrap (c0_Length - (1 : Int)))))) = true then (if 0 ≤ (IntKind.i64.wrap ((2 : Int) * t12)) ∧ (IntKind.i64.wrap ((2 : Int) * t12)) ≤ (marks1.length : Int) then ((f_hard_step c0_Length c0_One c0_Two t60 (0 : Int) ((marks1.drop (((IntKind.i64.wrap ((2 : Int) * t12))).toNat)).take (marks1.length - ((IntKind.i64.wrap ((2 : Int) * t12))).toNat))).bind fun q37 => (if 0 ≤ (IntKind.i64.wrap (t12 + (1 : Int))) ∧ (IntKind.i64.wrap (t12 + (1 : Int))) < (rest10.length : Int) then (if 0 ≤ q37.1 ∧ q37.1 < (64 : Int) then (if 0 ≤ t12 ∧ t12 < (rest10.length : Int) then (if 0 ≤ t60 ∧ t60 < (64 : Int) then (if (decide (t12 < (IntKind.i64.wrap ((IntKind.i64.wrap (((marks1.length : Int)).tdiv (2 : Int))) - (IntKind.i64.wrap (c0_Length - (1 : Int))))))) = true then (if 0 ≤ (IntKind.i64.wrap ((2 : Int) * t12)) ∧ (IntKind.i64.wrap ((2 : Int) * t12)) ≤ (marks1.length : Int) then ((f_hard_step c0_Length c0_One c0_Two t60 (1 : Int) ((marks1.drop (((IntKind.i64.wrap ((2 : Int) * t12))).toNat)).take (marks1.length - ((IntKind.i64.wrap ((2 : Int) * t12))).toNat))).bind fun q60 => (if 0 ≤ t12 ∧ t12 < ((rest10.set (t12).toNat ((gt rest10 t12).set (t60).toNat (IntKind.i32.wrap (q37.2 + (gt (gt rest10 (IntKind.i64.wrap (t12 + (1 : Int)))) q37.1))))).length : Int) then (if 0 ≤ t60 ∧ t60 < (64 : Int) then (if 0 ≤ (IntKind.i64.wrap (t12 + (1 : Int))) ∧ (IntKind.i64.wrap (t12 + (1 : Int))) < ((rest10.set (t12).toNat ((gt rest10 t12).set (t60).toNat (IntKind.i32.wrap (q37.2 + (gt (gt rest10 (IntKind.i64.wrap (t12 + (1 : Int)))) q37.1))))).length : Int) then (if 0 ≤ q60.1 ∧ q60.1 < (64 : Int) then (if 0 ≤ t12 ∧ t12 < ((rest10.set (t12).toNat ((gt rest10 t12).set (t60).toNat (IntKind.i32.wrap (q37.2 + (gt (gt rest10 (IntKind.i64.wrap (t12 + (1 : Int)))) q37.1))))).length : Int) then (if 0 ≤ t60 ∧ t60 < (64 : Int) then (some (Sum.inl (((rest10.set (t12).toNat ((gt rest10 t12).set (t60).toNat (IntKind.i32.wrap (q37.2 + (gt (gt rest10 (IntKind.i64.wrap (t12 + (1 : Int)))) q37.1))))).set (t12).toNat ((gt (rest10.set (t12).toNat ((gt rest10 t12).set (t60).toNat (IntKind.i32.wrap (q37.2 + (gt (gt rest10 (IntKind.i64.wrap (t12 + (1 : Int)))) q37.1))))) t12).set (t60).toNat (imin (gt (gt (rest10.set (t12).toNat ((gt rest10 t12).set (t60).toNat (IntKind.i32.wrap (q37.2 + (gt (gt rest10 (IntKind.i64.wrap (t12 + (1 : Int)))) q37.1))))) t12) t60) (IntKind.i32.wrap (q60.2 + (gt (gt (rest10.set (t12).toNat ((gt rest10 t12).set (t60).toNat (IntKind.i32.wrap (q37.2 + (gt (gt rest10 (IntKind.i64.wrap (t12 + (1 : Int)))) q37.1))))) (IntKind.i64.wrap (t12 + (1 : Int)))) q60.1)))))), (IntKind.u32.wrap (t60 + (1 : Int)))))) else none) else none) else none) else none) else none) else none)) else none) else (some (Sum.inl ((rest10.set (t12).toNat ((gt rest10 t12).set (t60).toNat (IntKind.i32.wrap (q37.2 + (gt (gt rest10 (IntKind.i64.wrap (t12 + (1 : Int)))) q37.1))))), (IntKind.u32.wrap (t60 + (1 : Int))))))) else none) else none) else none) else none)) else none) else (some (Sum.inr rest10)))
noncomputable def f_hard_Path.s3 (c0_Length : Int) (c0_One : Int) (c0_Two : Int) (marks1 : (List Int)) (t12 : Int) (s : ((List (List Int)) × Int)) : Option (((List (List Int)) × Int) ⊕ (List (List Int))) := f_hard_Path.s3c c0_Length c0_One c0_Two marks1 t12 s.1 s.2
noncomputable def f_hard_Path.s2c (c0_Length : Int) (c0_One : Int) (c0_Two : Int) (marks1 : (List Int)) (rest10 : (List (List Int))) (t12 : Int) : Option (((List (List Int)) × Int) ⊕ (List (List Int))) := (if (decide ((0 : Int) ≤ t12)) = true then ((loop (f_hard_Path.s3 c0_Length c0_One c0_Two marks1 t12) (rest10, (0 : Int))).bind (fun q75 => (some (Sum.inl (q75, (IntKind.i64.wrap (t12 - (1 : Int)))))))) else (some (Sum.inr rest10)))
noncomputable def f_hard_Path.s2 (c0_Length : Int) (c0_One : Int) (c0_Two : Int) (marks1 : (List Int)) (s : ((List (List Int)) × Int)) : Option (((List (List Int)) × Int) ⊕ (List (List Int))) := f_hard_Path.s2c c0_Length c0_One c0_Two marks1 s.1 s.2
noncomputable def f_hard_Path.s4c (c0_Length : Int) (c0_One : Int) (c0_Two : Int) (marks1 : (List Int)) (q76 : (List (List Int))) (message4 : (List Bool)) (at16 : Int) (t125 : Int) : Option (((List Bool) × Int × Int) ⊕ (List Bool)) := (if (decide (t125 < (IntKind.i64.wrap ((IntKind.i64.wrap (((marks1.length : Int)).tdiv (2 : Int))) - (IntKind.i64.wrap (c0_Length - (1 : Int))))))) = true then (if 0 ≤ (IntKind.i64.wrap ((2 : Int) * t125)) ∧ (IntKind.i64.wrap ((2 : Int) * t125)) ≤ (marks1.length : Int) then ((f_hard_step c0_Length c0_One c0_Two at16 (0 : Int) ((marks1.drop (((IntKind.i64.wrap ((2 : Int) * t125))).toNat)).take (marks1.length - ((IntKind.i64.wrap ((2 : Int) * t125))).toNat))).bind fun q94 => (if 0 ≤ (IntKind.i64.wrap (t125 + (1 : Int))) ∧ (IntKind.i64.wrap (t125 + (1 : Int))) < (q76.length : Int) then (if 0 ≤ q94.1 ∧ q94.1 < (64 : Int) then (if 0 ≤ t125 ∧ t125 < (q76.length : Int) then (if 0 ≤ at16 ∧ at16 < (64 : Int) then (if 0 ≤ t125 ∧ t125 < (message4.length : Int) then (if 0 ≤ t125 ∧ t125 < ((message4.set (t125).toNat ((IntKind.i32.wrap (q94.2 + (gt (gt q76 (IntKind.i64.wrap (t125 + (1 : Int)))) q94.1))) != (gt (gt q76 t125) at16))).length : Int) then (if (gt (message4.set (t125).toNat ((IntKind.i32.wrap (q94.2 + (gt (gt q76 (IntKind.i64.wrap (t125 + (1 : Int)))) q94.1))) != (gt (gt q76 t125) at16))) t125) = true then (if 0 ≤ (IntKind.i64.wrap ((2 : Int) * t125)) ∧ (IntKind.i64.wrap ((2 : Int) * t125)) ≤ (marks1.length : Int) then ((f_hard_step c0_Length c0_One c0_Two at16 (1 : Int) ((marks1.drop (((IntKind.i64.wrap ((2 : Int) * t125))).toNat)).take (marks1.length - ((IntKind.i64.wrap ((2 : Int) * t125))).toNat))).bind fun q125 => (some (Sum.inl ((message4.set (t125).toNat ((IntKind.i32.wrap (q94.2 + (gt (gt q76 (IntKind.i64.wrap (t125 + (1 : Int)))) q94.1))) != (gt (gt q76 t125) at16))), q125.1, (IntKind.i64.wrap (t125 + (1 : Int))))))) else none) else (some (Sum.inl ((message4.set (t125).toNat ((IntKind.i32.wrap (q94.2 + (gt (gt q76 (IntKind.i64.wrap (t125 + (1 : Int)))) q94.1))) != (gt (gt q76 t125) at16))), q94.1, (IntKind.i64.wrap (t125 + (1 : Int))))))) else none) else none) else none) else none) else none) else none)) else none) else (some (Sum.inr message4)))
noncomputable def f_hard_Path.s4 (c0_Length : Int) (c0_One : Int) (c0_Two : Int) (marks1 : (List Int)) (q76 : (List (List Int))) (s : ((List Bool) × Int × Int)) : Option (((List Bool) × Int × Int) ⊕ (List Bool)) := f_hard_Path.s4c c0_Length c0_One c0_Two marks1 q76 s.1 s.2.1 s.2.2
noncomputable def f_hard_Path (c0_Length : Int) (c0_One : Int) (c0_Two : Int) (marks1 : (List Int)) : Option ((List Bool) × Int × Int) := ((f_hard_fits c0_Length c0_One c0_Two marks1).bind fun q3 => (if (!q3) = true then (some ([], (0 : Int), (1 : Int))) else (if 0 ≤ (IntKind.i64.wrap (c0_Length - (1 : Int))) then (if 0 ≤ (IntKind.i64.wrap ((IntKind.i64.wrap (((marks1.length : Int)).tdiv (2 : Int))) + (1 : Int))) ∧ (IntKind.i64.wrap ((IntKind.i64.wrap (((marks1.length : Int)).tdiv (2 : Int))) + (1 : Int))) ≤ (IntKind.i64.wrap ((IntKind.i64.wrap (((marks1.length : Int)).tdiv (2 : Int))) + (1 : Int))) ∧ (IntKind.i64.wrap ((IntKind.i64.wrap (((marks1.length : Int)).tdiv (2 : Int))) + (1 : Int))) * 256 ≤ 281474976710656 then ((loop (f_hard_Path.s1 c0_Length marks1) ((List.replicate ((IntKind.i64.wrap ((IntKind.i64.wrap (((marks1.length : Int)).tdiv (2 : Int))) + (1 : Int)))).toNat (List.replicate 64 (0 : Int))), (0 : Int))).bind (fun q16 => (if 0 ≤ (IntKind.i64.wrap (((marks1.length : Int)).tdiv (2 : Int))) ∧ (IntKind.i64.wrap (((marks1.length : Int)).tdiv (2 : Int))) < (q16.length : Int) then ((loop (f_hard_Path.s2 c0_Length c0_One c0_Two marks1) ((q16.set ((IntKind.i64.wrap (((marks1.length : Int)).tdiv (2 : Int)))).toNat ((gt q16 (IntKind.i64.wrap (((marks1.length : Int)).tdiv (2 : Int)))).set ((0 : Int)).toNat (0 : Int))), (IntKind.i64.wrap ((IntKind.i64.wrap (((marks1.length : Int)).tdiv (2 : Int))) - (1 : Int))))).bind (fun q76 => (if 0 ≤ (IntKind.i64.wrap ((IntKind.i64.wrap (((marks1.length : Int)).tdiv (2 : Int))) - (IntKind.i64.wrap (c0_Length - (1 : Int))))) ∧ (IntKind.i64.wrap ((IntKind.i64.wrap (((marks1.length : Int)).tdiv (2 : Int))) - (IntKind.i64.wrap (c0_Length - (1 : Int))))) ≤ (IntKind.i64.wrap ((IntKind.i64.wrap (((marks1.length : Int)).tdiv (2 : Int))) - (IntKind.i64.wrap (c0_Length - (1 : Int))))) ∧ (IntKind.i64.wrap ((IntKind.i64.wrap (((marks1.length : Int)).tdiv (2 : Int))) - (IntKind.i64.wrap (c0_Length - (1 : Int))))) * 1 ≤ 281474976710656 then ((loop (f_hard_Path.s4 c0_Length c0_One c0_Two marks1 q76) ((List.replicate ((IntKind.i64.wrap ((IntKind.i64.wrap (((marks1.length : Int)).tdiv (2 : Int))) - (IntKind.i64.wrap (c0_Length - (1 : Int)))))).toNat false), (0 : Int), (0 : Int))).bind (fun q127 => (if 0 ≤ (0 : Int) ∧ (0 : Int) < (q76.length : Int) then (some (q127, (IntKind.i64.wrap (gt (gt q76 (0 : Int)) (0 : Int))), (0 : Int))) else none))) else none))) else none))) else none) else none)))
theorem f_hard_Path_c {S : Nat → Prop} {w0 w : World} {ow : List Res} (hp : Hp S w0 w ow) (c0_Length : Int) (c0_One : Int) (c0_Two : Int) (vmarks1 : Value) (marks1 : (List Int)) (hmarks1 : RdS (Ek.int .u8) S w0 vmarks1 marks1) {r : ((List Bool) × Int × Int)} (h : f_hard_Path c0_Length c0_One c0_Two marks1 = some r) :
    Calls Try.prog 19 #[.agg #[.int .i64 c0_Length, .int .u32 c0_One, .int .u32 c0_Two], vmarks1] w (fun e w' => ∃ (u0 : Value), e = .returned (.tuple #[u0, .int .i64 r.2.1, .int .i64 r.2.2]) ∧ Hp S w0 w' (Res.sl Ek.bool 4 u0 r.1 :: ow)) := by
  unfold f_hard_Path at h
  refine enter (n := 179) (args := [.agg #[.int .i64 c0_Length, .int .u32 c0_One, .int .u32 c0_Two], vmarks1]) Try.func19 rfl rfl (Nat.le_of_ble_eq_true rfl) fun a hf => ?_
  replace hf : Fr 179 a [(0, .agg #[.int .i64 c0_Length, .int .u32 c0_One, .int .u32 c0_Two]), (1, vmarks1)] := hf
  refine wp_mono (Q := fun e a w => e = .ret ∧ ∃ (u0 : Value), Fr 179 a [(4, u0), (5, .int .i64 r.2.1), (6, .int .i64 r.2.2)] ∧ Hp S w0 w (Res.sl Ek.bool 4 u0 r.1 :: ow)) ?_ ?_
  rotate_left
  · rintro e a w ⟨rfl, x0, hf, hp⟩
    exact ret3 hf rfl rfl rfl rfl ⟨x0, rfl, hp⟩
  refine wp_seq ?_
  refine wp_reg ?_
  refine st_boxO (cs := [.int .i64 c0_Length, .int .u32 c0_One, .int .u32 c0_Two]) hf (by decide) hp rfl rfl rfl ?_
  clear hf; intro a w v1 hf hp0; clear hp; have hp := hp0; clear hp0
  replace hp : Hp _ _ _ (Res.obj 40 v1 [.int .i64 c0_Length, .int .u32 c0_One, .int .u32 c0_Two] :: ow) := hp
  refine st_assign hf rfl rfl (by decide) ?_
  clear hf; intro a ha hf; clear ha
  refine st_assign hf rfl rfl (by decide) ?_
  clear hf; intro a ha hf; clear ha
  refine st_assign hf rfl rfl (by decide) ?_
  clear hf; intro a ha hf; clear ha
  refine st_nil hf ?_
  refine th_n ?_
  refine wp_seq ?_
  refine wp_seq ?_
  refine wp_reg ?_
  refine st_ldOA (m := 3) (us := [.int .i64 c0_Length, .int .u32 c0_One, .int .u32 c0_Two]) hf (by decide) (by kernel_rfl) rfl rfl (hp.ob (i := 0) rfl) rfl rfl ?_
  clear hf; intro a ha hf; clear ha
  refine st_move hf rfl rfl (by decide) ?_
  clear hf; intro a ha hf; clear ha
  obtain ⟨q3, hcall4, h⟩ := bnd h
  refine st_call hf (by decide) Try.func31 rfl rfl rfl rfl rfl (f_hard_fits_c hp _ _ _ _ _ hmarks1 hcall4) ?_
  rintro _ w ⟨rfl, hp0⟩
  clear hp; have hp := hp0; clear hp0
  replace hp : Hp _ _ _ (Res.obj 40 v1 [.int .i64 c0_Length, .int .u32 c0_One, .int .u32 c0_Two] :: ow) := hp
  refine ⟨_, rfl, ?_⟩
  clear hf; intro a hf
  refine st_not hf (by decide) rfl rfl ?_
  clear hf; intro a ha hf; clear ha
  refine st_nil hf ?_
  refine th_n ?_
  refine wp_if hf rfl (fun hb => ?_) (fun hb => ?_)
  · replace h := ifT h hb
    refine wp_seq ?_
    refine wp_reg ?_
    refine st_assign hf rfl rfl (by decide) ?_
    clear hf; intro a ha hf; clear ha
    refine st_assign hf rfl rfl (by decide) ?_
    clear hf; intro a ha hf; clear ha
    refine st_assign hf rfl rfl (by decide) ?_
    clear hf; intro a ha hf; clear ha
    refine st_nil hf ?_
    refine th_n ?_
    refine wp_ret ?_
    refine th_r ?_
    obtain rfl := Option.some.inj h
    have hp := hp.nil Ek.bool 4
    have hp : Hp _ _ _ (Res.sl Ek.bool 4 (.slice none 0 0) ([]) :: ow) := Hp.sel (pre := [Res.sl Ek.bool 4 (.slice none 0 0) ([]), Res.obj 40 v1 [.int .i64 c0_Length, .int .u32 c0_One, .int .u32 c0_Two]]) (tail := ow) (rs' := [Res.sl Ek.bool 4 (.slice none 0 0) ([])]) hp [0] (by decide) (by simp) rfl
    exact ⟨rfl, ⟨_, hf.sub ⟨rfl, rfl, rfl, trivial⟩, hp⟩⟩
  replace h := ifF h hb
  refine wp_skip ?_
  refine th_n ?_
  refine wp_seq ?_
  refine wp_reg ?_
  refine st_move hf rfl rfl (by decide) ?_
  clear hf; intro a ha hf; clear ha
  refine st_len (E := (Ek.int .u8)) hf (by decide) Try.underlying26 rfl rfl (hmarks1.sl hp) ?_
  clear hf; intro a ha hf; clear ha
  refine st_iquo hf (by decide) rfl rfl rfl (by decide) ?_
  clear hf; intro a ha hf; clear ha
  refine st_assign hf rfl rfl (by decide) ?_
  clear hf; intro a ha hf; clear ha
  refine st_nil hf ?_
  refine th_n ?_
  refine wp_seq ?_
  refine wp_reg ?_
  refine st_move hf rfl rfl (by decide) ?_
  clear hf; intro a ha hf; clear ha
  refine st_fa (o' := 0) hf (by decide) (off := 0) (sz := 1) (by kernel_rfl) (by decide) rfl rfl (hp.ob (i := 0) rfl) rfl ?_
  clear hf; intro a ha hf; clear ha
  refine st_ldO (u := .int .i64 c0_Length) hf (by decide) pl3 rfl rfl (hp.ob (i := 0) rfl) rfl ?_
  clear hf; intro a ha hf; clear ha
  refine st_isub hf (by decide) rfl rfl rfl ?_
  clear hf; intro a ha hf; clear ha
  refine st_isub hf (by decide) rfl rfl rfl ?_
  clear hf; intro a ha hf; clear ha
  refine st_assign hf rfl rfl (by decide) ?_
  clear hf; intro a ha hf; clear ha
  refine st_nil hf ?_
  refine th_n ?_
  refine wp_seq ?_
  refine wp_reg ?_
  refine st_fa (o' := 0) hf (by decide) (off := 0) (sz := 1) (by kernel_rfl) (by decide) rfl rfl (hp.ob (i := 0) rfl) rfl ?_
  clear hf; intro a ha hf; clear ha
  refine st_ldO (u := .int .i64 c0_Length) hf (by decide) pl3 rfl rfl (hp.ob (i := 0) rfl) rfl ?_
  clear hf; intro a ha hf; clear ha
  refine st_isub hf (by decide) rfl rfl rfl ?_
  clear hf; intro a ha hf; clear ha
  obtain ⟨hc6, h⟩ := chk h
  refine st_ishl hf (by decide) rfl rfl rfl hc6 ?_
  clear hf; intro a ha hf; clear ha
  refine st_assign hf rfl rfl (by decide) ?_
  clear hf; intro a ha hf; clear ha
  refine st_nil hf ?_
  refine th_n ?_
  refine wp_seq ?_
  refine wp_reg ?_
  refine st_move hf rfl rfl (by decide) ?_
  clear hf; intro a ha hf; clear ha
  refine st_iadd hf (by decide) rfl rfl rfl ?_
  clear hf; intro a ha hf; clear ha
  obtain ⟨hc7, h⟩ := chk h
  refine st_make (E := (Ek.arr 64 (Ek.int .i32))) hf (by decide) elt65 Try.underlying64 (by decide) hp rfl rfl rfl hc7.1 hc7.2.1 hc7.2.2 ?_
  clear hf; intro a w v8 hf hp0; clear hp; have hp := hp0; clear hp0
  replace hp : Hp _ _ _ (Res.sl (Ek.arr 64 (Ek.int .i32)) 65 v8 (List.replicate ((IntKind.i64.wrap ((IntKind.i64.wrap (((marks1.length : Int)).tdiv (2 : Int))) + (1 : Int)))).toNat (List.replicate 64 (0 : Int))) :: Res.obj 40 v1 [.int .i64 c0_Length, .int .u32 c0_One, .int .u32 c0_Two] :: ow) := hp
  refine st_assign hf rfl rfl (by decide) ?_
  clear hf; intro a ha hf; clear ha
  refine st_nil hf ?_
  refine th_n ?_
  refine wp_seq ?_
  refine wp_seq ?_
  refine wp_reg ?_
  refine st_move hf rfl rfl (by decide) ?_
  clear hf; intro a ha hf; clear ha
  refine st_move hf rfl rfl (by decide) ?_
  clear hf; intro a ha hf; clear ha
  refine st_nil hf ?_
  refine th_n ?_
  refine wp_block ?_
  obtain ⟨q16, hl, h⟩ := bnd h
  refine wp_loop_pure (f := (f_hard_Path.s1 c0_Length marks1)) (s := ((List.replicate ((IntKind.i64.wrap ((IntKind.i64.wrap (((marks1.length : Int)).tdiv (2 : Int))) + (1 : Int)))).toNat (List.replicate 64 (0 : Int))), (0 : Int))) (fun s a w => ∃ (v10 : Value), Fr 179 a [(1, vmarks1), (2, optr v1 0), (7, .int .i64 (IntKind.i64.wrap (((marks1.length : Int)).tdiv (2 : Int)))), (8, .int .i64 (IntKind.i64.wrap ((IntKind.i64.wrap (((marks1.length : Int)).tdiv (2 : Int))) - (IntKind.i64.wrap (c0_Length - (1 : Int)))))), (9, .int .u32 (ishl .u32 (1 : Int) (IntKind.i64.wrap (c0_Length - (1 : Int))))), (10, v10), (39, .int .u32 (ishl .u32 (1 : Int) (IntKind.i64.wrap (c0_Length - (1 : Int))))), (40, .int .u32 s.2)] ∧ Hp S w0 w (Res.sl (Ek.arr 64 (Ek.int .i32)) 65 v10 s.1 :: Res.obj 40 v1 [.int .i64 c0_Length, .int .u32 c0_One, .int .u32 c0_Two] :: ow)) (fun q e a w => e = .exit 0 ∧ ∃ (v12 : Value), Fr 179 a [(1, vmarks1), (2, optr v1 0), (7, .int .i64 (IntKind.i64.wrap (((marks1.length : Int)).tdiv (2 : Int)))), (8, .int .i64 (IntKind.i64.wrap ((IntKind.i64.wrap (((marks1.length : Int)).tdiv (2 : Int))) - (IntKind.i64.wrap (c0_Length - (1 : Int)))))), (9, .int .u32 (ishl .u32 (1 : Int) (IntKind.i64.wrap (c0_Length - (1 : Int))))), (10, v12)] ∧ Hp S w0 w (Res.sl (Ek.arr 64 (Ek.int .i32)) 65 v12 q :: Res.obj 40 v1 [.int .i64 c0_Length, .int .u32 c0_One, .int .u32 c0_Two] :: ow)) ?_ hl ⟨_, hf.sub ⟨rfl, rfl, rfl, rfl, rfl, rfl, rfl, rfl, trivial⟩, hp⟩ ?_
  · clear hl hf hp
    intro s x a w h hI
    obtain ⟨rest10, t40⟩ := s
    obtain ⟨v10, hf, hp⟩ : ∃ (v10 : Value), Fr 179 a [(1, vmarks1), (2, optr v1 0), (7, .int .i64 (IntKind.i64.wrap (((marks1.length : Int)).tdiv (2 : Int)))), (8, .int .i64 (IntKind.i64.wrap ((IntKind.i64.wrap (((marks1.length : Int)).tdiv (2 : Int))) - (IntKind.i64.wrap (c0_Length - (1 : Int)))))), (9, .int .u32 (ishl .u32 (1 : Int) (IntKind.i64.wrap (c0_Length - (1 : Int))))), (10, v10), (39, .int .u32 (ishl .u32 (1 : Int) (IntKind.i64.wrap (c0_Length - (1 : Int))))), (40, .int .u32 t40)] ∧ Hp S w0 w (Res.sl (Ek.arr 64 (Ek.int .i32)) 65 v10 rest10 :: Res.obj 40 v1 [.int .i64 c0_Length, .int .u32 c0_One, .int .u32 c0_Two] :: ow) := hI
    replace h : f_hard_Path.s1c c0_Length marks1 rest10 t40 = some x := h
    unfold f_hard_Path.s1c at h
    refine wp_seq ?_
    refine wp_reg ?_
    refine st_ilss hf (by decide) rfl rfl rfl ?_
    clear hf; intro a ha hf; clear ha
    refine st_nil hf ?_
    refine th_n ?_
    refine wp_seq ?_
    refine wp_if hf rfl (fun hb => ?_) (fun hb => ?_)
    · replace h := ifT h hb
      refine wp_skip ?_
      refine th_n ?_
      refine wp_seq ?_
      refine wp_block ?_
      refine wp_seq ?_
      refine wp_reg ?_
      refine st_move hf rfl rfl (by decide) ?_
      clear hf; intro a ha hf; clear ha
      refine st_assign hf rfl rfl (by decide) ?_
      clear hf; intro a ha hf; clear ha
      refine st_nil hf ?_
      refine th_n ?_
      refine wp_reg ?_
      refine st_move hf rfl rfl (by decide) ?_
      clear hf; intro a ha hf; clear ha
      refine st_move hf rfl rfl (by decide) ?_
      clear hf; intro a ha hf; clear ha
      refine st_move hf rfl rfl (by decide) ?_
      clear hf; intro a ha hf; clear ha
      obtain ⟨hc14, h⟩ := chk h
      refine st_index (E := (Ek.arr 64 (Ek.int .i32))) hf (by decide) Try.underlying64 elt65 rfl rfl rfl (hp.sl (i := 0) rfl) hc14.1 hc14.2 ?_
      clear hf; intro a ha hf; clear ha
      obtain ⟨hc15, h⟩ := chk h
      refine st_iaP (sz := 1) hf (by decide) Try.underlying65 (by kernel_rfl) rfl rfl rfl (Sl.isP (hp.sl (i := 0) rfl) hc14.1 hc14.2) hc15.1 hc15.2 ?_
      clear hf; intro a ha hf; clear ha
      refine st_stQ (E := (Ek.arr 64 (Ek.int .i32))) (F := (Ek.int .i32)) (o := (t40).toNat * 1) (Sub.arr (F := (Ek.int .i32)) (N := 64) (j := t40) hc15.1 hc15.2) hf (by kernel_rfl) hp (i := 0) rfl rfl rfl rfl rfl hc14.1 hc14.2 ?_
      clear hf; intro a w hf hp0; clear hp; have hp := hp0; clear hp0
      replace hp : Hp _ _ _ (Res.sl (Ek.arr 64 (Ek.int .i32)) 65 v10 (rest10.set ((IntKind.i64.wrap (((marks1.length : Int)).tdiv (2 : Int)))).toNat ((gt rest10 (IntKind.i64.wrap (((marks1.length : Int)).tdiv (2 : Int)))).set (t40).toNat (1048576 : Int))) :: Res.obj 40 v1 [.int .i64 c0_Length, .int .u32 c0_One, .int .u32 c0_Two] :: ow) := hp
      refine st_nil hf ?_
      refine ib_n ?_
      refine th_n ?_
      refine wp_reg ?_
      refine st_iadd hf (by decide) rfl rfl rfl ?_
      clear hf; intro a ha hf; clear ha
      refine st_move hf rfl rfl (by decide) ?_
      clear hf; intro a ha hf; clear ha
      refine st_nil hf ?_
      obtain rfl := Option.some.inj h
      exact rnd_l ⟨_, hf.sub ⟨rfl, rfl, rfl, rfl, rfl, rfl, rfl, rfl, trivial⟩, hp⟩
    replace h := ifF h hb
    refine wp_exit ?_
    refine th_e ?_
    obtain rfl := Option.some.inj h
    exact rnd_r (by simp) ⟨rfl, _, hf.sub ⟨rfl, rfl, rfl, rfl, rfl, rfl, trivial⟩, hp⟩
  clear hl hf hp
  intro e a w hne hO
  obtain ⟨rfl, v12, hf, hp⟩ := hO
  refine ib_same ?_
  refine th_n ?_
  refine wp_seq ?_
  refine wp_reg ?_
  refine st_move hf rfl rfl (by decide) ?_
  clear hf; intro a ha hf; clear ha
  refine st_move hf rfl rfl (by decide) ?_
  clear hf; intro a ha hf; clear ha
  obtain ⟨hc17, h⟩ := chk h
  refine st_index (E := (Ek.arr 64 (Ek.int .i32))) hf (by decide) Try.underlying64 elt65 rfl rfl rfl (hp.sl (i := 0) rfl) hc17.1 hc17.2 ?_
  clear hf; intro a ha hf; clear ha
  have hc18 : 0 ≤ (0 : Int) ∧ (0 : Int) < (64 : Int) := by decide
  refine st_iaP (sz := 1) hf (by decide) Try.underlying65 (by kernel_rfl) rfl rfl rfl (Sl.isP (hp.sl (i := 0) rfl) hc17.1 hc17.2) hc18.1 hc18.2 ?_
  clear hf; intro a ha hf; clear ha
  refine st_stQ (E := (Ek.arr 64 (Ek.int .i32))) (F := (Ek.int .i32)) (o := ((0 : Int)).toNat * 1) (Sub.arr (F := (Ek.int .i32)) (N := 64) (j := (0 : Int)) hc18.1 hc18.2) hf (by kernel_rfl) hp (i := 0) rfl rfl rfl rfl rfl hc17.1 hc17.2 ?_
  clear hf; intro a w hf hp0; clear hp; have hp := hp0; clear hp0
  replace hp : Hp _ _ _ (Res.sl (Ek.arr 64 (Ek.int .i32)) 65 v12 (q16.set ((IntKind.i64.wrap (((marks1.length : Int)).tdiv (2 : Int)))).toNat ((gt q16 (IntKind.i64.wrap (((marks1.length : Int)).tdiv (2 : Int)))).set ((0 : Int)).toNat (0 : Int))) :: Res.obj 40 v1 [.int .i64 c0_Length, .int .u32 c0_One, .int .u32 c0_Two] :: ow) := hp
  refine st_nil hf ?_
  refine th_n ?_
  refine wp_seq ?_
  refine wp_seq ?_
  refine wp_reg ?_
  refine st_move hf rfl rfl (by decide) ?_
  clear hf; intro a ha hf; clear ha
  refine st_isub hf (by decide) rfl rfl rfl ?_
  clear hf; intro a ha hf; clear ha
  refine st_assign hf rfl rfl (by decide) ?_
  clear hf; intro a ha hf; clear ha
  refine st_nil hf ?_
  refine th_n ?_
  refine wp_block ?_
  obtain ⟨q76, hl, h⟩ := bnd h
  refine wp_loop_pure (f := (f_hard_Path.s2 c0_Length c0_One c0_Two marks1)) (s := ((q16.set ((IntKind.i64.wrap (((marks1.length : Int)).tdiv (2 : Int)))).toNat ((gt q16 (IntKind.i64.wrap (((marks1.length : Int)).tdiv (2 : Int)))).set ((0 : Int)).toNat (0 : Int))), (IntKind.i64.wrap ((IntKind.i64.wrap (((marks1.length : Int)).tdiv (2 : Int))) - (1 : Int))))) (fun s a w => ∃ (v19 : Value), Fr 179 a [(1, vmarks1), (2, optr v1 0), (8, .int .i64 (IntKind.i64.wrap ((IntKind.i64.wrap (((marks1.length : Int)).tdiv (2 : Int))) - (IntKind.i64.wrap (c0_Length - (1 : Int)))))), (9, .int .u32 (ishl .u32 (1 : Int) (IntKind.i64.wrap (c0_Length - (1 : Int))))), (10, v19), (12, .int .i64 s.2)] ∧ Hp S w0 w (Res.sl (Ek.arr 64 (Ek.int .i32)) 65 v19 s.1 :: Res.obj 40 v1 [.int .i64 c0_Length, .int .u32 c0_One, .int .u32 c0_Two] :: ow)) (fun q e a w => e = .exit 2 ∧ ∃ (v21 : Value), Fr 179 a [(1, vmarks1), (2, optr v1 0), (8, .int .i64 (IntKind.i64.wrap ((IntKind.i64.wrap (((marks1.length : Int)).tdiv (2 : Int))) - (IntKind.i64.wrap (c0_Length - (1 : Int)))))), (10, v21)] ∧ Hp S w0 w (Res.sl (Ek.arr 64 (Ek.int .i32)) 65 v21 q :: Res.obj 40 v1 [.int .i64 c0_Length, .int .u32 c0_One, .int .u32 c0_Two] :: ow)) ?_ hl ⟨_, hf.sub ⟨rfl, rfl, rfl, rfl, rfl, rfl, trivial⟩, hp⟩ ?_
  · clear hl hf hp
    intro s x a w h hI
    obtain ⟨rest10, t12⟩ := s
    obtain ⟨v19, hf, hp⟩ : ∃ (v19 : Value), Fr 179 a [(1, vmarks1), (2, optr v1 0), (8, .int .i64 (IntKind.i64.wrap ((IntKind.i64.wrap (((marks1.length : Int)).tdiv (2 : Int))) - (IntKind.i64.wrap (c0_Length - (1 : Int)))))), (9, .int .u32 (ishl .u32 (1 : Int) (IntKind.i64.wrap (c0_Length - (1 : Int))))), (10, v19), (12, .int .i64 t12)] ∧ Hp S w0 w (Res.sl (Ek.arr 64 (Ek.int .i32)) 65 v19 rest10 :: Res.obj 40 v1 [.int .i64 c0_Length, .int .u32 c0_One, .int .u32 c0_Two] :: ow) := hI
    replace h : f_hard_Path.s2c c0_Length c0_One c0_Two marks1 rest10 t12 = some x := h
    unfold f_hard_Path.s2c at h
    refine wp_seq ?_
    refine wp_seq ?_
    refine wp_reg ?_
    refine st_move hf rfl rfl (by decide) ?_
    clear hf; intro a ha hf; clear ha
    refine st_igeq hf (by decide) rfl rfl rfl ?_
    clear hf; intro a ha hf; clear ha
    refine st_nil hf ?_
    refine th_n ?_
    refine wp_if hf rfl (fun hb => ?_) (fun hb => ?_)
    · replace h := ifT h hb
      refine wp_skip ?_
      refine th_n ?_
      refine wp_seq ?_
      refine wp_block ?_
      refine wp_seq ?_
      refine wp_reg ?_
      refine st_move hf rfl rfl (by decide) ?_
      clear hf; intro a ha hf; clear ha
      refine st_move hf rfl rfl (by decide) ?_
      clear hf; intro a ha hf; clear ha
      refine st_nil hf ?_
      refine th_n ?_
      refine wp_block ?_
      obtain ⟨q75, hl, h⟩ := bnd h
      refine wp_loop_pure (f := (f_hard_Path.s3 c0_Length c0_One c0_Two marks1 t12)) (s := (rest10, (0 : Int))) (fun s a w => ∃ (v23 : Value), Fr 179 a [(1, vmarks1), (2, optr v1 0), (8, .int .i64 (IntKind.i64.wrap ((IntKind.i64.wrap (((marks1.length : Int)).tdiv (2 : Int))) - (IntKind.i64.wrap (c0_Length - (1 : Int)))))), (9, .int .u32 (ishl .u32 (1 : Int) (IntKind.i64.wrap (c0_Length - (1 : Int))))), (10, v23), (12, .int .i64 t12), (59, .int .u32 (ishl .u32 (1 : Int) (IntKind.i64.wrap (c0_Length - (1 : Int))))), (60, .int .u32 s.2)] ∧ Hp S w0 w (Res.sl (Ek.arr 64 (Ek.int .i32)) 65 v23 s.1 :: Res.obj 40 v1 [.int .i64 c0_Length, .int .u32 c0_One, .int .u32 c0_Two] :: ow)) (fun q e a w => e = .exit 4 ∧ ∃ (v25 : Value), Fr 179 a [(1, vmarks1), (2, optr v1 0), (8, .int .i64 (IntKind.i64.wrap ((IntKind.i64.wrap (((marks1.length : Int)).tdiv (2 : Int))) - (IntKind.i64.wrap (c0_Length - (1 : Int)))))), (9, .int .u32 (ishl .u32 (1 : Int) (IntKind.i64.wrap (c0_Length - (1 : Int))))), (10, v25), (12, .int .i64 t12)] ∧ Hp S w0 w (Res.sl (Ek.arr 64 (Ek.int .i32)) 65 v25 q :: Res.obj 40 v1 [.int .i64 c0_Length, .int .u32 c0_One, .int .u32 c0_Two] :: ow)) ?_ hl ⟨_, hf.sub ⟨rfl, rfl, rfl, rfl, rfl, rfl, rfl, rfl, trivial⟩, hp⟩ ?_
      · clear hl hf hp
        intro s x a w h hI
        obtain ⟨rest10, t60⟩ := s
        obtain ⟨v23, hf, hp⟩ : ∃ (v23 : Value), Fr 179 a [(1, vmarks1), (2, optr v1 0), (8, .int .i64 (IntKind.i64.wrap ((IntKind.i64.wrap (((marks1.length : Int)).tdiv (2 : Int))) - (IntKind.i64.wrap (c0_Length - (1 : Int)))))), (9, .int .u32 (ishl .u32 (1 : Int) (IntKind.i64.wrap (c0_Length - (1 : Int))))), (10, v23), (12, .int .i64 t12), (59, .int .u32 (ishl .u32 (1 : Int) (IntKind.i64.wrap (c0_Length - (1 : Int))))), (60, .int .u32 t60)] ∧ Hp S w0 w (Res.sl (Ek.arr 64 (Ek.int .i32)) 65 v23 rest10 :: Res.obj 40 v1 [.int .i64 c0_Length, .int .u32 c0_One, .int .u32 c0_Two] :: ow) := hI
        replace h : f_hard_Path.s3c c0_Length c0_One c0_Two marks1 t12 rest10 t60 = some x := h
        unfold f_hard_Path.s3c at h
        refine wp_seq ?_
        refine wp_reg ?_
        refine st_ilss hf (by decide) rfl rfl rfl ?_
        clear hf; intro a ha hf; clear ha
        refine st_nil hf ?_
        refine th_n ?_
        refine wp_seq ?_
        refine wp_if hf rfl (fun hb => ?_) (fun hb => ?_)
        · replace h := ifT h hb
          refine wp_skip ?_
          refine th_n ?_
          refine wp_seq ?_
          refine wp_block ?_
          refine wp_seq ?_
          refine wp_reg ?_
          refine st_move hf rfl rfl (by decide) ?_
          clear hf; intro a ha hf; clear ha
          refine st_assign hf rfl rfl (by decide) ?_
          clear hf; intro a ha hf; clear ha
          refine st_nil hf ?_
          refine th_n ?_
          refine wp_seq ?_
          obtain ⟨S27, hp28, rd29, up30, bk31⟩ := Hp.lendO hp (i := 1) rfl
          have rl32 := ((hmarks1.now hp).mono up30)
          have rl33 := rd29
          obtain ⟨hc34, h⟩ := chk h
          have hc35 : ((IntKind.i64.wrap ((2 : Int) * t12))).toNat ≤ marks1.length := by omega
          have hc36 : marks1.length ≤ marks1.length := by omega
          obtain ⟨q37, hcall38, h⟩ := bnd h
          refine wp_cutN (fun a w => Fr 179 a [(1, vmarks1), (2, optr v1 0), (8, .int .i64 (IntKind.i64.wrap ((IntKind.i64.wrap (((marks1.length : Int)).tdiv (2 : Int))) - (IntKind.i64.wrap (c0_Length - (1 : Int)))))), (9, .int .u32 (ishl .u32 (1 : Int) (IntKind.i64.wrap (c0_Length - (1 : Int))))), (10, v23), (12, .int .i64 t12), (13, .int .u32 t60), (14, .int .u32 q37.1), (15, .int .i32 q37.2), (59, .int .u32 (ishl .u32 (1 : Int) (IntKind.i64.wrap (c0_Length - (1 : Int))))), (60, .int .u32 t60)] ∧ Hp S w0 w (Res.obj 40 v1 [.int .i64 c0_Length, .int .u32 c0_One, .int .u32 c0_Two] :: Res.sl (Ek.arr 64 (Ek.int .i32)) 65 v23 rest10 :: ow)) ?_ ?_
          · have hp := hp28.same (Same.drew w)
            refine dr_begin' (fun a w => Fr 179 a [(1, vmarks1), (2, optr v1 0), (8, .int .i64 (IntKind.i64.wrap ((IntKind.i64.wrap (((marks1.length : Int)).tdiv (2 : Int))) - (IntKind.i64.wrap (c0_Length - (1 : Int)))))), (9, .int .u32 (ishl .u32 (1 : Int) (IntKind.i64.wrap (c0_Length - (1 : Int))))), (10, v23), (12, .int .i64 t12), (13, .int .u32 t60), (14, .int .u32 q37.1), (15, .int .i32 q37.2), (59, .int .u32 (ishl .u32 (1 : Int) (IntKind.i64.wrap (c0_Length - (1 : Int))))), (60, .int .u32 t60)] ∧ Hp S w0 w (Res.obj 40 v1 [.int .i64 c0_Length, .int .u32 c0_One, .int .u32 c0_Two] :: Res.sl (Ek.arr 64 (Ek.int .i32)) 65 v23 rest10 :: ow)) (fun w' => ∃ l, Hp S27 w w' l) [] (by kernel_rfl) ?_
            refine dr_take 0 (.agg #[.int .i64 c0_Length, .int .u32 c0_One, .int .u32 c0_Two]) rfl (by kernel_rfl) (by kernel_rfl) (by kernel_rfl) (by kernel_rfl) rfl rfl hf (by decide) rfl (fun w hp => ?_) ⟨_, hp⟩ ?_
            · obtain ⟨_, hp⟩ := hp
              refine st_ldOA (m := 3) (us := [.int .i64 c0_Length, .int .u32 c0_One, .int .u32 c0_Two]) hf (by decide) (by kernel_rfl) rfl rfl (rl33.ob hp) rfl rfl ?_
              clear hf; intro a ha hf
              exact st_nil hf (th_n ⟨ha, rfl⟩)
            clear hf; intro a hf
            refine dr_take 1 (.int .u32 t60) rfl (by kernel_rfl) (by kernel_rfl) (by kernel_rfl) (by kernel_rfl) rfl rfl hf (by decide) rfl (fun w hp => ?_) ⟨_, hp⟩ ?_
            · obtain ⟨_, hp⟩ := hp
              refine st_move hf rfl rfl (by decide) ?_
              clear hf; intro a ha hf
              exact st_nil hf (th_n ⟨ha, rfl⟩)
            clear hf; intro a hf
            refine dr_take 2 (vmarks1) rfl (by kernel_rfl) (by kernel_rfl) (by kernel_rfl) (by kernel_rfl) rfl rfl hf (by decide) rfl (fun w hp => ?_) ⟨_, hp⟩ ?_
            · obtain ⟨_, hp⟩ := hp
              refine st_move hf rfl rfl (by decide) ?_
              clear hf; intro a ha hf
              exact st_nil hf (th_n ⟨ha, rfl⟩)
            clear hf; intro a hf
            refine dr_take 3 (.int .i64 t12) rfl (by kernel_rfl) (by kernel_rfl) (by kernel_rfl) (by kernel_rfl) rfl rfl hf (by decide) rfl (fun w hp => ?_) ⟨_, hp⟩ ?_
            · obtain ⟨_, hp⟩ := hp
              refine st_move hf rfl rfl (by decide) ?_
              clear hf; intro a ha hf
              exact st_nil hf (th_n ⟨ha, rfl⟩)
            clear hf; intro a hf
            refine dr_take 4 (.int .i64 (IntKind.i64.wrap ((2 : Int) * t12))) rfl (by kernel_rfl) (by kernel_rfl) (by kernel_rfl) (by kernel_rfl) rfl rfl hf (by decide) rfl (fun w hp => ?_) ⟨_, hp⟩ ?_
            · obtain ⟨_, hp⟩ := hp
              refine st_imul hf (by decide) rfl rfl rfl ?_
              clear hf; intro a ha hf
              exact st_nil hf (th_n ⟨ha, rfl⟩)
            clear hf; intro a hf
            refine dr_take 5 ((GL.cut vmarks1 ((IntKind.i64.wrap ((2 : Int) * t12))).toNat marks1.length 1)) rfl (by kernel_rfl) (by kernel_rfl) (by kernel_rfl) (by kernel_rfl) rfl rfl hf (by decide) rfl (fun w hp => ?_) ⟨_, hp⟩ ?_
            · obtain ⟨_, hp⟩ := hp
              refine st_cutS (E := (Ek.int .u8)) hf (by decide) Try.underlying26 elt51 rfl rfl (rl32.sl hp) (.inr ⟨_, _, rfl, evI rfl hc34.1⟩) (.inl ⟨rfl, rfl⟩) hc35 hc36 ?_
              clear hf; intro a ha hf
              exact st_nil hf (th_n ⟨ha, rfl⟩)
            clear hf; intro a hf
            refine dr_one 6 rfl (by kernel_rfl) ?_
            refine st_call hf (by decide) Try.func32 rfl rfl rfl rfl rfl (f_hard_step_c hp _ _ _ _ _ _ _ (RdS.cut rl32 hc35 hc36) hcall38) ?_
            rintro _ w ⟨rfl, hp0⟩
            clear hp; have hp := hp0; clear hp0
            replace hp : Hp _ _ _ (Res.sl (Ek.arr 64 (Ek.int .i32)) 65 v23 rest10 :: ow) := hp
            refine ⟨_, rfl, ?_⟩
            clear hf; intro a hf
            refine st_nil hf (th_n ⟨fun _ _ => ⟨_, hp⟩, ?_⟩)
            refine dr_take 7 (.tuple #[.int .u32 q37.1, .int .i32 q37.2]) rfl (by kernel_rfl) (by kernel_rfl) (by kernel_rfl) (by kernel_rfl) rfl rfl hf (by decide) rfl (fun w hp => ?_) ⟨_, hp⟩ ?_
            · obtain ⟨_, hp⟩ := hp
              refine st_move hf rfl rfl (by decide) ?_
              clear hf; intro a ha hf
              exact st_nil hf (th_n ⟨ha, rfl⟩)
            clear hf; intro a hf
            refine dr_take 8 (.int .u32 q37.1) rfl (by kernel_rfl) (by kernel_rfl) (by kernel_rfl) (by kernel_rfl) rfl rfl hf (by decide) rfl (fun w hp => ?_) ⟨_, hp⟩ ?_
            · obtain ⟨_, hp⟩ := hp
              refine st_extract hf (by decide) rfl rfl rfl ?_
              clear hf; intro a ha hf
              exact st_nil hf (th_n ⟨ha, rfl⟩)
            clear hf; intro a hf
            refine dr_take 9 (.int .i32 q37.2) rfl (by kernel_rfl) (by kernel_rfl) (by kernel_rfl) (by kernel_rfl) rfl rfl hf (by decide) rfl (fun w hp => ?_) ⟨_, hp⟩ ?_
            · obtain ⟨_, hp⟩ := hp
              refine st_extract hf (by decide) rfl rfl rfl ?_
              clear hf; intro a ha hf
              exact st_nil hf (th_n ⟨ha, rfl⟩)
            clear hf; intro a hf
            refine dr_take 10 (.int .u32 q37.1) rfl (by kernel_rfl) (by kernel_rfl) (by kernel_rfl) (by kernel_rfl) rfl rfl hf (by decide) rfl (fun w hp => ?_) ⟨_, hp⟩ ?_
            · obtain ⟨_, hp⟩ := hp
              refine st_assign hf rfl rfl (by decide) ?_
              clear hf; intro a ha hf
              exact st_nil hf (th_n ⟨ha, rfl⟩)
            clear hf; intro a hf
            refine dr_take 11 (.int .i32 q37.2) rfl (by kernel_rfl) (by kernel_rfl) (by kernel_rfl) (by kernel_rfl) rfl rfl hf (by decide) rfl (fun w hp => ?_) ⟨_, hp⟩ ?_
            · obtain ⟨_, hp⟩ := hp
              refine st_assign hf rfl rfl (by decide) ?_
              clear hf; intro a ha hf
              exact st_nil hf (th_n ⟨ha, rfl⟩)
            clear hf; intro a hf
            refine dr_end (by kernel_rfl) ?_ _
            have hp := bk31 _ _ hp
            exact ⟨hf.sub ⟨rfl, rfl, rfl, rfl, rfl, rfl, rfl, rfl, rfl, rfl, rfl, trivial⟩, hp⟩
          rintro a w ⟨hf, hp⟩
          refine th_n ?_
          refine wp_seq ?_
          obtain ⟨S39, hp40, rd41, up42, bk43⟩ := Hp.lendS hp (i := 1) rfl
          have rl44 := ((hmarks1.now hp).mono up42)
          have rl45 := rd41
          obtain ⟨hc46, h⟩ := chk h
          obtain ⟨hc47, h⟩ := chk h
          obtain ⟨hc48, h⟩ := chk h
          obtain ⟨hc49, h⟩ := chk h
          refine wp_cutN (fun a w => Fr 179 a [(1, vmarks1), (2, optr v1 0), (8, .int .i64 (IntKind.i64.wrap ((IntKind.i64.wrap (((marks1.length : Int)).tdiv (2 : Int))) - (IntKind.i64.wrap (c0_Length - (1 : Int)))))), (9, .int .u32 (ishl .u32 (1 : Int) (IntKind.i64.wrap (c0_Length - (1 : Int))))), (10, v23), (12, .int .i64 t12), (13, .int .u32 t60), (59, .int .u32 (ishl .u32 (1 : Int) (IntKind.i64.wrap (c0_Length - (1 : Int))))), (60, .int .u32 t60)] ∧ Hp S w0 w (Res.sl (Ek.arr 64 (Ek.int .i32)) 65 v23 (rest10.set (t12).toNat ((gt rest10 t12).set (t60).toNat (IntKind.i32.wrap (q37.2 + (gt (gt rest10 (IntKind.i64.wrap (t12 + (1 : Int)))) q37.1))))) :: Res.obj 40 v1 [.int .i64 c0_Length, .int .u32 c0_One, .int .u32 c0_Two] :: ow)) ?_ ?_
          · have hp := hp40.same (Same.drew w)
            refine dr_begin' (fun a w => Fr 179 a [(1, vmarks1), (2, optr v1 0), (8, .int .i64 (IntKind.i64.wrap ((IntKind.i64.wrap (((marks1.length : Int)).tdiv (2 : Int))) - (IntKind.i64.wrap (c0_Length - (1 : Int)))))), (9, .int .u32 (ishl .u32 (1 : Int) (IntKind.i64.wrap (c0_Length - (1 : Int))))), (10, v23), (12, .int .i64 t12), (13, .int .u32 t60), (59, .int .u32 (ishl .u32 (1 : Int) (IntKind.i64.wrap (c0_Length - (1 : Int))))), (60, .int .u32 t60)] ∧ Hp S w0 w (Res.sl (Ek.arr 64 (Ek.int .i32)) 65 v23 (rest10.set (t12).toNat ((gt rest10 t12).set (t60).toNat (IntKind.i32.wrap (q37.2 + (gt (gt rest10 (IntKind.i64.wrap (t12 + (1 : Int)))) q37.1))))) :: Res.obj 40 v1 [.int .i64 c0_Length, .int .u32 c0_One, .int .u32 c0_Two] :: ow)) (fun w' => ∃ l, Hp S39 w w' l) [14] (by kernel_rfl) ?_
            refine dr_takeP 0 (v23) rfl (by kernel_rfl) (by kernel_rfl) (by kernel_rfl) rfl rfl hf (by decide) rfl (fun w => ?_) ?_
            · skip
              refine st_move hf rfl rfl (by decide) ?_
              clear hf; intro a ha hf
              exact st_nil hf (th_n ⟨ha, rfl⟩)
            clear hf; intro a hf
            refine dr_takeP 1 (.int .i64 t12) rfl (by kernel_rfl) (by kernel_rfl) (by kernel_rfl) rfl rfl hf (by decide) rfl (fun w => ?_) ?_
            · skip
              refine st_move hf rfl rfl (by decide) ?_
              clear hf; intro a ha hf
              exact st_nil hf (th_n ⟨ha, rfl⟩)
            clear hf; intro a hf
            refine dr_takeP 2 (.int .u32 t60) rfl (by kernel_rfl) (by kernel_rfl) (by kernel_rfl) rfl rfl hf (by decide) rfl (fun w => ?_) ?_
            · skip
              refine st_move hf rfl rfl (by decide) ?_
              clear hf; intro a ha hf
              exact st_nil hf (th_n ⟨ha, rfl⟩)
            clear hf; intro a hf
            refine dr_takeP 3 (.int .i32 q37.2) rfl (by kernel_rfl) (by kernel_rfl) (by kernel_rfl) rfl rfl hf (by decide) rfl (fun w => ?_) ?_
            · skip
              refine st_move hf rfl rfl (by decide) ?_
              clear hf; intro a ha hf
              exact st_nil hf (th_n ⟨ha, rfl⟩)
            clear hf; intro a hf
            refine dr_takeP 4 (v23) rfl (by kernel_rfl) (by kernel_rfl) (by kernel_rfl) rfl rfl hf (by decide) rfl (fun w => ?_) ?_
            · skip
              refine st_move hf rfl rfl (by decide) ?_
              clear hf; intro a ha hf
              exact st_nil hf (th_n ⟨ha, rfl⟩)
            clear hf; intro a hf
            refine dr_takeP 5 (.int .i64 t12) rfl (by kernel_rfl) (by kernel_rfl) (by kernel_rfl) rfl rfl hf (by decide) rfl (fun w => ?_) ?_
            · skip
              refine st_move hf rfl rfl (by decide) ?_
              clear hf; intro a ha hf
              exact st_nil hf (th_n ⟨ha, rfl⟩)
            clear hf; intro a hf
            refine dr_takeP 6 (.int .i64 (IntKind.i64.wrap (t12 + (1 : Int)))) rfl (by kernel_rfl) (by kernel_rfl) (by kernel_rfl) rfl rfl hf (by decide) rfl (fun w => ?_) ?_
            · skip
              refine st_iadd hf (by decide) rfl rfl rfl ?_
              clear hf; intro a ha hf
              exact st_nil hf (th_n ⟨ha, rfl⟩)
            clear hf; intro a hf
            refine dr_takeP 7 (.int .u32 q37.1) rfl (by kernel_rfl) (by kernel_rfl) (by kernel_rfl) rfl rfl hf (by decide) rfl (fun w => ?_) ?_
            · skip
              refine st_move hf rfl rfl (by decide) ?_
              clear hf; intro a ha hf
              exact st_nil hf (th_n ⟨ha, rfl⟩)
            clear hf; intro a hf
            refine dr_takeP 8 (eptr v23 (IntKind.i64.wrap (t12 + (1 : Int))) 64) rfl (by kernel_rfl) (by kernel_rfl) (by kernel_rfl) rfl rfl hf (by decide) rfl (fun w => ?_) ?_
            · skip
              refine st_index (E := (Ek.arr 64 (Ek.int .i32))) hf (by decide) Try.underlying64 elt65 rfl rfl rfl rl45.any hc46.1 hc46.2 ?_
              clear hf; intro a ha hf
              exact st_nil hf (th_n ⟨ha, rfl⟩)
            clear hf; intro a hf
            refine dr_takeP 9 (optr (eptr v23 (IntKind.i64.wrap (t12 + (1 : Int))) 64) ((q37.1).toNat * 1)) rfl (by kernel_rfl) (by kernel_rfl) (by kernel_rfl) rfl rfl hf (by decide) rfl (fun w => ?_) ?_
            · skip
              refine st_iaP (sz := 1) hf (by decide) Try.underlying65 (by kernel_rfl) rfl rfl rfl (Sl.isP rl45.any hc46.1 hc46.2) hc47.1 hc47.2 ?_
              clear hf; intro a ha hf
              exact st_nil hf (th_n ⟨ha, rfl⟩)
            clear hf; intro a hf
            refine dr_take2 10 (.int .i32 (gt (gt rest10 (IntKind.i64.wrap (t12 + (1 : Int)))) q37.1)) rfl (by kernel_rfl) (by kernel_rfl) (by kernel_rfl) (by kernel_rfl) (by kernel_rfl) rfl rfl hf (by decide) rfl (fun w hp => ?_) ⟨_, hp⟩ ?_
            · obtain ⟨_, hp⟩ := hp
              refine st_ldQ (F := (Ek.int .i32)) (yv := (gt (gt rest10 (IntKind.i64.wrap (t12 + (1 : Int)))) q37.1)) hf (by decide) pl21 (fun x => .int .i32 x) (fun _ _ h => h) rfl rfl (Sl.part (E := (Ek.arr 64 (Ek.int .i32))) (F := (Ek.int .i32)) (o := (q37.1).toNat * 1) (Sub.arr (F := (Ek.int .i32)) (N := 64) (j := q37.1) hc47.1 hc47.2) (rl45.sl hp) hc46.1 hc46.2) ?_
              clear hf; intro a ha hf
              exact st_nil hf (th_n ⟨ha, rfl⟩)
            clear hf; intro a hf
            refine dr_takeP 11 (.int .i32 (IntKind.i32.wrap (q37.2 + (gt (gt rest10 (IntKind.i64.wrap (t12 + (1 : Int)))) q37.1)))) rfl (by kernel_rfl) (by kernel_rfl) (by kernel_rfl) rfl rfl hf (by decide) rfl (fun w => ?_) ?_
            · skip
              refine st_iadd hf (by decide) rfl rfl rfl ?_
              clear hf; intro a ha hf
              exact st_nil hf (th_n ⟨ha, rfl⟩)
            clear hf; intro a hf
            refine dr_takeP 12 (eptr v23 t12 64) rfl (by kernel_rfl) (by kernel_rfl) (by kernel_rfl) rfl rfl hf (by decide) rfl (fun w => ?_) ?_
            · skip
              refine st_index (E := (Ek.arr 64 (Ek.int .i32))) hf (by decide) Try.underlying64 elt65 rfl rfl rfl rl45.any hc48.1 hc48.2 ?_
              clear hf; intro a ha hf
              exact st_nil hf (th_n ⟨ha, rfl⟩)
            clear hf; intro a hf
            refine dr_takeP 13 (optr (eptr v23 t12 64) ((t60).toNat * 1)) rfl (by kernel_rfl) (by kernel_rfl) (by kernel_rfl) rfl rfl hf (by decide) rfl (fun w => ?_) ?_
            · skip
              refine st_iaP (sz := 1) hf (by decide) Try.underlying65 (by kernel_rfl) rfl rfl rfl (Sl.isP rl45.any hc48.1 hc48.2) hc49.1 hc49.2 ?_
              clear hf; intro a ha hf
              exact st_nil hf (th_n ⟨ha, rfl⟩)
            clear hf; intro a hf
            have hp := bk43 _ _ hp
            refine dr_one 14 rfl (by kernel_rfl) ?_
            refine st_stQ (E := (Ek.arr 64 (Ek.int .i32))) (F := (Ek.int .i32)) (o := (t60).toNat * 1) (Sub.arr (F := (Ek.int .i32)) (N := 64) (j := t60) hc49.1 hc49.2) hf (by kernel_rfl) hp (i := 0) rfl rfl rfl rfl rfl hc48.1 hc48.2 ?_
            clear hf; intro a w hf hp0; clear hp; have hp := hp0; clear hp0
            replace hp : Hp _ _ _ (Res.sl (Ek.arr 64 (Ek.int .i32)) 65 v23 (rest10.set (t12).toNat ((gt rest10 t12).set (t60).toNat (IntKind.i32.wrap (q37.2 + (gt (gt rest10 (IntKind.i64.wrap (t12 + (1 : Int)))) q37.1))))) :: Res.obj 40 v1 [.int .i64 c0_Length, .int .u32 c0_One, .int .u32 c0_Two] :: ow) := hp
            refine st_nil hf (th_n ⟨fun hn => absurd hn (by decide), ?_⟩)
            refine dr_end (by kernel_rfl) ?_ _
            exact ⟨hf.sub ⟨rfl, rfl, rfl, rfl, rfl, rfl, rfl, rfl, rfl, trivial⟩, hp⟩
          rintro a w ⟨hf, hp⟩
          refine th_n ?_
          refine wp_seq ?_
          refine wp_reg ?_
          refine st_move hf rfl rfl (by decide) ?_
          clear hf; intro a ha hf; clear ha
          refine st_move hf rfl rfl (by decide) ?_
          clear hf; intro a ha hf; clear ha
          refine st_ilss hf (by decide) rfl rfl rfl ?_
          clear hf; intro a ha hf; clear ha
          refine st_nil hf ?_
          refine th_n ?_
          refine wp_if hf rfl (fun hb => ?_) (fun hb => ?_)
          · replace h := ifT h hb
            refine wp_seq ?_
            obtain ⟨S50, hp51, rd52, up53, bk54⟩ := Hp.lendO hp (i := 1) rfl
            have rl55 := ((hmarks1.now hp).mono up53)
            have rl56 := rd52
            obtain ⟨hc57, h⟩ := chk h
            have hc58 : ((IntKind.i64.wrap ((2 : Int) * t12))).toNat ≤ marks1.length := by omega
            have hc59 : marks1.length ≤ marks1.length := by omega
            obtain ⟨q60, hcall61, h⟩ := bnd h
            refine wp_cutN (fun a w => Fr 179 a [(1, vmarks1), (2, optr v1 0), (8, .int .i64 (IntKind.i64.wrap ((IntKind.i64.wrap (((marks1.length : Int)).tdiv (2 : Int))) - (IntKind.i64.wrap (c0_Length - (1 : Int)))))), (9, .int .u32 (ishl .u32 (1 : Int) (IntKind.i64.wrap (c0_Length - (1 : Int))))), (10, v23), (12, .int .i64 t12), (13, .int .u32 t60), (14, .int .u32 q60.1), (15, .int .i32 q60.2), (59, .int .u32 (ishl .u32 (1 : Int) (IntKind.i64.wrap (c0_Length - (1 : Int))))), (60, .int .u32 t60)] ∧ Hp S w0 w (Res.obj 40 v1 [.int .i64 c0_Length, .int .u32 c0_One, .int .u32 c0_Two] :: Res.sl (Ek.arr 64 (Ek.int .i32)) 65 v23 (rest10.set (t12).toNat ((gt rest10 t12).set (t60).toNat (IntKind.i32.wrap (q37.2 + (gt (gt rest10 (IntKind.i64.wrap (t12 + (1 : Int)))) q37.1))))) :: ow)) ?_ ?_
            · have hp := hp51.same (Same.drew w)
              refine dr_begin' (fun a w => Fr 179 a [(1, vmarks1), (2, optr v1 0), (8, .int .i64 (IntKind.i64.wrap ((IntKind.i64.wrap (((marks1.length : Int)).tdiv (2 : Int))) - (IntKind.i64.wrap (c0_Length - (1 : Int)))))), (9, .int .u32 (ishl .u32 (1 : Int) (IntKind.i64.wrap (c0_Length - (1 : Int))))), (10, v23), (12, .int .i64 t12), (13, .int .u32 t60), (14, .int .u32 q60.1), (15, .int .i32 q60.2), (59, .int .u32 (ishl .u32 (1 : Int) (IntKind.i64.wrap (c0_Length - (1 : Int))))), (60, .int .u32 t60)] ∧ Hp S w0 w (Res.obj 40 v1 [.int .i64 c0_Length, .int .u32 c0_One, .int .u32 c0_Two] :: Res.sl (Ek.arr 64 (Ek.int .i32)) 65 v23 (rest10.set (t12).toNat ((gt rest10 t12).set (t60).toNat (IntKind.i32.wrap (q37.2 + (gt (gt rest10 (IntKind.i64.wrap (t12 + (1 : Int)))) q37.1))))) :: ow)) (fun w' => ∃ l, Hp S50 w w' l) [] (by kernel_rfl) ?_
              refine dr_take 0 (.agg #[.int .i64 c0_Length, .int .u32 c0_One, .int .u32 c0_Two]) rfl (by kernel_rfl) (by kernel_rfl) (by kernel_rfl) (by kernel_rfl) rfl rfl hf (by decide) rfl (fun w hp => ?_) ⟨_, hp⟩ ?_
              · obtain ⟨_, hp⟩ := hp
                refine st_ldOA (m := 3) (us := [.int .i64 c0_Length, .int .u32 c0_One, .int .u32 c0_Two]) hf (by decide) (by kernel_rfl) rfl rfl (rl56.ob hp) rfl rfl ?_
                clear hf; intro a ha hf
                exact st_nil hf (th_n ⟨ha, rfl⟩)
              clear hf; intro a hf
              refine dr_take 1 (.int .u32 t60) rfl (by kernel_rfl) (by kernel_rfl) (by kernel_rfl) (by kernel_rfl) rfl rfl hf (by decide) rfl (fun w hp => ?_) ⟨_, hp⟩ ?_
              · obtain ⟨_, hp⟩ := hp
                refine st_move hf rfl rfl (by decide) ?_
                clear hf; intro a ha hf
                exact st_nil hf (th_n ⟨ha, rfl⟩)
              clear hf; intro a hf
              refine dr_take 2 (vmarks1) rfl (by kernel_rfl) (by kernel_rfl) (by kernel_rfl) (by kernel_rfl) rfl rfl hf (by decide) rfl (fun w hp => ?_) ⟨_, hp⟩ ?_
              · obtain ⟨_, hp⟩ := hp
                refine st_move hf rfl rfl (by decide) ?_
                clear hf; intro a ha hf
                exact st_nil hf (th_n ⟨ha, rfl⟩)
              clear hf; intro a hf
              refine dr_take 3 (.int .i64 t12) rfl (by kernel_rfl) (by kernel_rfl) (by kernel_rfl) (by kernel_rfl) rfl rfl hf (by decide) rfl (fun w hp => ?_) ⟨_, hp⟩ ?_
              · obtain ⟨_, hp⟩ := hp
                refine st_move hf rfl rfl (by decide) ?_
                clear hf; intro a ha hf
                exact st_nil hf (th_n ⟨ha, rfl⟩)
              clear hf; intro a hf
              refine dr_take 4 (.int .i64 (IntKind.i64.wrap ((2 : Int) * t12))) rfl (by kernel_rfl) (by kernel_rfl) (by kernel_rfl) (by kernel_rfl) rfl rfl hf (by decide) rfl (fun w hp => ?_) ⟨_, hp⟩ ?_
              · obtain ⟨_, hp⟩ := hp
                refine st_imul hf (by decide) rfl rfl rfl ?_
                clear hf; intro a ha hf
                exact st_nil hf (th_n ⟨ha, rfl⟩)
              clear hf; intro a hf
              refine dr_take 5 ((GL.cut vmarks1 ((IntKind.i64.wrap ((2 : Int) * t12))).toNat marks1.length 1)) rfl (by kernel_rfl) (by kernel_rfl) (by kernel_rfl) (by kernel_rfl) rfl rfl hf (by decide) rfl (fun w hp => ?_) ⟨_, hp⟩ ?_
              · obtain ⟨_, hp⟩ := hp
                refine st_cutS (E := (Ek.int .u8)) hf (by decide) Try.underlying26 elt51 rfl rfl (rl55.sl hp) (.inr ⟨_, _, rfl, evI rfl hc57.1⟩) (.inl ⟨rfl, rfl⟩) hc58 hc59 ?_
                clear hf; intro a ha hf
                exact st_nil hf (th_n ⟨ha, rfl⟩)
              clear hf; intro a hf
              refine dr_one 6 rfl (by kernel_rfl) ?_
              refine st_call hf (by decide) Try.func32 rfl rfl rfl rfl rfl (f_hard_step_c hp _ _ _ _ _ _ _ (RdS.cut rl55 hc58 hc59) hcall61) ?_
              rintro _ w ⟨rfl, hp0⟩
              clear hp; have hp := hp0; clear hp0
              replace hp : Hp _ _ _ (Res.sl (Ek.arr 64 (Ek.int .i32)) 65 v23 (rest10.set (t12).toNat ((gt rest10 t12).set (t60).toNat (IntKind.i32.wrap (q37.2 + (gt (gt rest10 (IntKind.i64.wrap (t12 + (1 : Int)))) q37.1))))) :: ow) := hp
              refine ⟨_, rfl, ?_⟩
              clear hf; intro a hf
              refine st_nil hf (th_n ⟨fun _ _ => ⟨_, hp⟩, ?_⟩)
              refine dr_take 7 (.tuple #[.int .u32 q60.1, .int .i32 q60.2]) rfl (by kernel_rfl) (by kernel_rfl) (by kernel_rfl) (by kernel_rfl) rfl rfl hf (by decide) rfl (fun w hp => ?_) ⟨_, hp⟩ ?_
              · obtain ⟨_, hp⟩ := hp
                refine st_move hf rfl rfl (by decide) ?_
                clear hf; intro a ha hf
                exact st_nil hf (th_n ⟨ha, rfl⟩)
              clear hf; intro a hf
              refine dr_take 8 (.int .u32 q60.1) rfl (by kernel_rfl) (by kernel_rfl) (by kernel_rfl) (by kernel_rfl) rfl rfl hf (by decide) rfl (fun w hp => ?_) ⟨_, hp⟩ ?_
              · obtain ⟨_, hp⟩ := hp
                refine st_extract hf (by decide) rfl rfl rfl ?_
                clear hf; intro a ha hf
                exact st_nil hf (th_n ⟨ha, rfl⟩)
              clear hf; intro a hf
              refine dr_take 9 (.int .i32 q60.2) rfl (by kernel_rfl) (by kernel_rfl) (by kernel_rfl) (by kernel_rfl) rfl rfl hf (by decide) rfl (fun w hp => ?_) ⟨_, hp⟩ ?_
              · obtain ⟨_, hp⟩ := hp
                refine st_extract hf (by decide) rfl rfl rfl ?_
                clear hf; intro a ha hf
                exact st_nil hf (th_n ⟨ha, rfl⟩)
              clear hf; intro a hf
              refine dr_take 10 (.int .u32 q60.1) rfl (by kernel_rfl) (by kernel_rfl) (by kernel_rfl) (by kernel_rfl) rfl rfl hf (by decide) rfl (fun w hp => ?_) ⟨_, hp⟩ ?_
              · obtain ⟨_, hp⟩ := hp
                refine st_assign hf rfl rfl (by decide) ?_
                clear hf; intro a ha hf
                exact st_nil hf (th_n ⟨ha, rfl⟩)
              clear hf; intro a hf
              refine dr_take 11 (.int .i32 q60.2) rfl (by kernel_rfl) (by kernel_rfl) (by kernel_rfl) (by kernel_rfl) rfl rfl hf (by decide) rfl (fun w hp => ?_) ⟨_, hp⟩ ?_
              · obtain ⟨_, hp⟩ := hp
                refine st_assign hf rfl rfl (by decide) ?_
                clear hf; intro a ha hf
                exact st_nil hf (th_n ⟨ha, rfl⟩)
              clear hf; intro a hf
              refine dr_end (by kernel_rfl) ?_ _
              have hp := bk54 _ _ hp
              exact ⟨hf.sub ⟨rfl, rfl, rfl, rfl, rfl, rfl, rfl, rfl, rfl, rfl, rfl, trivial⟩, hp⟩
            rintro a w ⟨hf, hp⟩
            refine th_n ?_
            obtain ⟨S62, hp63, rd64, up65, bk66⟩ := Hp.lendS hp (i := 1) rfl
            have rl67 := ((hmarks1.now hp).mono up65)
            have rl68 := rd64
            obtain ⟨hc69, h⟩ := chk h
            obtain ⟨hc70, h⟩ := chk h
            obtain ⟨hc71, h⟩ := chk h
            obtain ⟨hc72, h⟩ := chk h
            obtain ⟨hc73, h⟩ := chk h
            obtain ⟨hc74, h⟩ := chk h
            refine wp_cutN (fun a w => Fr 179 a [(1, vmarks1), (2, optr v1 0), (8, .int .i64 (IntKind.i64.wrap ((IntKind.i64.wrap (((marks1.length : Int)).tdiv (2 : Int))) - (IntKind.i64.wrap (c0_Length - (1 : Int)))))), (9, .int .u32 (ishl .u32 (1 : Int) (IntKind.i64.wrap (c0_Length - (1 : Int))))), (10, v23), (12, .int .i64 t12), (59, .int .u32 (ishl .u32 (1 : Int) (IntKind.i64.wrap (c0_Length - (1 : Int))))), (60, .int .u32 t60)] ∧ Hp S w0 w (Res.sl (Ek.arr 64 (Ek.int .i32)) 65 v23 ((rest10.set (t12).toNat ((gt rest10 t12).set (t60).toNat (IntKind.i32.wrap (q37.2 + (gt (gt rest10 (IntKind.i64.wrap (t12 + (1 : Int)))) q37.1))))).set (t12).toNat ((gt (rest10.set (t12).toNat ((gt rest10 t12).set (t60).toNat (IntKind.i32.wrap (q37.2 + (gt (gt rest10 (IntKind.i64.wrap (t12 + (1 : Int)))) q37.1))))) t12).set (t60).toNat (imin (gt (gt (rest10.set (t12).toNat ((gt rest10 t12).set (t60).toNat (IntKind.i32.wrap (q37.2 + (gt (gt rest10 (IntKind.i64.wrap (t12 + (1 : Int)))) q37.1))))) t12) t60) (IntKind.i32.wrap (q60.2 + (gt (gt (rest10.set (t12).toNat ((gt rest10 t12).set (t60).toNat (IntKind.i32.wrap (q37.2 + (gt (gt rest10 (IntKind.i64.wrap (t12 + (1 : Int)))) q37.1))))) (IntKind.i64.wrap (t12 + (1 : Int)))) q60.1)))))) :: Res.obj 40 v1 [.int .i64 c0_Length, .int .u32 c0_One, .int .u32 c0_Two] :: ow)) ?_ ?_
            · have hp := hp63.same (Same.drew w)
              refine dr_begin' (fun a w => Fr 179 a [(1, vmarks1), (2, optr v1 0), (8, .int .i64 (IntKind.i64.wrap ((IntKind.i64.wrap (((marks1.length : Int)).tdiv (2 : Int))) - (IntKind.i64.wrap (c0_Length - (1 : Int)))))), (9, .int .u32 (ishl .u32 (1 : Int) (IntKind.i64.wrap (c0_Length - (1 : Int))))), (10, v23), (12, .int .i64 t12), (59, .int .u32 (ishl .u32 (1 : Int) (IntKind.i64.wrap (c0_Length - (1 : Int))))), (60, .int .u32 t60)] ∧ Hp S w0 w (Res.sl (Ek.arr 64 (Ek.int .i32)) 65 v23 ((rest10.set (t12).toNat ((gt rest10 t12).set (t60).toNat (IntKind.i32.wrap (q37.2 + (gt (gt rest10 (IntKind.i64.wrap (t12 + (1 : Int)))) q37.1))))).set (t12).toNat ((gt (rest10.set (t12).toNat ((gt rest10 t12).set (t60).toNat (IntKind.i32.wrap (q37.2 + (gt (gt rest10 (IntKind.i64.wrap (t12 + (1 : Int)))) q37.1))))) t12).set (t60).toNat (imin (gt (gt (rest10.set (t12).toNat ((gt rest10 t12).set (t60).toNat (IntKind.i32.wrap (q37.2 + (gt (gt rest10 (IntKind.i64.wrap (t12 + (1 : Int)))) q37.1))))) t12) t60) (IntKind.i32.wrap (q60.2 + (gt (gt (rest10.set (t12).toNat ((gt rest10 t12).set (t60).toNat (IntKind.i32.wrap (q37.2 + (gt (gt rest10 (IntKind.i64.wrap (t12 + (1 : Int)))) q37.1))))) (IntKind.i64.wrap (t12 + (1 : Int)))) q60.1)))))) :: Res.obj 40 v1 [.int .i64 c0_Length, .int .u32 c0_One, .int .u32 c0_Two] :: ow)) (fun w' => ∃ l, Hp S62 w w' l) [21] (by kernel_rfl) ?_
              refine dr_takeP 0 (v23) rfl (by kernel_rfl) (by kernel_rfl) (by kernel_rfl) rfl rfl hf (by decide) rfl (fun w => ?_) ?_
              · skip
                refine st_move hf rfl rfl (by decide) ?_
                clear hf; intro a ha hf
                exact st_nil hf (th_n ⟨ha, rfl⟩)
              clear hf; intro a hf
              refine dr_takeP 1 (.int .i64 t12) rfl (by kernel_rfl) (by kernel_rfl) (by kernel_rfl) rfl rfl hf (by decide) rfl (fun w => ?_) ?_
              · skip
                refine st_move hf rfl rfl (by decide) ?_
                clear hf; intro a ha hf
                exact st_nil hf (th_n ⟨ha, rfl⟩)
              clear hf; intro a hf
              refine dr_takeP 2 (.int .u32 t60) rfl (by kernel_rfl) (by kernel_rfl) (by kernel_rfl) rfl rfl hf (by decide) rfl (fun w => ?_) ?_
              · skip
                refine st_move hf rfl rfl (by decide) ?_
                clear hf; intro a ha hf
                exact st_nil hf (th_n ⟨ha, rfl⟩)
              clear hf; intro a hf
              refine dr_takeP 3 (v23) rfl (by kernel_rfl) (by kernel_rfl) (by kernel_rfl) rfl rfl hf (by decide) rfl (fun w => ?_) ?_
              · skip
                refine st_move hf rfl rfl (by decide) ?_
                clear hf; intro a ha hf
                exact st_nil hf (th_n ⟨ha, rfl⟩)
              clear hf; intro a hf
              refine dr_takeP 4 (.int .i64 t12) rfl (by kernel_rfl) (by kernel_rfl) (by kernel_rfl) rfl rfl hf (by decide) rfl (fun w => ?_) ?_
              · skip
                refine st_move hf rfl rfl (by decide) ?_
                clear hf; intro a ha hf
                exact st_nil hf (th_n ⟨ha, rfl⟩)
              clear hf; intro a hf
              refine dr_takeP 5 (.int .u32 t60) rfl (by kernel_rfl) (by kernel_rfl) (by kernel_rfl) rfl rfl hf (by decide) rfl (fun w => ?_) ?_
              · skip
                refine st_move hf rfl rfl (by decide) ?_
                clear hf; intro a ha hf
                exact st_nil hf (th_n ⟨ha, rfl⟩)
              clear hf; intro a hf
              refine dr_takeP 6 (eptr v23 t12 64) rfl (by kernel_rfl) (by kernel_rfl) (by kernel_rfl) rfl rfl hf (by decide) rfl (fun w => ?_) ?_
              · skip
                refine st_index (E := (Ek.arr 64 (Ek.int .i32))) hf (by decide) Try.underlying64 elt65 rfl rfl rfl rl68.any hc69.1 hc69.2 ?_
                clear hf; intro a ha hf
                exact st_nil hf (th_n ⟨ha, rfl⟩)
              clear hf; intro a hf
              refine dr_takeP 7 (optr (eptr v23 t12 64) ((t60).toNat * 1)) rfl (by kernel_rfl) (by kernel_rfl) (by kernel_rfl) rfl rfl hf (by decide) rfl (fun w => ?_) ?_
              · skip
                refine st_iaP (sz := 1) hf (by decide) Try.underlying65 (by kernel_rfl) rfl rfl rfl (Sl.isP rl68.any hc69.1 hc69.2) hc70.1 hc70.2 ?_
                clear hf; intro a ha hf
                exact st_nil hf (th_n ⟨ha, rfl⟩)
              clear hf; intro a hf
              refine dr_take2 8 (.int .i32 (gt (gt (rest10.set (t12).toNat ((gt rest10 t12).set (t60).toNat (IntKind.i32.wrap (q37.2 + (gt (gt rest10 (IntKind.i64.wrap (t12 + (1 : Int)))) q37.1))))) t12) t60)) rfl (by kernel_rfl) (by kernel_rfl) (by kernel_rfl) (by kernel_rfl) (by kernel_rfl) rfl rfl hf (by decide) rfl (fun w hp => ?_) ⟨_, hp⟩ ?_
              · obtain ⟨_, hp⟩ := hp
                refine st_ldQ (F := (Ek.int .i32)) (yv := (gt (gt (rest10.set (t12).toNat ((gt rest10 t12).set (t60).toNat (IntKind.i32.wrap (q37.2 + (gt (gt rest10 (IntKind.i64.wrap (t12 + (1 : Int)))) q37.1))))) t12) t60)) hf (by decide) pl21 (fun x => .int .i32 x) (fun _ _ h => h) rfl rfl (Sl.part (E := (Ek.arr 64 (Ek.int .i32))) (F := (Ek.int .i32)) (o := (t60).toNat * 1) (Sub.arr (F := (Ek.int .i32)) (N := 64) (j := t60) hc70.1 hc70.2) (rl68.sl hp) hc69.1 hc69.2) ?_
                clear hf; intro a ha hf
                exact st_nil hf (th_n ⟨ha, rfl⟩)
              clear hf; intro a hf
              refine dr_takeP 9 (.int .i32 q60.2) rfl (by kernel_rfl) (by kernel_rfl) (by kernel_rfl) rfl rfl hf (by decide) rfl (fun w => ?_) ?_
              · skip
                refine st_move hf rfl rfl (by decide) ?_
                clear hf; intro a ha hf
                exact st_nil hf (th_n ⟨ha, rfl⟩)
              clear hf; intro a hf
              refine dr_takeP 10 (v23) rfl (by kernel_rfl) (by kernel_rfl) (by kernel_rfl) rfl rfl hf (by decide) rfl (fun w => ?_) ?_
              · skip
                refine st_move hf rfl rfl (by decide) ?_
                clear hf; intro a ha hf
                exact st_nil hf (th_n ⟨ha, rfl⟩)
              clear hf; intro a hf
              refine dr_takeP 11 (.int .i64 t12) rfl (by kernel_rfl) (by kernel_rfl) (by kernel_rfl) rfl rfl hf (by decide) rfl (fun w => ?_) ?_
              · skip
                refine st_move hf rfl rfl (by decide) ?_
                clear hf; intro a ha hf
                exact st_nil hf (th_n ⟨ha, rfl⟩)
              clear hf; intro a hf
              refine dr_takeP 12 (.int .i64 (IntKind.i64.wrap (t12 + (1 : Int)))) rfl (by kernel_rfl) (by kernel_rfl) (by kernel_rfl) rfl rfl hf (by decide) rfl (fun w => ?_) ?_
              · skip
                refine st_iadd hf (by decide) rfl rfl rfl ?_
                clear hf; intro a ha hf
                exact st_nil hf (th_n ⟨ha, rfl⟩)
              clear hf; intro a hf
              refine dr_takeP 13 (.int .u32 q60.1) rfl (by kernel_rfl) (by kernel_rfl) (by kernel_rfl) rfl rfl hf (by decide) rfl (fun w => ?_) ?_
              · skip
                refine st_move hf rfl rfl (by decide) ?_
                clear hf; intro a ha hf
                exact st_nil hf (th_n ⟨ha, rfl⟩)
              clear hf; intro a hf
              refine dr_takeP 14 (eptr v23 (IntKind.i64.wrap (t12 + (1 : Int))) 64) rfl (by kernel_rfl) (by kernel_rfl) (by kernel_rfl) rfl rfl hf (by decide) rfl (fun w => ?_) ?_
              · skip
                refine st_index (E := (Ek.arr 64 (Ek.int .i32))) hf (by decide) Try.underlying64 elt65 rfl rfl rfl rl68.any hc71.1 hc71.2 ?_
                clear hf; intro a ha hf
                exact st_nil hf (th_n ⟨ha, rfl⟩)
              clear hf; intro a hf
              refine dr_takeP 15 (optr (eptr v23 (IntKind.i64.wrap (t12 + (1 : Int))) 64) ((q60.1).toNat * 1)) rfl (by kernel_rfl) (by kernel_rfl) (by kernel_rfl) rfl rfl hf (by decide) rfl (fun w => ?_) ?_
              · skip
                refine st_iaP (sz := 1) hf (by decide) Try.underlying65 (by kernel_rfl) rfl rfl rfl (Sl.isP rl68.any hc71.1 hc71.2) hc72.1 hc72.2 ?_
                clear hf; intro a ha hf
                exact st_nil hf (th_n ⟨ha, rfl⟩)
              clear hf; intro a hf
              refine dr_take2 16 (.int .i32 (gt (gt (rest10.set (t12).toNat ((gt rest10 t12).set (t60).toNat (IntKind.i32.wrap (q37.2 + (gt (gt rest10 (IntKind.i64.wrap (t12 + (1 : Int)))) q37.1))))) (IntKind.i64.wrap (t12 + (1 : Int)))) q60.1)) rfl (by kernel_rfl) (by kernel_rfl) (by kernel_rfl) (by kernel_rfl) (by kernel_rfl) rfl rfl hf (by decide) rfl (fun w hp => ?_) ⟨_, hp⟩ ?_
              · obtain ⟨_, hp⟩ := hp
                refine st_ldQ (F := (Ek.int .i32)) (yv := (gt (gt (rest10.set (t12).toNat ((gt rest10 t12).set (t60).toNat (IntKind.i32.wrap (q37.2 + (gt (gt rest10 (IntKind.i64.wrap (t12 + (1 : Int)))) q37.1))))) (IntKind.i64.wrap (t12 + (1 : Int)))) q60.1)) hf (by decide) pl21 (fun x => .int .i32 x) (fun _ _ h => h) rfl rfl (Sl.part (E := (Ek.arr 64 (Ek.int .i32))) (F := (Ek.int .i32)) (o := (q60.1).toNat * 1) (Sub.arr (F := (Ek.int .i32)) (N := 64) (j := q60.1) hc72.1 hc72.2) (rl68.sl hp) hc71.1 hc71.2) ?_
                clear hf; intro a ha hf
                exact st_nil hf (th_n ⟨ha, rfl⟩)
              clear hf; intro a hf
              refine dr_takeP 17 (.int .i32 (IntKind.i32.wrap (q60.2 + (gt (gt (rest10.set (t12).toNat ((gt rest10 t12).set (t60).toNat (IntKind.i32.wrap (q37.2 + (gt (gt rest10 (IntKind.i64.wrap (t12 + (1 : Int)))) q37.1))))) (IntKind.i64.wrap (t12 + (1 : Int)))) q60.1)))) rfl (by kernel_rfl) (by kernel_rfl) (by kernel_rfl) rfl rfl hf (by decide) rfl (fun w => ?_) ?_
              · skip
                refine st_iadd hf (by decide) rfl rfl rfl ?_
                clear hf; intro a ha hf
                exact st_nil hf (th_n ⟨ha, rfl⟩)
              clear hf; intro a hf
              refine dr_takeP 18 (.int .i32 (imin (gt (gt (rest10.set (t12).toNat ((gt rest10 t12).set (t60).toNat (IntKind.i32.wrap (q37.2 + (gt (gt rest10 (IntKind.i64.wrap (t12 + (1 : Int)))) q37.1))))) t12) t60) (IntKind.i32.wrap (q60.2 + (gt (gt (rest10.set (t12).toNat ((gt rest10 t12).set (t60).toNat (IntKind.i32.wrap (q37.2 + (gt (gt rest10 (IntKind.i64.wrap (t12 + (1 : Int)))) q37.1))))) (IntKind.i64.wrap (t12 + (1 : Int)))) q60.1))))) rfl (by kernel_rfl) (by kernel_rfl) (by kernel_rfl) rfl rfl hf (by decide) rfl (fun w => ?_) ?_
              · skip
                refine st_imin hf (by decide) rfl rfl rfl ?_
                clear hf; intro a ha hf
                exact st_nil hf (th_n ⟨ha, rfl⟩)
              clear hf; intro a hf
              refine dr_takeP 19 (eptr v23 t12 64) rfl (by kernel_rfl) (by kernel_rfl) (by kernel_rfl) rfl rfl hf (by decide) rfl (fun w => ?_) ?_
              · skip
                refine st_index (E := (Ek.arr 64 (Ek.int .i32))) hf (by decide) Try.underlying64 elt65 rfl rfl rfl rl68.any hc73.1 hc73.2 ?_
                clear hf; intro a ha hf
                exact st_nil hf (th_n ⟨ha, rfl⟩)
              clear hf; intro a hf
              refine dr_takeP 20 (optr (eptr v23 t12 64) ((t60).toNat * 1)) rfl (by kernel_rfl) (by kernel_rfl) (by kernel_rfl) rfl rfl hf (by decide) rfl (fun w => ?_) ?_
              · skip
                refine st_iaP (sz := 1) hf (by decide) Try.underlying65 (by kernel_rfl) rfl rfl rfl (Sl.isP rl68.any hc73.1 hc73.2) hc74.1 hc74.2 ?_
                clear hf; intro a ha hf
                exact st_nil hf (th_n ⟨ha, rfl⟩)
              clear hf; intro a hf
              have hp := bk66 _ _ hp
              refine dr_one 21 rfl (by kernel_rfl) ?_
              refine st_stQ (E := (Ek.arr 64 (Ek.int .i32))) (F := (Ek.int .i32)) (o := (t60).toNat * 1) (Sub.arr (F := (Ek.int .i32)) (N := 64) (j := t60) hc74.1 hc74.2) hf (by kernel_rfl) hp (i := 0) rfl rfl rfl rfl rfl hc73.1 hc73.2 ?_
              clear hf; intro a w hf hp0; clear hp; have hp := hp0; clear hp0
              replace hp : Hp _ _ _ (Res.sl (Ek.arr 64 (Ek.int .i32)) 65 v23 ((rest10.set (t12).toNat ((gt rest10 t12).set (t60).toNat (IntKind.i32.wrap (q37.2 + (gt (gt rest10 (IntKind.i64.wrap (t12 + (1 : Int)))) q37.1))))).set (t12).toNat ((gt (rest10.set (t12).toNat ((gt rest10 t12).set (t60).toNat (IntKind.i32.wrap (q37.2 + (gt (gt rest10 (IntKind.i64.wrap (t12 + (1 : Int)))) q37.1))))) t12).set (t60).toNat (imin (gt (gt (rest10.set (t12).toNat ((gt rest10 t12).set (t60).toNat (IntKind.i32.wrap (q37.2 + (gt (gt rest10 (IntKind.i64.wrap (t12 + (1 : Int)))) q37.1))))) t12) t60) (IntKind.i32.wrap (q60.2 + (gt (gt (rest10.set (t12).toNat ((gt rest10 t12).set (t60).toNat (IntKind.i32.wrap (q37.2 + (gt (gt rest10 (IntKind.i64.wrap (t12 + (1 : Int)))) q37.1))))) (IntKind.i64.wrap (t12 + (1 : Int)))) q60.1)))))) :: Res.obj 40 v1 [.int .i64 c0_Length, .int .u32 c0_One, .int .u32 c0_Two] :: ow) := hp
              refine st_nil hf (th_n ⟨fun hn => absurd hn (by decide), ?_⟩)
              refine dr_end (by kernel_rfl) ?_ _
              exact ⟨hf.sub ⟨rfl, rfl, rfl, rfl, rfl, rfl, rfl, rfl, trivial⟩, hp⟩
            rintro a w ⟨hf, hp⟩
            refine ib_n ?_
            refine th_n ?_
            refine wp_reg ?_
            refine st_iadd hf (by decide) rfl rfl rfl ?_
            clear hf; intro a ha hf; clear ha
            refine st_move hf rfl rfl (by decide) ?_
            clear hf; intro a ha hf; clear ha
            refine st_nil hf ?_
            obtain rfl := Option.some.inj h
            exact rnd_l ⟨_, hf.sub ⟨rfl, rfl, rfl, rfl, rfl, rfl, rfl, rfl, trivial⟩, hp⟩
          replace h := ifF h hb
          refine wp_skip ?_
          refine ib_n ?_
          refine th_n ?_
          refine wp_reg ?_
          refine st_iadd hf (by decide) rfl rfl rfl ?_
          clear hf; intro a ha hf; clear ha
          refine st_move hf rfl rfl (by decide) ?_
          clear hf; intro a ha hf; clear ha
          refine st_nil hf ?_
          obtain rfl := Option.some.inj h
          exact rnd_l ⟨_, hf.sub ⟨rfl, rfl, rfl, rfl, rfl, rfl, rfl, rfl, trivial⟩, hp⟩
        replace h := ifF h hb
        refine wp_exit ?_
        refine th_e ?_
        obtain rfl := Option.some.inj h
        exact rnd_r (by simp) ⟨rfl, _, hf.sub ⟨rfl, rfl, rfl, rfl, rfl, rfl, trivial⟩, hp⟩
      clear hl hf hp
      intro e a w hne hO
      obtain ⟨rfl, v25, hf, hp⟩ := hO
      refine ib_same ?_
      refine ib_n ?_
      refine th_n ?_
      refine wp_reg ?_
      refine st_move hf rfl rfl (by decide) ?_
      clear hf; intro a ha hf; clear ha
      refine st_isub hf (by decide) rfl rfl rfl ?_
      clear hf; intro a ha hf; clear ha
      refine st_assign hf rfl rfl (by decide) ?_
      clear hf; intro a ha hf; clear ha
      refine st_nil hf ?_
      obtain rfl := Option.some.inj h
      exact rnd_l ⟨_, hf.sub ⟨rfl, rfl, rfl, rfl, rfl, rfl, trivial⟩, hp⟩
    replace h := ifF h hb
    refine wp_exit ?_
    refine th_e ?_
    obtain rfl := Option.some.inj h
    exact rnd_r (by simp) ⟨rfl, _, hf.sub ⟨rfl, rfl, rfl, rfl, trivial⟩, hp⟩
  clear hl hf hp
  intro e a w hne hO
  obtain ⟨rfl, v21, hf, hp⟩ := hO
  refine ib_same ?_
  refine th_n ?_
  refine wp_seq ?_
  refine wp_reg ?_
  refine st_assign hf rfl rfl (by decide) ?_
  clear hf; intro a ha hf; clear ha
  refine st_nil hf ?_
  refine th_n ?_
  refine wp_seq ?_
  refine wp_reg ?_
  refine st_move hf rfl rfl (by decide) ?_
  clear hf; intro a ha hf; clear ha
  obtain ⟨hc77, h⟩ := chk h
  refine st_make (E := Ek.bool) hf (by decide) elt4 Try.underlying22 (by decide) hp rfl rfl rfl hc77.1 hc77.2.1 hc77.2.2 ?_
  clear hf; intro a w v78 hf hp0; clear hp; have hp := hp0; clear hp0
  replace hp : Hp _ _ _ (Res.sl Ek.bool 4 v78 (List.replicate ((IntKind.i64.wrap ((IntKind.i64.wrap (((marks1.length : Int)).tdiv (2 : Int))) - (IntKind.i64.wrap (c0_Length - (1 : Int)))))).toNat false) :: Res.sl (Ek.arr 64 (Ek.int .i32)) 65 v21 q76 :: Res.obj 40 v1 [.int .i64 c0_Length, .int .u32 c0_One, .int .u32 c0_Two] :: ow) := hp
  refine st_assign hf rfl rfl (by decide) ?_
  clear hf; intro a ha hf; clear ha
  refine st_nil hf ?_
  refine th_n ?_
  refine wp_seq ?_
  refine wp_seq ?_
  refine wp_reg ?_
  refine st_move hf rfl rfl (by decide) ?_
  clear hf; intro a ha hf; clear ha
  refine st_move hf rfl rfl (by decide) ?_
  clear hf; intro a ha hf; clear ha
  refine st_nil hf ?_
  refine th_n ?_
  refine wp_block ?_
  obtain ⟨q127, hl, h⟩ := bnd h
  have hp : Hp _ _ _ (Res.sl Ek.bool 4 v78 (List.replicate ((IntKind.i64.wrap ((IntKind.i64.wrap (((marks1.length : Int)).tdiv (2 : Int))) - (IntKind.i64.wrap (c0_Length - (1 : Int)))))).toNat false) :: Res.obj 40 v1 [.int .i64 c0_Length, .int .u32 c0_One, .int .u32 c0_Two] :: Res.sl (Ek.arr 64 (Ek.int .i32)) 65 v21 q76 :: ow) := Hp.sel (pre := [Res.sl Ek.bool 4 v78 (List.replicate ((IntKind.i64.wrap ((IntKind.i64.wrap (((marks1.length : Int)).tdiv (2 : Int))) - (IntKind.i64.wrap (c0_Length - (1 : Int)))))).toNat false), Res.sl (Ek.arr 64 (Ek.int .i32)) 65 v21 q76, Res.obj 40 v1 [.int .i64 c0_Length, .int .u32 c0_One, .int .u32 c0_Two]]) (tail := ow) (rs' := [Res.sl Ek.bool 4 v78 (List.replicate ((IntKind.i64.wrap ((IntKind.i64.wrap (((marks1.length : Int)).tdiv (2 : Int))) - (IntKind.i64.wrap (c0_Length - (1 : Int)))))).toNat false), Res.obj 40 v1 [.int .i64 c0_Length, .int .u32 c0_One, .int .u32 c0_Two], Res.sl (Ek.arr 64 (Ek.int .i32)) 65 v21 q76]) hp [0, 2, 1] (by decide) (by simp) rfl
  refine wp_loop_pure (f := (f_hard_Path.s4 c0_Length c0_One c0_Two marks1 q76)) (s := ((List.replicate ((IntKind.i64.wrap ((IntKind.i64.wrap (((marks1.length : Int)).tdiv (2 : Int))) - (IntKind.i64.wrap (c0_Length - (1 : Int)))))).toNat false), (0 : Int), (0 : Int))) (fun s a w => ∃ (v80 : Value), Fr 179 a [(1, vmarks1), (2, optr v1 0), (4, v80), (10, v21), (16, .int .u32 s.2.1), (124, .int .i64 (IntKind.i64.wrap ((IntKind.i64.wrap (((marks1.length : Int)).tdiv (2 : Int))) - (IntKind.i64.wrap (c0_Length - (1 : Int)))))), (125, .int .i64 s.2.2)] ∧ Hp S w0 w (Res.sl Ek.bool 4 v80 s.1 :: Res.obj 40 v1 [.int .i64 c0_Length, .int .u32 c0_One, .int .u32 c0_Two] :: Res.sl (Ek.arr 64 (Ek.int .i32)) 65 v21 q76 :: ow)) (fun q e a w => e = .exit 6 ∧ ∃ (v82 : Value), Fr 179 a [(4, v82), (10, v21)] ∧ Hp S w0 w (Res.sl Ek.bool 4 v82 q :: Res.sl (Ek.arr 64 (Ek.int .i32)) 65 v21 q76 :: ow)) ?_ hl ⟨_, hf.sub ⟨rfl, rfl, rfl, rfl, rfl, rfl, rfl, trivial⟩, hp⟩ ?_
  · clear hl hf hp
    intro s x a w h hI
    obtain ⟨message4, at16, t125⟩ := s
    obtain ⟨v80, hf, hp⟩ : ∃ (v80 : Value), Fr 179 a [(1, vmarks1), (2, optr v1 0), (4, v80), (10, v21), (16, .int .u32 at16), (124, .int .i64 (IntKind.i64.wrap ((IntKind.i64.wrap (((marks1.length : Int)).tdiv (2 : Int))) - (IntKind.i64.wrap (c0_Length - (1 : Int)))))), (125, .int .i64 t125)] ∧ Hp S w0 w (Res.sl Ek.bool 4 v80 message4 :: Res.obj 40 v1 [.int .i64 c0_Length, .int .u32 c0_One, .int .u32 c0_Two] :: Res.sl (Ek.arr 64 (Ek.int .i32)) 65 v21 q76 :: ow) := hI
    replace h : f_hard_Path.s4c c0_Length c0_One c0_Two marks1 q76 message4 at16 t125 = some x := h
    unfold f_hard_Path.s4c at h
    refine wp_seq ?_
    refine wp_reg ?_
    refine st_ilss hf (by decide) rfl rfl rfl ?_
    clear hf; intro a ha hf; clear ha
    refine st_nil hf ?_
    refine th_n ?_
    refine wp_seq ?_
    refine wp_if hf rfl (fun hb => ?_) (fun hb => ?_)
    · replace h := ifT h hb
      refine wp_skip ?_
      refine th_n ?_
      refine wp_seq ?_
      refine wp_block ?_
      refine wp_seq ?_
      refine wp_reg ?_
      refine st_move hf rfl rfl (by decide) ?_
      clear hf; intro a ha hf; clear ha
      refine st_assign hf rfl rfl (by decide) ?_
      clear hf; intro a ha hf; clear ha
      refine st_nil hf ?_
      refine th_n ?_
      refine wp_seq ?_
      obtain ⟨S84, hp85, rd86, up87, bk88⟩ := Hp.lendO hp (i := 1) rfl
      have rl89 := ((hmarks1.now hp).mono up87)
      have rl90 := rd86
      obtain ⟨hc91, h⟩ := chk h
      have hc92 : ((IntKind.i64.wrap ((2 : Int) * t125))).toNat ≤ marks1.length := by omega
      have hc93 : marks1.length ≤ marks1.length := by omega
      obtain ⟨q94, hcall95, h⟩ := bnd h
      refine wp_cutN (fun a w => Fr 179 a [(1, vmarks1), (2, optr v1 0), (4, v80), (10, v21), (16, .int .u32 at16), (17, .int .i64 t125), (18, .int .u32 q94.1), (19, .int .i32 q94.2), (124, .int .i64 (IntKind.i64.wrap ((IntKind.i64.wrap (((marks1.length : Int)).tdiv (2 : Int))) - (IntKind.i64.wrap (c0_Length - (1 : Int)))))), (125, .int .i64 t125)] ∧ Hp S w0 w (Res.obj 40 v1 [.int .i64 c0_Length, .int .u32 c0_One, .int .u32 c0_Two] :: Res.sl Ek.bool 4 v80 message4 :: Res.sl (Ek.arr 64 (Ek.int .i32)) 65 v21 q76 :: ow)) ?_ ?_
      · have hp := hp85.same (Same.drew w)
        refine dr_begin' (fun a w => Fr 179 a [(1, vmarks1), (2, optr v1 0), (4, v80), (10, v21), (16, .int .u32 at16), (17, .int .i64 t125), (18, .int .u32 q94.1), (19, .int .i32 q94.2), (124, .int .i64 (IntKind.i64.wrap ((IntKind.i64.wrap (((marks1.length : Int)).tdiv (2 : Int))) - (IntKind.i64.wrap (c0_Length - (1 : Int)))))), (125, .int .i64 t125)] ∧ Hp S w0 w (Res.obj 40 v1 [.int .i64 c0_Length, .int .u32 c0_One, .int .u32 c0_Two] :: Res.sl Ek.bool 4 v80 message4 :: Res.sl (Ek.arr 64 (Ek.int .i32)) 65 v21 q76 :: ow)) (fun w' => ∃ l, Hp S84 w w' l) [] (by kernel_rfl) ?_
        refine dr_take 0 (.agg #[.int .i64 c0_Length, .int .u32 c0_One, .int .u32 c0_Two]) rfl (by kernel_rfl) (by kernel_rfl) (by kernel_rfl) (by kernel_rfl) rfl rfl hf (by decide) rfl (fun w hp => ?_) ⟨_, hp⟩ ?_
        · obtain ⟨_, hp⟩ := hp
          refine st_ldOA (m := 3) (us := [.int .i64 c0_Length, .int .u32 c0_One, .int .u32 c0_Two]) hf (by decide) (by kernel_rfl) rfl rfl (rl90.ob hp) rfl rfl ?_
          clear hf; intro a ha hf
          exact st_nil hf (th_n ⟨ha, rfl⟩)
        clear hf; intro a hf
        refine dr_take 1 (.int .u32 at16) rfl (by kernel_rfl) (by kernel_rfl) (by kernel_rfl) (by kernel_rfl) rfl rfl hf (by decide) rfl (fun w hp => ?_) ⟨_, hp⟩ ?_
        · obtain ⟨_, hp⟩ := hp
          refine st_move hf rfl rfl (by decide) ?_
          clear hf; intro a ha hf
          exact st_nil hf (th_n ⟨ha, rfl⟩)
        clear hf; intro a hf
        refine dr_take 2 (vmarks1) rfl (by kernel_rfl) (by kernel_rfl) (by kernel_rfl) (by kernel_rfl) rfl rfl hf (by decide) rfl (fun w hp => ?_) ⟨_, hp⟩ ?_
        · obtain ⟨_, hp⟩ := hp
          refine st_move hf rfl rfl (by decide) ?_
          clear hf; intro a ha hf
          exact st_nil hf (th_n ⟨ha, rfl⟩)
        clear hf; intro a hf
        refine dr_take 3 (.int .i64 t125) rfl (by kernel_rfl) (by kernel_rfl) (by kernel_rfl) (by kernel_rfl) rfl rfl hf (by decide) rfl (fun w hp => ?_) ⟨_, hp⟩ ?_
        · obtain ⟨_, hp⟩ := hp
          refine st_move hf rfl rfl (by decide) ?_
          clear hf; intro a ha hf
          exact st_nil hf (th_n ⟨ha, rfl⟩)
        clear hf; intro a hf
        refine dr_take 4 (.int .i64 (IntKind.i64.wrap ((2 : Int) * t125))) rfl (by kernel_rfl) (by kernel_rfl) (by kernel_rfl) (by kernel_rfl) rfl rfl hf (by decide) rfl (fun w hp => ?_) ⟨_, hp⟩ ?_
        · obtain ⟨_, hp⟩ := hp
          refine st_imul hf (by decide) rfl rfl rfl ?_
          clear hf; intro a ha hf
          exact st_nil hf (th_n ⟨ha, rfl⟩)
        clear hf; intro a hf
        refine dr_take 5 ((GL.cut vmarks1 ((IntKind.i64.wrap ((2 : Int) * t125))).toNat marks1.length 1)) rfl (by kernel_rfl) (by kernel_rfl) (by kernel_rfl) (by kernel_rfl) rfl rfl hf (by decide) rfl (fun w hp => ?_) ⟨_, hp⟩ ?_
        · obtain ⟨_, hp⟩ := hp
          refine st_cutS (E := (Ek.int .u8)) hf (by decide) Try.underlying26 elt51 rfl rfl (rl89.sl hp) (.inr ⟨_, _, rfl, evI rfl hc91.1⟩) (.inl ⟨rfl, rfl⟩) hc92 hc93 ?_
          clear hf; intro a ha hf
          exact st_nil hf (th_n ⟨ha, rfl⟩)
        clear hf; intro a hf
        refine dr_one 6 rfl (by kernel_rfl) ?_
        refine st_call hf (by decide) Try.func32 rfl rfl rfl rfl rfl (f_hard_step_c hp _ _ _ _ _ _ _ (RdS.cut rl89 hc92 hc93) hcall95) ?_
        rintro _ w ⟨rfl, hp0⟩
        clear hp; have hp := hp0; clear hp0
        replace hp : Hp _ _ _ (Res.sl Ek.bool 4 v80 message4 :: Res.sl (Ek.arr 64 (Ek.int .i32)) 65 v21 q76 :: ow) := hp
        refine ⟨_, rfl, ?_⟩
        clear hf; intro a hf
        refine st_nil hf (th_n ⟨fun _ _ => ⟨_, hp⟩, ?_⟩)
        refine dr_take 7 (.tuple #[.int .u32 q94.1, .int .i32 q94.2]) rfl (by kernel_rfl) (by kernel_rfl) (by kernel_rfl) (by kernel_rfl) rfl rfl hf (by decide) rfl (fun w hp => ?_) ⟨_, hp⟩ ?_
        · obtain ⟨_, hp⟩ := hp
          refine st_move hf rfl rfl (by decide) ?_
          clear hf; intro a ha hf
          exact st_nil hf (th_n ⟨ha, rfl⟩)
        clear hf; intro a hf
        refine dr_take 8 (.int .u32 q94.1) rfl (by kernel_rfl) (by kernel_rfl) (by kernel_rfl) (by kernel_rfl) rfl rfl hf (by decide) rfl (fun w hp => ?_) ⟨_, hp⟩ ?_
        · obtain ⟨_, hp⟩ := hp
          refine st_extract hf (by decide) rfl rfl rfl ?_
          clear hf; intro a ha hf
          exact st_nil hf (th_n ⟨ha, rfl⟩)
        clear hf; intro a hf
        refine dr_take 9 (.int .i32 q94.2) rfl (by kernel_rfl) (by kernel_rfl) (by kernel_rfl) (by kernel_rfl) rfl rfl hf (by decide) rfl (fun w hp => ?_) ⟨_, hp⟩ ?_
        · obtain ⟨_, hp⟩ := hp
          refine st_extract hf (by decide) rfl rfl rfl ?_
          clear hf; intro a ha hf
          exact st_nil hf (th_n ⟨ha, rfl⟩)
        clear hf; intro a hf
        refine dr_take 10 (.int .u32 q94.1) rfl (by kernel_rfl) (by kernel_rfl) (by kernel_rfl) (by kernel_rfl) rfl rfl hf (by decide) rfl (fun w hp => ?_) ⟨_, hp⟩ ?_
        · obtain ⟨_, hp⟩ := hp
          refine st_assign hf rfl rfl (by decide) ?_
          clear hf; intro a ha hf
          exact st_nil hf (th_n ⟨ha, rfl⟩)
        clear hf; intro a hf
        refine dr_take 11 (.int .i32 q94.2) rfl (by kernel_rfl) (by kernel_rfl) (by kernel_rfl) (by kernel_rfl) rfl rfl hf (by decide) rfl (fun w hp => ?_) ⟨_, hp⟩ ?_
        · obtain ⟨_, hp⟩ := hp
          refine st_assign hf rfl rfl (by decide) ?_
          clear hf; intro a ha hf
          exact st_nil hf (th_n ⟨ha, rfl⟩)
        clear hf; intro a hf
        refine dr_end (by kernel_rfl) ?_ _
        have hp := bk88 _ _ hp
        exact ⟨hf.sub ⟨rfl, rfl, rfl, rfl, rfl, rfl, rfl, rfl, rfl, rfl, trivial⟩, hp⟩
      rintro a w ⟨hf, hp⟩
      refine th_n ?_
      refine wp_seq ?_
      refine wp_seq ?_
      obtain ⟨S96, hp97, rd98, up99, bk100⟩ := Hp.lendS hp (i := 2) rfl
      obtain ⟨S101, hp102, rd103, up104, bk105⟩ := Hp.lendS hp97 (i := 1) rfl
      have rl106 := ((((hmarks1.now hp).mono up99).now hp97).mono up104)
      have rl107 := rd103
      have rl108 := ((rd98.now hp97).mono up104)
      obtain ⟨hc109, h⟩ := chk h
      obtain ⟨hc110, h⟩ := chk h
      obtain ⟨hc111, h⟩ := chk h
      obtain ⟨hc112, h⟩ := chk h
      obtain ⟨hc113, h⟩ := chk h
      refine wp_cutN (fun a w => Fr 179 a [(1, vmarks1), (2, optr v1 0), (4, v80), (10, v21), (16, .int .u32 at16), (17, .int .i64 t125), (18, .int .u32 q94.1), (124, .int .i64 (IntKind.i64.wrap ((IntKind.i64.wrap (((marks1.length : Int)).tdiv (2 : Int))) - (IntKind.i64.wrap (c0_Length - (1 : Int)))))), (125, .int .i64 t125)] ∧ Hp S w0 w (Res.sl (Ek.arr 64 (Ek.int .i32)) 65 v21 q76 :: Res.sl Ek.bool 4 v80 (message4.set (t125).toNat ((IntKind.i32.wrap (q94.2 + (gt (gt q76 (IntKind.i64.wrap (t125 + (1 : Int)))) q94.1))) != (gt (gt q76 t125) at16))) :: Res.obj 40 v1 [.int .i64 c0_Length, .int .u32 c0_One, .int .u32 c0_Two] :: ow)) ?_ ?_
      · have hp := hp102.same (Same.drew w)
        refine dr_begin' (fun a w => Fr 179 a [(1, vmarks1), (2, optr v1 0), (4, v80), (10, v21), (16, .int .u32 at16), (17, .int .i64 t125), (18, .int .u32 q94.1), (124, .int .i64 (IntKind.i64.wrap ((IntKind.i64.wrap (((marks1.length : Int)).tdiv (2 : Int))) - (IntKind.i64.wrap (c0_Length - (1 : Int)))))), (125, .int .i64 t125)] ∧ Hp S w0 w (Res.sl (Ek.arr 64 (Ek.int .i32)) 65 v21 q76 :: Res.sl Ek.bool 4 v80 (message4.set (t125).toNat ((IntKind.i32.wrap (q94.2 + (gt (gt q76 (IntKind.i64.wrap (t125 + (1 : Int)))) q94.1))) != (gt (gt q76 t125) at16))) :: Res.obj 40 v1 [.int .i64 c0_Length, .int .u32 c0_One, .int .u32 c0_Two] :: ow)) (fun w' => ∃ l, Hp S101 w w' l) [19] (by kernel_rfl) ?_
        refine dr_takeP 0 (v80) rfl (by kernel_rfl) (by kernel_rfl) (by kernel_rfl) rfl rfl hf (by decide) rfl (fun w => ?_) ?_
        · skip
          refine st_move hf rfl rfl (by decide) ?_
          clear hf; intro a ha hf
          exact st_nil hf (th_n ⟨ha, rfl⟩)
        clear hf; intro a hf
        refine dr_takeP 1 (.int .i64 t125) rfl (by kernel_rfl) (by kernel_rfl) (by kernel_rfl) rfl rfl hf (by decide) rfl (fun w => ?_) ?_
        · skip
          refine st_move hf rfl rfl (by decide) ?_
          clear hf; intro a ha hf
          exact st_nil hf (th_n ⟨ha, rfl⟩)
        clear hf; intro a hf
        refine dr_takeP 2 (.int .i32 q94.2) rfl (by kernel_rfl) (by kernel_rfl) (by kernel_rfl) rfl rfl hf (by decide) rfl (fun w => ?_) ?_
        · skip
          refine st_move hf rfl rfl (by decide) ?_
          clear hf; intro a ha hf
          exact st_nil hf (th_n ⟨ha, rfl⟩)
        clear hf; intro a hf
        refine dr_takeP 3 (v21) rfl (by kernel_rfl) (by kernel_rfl) (by kernel_rfl) rfl rfl hf (by decide) rfl (fun w => ?_) ?_
        · skip
          refine st_move hf rfl rfl (by decide) ?_
          clear hf; intro a ha hf
          exact st_nil hf (th_n ⟨ha, rfl⟩)
        clear hf; intro a hf
        refine dr_takeP 4 (.int .i64 t125) rfl (by kernel_rfl) (by kernel_rfl) (by kernel_rfl) rfl rfl hf (by decide) rfl (fun w => ?_) ?_
        · skip
          refine st_move hf rfl rfl (by decide) ?_
          clear hf; intro a ha hf
          exact st_nil hf (th_n ⟨ha, rfl⟩)
        clear hf; intro a hf
        refine dr_takeP 5 (.int .i64 (IntKind.i64.wrap (t125 + (1 : Int)))) rfl (by kernel_rfl) (by kernel_rfl) (by kernel_rfl) rfl rfl hf (by decide) rfl (fun w => ?_) ?_
        · skip
          refine st_iadd hf (by decide) rfl rfl rfl ?_
          clear hf; intro a ha hf
          exact st_nil hf (th_n ⟨ha, rfl⟩)
        clear hf; intro a hf
        refine dr_takeP 6 (.int .u32 q94.1) rfl (by kernel_rfl) (by kernel_rfl) (by kernel_rfl) rfl rfl hf (by decide) rfl (fun w => ?_) ?_
        · skip
          refine st_move hf rfl rfl (by decide) ?_
          clear hf; intro a ha hf
          exact st_nil hf (th_n ⟨ha, rfl⟩)
        clear hf; intro a hf
        refine dr_takeP 7 (eptr v21 (IntKind.i64.wrap (t125 + (1 : Int))) 64) rfl (by kernel_rfl) (by kernel_rfl) (by kernel_rfl) rfl rfl hf (by decide) rfl (fun w => ?_) ?_
        · skip
          refine st_index (E := (Ek.arr 64 (Ek.int .i32))) hf (by decide) Try.underlying64 elt65 rfl rfl rfl rl108.any hc109.1 hc109.2 ?_
          clear hf; intro a ha hf
          exact st_nil hf (th_n ⟨ha, rfl⟩)
        clear hf; intro a hf
        refine dr_takeP 8 (optr (eptr v21 (IntKind.i64.wrap (t125 + (1 : Int))) 64) ((q94.1).toNat * 1)) rfl (by kernel_rfl) (by kernel_rfl) (by kernel_rfl) rfl rfl hf (by decide) rfl (fun w => ?_) ?_
        · skip
          refine st_iaP (sz := 1) hf (by decide) Try.underlying65 (by kernel_rfl) rfl rfl rfl (Sl.isP rl108.any hc109.1 hc109.2) hc110.1 hc110.2 ?_
          clear hf; intro a ha hf
          exact st_nil hf (th_n ⟨ha, rfl⟩)
        clear hf; intro a hf
        refine dr_take2 9 (.int .i32 (gt (gt q76 (IntKind.i64.wrap (t125 + (1 : Int)))) q94.1)) rfl (by kernel_rfl) (by kernel_rfl) (by kernel_rfl) (by kernel_rfl) (by kernel_rfl) rfl rfl hf (by decide) rfl (fun w hp => ?_) ⟨_, hp⟩ ?_
        · obtain ⟨_, hp⟩ := hp
          refine st_ldQ (F := (Ek.int .i32)) (yv := (gt (gt q76 (IntKind.i64.wrap (t125 + (1 : Int)))) q94.1)) hf (by decide) pl21 (fun x => .int .i32 x) (fun _ _ h => h) rfl rfl (Sl.part (E := (Ek.arr 64 (Ek.int .i32))) (F := (Ek.int .i32)) (o := (q94.1).toNat * 1) (Sub.arr (F := (Ek.int .i32)) (N := 64) (j := q94.1) hc110.1 hc110.2) (rl108.sl hp) hc109.1 hc109.2) ?_
          clear hf; intro a ha hf
          exact st_nil hf (th_n ⟨ha, rfl⟩)
        clear hf; intro a hf
        refine dr_takeP 10 (.int .i32 (IntKind.i32.wrap (q94.2 + (gt (gt q76 (IntKind.i64.wrap (t125 + (1 : Int)))) q94.1)))) rfl (by kernel_rfl) (by kernel_rfl) (by kernel_rfl) rfl rfl hf (by decide) rfl (fun w => ?_) ?_
        · skip
          refine st_iadd hf (by decide) rfl rfl rfl ?_
          clear hf; intro a ha hf
          exact st_nil hf (th_n ⟨ha, rfl⟩)
        clear hf; intro a hf
        refine dr_takeP 11 (v21) rfl (by kernel_rfl) (by kernel_rfl) (by kernel_rfl) rfl rfl hf (by decide) rfl (fun w => ?_) ?_
        · skip
          refine st_move hf rfl rfl (by decide) ?_
          clear hf; intro a ha hf
          exact st_nil hf (th_n ⟨ha, rfl⟩)
        clear hf; intro a hf
        refine dr_takeP 12 (.int .i64 t125) rfl (by kernel_rfl) (by kernel_rfl) (by kernel_rfl) rfl rfl hf (by decide) rfl (fun w => ?_) ?_
        · skip
          refine st_move hf rfl rfl (by decide) ?_
          clear hf; intro a ha hf
          exact st_nil hf (th_n ⟨ha, rfl⟩)
        clear hf; intro a hf
        refine dr_takeP 13 (.int .u32 at16) rfl (by kernel_rfl) (by kernel_rfl) (by kernel_rfl) rfl rfl hf (by decide) rfl (fun w => ?_) ?_
        · skip
          refine st_move hf rfl rfl (by decide) ?_
          clear hf; intro a ha hf
          exact st_nil hf (th_n ⟨ha, rfl⟩)
        clear hf; intro a hf
        refine dr_takeP 14 (eptr v21 t125 64) rfl (by kernel_rfl) (by kernel_rfl) (by kernel_rfl) rfl rfl hf (by decide) rfl (fun w => ?_) ?_
        · skip
          refine st_index (E := (Ek.arr 64 (Ek.int .i32))) hf (by decide) Try.underlying64 elt65 rfl rfl rfl rl108.any hc111.1 hc111.2 ?_
          clear hf; intro a ha hf
          exact st_nil hf (th_n ⟨ha, rfl⟩)
        clear hf; intro a hf
        refine dr_takeP 15 (optr (eptr v21 t125 64) ((at16).toNat * 1)) rfl (by kernel_rfl) (by kernel_rfl) (by kernel_rfl) rfl rfl hf (by decide) rfl (fun w => ?_) ?_
        · skip
          refine st_iaP (sz := 1) hf (by decide) Try.underlying65 (by kernel_rfl) rfl rfl rfl (Sl.isP rl108.any hc111.1 hc111.2) hc112.1 hc112.2 ?_
          clear hf; intro a ha hf
          exact st_nil hf (th_n ⟨ha, rfl⟩)
        clear hf; intro a hf
        refine dr_take2 16 (.int .i32 (gt (gt q76 t125) at16)) rfl (by kernel_rfl) (by kernel_rfl) (by kernel_rfl) (by kernel_rfl) (by kernel_rfl) rfl rfl hf (by decide) rfl (fun w hp => ?_) ⟨_, hp⟩ ?_
        · obtain ⟨_, hp⟩ := hp
          refine st_ldQ (F := (Ek.int .i32)) (yv := (gt (gt q76 t125) at16)) hf (by decide) pl21 (fun x => .int .i32 x) (fun _ _ h => h) rfl rfl (Sl.part (E := (Ek.arr 64 (Ek.int .i32))) (F := (Ek.int .i32)) (o := (at16).toNat * 1) (Sub.arr (F := (Ek.int .i32)) (N := 64) (j := at16) hc112.1 hc112.2) (rl108.sl hp) hc111.1 hc111.2) ?_
          clear hf; intro a ha hf
          exact st_nil hf (th_n ⟨ha, rfl⟩)
        clear hf; intro a hf
        refine dr_takeP 17 (.bool ((IntKind.i32.wrap (q94.2 + (gt (gt q76 (IntKind.i64.wrap (t125 + (1 : Int)))) q94.1))) != (gt (gt q76 t125) at16))) rfl (by kernel_rfl) (by kernel_rfl) (by kernel_rfl) rfl rfl hf (by decide) rfl (fun w => ?_) ?_
        · skip
          refine st_ineq hf (by decide) rfl rfl rfl ?_
          clear hf; intro a ha hf
          exact st_nil hf (th_n ⟨ha, rfl⟩)
        clear hf; intro a hf
        refine dr_takeP 18 (eptr v80 t125 1) rfl (by kernel_rfl) (by kernel_rfl) (by kernel_rfl) rfl rfl hf (by decide) rfl (fun w => ?_) ?_
        · skip
          refine st_index (E := Ek.bool) hf (by decide) Try.underlying22 elt4 rfl rfl rfl rl107.any hc113.1 hc113.2 ?_
          clear hf; intro a ha hf
          exact st_nil hf (th_n ⟨ha, rfl⟩)
        clear hf; intro a hf
        have hp := bk105 _ _ hp
        have hp := bk100 _ _ hp
        refine dr_one 19 rfl (by kernel_rfl) ?_
        refine st_store (E := Ek.bool) hf elt4 hp (i := 1) rfl rfl rfl rfl rfl hc113.1 hc113.2 ?_
        clear hf; intro a w hf hp0; clear hp; have hp := hp0; clear hp0
        replace hp : Hp _ _ _ (Res.sl (Ek.arr 64 (Ek.int .i32)) 65 v21 q76 :: Res.sl Ek.bool 4 v80 (message4.set (t125).toNat ((IntKind.i32.wrap (q94.2 + (gt (gt q76 (IntKind.i64.wrap (t125 + (1 : Int)))) q94.1))) != (gt (gt q76 t125) at16))) :: Res.obj 40 v1 [.int .i64 c0_Length, .int .u32 c0_One, .int .u32 c0_Two] :: ow) := hp
        refine st_nil hf (th_n ⟨fun hn => absurd hn (by decide), ?_⟩)
        refine dr_end (by kernel_rfl) ?_ _
        exact ⟨hf.sub ⟨rfl, rfl, rfl, rfl, rfl, rfl, rfl, rfl, rfl, trivial⟩, hp⟩
      rintro a w ⟨hf, hp⟩
      refine th_n ?_
      refine wp_seq ?_
      refine wp_reg ?_
      refine st_move hf rfl rfl (by decide) ?_
      clear hf; intro a ha hf; clear ha
      refine st_move hf rfl rfl (by decide) ?_
      clear hf; intro a ha hf; clear ha
      obtain ⟨hc114, h⟩ := chk h
      refine st_index (E := Ek.bool) hf (by decide) Try.underlying22 elt4 rfl rfl rfl (hp.sl (i := 1) rfl) hc114.1 hc114.2 ?_
      clear hf; intro a ha hf; clear ha
      refine st_ldB hf (by decide) pl4 rfl rfl (hp.sl (i := 1) rfl) hc114.1 hc114.2 ?_
      clear hf; intro a ha hf; clear ha
      refine st_nil hf ?_
      refine th_n ?_
      refine wp_if hf rfl (fun hb => ?_) (fun hb => ?_)
      · replace h := ifT h hb
        obtain ⟨S115, hp116, rd117, up118, bk119⟩ := Hp.lendO hp (i := 2) rfl
        have rl120 := ((hmarks1.now hp).mono up118)
        have rl121 := rd117
        obtain ⟨hc122, h⟩ := chk h
        have hc123 : ((IntKind.i64.wrap ((2 : Int) * t125))).toNat ≤ marks1.length := by omega
        have hc124 : marks1.length ≤ marks1.length := by omega
        obtain ⟨q125, hcall126, h⟩ := bnd h
        refine wp_cutN (fun a w => Fr 179 a [(1, vmarks1), (2, optr v1 0), (4, v80), (10, v21), (18, .int .u32 q125.1), (124, .int .i64 (IntKind.i64.wrap ((IntKind.i64.wrap (((marks1.length : Int)).tdiv (2 : Int))) - (IntKind.i64.wrap (c0_Length - (1 : Int)))))), (125, .int .i64 t125)] ∧ Hp S w0 w (Res.obj 40 v1 [.int .i64 c0_Length, .int .u32 c0_One, .int .u32 c0_Two] :: Res.sl (Ek.arr 64 (Ek.int .i32)) 65 v21 q76 :: Res.sl Ek.bool 4 v80 (message4.set (t125).toNat ((IntKind.i32.wrap (q94.2 + (gt (gt q76 (IntKind.i64.wrap (t125 + (1 : Int)))) q94.1))) != (gt (gt q76 t125) at16))) :: ow)) ?_ ?_
        · have hp := hp116.same (Same.drew w)
          refine dr_begin' (fun a w => Fr 179 a [(1, vmarks1), (2, optr v1 0), (4, v80), (10, v21), (18, .int .u32 q125.1), (124, .int .i64 (IntKind.i64.wrap ((IntKind.i64.wrap (((marks1.length : Int)).tdiv (2 : Int))) - (IntKind.i64.wrap (c0_Length - (1 : Int)))))), (125, .int .i64 t125)] ∧ Hp S w0 w (Res.obj 40 v1 [.int .i64 c0_Length, .int .u32 c0_One, .int .u32 c0_Two] :: Res.sl (Ek.arr 64 (Ek.int .i32)) 65 v21 q76 :: Res.sl Ek.bool 4 v80 (message4.set (t125).toNat ((IntKind.i32.wrap (q94.2 + (gt (gt q76 (IntKind.i64.wrap (t125 + (1 : Int)))) q94.1))) != (gt (gt q76 t125) at16))) :: ow)) (fun w' => ∃ l, Hp S115 w w' l) [] (by kernel_rfl) ?_
          refine dr_take 0 (.agg #[.int .i64 c0_Length, .int .u32 c0_One, .int .u32 c0_Two]) rfl (by kernel_rfl) (by kernel_rfl) (by kernel_rfl) (by kernel_rfl) rfl rfl hf (by decide) rfl (fun w hp => ?_) ⟨_, hp⟩ ?_
          · obtain ⟨_, hp⟩ := hp
            refine st_ldOA (m := 3) (us := [.int .i64 c0_Length, .int .u32 c0_One, .int .u32 c0_Two]) hf (by decide) (by kernel_rfl) rfl rfl (rl121.ob hp) rfl rfl ?_
            clear hf; intro a ha hf
            exact st_nil hf (th_n ⟨ha, rfl⟩)
          clear hf; intro a hf
          refine dr_take 1 (.int .u32 at16) rfl (by kernel_rfl) (by kernel_rfl) (by kernel_rfl) (by kernel_rfl) rfl rfl hf (by decide) rfl (fun w hp => ?_) ⟨_, hp⟩ ?_
          · obtain ⟨_, hp⟩ := hp
            refine st_move hf rfl rfl (by decide) ?_
            clear hf; intro a ha hf
            exact st_nil hf (th_n ⟨ha, rfl⟩)
          clear hf; intro a hf
          refine dr_take 2 (vmarks1) rfl (by kernel_rfl) (by kernel_rfl) (by kernel_rfl) (by kernel_rfl) rfl rfl hf (by decide) rfl (fun w hp => ?_) ⟨_, hp⟩ ?_
          · obtain ⟨_, hp⟩ := hp
            refine st_move hf rfl rfl (by decide) ?_
            clear hf; intro a ha hf
            exact st_nil hf (th_n ⟨ha, rfl⟩)
          clear hf; intro a hf
          refine dr_take 3 (.int .i64 t125) rfl (by kernel_rfl) (by kernel_rfl) (by kernel_rfl) (by kernel_rfl) rfl rfl hf (by decide) rfl (fun w hp => ?_) ⟨_, hp⟩ ?_
          · obtain ⟨_, hp⟩ := hp
            refine st_move hf rfl rfl (by decide) ?_
            clear hf; intro a ha hf
            exact st_nil hf (th_n ⟨ha, rfl⟩)
          clear hf; intro a hf
          refine dr_take 4 (.int .i64 (IntKind.i64.wrap ((2 : Int) * t125))) rfl (by kernel_rfl) (by kernel_rfl) (by kernel_rfl) (by kernel_rfl) rfl rfl hf (by decide) rfl (fun w hp => ?_) ⟨_, hp⟩ ?_
          · obtain ⟨_, hp⟩ := hp
            refine st_imul hf (by decide) rfl rfl rfl ?_
            clear hf; intro a ha hf
            exact st_nil hf (th_n ⟨ha, rfl⟩)
          clear hf; intro a hf
          refine dr_take 5 ((GL.cut vmarks1 ((IntKind.i64.wrap ((2 : Int) * t125))).toNat marks1.length 1)) rfl (by kernel_rfl) (by kernel_rfl) (by kernel_rfl) (by kernel_rfl) rfl rfl hf (by decide) rfl (fun w hp => ?_) ⟨_, hp⟩ ?_
          · obtain ⟨_, hp⟩ := hp
            refine st_cutS (E := (Ek.int .u8)) hf (by decide) Try.underlying26 elt51 rfl rfl (rl120.sl hp) (.inr ⟨_, _, rfl, evI rfl hc122.1⟩) (.inl ⟨rfl, rfl⟩) hc123 hc124 ?_
            clear hf; intro a ha hf
            exact st_nil hf (th_n ⟨ha, rfl⟩)
          clear hf; intro a hf
          refine dr_one 6 rfl (by kernel_rfl) ?_
          refine st_call hf (by decide) Try.func32 rfl rfl rfl rfl rfl (f_hard_step_c hp _ _ _ _ _ _ _ (RdS.cut rl120 hc123 hc124) hcall126) ?_
          rintro _ w ⟨rfl, hp0⟩
          clear hp; have hp := hp0; clear hp0
          replace hp : Hp _ _ _ (Res.sl (Ek.arr 64 (Ek.int .i32)) 65 v21 q76 :: Res.sl Ek.bool 4 v80 (message4.set (t125).toNat ((IntKind.i32.wrap (q94.2 + (gt (gt q76 (IntKind.i64.wrap (t125 + (1 : Int)))) q94.1))) != (gt (gt q76 t125) at16))) :: ow) := hp
          refine ⟨_, rfl, ?_⟩
          clear hf; intro a hf
          refine st_nil hf (th_n ⟨fun _ _ => ⟨_, hp⟩, ?_⟩)
          refine dr_take 7 (.tuple #[.int .u32 q125.1, .int .i32 q125.2]) rfl (by kernel_rfl) (by kernel_rfl) (by kernel_rfl) (by kernel_rfl) rfl rfl hf (by decide) rfl (fun w hp => ?_) ⟨_, hp⟩ ?_
          · obtain ⟨_, hp⟩ := hp
            refine st_move hf rfl rfl (by decide) ?_
            clear hf; intro a ha hf
            exact st_nil hf (th_n ⟨ha, rfl⟩)
          clear hf; intro a hf
          refine dr_take 8 (.int .u32 q125.1) rfl (by kernel_rfl) (by kernel_rfl) (by kernel_rfl) (by kernel_rfl) rfl rfl hf (by decide) rfl (fun w hp => ?_) ⟨_, hp⟩ ?_
          · obtain ⟨_, hp⟩ := hp
            refine st_extract hf (by decide) rfl rfl rfl ?_
            clear hf; intro a ha hf
            exact st_nil hf (th_n ⟨ha, rfl⟩)
          clear hf; intro a hf
          refine dr_take 9 (.int .i32 q125.2) rfl (by kernel_rfl) (by kernel_rfl) (by kernel_rfl) (by kernel_rfl) rfl rfl hf (by decide) rfl (fun w hp => ?_) ⟨_, hp⟩ ?_
          · obtain ⟨_, hp⟩ := hp
            refine st_extract hf (by decide) rfl rfl rfl ?_
            clear hf; intro a ha hf
            exact st_nil hf (th_n ⟨ha, rfl⟩)
          clear hf; intro a hf
          refine dr_take 10 (.int .u32 q125.1) rfl (by kernel_rfl) (by kernel_rfl) (by kernel_rfl) (by kernel_rfl) rfl rfl hf (by decide) rfl (fun w hp => ?_) ⟨_, hp⟩ ?_
          · obtain ⟨_, hp⟩ := hp
            refine st_assign hf rfl rfl (by decide) ?_
            clear hf; intro a ha hf
            exact st_nil hf (th_n ⟨ha, rfl⟩)
          clear hf; intro a hf
          refine dr_end (by kernel_rfl) ?_ _
          have hp := bk119 _ _ hp
          exact ⟨hf.sub ⟨rfl, rfl, rfl, rfl, rfl, rfl, rfl, trivial⟩, hp⟩
        rintro a w ⟨hf, hp⟩
        refine th_n ?_
        refine wp_reg ?_
        refine st_move hf rfl rfl (by decide) ?_
        clear hf; intro a ha hf; clear ha
        refine st_assign hf rfl rfl (by decide) ?_
        clear hf; intro a ha hf; clear ha
        refine st_nil hf ?_
        refine ib_n ?_
        refine th_n ?_
        refine wp_reg ?_
        refine st_iadd hf (by decide) rfl rfl rfl ?_
        clear hf; intro a ha hf; clear ha
        refine st_move hf rfl rfl (by decide) ?_
        clear hf; intro a ha hf; clear ha
        refine st_nil hf ?_
        obtain rfl := Option.some.inj h
        have hp : Hp _ _ _ (Res.sl Ek.bool 4 v80 (message4.set (t125).toNat ((IntKind.i32.wrap (q94.2 + (gt (gt q76 (IntKind.i64.wrap (t125 + (1 : Int)))) q94.1))) != (gt (gt q76 t125) at16))) :: Res.obj 40 v1 [.int .i64 c0_Length, .int .u32 c0_One, .int .u32 c0_Two] :: Res.sl (Ek.arr 64 (Ek.int .i32)) 65 v21 q76 :: ow) := Hp.sel (pre := [Res.obj 40 v1 [.int .i64 c0_Length, .int .u32 c0_One, .int .u32 c0_Two], Res.sl (Ek.arr 64 (Ek.int .i32)) 65 v21 q76, Res.sl Ek.bool 4 v80 (message4.set (t125).toNat ((IntKind.i32.wrap (q94.2 + (gt (gt q76 (IntKind.i64.wrap (t125 + (1 : Int)))) q94.1))) != (gt (gt q76 t125) at16)))]) (tail := ow) (rs' := [Res.sl Ek.bool 4 v80 (message4.set (t125).toNat ((IntKind.i32.wrap (q94.2 + (gt (gt q76 (IntKind.i64.wrap (t125 + (1 : Int)))) q94.1))) != (gt (gt q76 t125) at16))), Res.obj 40 v1 [.int .i64 c0_Length, .int .u32 c0_One, .int .u32 c0_Two], Res.sl (Ek.arr 64 (Ek.int .i32)) 65 v21 q76]) hp [2, 0, 1] (by decide) (by simp) rfl
        exact rnd_l ⟨_, hf.sub ⟨rfl, rfl, rfl, rfl, rfl, rfl, rfl, trivial⟩, hp⟩
      replace h := ifF h hb
      refine wp_skip ?_
      refine th_n ?_
      refine wp_reg ?_
      refine st_move hf rfl rfl (by decide) ?_
      clear hf; intro a ha hf; clear ha
      refine st_assign hf rfl rfl (by decide) ?_
      clear hf; intro a ha hf; clear ha
      refine st_nil hf ?_
      refine ib_n ?_
      refine th_n ?_
      refine wp_reg ?_
      refine st_iadd hf (by decide) rfl rfl rfl ?_
      clear hf; intro a ha hf; clear ha
      refine st_move hf rfl rfl (by decide) ?_
      clear hf; intro a ha hf; clear ha
      refine st_nil hf ?_
      obtain rfl := Option.some.inj h
      have hp : Hp _ _ _ (Res.sl Ek.bool 4 v80 (message4.set (t125).toNat ((IntKind.i32.wrap (q94.2 + (gt (gt q76 (IntKind.i64.wrap (t125 + (1 : Int)))) q94.1))) != (gt (gt q76 t125) at16))) :: Res.obj 40 v1 [.int .i64 c0_Length, .int .u32 c0_One, .int .u32 c0_Two] :: Res.sl (Ek.arr 64 (Ek.int .i32)) 65 v21 q76 :: ow) := Hp.sel (pre := [Res.sl (Ek.arr 64 (Ek.int .i32)) 65 v21 q76, Res.sl Ek.bool 4 v80 (message4.set (t125).toNat ((IntKind.i32.wrap (q94.2 + (gt (gt q76 (IntKind.i64.wrap (t125 + (1 : Int)))) q94.1))) != (gt (gt q76 t125) at16))), Res.obj 40 v1 [.int .i64 c0_Length, .int .u32 c0_One, .int .u32 c0_Two]]) (tail := ow) (rs' := [Res.sl Ek.bool 4 v80 (message4.set (t125).toNat ((IntKind.i32.wrap (q94.2 + (gt (gt q76 (IntKind.i64.wrap (t125 + (1 : Int)))) q94.1))) != (gt (gt q76 t125) at16))), Res.obj 40 v1 [.int .i64 c0_Length, .int .u32 c0_One, .int .u32 c0_Two], Res.sl (Ek.arr 64 (Ek.int .i32)) 65 v21 q76]) hp [1, 2, 0] (by decide) (by simp) rfl
      exact rnd_l ⟨_, hf.sub ⟨rfl, rfl, rfl, rfl, rfl, rfl, rfl, trivial⟩, hp⟩
    replace h := ifF h hb
    refine wp_exit ?_
    refine th_e ?_
    obtain rfl := Option.some.inj h
    have hp : Hp _ _ _ (Res.sl Ek.bool 4 v80 message4 :: Res.sl (Ek.arr 64 (Ek.int .i32)) 65 v21 q76 :: ow) := Hp.sel (pre := [Res.sl Ek.bool 4 v80 message4, Res.obj 40 v1 [.int .i64 c0_Length, .int .u32 c0_One, .int .u32 c0_Two], Res.sl (Ek.arr 64 (Ek.int .i32)) 65 v21 q76]) (tail := ow) (rs' := [Res.sl Ek.bool 4 v80 message4, Res.sl (Ek.arr 64 (Ek.int .i32)) 65 v21 q76]) hp [0, 2] (by decide) (by simp) rfl
    exact rnd_r (by simp) ⟨rfl, _, hf.sub ⟨rfl, rfl, trivial⟩, hp⟩
  clear hl hf hp
  intro e a w hne hO
  obtain ⟨rfl, v82, hf, hp⟩ := hO
  refine ib_same ?_
  refine th_n ?_
  refine wp_seq ?_
  obtain ⟨S128, hp129, rd130, up131, bk132⟩ := Hp.lendS hp (i := 1) rfl
  have rl133 := rd130
  obtain ⟨hc134, h⟩ := chk h
  have hc135 : 0 ≤ (0 : Int) ∧ (0 : Int) < (64 : Int) := by decide
  refine wp_cutN (fun a w => Fr 179 a [(4, v82), (5, .int .i64 (IntKind.i64.wrap (gt (gt q76 (0 : Int)) (0 : Int)))), (6, .int .i64 (0 : Int))] ∧ Hp S w0 w (Res.sl (Ek.arr 64 (Ek.int .i32)) 65 v21 q76 :: Res.sl Ek.bool 4 v82 q127 :: ow)) ?_ ?_
  · have hp := hp129.same (Same.drew w)
    refine dr_begin' (fun a w => Fr 179 a [(4, v82), (5, .int .i64 (IntKind.i64.wrap (gt (gt q76 (0 : Int)) (0 : Int)))), (6, .int .i64 (0 : Int))] ∧ Hp S w0 w (Res.sl (Ek.arr 64 (Ek.int .i32)) 65 v21 q76 :: Res.sl Ek.bool 4 v82 q127 :: ow)) (fun w' => ∃ l, Hp S128 w w' l) [] (by kernel_rfl) ?_
    refine dr_take 0 (v82) rfl (by kernel_rfl) (by kernel_rfl) (by kernel_rfl) (by kernel_rfl) rfl rfl hf (by decide) rfl (fun w hp => ?_) ⟨_, hp⟩ ?_
    · obtain ⟨_, hp⟩ := hp
      refine st_move hf rfl rfl (by decide) ?_
      clear hf; intro a ha hf
      exact st_nil hf (th_n ⟨ha, rfl⟩)
    clear hf; intro a hf
    refine dr_take 1 (v21) rfl (by kernel_rfl) (by kernel_rfl) (by kernel_rfl) (by kernel_rfl) rfl rfl hf (by decide) rfl (fun w hp => ?_) ⟨_, hp⟩ ?_
    · obtain ⟨_, hp⟩ := hp
      refine st_move hf rfl rfl (by decide) ?_
      clear hf; intro a ha hf
      exact st_nil hf (th_n ⟨ha, rfl⟩)
    clear hf; intro a hf
    refine dr_take 2 (eptr v21 (0 : Int) 64) rfl (by kernel_rfl) (by kernel_rfl) (by kernel_rfl) (by kernel_rfl) rfl rfl hf (by decide) rfl (fun w hp => ?_) ⟨_, hp⟩ ?_
    · obtain ⟨_, hp⟩ := hp
      refine st_index (E := (Ek.arr 64 (Ek.int .i32))) hf (by decide) Try.underlying64 elt65 rfl rfl rfl (rl133.sl hp) hc134.1 hc134.2 ?_
      clear hf; intro a ha hf
      exact st_nil hf (th_n ⟨ha, rfl⟩)
    clear hf; intro a hf
    refine dr_take 3 (optr (eptr v21 (0 : Int) 64) (((0 : Int)).toNat * 1)) rfl (by kernel_rfl) (by kernel_rfl) (by kernel_rfl) (by kernel_rfl) rfl rfl hf (by decide) rfl (fun w hp => ?_) ⟨_, hp⟩ ?_
    · obtain ⟨_, hp⟩ := hp
      refine st_iaP (sz := 1) hf (by decide) Try.underlying65 (by kernel_rfl) rfl rfl rfl (Sl.isP (rl133.sl hp) hc134.1 hc134.2) hc135.1 hc135.2 ?_
      clear hf; intro a ha hf
      exact st_nil hf (th_n ⟨ha, rfl⟩)
    clear hf; intro a hf
    refine dr_take 4 (.int .i32 (gt (gt q76 (0 : Int)) (0 : Int))) rfl (by kernel_rfl) (by kernel_rfl) (by kernel_rfl) (by kernel_rfl) rfl rfl hf (by decide) rfl (fun w hp => ?_) ⟨_, hp⟩ ?_
    · obtain ⟨_, hp⟩ := hp
      refine st_ldQ (F := (Ek.int .i32)) (yv := (gt (gt q76 (0 : Int)) (0 : Int))) hf (by decide) pl21 (fun x => .int .i32 x) (fun _ _ h => h) rfl rfl (Sl.part (E := (Ek.arr 64 (Ek.int .i32))) (F := (Ek.int .i32)) (o := ((0 : Int)).toNat * 1) (Sub.arr (F := (Ek.int .i32)) (N := 64) (j := (0 : Int)) hc135.1 hc135.2) (rl133.sl hp) hc134.1 hc134.2) ?_
      clear hf; intro a ha hf
      exact st_nil hf (th_n ⟨ha, rfl⟩)
    clear hf; intro a hf
    refine dr_take 5 (.int .i64 (IntKind.i64.wrap (gt (gt q76 (0 : Int)) (0 : Int)))) rfl (by kernel_rfl) (by kernel_rfl) (by kernel_rfl) (by kernel_rfl) rfl rfl hf (by decide) rfl (fun w hp => ?_) ⟨_, hp⟩ ?_
    · obtain ⟨_, hp⟩ := hp
      refine st_conv_ii hf (by decide) (by rw [Try.underlying21]; rfl) Try.underlying3 rfl rfl ?_
      clear hf; intro a ha hf
      exact st_nil hf (th_n ⟨ha, rfl⟩)
    clear hf; intro a hf
    refine dr_take 6 (v82) rfl (by kernel_rfl) (by kernel_rfl) (by kernel_rfl) (by kernel_rfl) rfl rfl hf (by decide) rfl (fun w hp => ?_) ⟨_, hp⟩ ?_
    · obtain ⟨_, hp⟩ := hp
      refine st_assign hf rfl rfl (by decide) ?_
      clear hf; intro a ha hf
      exact st_nil hf (th_n ⟨ha, rfl⟩)
    clear hf; intro a hf
    refine dr_take 7 (.int .i64 (IntKind.i64.wrap (gt (gt q76 (0 : Int)) (0 : Int)))) rfl (by kernel_rfl) (by kernel_rfl) (by kernel_rfl) (by kernel_rfl) rfl rfl hf (by decide) rfl (fun w hp => ?_) ⟨_, hp⟩ ?_
    · obtain ⟨_, hp⟩ := hp
      refine st_assign hf rfl rfl (by decide) ?_
      clear hf; intro a ha hf
      exact st_nil hf (th_n ⟨ha, rfl⟩)
    clear hf; intro a hf
    refine dr_take 8 (.int .i64 (0 : Int)) rfl (by kernel_rfl) (by kernel_rfl) (by kernel_rfl) (by kernel_rfl) rfl rfl hf (by decide) rfl (fun w hp => ?_) ⟨_, hp⟩ ?_
    · obtain ⟨_, hp⟩ := hp
      refine st_assign hf rfl rfl (by decide) ?_
      clear hf; intro a ha hf
      exact st_nil hf (th_n ⟨ha, rfl⟩)
    clear hf; intro a hf
    refine dr_end (by kernel_rfl) ?_ _
    have hp := bk132 _ _ hp
    exact ⟨hf.sub ⟨rfl, rfl, rfl, trivial⟩, hp⟩
  rintro a w ⟨hf, hp⟩
  refine th_n ?_
  refine wp_ret ?_
  obtain rfl := Option.some.inj h
  have hp : Hp _ _ _ (Res.sl Ek.bool 4 v82 q127 :: ow) := Hp.sel (pre := [Res.sl (Ek.arr 64 (Ek.int .i32)) 65 v21 q76, Res.sl Ek.bool 4 v82 q127]) (tail := ow) (rs' := [Res.sl Ek.bool 4 v82 q127]) hp [1] (by decide) (by simp) rfl
  exact ⟨rfl, ⟨_, hf.sub ⟨rfl, rfl, rfl, trivial⟩, hp⟩⟩

noncomputable def f_foghornref22_May (c0_Length : Int) (c0_One : Int) (c0_Two : Int) : Option Bool := (if ((decide (c0_Length < (2 : Int))) || (decide ((7 : Int) < c0_Length))) = true then (some false) else (if 0 ≤ c0_Length then (some (((((decide ((1 : Int) ≤ c0_One)) && (decide (c0_One < (ishl .u32 (1 : Int) c0_Length)))) && (decide ((1 : Int) ≤ c0_Two))) && (decide (c0_Two < (ishl .u32 (1 : Int) c0_Length)))) && ((decide ((IntKind.u32.wrap (((ishl .u32 (1 : Int) c0_Length)).tdiv (2 : Int))) ≤ c0_One)) || (decide ((IntKind.u32.wrap (((ishl .u32 (1 : Int) c0_Length)).tdiv (2 : Int))) ≤ c0_Two))))) else none))
theorem f_foghornref22_May_c {S : Nat → Prop} {w0 w : World} {ow : List Res} (hp : Hp S w0 w ow) (c0_Length : Int) (c0_One : Int) (c0_Two : Int) {r : Bool} (h : f_foghornref22_May c0_Length c0_One c0_Two = some r) :
    Calls Try.prog 49 #[.agg #[.int .i64 c0_Length, .int .u32 c0_One, .int .u32 c0_Two]] w (fun e w' => e = .returned (.bool r) ∧ Hp S w0 w' (ow)) := by
  unfold f_foghornref22_May at h
  refine enter (n := 50) (args := [.agg #[.int .i64 c0_Length, .int .u32 c0_One, .int .u32 c0_Two]]) Try.func49 rfl rfl (Nat.le_of_ble_eq_true rfl) fun a hf => ?_
  replace hf : Fr 50 a [(0, .agg #[.int .i64 c0_Length, .int .u32 c0_One, .int .u32 c0_Two])] := hf
  refine wp_mono (Q := fun e a w => e = .ret ∧ Fr 50 a [(2, .bool r)] ∧ Hp S w0 w (ow)) ?_ ?_
  rotate_left
  · rintro e a w ⟨rfl, hf, hp⟩
    exact ret1 hf rfl rfl ⟨rfl, hp⟩
  refine wp_seq ?_
  refine wp_reg ?_
  refine st_boxO (cs := [.int .i64 c0_Length, .int .u32 c0_One, .int .u32 c0_Two]) hf (by decide) hp rfl rfl rfl ?_
  clear hf; intro a w v1 hf hp0; clear hp; have hp := hp0; clear hp0
  replace hp : Hp _ _ _ (Res.obj 41 v1 [.int .i64 c0_Length, .int .u32 c0_One, .int .u32 c0_Two] :: ow) := hp
  refine st_assign hf rfl rfl (by decide) ?_
  clear hf; intro a ha hf; clear ha
  refine st_nil hf ?_
  refine th_n ?_
  refine wp_seq ?_
  refine wp_seq ?_
  refine wp_reg ?_
  refine st_fa (o' := 0) hf (by decide) (off := 0) (sz := 1) (by kernel_rfl) (by decide) rfl rfl (hp.ob (i := 0) rfl) rfl ?_
  clear hf; intro a ha hf; clear ha
  refine st_ldO (u := .int .i64 c0_Length) hf (by decide) pl3 rfl rfl (hp.ob (i := 0) rfl) rfl ?_
  clear hf; intro a ha hf; clear ha
  refine st_ilss hf (by decide) rfl rfl rfl ?_
  clear hf; intro a ha hf; clear ha
  refine st_move hf rfl rfl (by decide) ?_
  clear hf; intro a ha hf; clear ha
  refine wpList_cut 4 (fun a w => Fr 50 a [(1, optr v1 0), (12, .bool ((decide (c0_Length < (2 : Int))) || (decide ((7 : Int) < c0_Length))))] ∧ Hp S w0 w (Res.obj 41 v1 [.int .i64 c0_Length, .int .u32 c0_One, .int .u32 c0_Two] :: ow)) ?_ ?_
  · rcases Bool.eq_false_or_eq_true (decide (c0_Length < (2 : Int))) with hb4 | hb4
    · skip
      refine st_skip hf (wantN hf rfl rfl hb4) rfl (by decide) ?_ rfl
      clear hf; intro a hf
      refine st_skip hf (wantN hf rfl rfl hb4) rfl (by decide) ?_ rfl
      clear hf; intro a hf
      refine st_skip hf (wantN hf rfl rfl hb4) rfl (by decide) ?_ rfl
      clear hf; intro a hf
      refine st_pick (v := .bool true) hf rfl rfl (fun hb' => ?_) (fun hb' => ?_) (by decide) ?_
      · rfl
      · exact absurd (hb4.symm.trans hb') (by decide)
      clear hf; intro a ha hf; clear ha
      refine st_nil hf (th_n ?_)
      exact ⟨hf.sub ⟨rfl, (by rw [hb4]; rfl), trivial⟩, hp⟩
    refine st_fa (o' := 0) hf (by decide) (off := 0) (sz := 1) (by kernel_rfl) (by decide) (wantY hf rfl rfl hb4) rfl (hp.ob (i := 0) rfl) rfl ?_
    clear hf; intro a ha hf; clear ha
    refine st_ldO (u := .int .i64 c0_Length) hf (by decide) pl3 (wantY hf rfl rfl hb4) rfl (hp.ob (i := 0) rfl) rfl ?_
    clear hf; intro a ha hf; clear ha
    refine st_igtr hf (by decide) (wantY hf rfl rfl hb4) rfl rfl ?_
    clear hf; intro a ha hf; clear ha
    refine st_pick (v := .bool (decide ((7 : Int) < c0_Length))) hf rfl rfl (fun hb' => ?_) (fun hb' => ?_) (by decide) ?_
    · exact absurd (hb4.symm.trans hb') (by decide)
    · rfl
    clear hf; intro a ha hf; clear ha
    refine st_nil hf (th_n ?_)
    exact ⟨hf.sub ⟨rfl, (by rw [hb4]; rfl), trivial⟩, hp⟩
  rintro a w ⟨hf, hp⟩
  refine st_nil hf ?_
  refine th_n ?_
  refine wp_if hf rfl (fun hb => ?_) (fun hb => ?_)
  · replace h := ifT h hb
    refine wp_seq ?_
    refine wp_reg ?_
    refine st_assign hf rfl rfl (by decide) ?_
    clear hf; intro a ha hf; clear ha
    refine st_nil hf ?_
    refine th_n ?_
    refine wp_ret ?_
    refine th_r ?_
    obtain rfl := Option.some.inj h
    have hp : Hp _ _ _ (ow) := Hp.sel (pre := [Res.obj 41 v1 [.int .i64 c0_Length, .int .u32 c0_One, .int .u32 c0_Two]]) (tail := ow) (rs' := []) hp [] (by decide) (by simp) rfl
    exact ⟨rfl, ⟨hf.sub ⟨rfl, trivial⟩, hp⟩⟩
  replace h := ifF h hb
  refine wp_skip ?_
  refine th_n ?_
  refine wp_seq ?_
  refine wp_reg ?_
  refine st_fa (o' := 0) hf (by decide) (off := 0) (sz := 1) (by kernel_rfl) (by decide) rfl rfl (hp.ob (i := 0) rfl) rfl ?_
  clear hf; intro a ha hf; clear ha
  refine st_ldO (u := .int .i64 c0_Length) hf (by decide) pl3 rfl rfl (hp.ob (i := 0) rfl) rfl ?_
  clear hf; intro a ha hf; clear ha
  obtain ⟨hc5, h⟩ := chk h
  refine st_ishl hf (by decide) rfl rfl rfl hc5 ?_
  clear hf; intro a ha hf; clear ha
  refine st_assign hf rfl rfl (by decide) ?_
  clear hf; intro a ha hf; clear ha
  refine st_nil hf ?_
  refine th_n ?_
  refine wp_seq ?_
  refine wp_reg ?_
  refine st_move hf rfl rfl (by decide) ?_
  clear hf; intro a ha hf; clear ha
  refine st_iquo hf (by decide) rfl rfl rfl (by decide) ?_
  clear hf; intro a ha hf; clear ha
  refine st_assign hf rfl rfl (by decide) ?_
  clear hf; intro a ha hf; clear ha
  refine st_nil hf ?_
  refine th_n ?_
  refine wp_seq ?_
  refine wp_reg ?_
  refine st_fa (o' := 1) hf (by decide) (off := 1) (sz := 1) (by kernel_rfl) (by decide) rfl rfl (hp.ob (i := 0) rfl) rfl ?_
  clear hf; intro a ha hf; clear ha
  refine st_ldO (u := .int .u32 c0_One) hf (by decide) pl37 rfl rfl (hp.ob (i := 0) rfl) rfl ?_
  clear hf; intro a ha hf; clear ha
  refine st_igeq hf (by decide) rfl rfl rfl ?_
  clear hf; intro a ha hf; clear ha
  refine st_move hf rfl rfl (by decide) ?_
  clear hf; intro a ha hf; clear ha
  refine wpList_cut 5 (fun a w => Fr 50 a [(1, optr v1 0), (3, .int .u32 (ishl .u32 (1 : Int) c0_Length)), (4, .int .u32 (IntKind.u32.wrap (((ishl .u32 (1 : Int) c0_Length)).tdiv (2 : Int)))), (26, .bool ((decide ((1 : Int) ≤ c0_One)) && (decide (c0_One < (ishl .u32 (1 : Int) c0_Length)))))] ∧ Hp S w0 w (Res.obj 41 v1 [.int .i64 c0_Length, .int .u32 c0_One, .int .u32 c0_Two] :: ow)) ?_ ?_
  · rcases Bool.eq_false_or_eq_true (decide ((1 : Int) ≤ c0_One)) with hb7 | hb7
    · skip
      refine st_fa (o' := 1) hf (by decide) (off := 1) (sz := 1) (by kernel_rfl) (by decide) (wantY hf rfl rfl hb7) rfl (hp.ob (i := 0) rfl) rfl ?_
      clear hf; intro a ha hf; clear ha
      refine st_ldO (u := .int .u32 c0_One) hf (by decide) pl37 (wantY hf rfl rfl hb7) rfl (hp.ob (i := 0) rfl) rfl ?_
      clear hf; intro a ha hf; clear ha
      refine st_move hf (wantY hf rfl rfl hb7) rfl (by decide) ?_
      clear hf; intro a ha hf; clear ha
      refine st_ilss hf (by decide) (wantY hf rfl rfl hb7) rfl rfl ?_
      clear hf; intro a ha hf; clear ha
      refine st_pick (v := .bool (decide (c0_One < (ishl .u32 (1 : Int) c0_Length)))) hf rfl rfl (fun hb' => ?_) (fun hb' => ?_) (by decide) ?_
      · rfl
      · exact absurd (hb7.symm.trans hb') (by decide)
      clear hf; intro a ha hf; clear ha
      refine st_nil hf (th_n ?_)
      exact ⟨hf.sub ⟨rfl, rfl, rfl, (by rw [hb7]; rfl), trivial⟩, hp⟩
    refine st_skip hf (wantN hf rfl rfl hb7) rfl (by decide) ?_ rfl
    clear hf; intro a hf
    refine st_skip hf (wantN hf rfl rfl hb7) rfl (by decide) ?_ rfl
    clear hf; intro a hf
    refine st_skip hf (wantN hf rfl rfl hb7) rfl (by decide) ?_ rfl
    clear hf; intro a hf
    refine st_skip hf (wantN hf rfl rfl hb7) rfl (by decide) ?_ rfl
    clear hf; intro a hf
    refine st_pick (v := .bool false) hf rfl rfl (fun hb' => ?_) (fun hb' => ?_) (by decide) ?_
    · exact absurd (hb7.symm.trans hb') (by decide)
    · rfl
    clear hf; intro a ha hf; clear ha
    refine st_nil hf (th_n ?_)
    exact ⟨hf.sub ⟨rfl, rfl, rfl, (by rw [hb7]; rfl), trivial⟩, hp⟩
  rintro a w ⟨hf, hp⟩
  refine st_move hf rfl rfl (by decide) ?_
  clear hf; intro a ha hf; clear ha
  refine wpList_cut 4 (fun a w => Fr 50 a [(1, optr v1 0), (3, .int .u32 (ishl .u32 (1 : Int) c0_Length)), (4, .int .u32 (IntKind.u32.wrap (((ishl .u32 (1 : Int) c0_Length)).tdiv (2 : Int)))), (31, .bool (((decide ((1 : Int) ≤ c0_One)) && (decide (c0_One < (ishl .u32 (1 : Int) c0_Length)))) && (decide ((1 : Int) ≤ c0_Two))))] ∧ Hp S w0 w (Res.obj 41 v1 [.int .i64 c0_Length, .int .u32 c0_One, .int .u32 c0_Two] :: ow)) ?_ ?_
  · rcases Bool.eq_false_or_eq_true ((decide ((1 : Int) ≤ c0_One)) && (decide (c0_One < (ishl .u32 (1 : Int) c0_Length)))) with hb9 | hb9
    · skip
      refine st_fa (o' := 2) hf (by decide) (off := 2) (sz := 1) (by kernel_rfl) (by decide) (wantY hf rfl rfl hb9) rfl (hp.ob (i := 0) rfl) rfl ?_
      clear hf; intro a ha hf; clear ha
      refine st_ldO (u := .int .u32 c0_Two) hf (by decide) pl37 (wantY hf rfl rfl hb9) rfl (hp.ob (i := 0) rfl) rfl ?_
      clear hf; intro a ha hf; clear ha
      refine st_igeq hf (by decide) (wantY hf rfl rfl hb9) rfl rfl ?_
      clear hf; intro a ha hf; clear ha
      refine st_pick (v := .bool (decide ((1 : Int) ≤ c0_Two))) hf rfl rfl (fun hb' => ?_) (fun hb' => ?_) (by decide) ?_
      · rfl
      · exact absurd (hb9.symm.trans hb') (by decide)
      clear hf; intro a ha hf; clear ha
      refine st_nil hf (th_n ?_)
      exact ⟨hf.sub ⟨rfl, rfl, rfl, (by rw [hb9]; rfl), trivial⟩, hp⟩
    refine st_skip hf (wantN hf rfl rfl hb9) rfl (by decide) ?_ rfl
    clear hf; intro a hf
    refine st_skip hf (wantN hf rfl rfl hb9) rfl (by decide) ?_ rfl
    clear hf; intro a hf
    refine st_skip hf (wantN hf rfl rfl hb9) rfl (by decide) ?_ rfl
    clear hf; intro a hf
    refine st_pick (v := .bool false) hf rfl rfl (fun hb' => ?_) (fun hb' => ?_) (by decide) ?_
    · exact absurd (hb9.symm.trans hb') (by decide)
    · rfl
    clear hf; intro a ha hf; clear ha
    refine st_nil hf (th_n ?_)
    exact ⟨hf.sub ⟨rfl, rfl, rfl, (by rw [hb9]; rfl), trivial⟩, hp⟩
  rintro a w ⟨hf, hp⟩
  refine st_move hf rfl rfl (by decide) ?_
  clear hf; intro a ha hf; clear ha
  refine wpList_cut 5 (fun a w => Fr 50 a [(1, optr v1 0), (4, .int .u32 (IntKind.u32.wrap (((ishl .u32 (1 : Int) c0_Length)).tdiv (2 : Int)))), (37, .bool ((((decide ((1 : Int) ≤ c0_One)) && (decide (c0_One < (ishl .u32 (1 : Int) c0_Length)))) && (decide ((1 : Int) ≤ c0_Two))) && (decide (c0_Two < (ishl .u32 (1 : Int) c0_Length)))))] ∧ Hp S w0 w (Res.obj 41 v1 [.int .i64 c0_Length, .int .u32 c0_One, .int .u32 c0_Two] :: ow)) ?_ ?_
  · rcases Bool.eq_false_or_eq_true (((decide ((1 : Int) ≤ c0_One)) && (decide (c0_One < (ishl .u32 (1 : Int) c0_Length)))) && (decide ((1 : Int) ≤ c0_Two))) with hb11 | hb11
    · skip
      refine st_fa (o' := 2) hf (by decide) (off := 2) (sz := 1) (by kernel_rfl) (by decide) (wantY hf rfl rfl hb11) rfl (hp.ob (i := 0) rfl) rfl ?_
      clear hf; intro a ha hf; clear ha
      refine st_ldO (u := .int .u32 c0_Two) hf (by decide) pl37 (wantY hf rfl rfl hb11) rfl (hp.ob (i := 0) rfl) rfl ?_
      clear hf; intro a ha hf; clear ha
      refine st_move hf (wantY hf rfl rfl hb11) rfl (by decide) ?_
      clear hf; intro a ha hf; clear ha
      refine st_ilss hf (by decide) (wantY hf rfl rfl hb11) rfl rfl ?_
      clear hf; intro a ha hf; clear ha
      refine st_pick (v := .bool (decide (c0_Two < (ishl .u32 (1 : Int) c0_Length)))) hf rfl rfl (fun hb' => ?_) (fun hb' => ?_) (by decide) ?_
      · rfl
      · exact absurd (hb11.symm.trans hb') (by decide)
      clear hf; intro a ha hf; clear ha
      refine st_nil hf (th_n ?_)
      exact ⟨hf.sub ⟨rfl, rfl, (by rw [hb11]; rfl), trivial⟩, hp⟩
    refine st_skip hf (wantN hf rfl rfl hb11) rfl (by decide) ?_ rfl
    clear hf; intro a hf
    refine st_skip hf (wantN hf rfl rfl hb11) rfl (by decide) ?_ rfl
    clear hf; intro a hf
    refine st_skip hf (wantN hf rfl rfl hb11) rfl (by decide) ?_ rfl
    clear hf; intro a hf
    refine st_skip hf (wantN hf rfl rfl hb11) rfl (by decide) ?_ rfl
    clear hf; intro a hf
    refine st_pick (v := .bool false) hf rfl rfl (fun hb' => ?_) (fun hb' => ?_) (by decide) ?_
    · exact absurd (hb11.symm.trans hb') (by decide)
    · rfl
    clear hf; intro a ha hf; clear ha
    refine st_nil hf (th_n ?_)
    exact ⟨hf.sub ⟨rfl, rfl, (by rw [hb11]; rfl), trivial⟩, hp⟩
  rintro a w ⟨hf, hp⟩
  refine st_move hf rfl rfl (by decide) ?_
  clear hf; intro a ha hf; clear ha
  refine wpList_cut 11 (fun a w => Fr 50 a [(49, .bool (((((decide ((1 : Int) ≤ c0_One)) && (decide (c0_One < (ishl .u32 (1 : Int) c0_Length)))) && (decide ((1 : Int) ≤ c0_Two))) && (decide (c0_Two < (ishl .u32 (1 : Int) c0_Length)))) && ((decide ((IntKind.u32.wrap (((ishl .u32 (1 : Int) c0_Length)).tdiv (2 : Int))) ≤ c0_One)) || (decide ((IntKind.u32.wrap (((ishl .u32 (1 : Int) c0_Length)).tdiv (2 : Int))) ≤ c0_Two)))))] ∧ Hp S w0 w (Res.obj 41 v1 [.int .i64 c0_Length, .int .u32 c0_One, .int .u32 c0_Two] :: ow)) ?_ ?_
  · rcases Bool.eq_false_or_eq_true ((((decide ((1 : Int) ≤ c0_One)) && (decide (c0_One < (ishl .u32 (1 : Int) c0_Length)))) && (decide ((1 : Int) ≤ c0_Two))) && (decide (c0_Two < (ishl .u32 (1 : Int) c0_Length)))) with hb13 | hb13
    · skip
      refine st_fa (o' := 1) hf (by decide) (off := 1) (sz := 1) (by kernel_rfl) (by decide) (wantY hf rfl rfl hb13) rfl (hp.ob (i := 0) rfl) rfl ?_
      clear hf; intro a ha hf; clear ha
      refine st_ldO (u := .int .u32 c0_One) hf (by decide) pl37 (wantY hf rfl rfl hb13) rfl (hp.ob (i := 0) rfl) rfl ?_
      clear hf; intro a ha hf; clear ha
      refine st_move hf (wantY hf rfl rfl hb13) rfl (by decide) ?_
      clear hf; intro a ha hf; clear ha
      refine st_igeq hf (by decide) (wantY hf rfl rfl hb13) rfl rfl ?_
      clear hf; intro a ha hf; clear ha
      refine st_move hf (wantY hf rfl rfl hb13) rfl (by decide) ?_
      clear hf; intro a ha hf; clear ha
      refine wpList_cut 5 (fun a w => Fr 50 a [(38, .bool ((((decide ((1 : Int) ≤ c0_One)) && (decide (c0_One < (ishl .u32 (1 : Int) c0_Length)))) && (decide ((1 : Int) ≤ c0_Two))) && (decide (c0_Two < (ishl .u32 (1 : Int) c0_Length))))), (48, .bool ((decide ((IntKind.u32.wrap (((ishl .u32 (1 : Int) c0_Length)).tdiv (2 : Int))) ≤ c0_One)) || (decide ((IntKind.u32.wrap (((ishl .u32 (1 : Int) c0_Length)).tdiv (2 : Int))) ≤ c0_Two))))] ∧ Hp S w0 w (Res.obj 41 v1 [.int .i64 c0_Length, .int .u32 c0_One, .int .u32 c0_Two] :: ow)) ?_ ?_
      · rcases Bool.eq_false_or_eq_true (decide ((IntKind.u32.wrap (((ishl .u32 (1 : Int) c0_Length)).tdiv (2 : Int))) ≤ c0_One)) with hb15 | hb15
        · skip
          refine st_skip hf (wantN hf rfl rfl hb15) rfl (by decide) ?_ rfl
          clear hf; intro a hf
          refine st_skip hf (wantN hf rfl rfl hb15) rfl (by decide) ?_ rfl
          clear hf; intro a hf
          refine st_skip hf (wantN hf rfl rfl hb15) rfl (by decide) ?_ rfl
          clear hf; intro a hf
          refine st_skip hf (wantN hf rfl rfl hb15) rfl (by decide) ?_ rfl
          clear hf; intro a hf
          refine st_pick (v := .bool true) hf (wantY hf rfl rfl hb13) rfl (fun hb' => ?_) (fun hb' => ?_) (by decide) ?_
          · rfl
          · exact absurd (hb15.symm.trans hb') (by decide)
          clear hf; intro a ha hf; clear ha
          refine st_nil hf (th_n ?_)
          exact ⟨hf.sub ⟨rfl, (by rw [hb15]; rfl), trivial⟩, hp⟩
        refine st_fa (o' := 2) hf (by decide) (off := 2) (sz := 1) (by kernel_rfl) (by decide) (wantY hf rfl rfl hb15) rfl (hp.ob (i := 0) rfl) rfl ?_
        clear hf; intro a ha hf; clear ha
        refine st_ldO (u := .int .u32 c0_Two) hf (by decide) pl37 (wantY hf rfl rfl hb15) rfl (hp.ob (i := 0) rfl) rfl ?_
        clear hf; intro a ha hf; clear ha
        refine st_move hf (wantY hf rfl rfl hb15) rfl (by decide) ?_
        clear hf; intro a ha hf; clear ha
        refine st_igeq hf (by decide) (wantY hf rfl rfl hb15) rfl rfl ?_
        clear hf; intro a ha hf; clear ha
        refine st_pick (v := .bool (decide ((IntKind.u32.wrap (((ishl .u32 (1 : Int) c0_Length)).tdiv (2 : Int))) ≤ c0_Two))) hf (wantY hf rfl rfl hb13) rfl (fun hb' => ?_) (fun hb' => ?_) (by decide) ?_
        · exact absurd (hb15.symm.trans hb') (by decide)
        · rfl
        clear hf; intro a ha hf; clear ha
        refine st_nil hf (th_n ?_)
        exact ⟨hf.sub ⟨rfl, (by rw [hb15]; rfl), trivial⟩, hp⟩
      rintro a w ⟨hf, hp⟩
      refine st_pick (v := .bool ((decide ((IntKind.u32.wrap (((ishl .u32 (1 : Int) c0_Length)).tdiv (2 : Int))) ≤ c0_One)) || (decide ((IntKind.u32.wrap (((ishl .u32 (1 : Int) c0_Length)).tdiv (2 : Int))) ≤ c0_Two)))) hf rfl rfl (fun hb' => ?_) (fun hb' => ?_) (by decide) ?_
      · rfl
      · exact absurd (hb13.symm.trans hb') (by decide)
      clear hf; intro a ha hf; clear ha
      refine st_nil hf (th_n ?_)
      exact ⟨hf.sub ⟨(by rw [hb13]; rfl), trivial⟩, hp⟩
    refine st_skip hf (wantN hf rfl rfl hb13) rfl (by decide) ?_ rfl
    clear hf; intro a hf
    refine st_skip hf (wantN hf rfl rfl hb13) rfl (by decide) ?_ rfl
    clear hf; intro a hf
    refine st_skip hf (wantN hf rfl rfl hb13) rfl (by decide) ?_ rfl
    clear hf; intro a hf
    refine st_skip hf (wantN hf rfl rfl hb13) rfl (by decide) ?_ rfl
    clear hf; intro a hf
    refine st_skipU hf (wantN hf rfl rfl hb13) rfl (by decide) ?_
    clear hf; intro a hf
    refine st_skip hf (wantU hf rfl rfl) rfl (by decide) ?_ rfl
    clear hf; intro a hf
    refine st_skip hf (wantU hf rfl rfl) rfl (by decide) ?_ rfl
    clear hf; intro a hf
    refine st_skip hf (wantU hf rfl rfl) rfl (by decide) ?_ rfl
    clear hf; intro a hf
    refine st_skip hf (wantU hf rfl rfl) rfl (by decide) ?_ rfl
    clear hf; intro a hf
    refine st_skip hf (wantN hf rfl rfl hb13) rfl (by decide) ?_ rfl
    clear hf; intro a hf
    refine st_pick (v := .bool false) hf rfl rfl (fun hb' => ?_) (fun hb' => ?_) (by decide) ?_
    · exact absurd (hb13.symm.trans hb') (by decide)
    · rfl
    clear hf; intro a ha hf; clear ha
    refine st_nil hf (th_n ?_)
    exact ⟨hf.sub ⟨(by rw [hb13]; rfl), trivial⟩, hp⟩
  rintro a w ⟨hf, hp⟩
  refine st_assign hf rfl rfl (by decide) ?_
  clear hf; intro a ha hf; clear ha
  refine st_nil hf ?_
  refine th_n ?_
  refine wp_ret ?_
  obtain rfl := Option.some.inj h
  have hp : Hp _ _ _ (ow) := Hp.sel (pre := [Res.obj 41 v1 [.int .i64 c0_Length, .int .u32 c0_One, .int .u32 c0_Two]]) (tail := ow) (rs' := []) hp [] (by decide) (by simp) rfl
  exact ⟨rfl, ⟨hf.sub ⟨rfl, trivial⟩, hp⟩⟩

noncomputable def f_foghornref22_Fits.s1c (marks1 : (List Int)) (i5 : Int) : Option (Int ⊕ (Unit ⊕ Bool)) := (if (decide (i5 < (marks1.length : Int))) = true then (if 0 ≤ i5 ∧ i5 < (marks1.length : Int) then (if (decide ((2 : Int) < (gt marks1 i5))) = true then (some (Sum.inr (Sum.inr false))) else (some (Sum.inl (IntKind.i64.wrap (i5 + (1 : Int)))))) else none) else (some (Sum.inr (Sum.inl ()))))
noncomputable def f_foghornref22_Fits.s1 (marks1 : (List Int)) (s : Int) : Option (Int ⊕ (Unit ⊕ Bool)) := f_foghornref22_Fits.s1c marks1 s
noncomputable def f_foghornref22_Fits (c0_Length : Int) (c0_One : Int) (c0_Two : Int) (marks1 : (List Int)) : Option Bool := ((f_foghornref22_May c0_Length c0_One c0_Two).bind fun q3 => (if ((((!q3) || (decide ((32768 : Int) < (marks1.length : Int)))) || ((((marks1.length : Int)).tmod (2 : Int)) != (0 : Int))) || (decide ((marks1.length : Int) < (IntKind.i64.wrap ((2 : Int) * (IntKind.i64.wrap (c0_Length - (1 : Int)))))))) = true then (some false) else ((loop (f_foghornref22_Fits.s1 marks1) (0 : Int)).bind (fun q12 => sm q12 (fun q13 => (some true)) (fun q14 => (some q14))))))
theorem f_foghornref22_Fits_c {S : Nat → Prop} {w0 w : World} {ow : List Res} (hp : Hp S w0 w ow) (c0_Length : Int) (c0_One : Int) (c0_Two : Int) (vmarks1 : Value) (marks1 : (List Int)) (hmarks1 : RdS (Ek.int .u8) S w0 vmarks1 marks1) {r : Bool} (h : f_foghornref22_Fits c0_Length c0_One c0_Two marks1 = some r) :
    Calls Try.prog 33 #[.agg #[.int .i64 c0_Length, .int .u32 c0_One, .int .u32 c0_Two], vmarks1] w (fun e w' => e = .returned (.bool r) ∧ Hp S w0 w' (ow)) := by
  unfold f_foghornref22_Fits at h
  refine enter (n := 40) (args := [.agg #[.int .i64 c0_Length, .int .u32 c0_One, .int .u32 c0_Two], vmarks1]) Try.func33 rfl rfl (Nat.le_of_ble_eq_true rfl) fun a hf => ?_
  replace hf : Fr 40 a [(0, .agg #[.int .i64 c0_Length, .int .u32 c0_One, .int .u32 c0_Two]), (1, vmarks1)] := hf
  refine wp_mono (Q := fun e a w => e = .ret ∧ Fr 40 a [(4, .bool r)] ∧ Hp S w0 w (ow)) ?_ ?_
  rotate_left
  · rintro e a w ⟨rfl, hf, hp⟩
    exact ret1 hf rfl rfl ⟨rfl, hp⟩
  refine wp_seq ?_
  refine wp_reg ?_
  refine st_boxO (cs := [.int .i64 c0_Length, .int .u32 c0_One, .int .u32 c0_Two]) hf (by decide) hp rfl rfl rfl ?_
  clear hf; intro a w v1 hf hp0; clear hp; have hp := hp0; clear hp0
  replace hp : Hp _ _ _ (Res.obj 41 v1 [.int .i64 c0_Length, .int .u32 c0_One, .int .u32 c0_Two] :: ow) := hp
  refine st_assign hf rfl rfl (by decide) ?_
  clear hf; intro a ha hf; clear ha
  refine st_nil hf ?_
  refine th_n ?_
  refine wp_seq ?_
  refine wp_seq ?_
  refine wp_reg ?_
  refine st_ldOA (m := 3) (us := [.int .i64 c0_Length, .int .u32 c0_One, .int .u32 c0_Two]) hf (by decide) (by kernel_rfl) rfl rfl (hp.ob (i := 0) rfl) rfl rfl ?_
  clear hf; intro a ha hf; clear ha
  obtain ⟨q3, hcall4, h⟩ := bnd h
  refine st_call hf (by decide) Try.func49 rfl rfl rfl rfl rfl (f_foghornref22_May_c hp _ _ _ hcall4) ?_
  rintro _ w ⟨rfl, hp0⟩
  clear hp; have hp := hp0; clear hp0
  replace hp : Hp _ _ _ (Res.obj 41 v1 [.int .i64 c0_Length, .int .u32 c0_One, .int .u32 c0_Two] :: ow) := hp
  refine ⟨_, rfl, ?_⟩
  clear hf; intro a hf
  refine st_not hf (by decide) rfl rfl ?_
  clear hf; intro a ha hf; clear ha
  refine st_move hf rfl rfl (by decide) ?_
  clear hf; intro a ha hf; clear ha
  refine wpList_cut 4 (fun a w => Fr 40 a [(1, vmarks1), (2, optr v1 0), (13, .bool ((!q3) || (decide ((32768 : Int) < (marks1.length : Int)))))] ∧ Hp S w0 w (Res.obj 41 v1 [.int .i64 c0_Length, .int .u32 c0_One, .int .u32 c0_Two] :: ow)) ?_ ?_
  · rcases Bool.eq_false_or_eq_true (!q3) with hb6 | hb6
    · skip
      refine st_skip hf (wantN hf rfl rfl hb6) rfl (by decide) ?_ rfl
      clear hf; intro a hf
      refine st_skip hf (wantN hf rfl rfl hb6) rfl (by decide) ?_ rfl
      clear hf; intro a hf
      refine st_skip hf (wantN hf rfl rfl hb6) rfl (by decide) ?_ rfl
      clear hf; intro a hf
      refine st_pick (v := .bool true) hf rfl rfl (fun hb' => ?_) (fun hb' => ?_) (by decide) ?_
      · rfl
      · exact absurd (hb6.symm.trans hb') (by decide)
      clear hf; intro a ha hf; clear ha
      refine st_nil hf (th_n ?_)
      exact ⟨hf.sub ⟨rfl, rfl, (by rw [hb6]; rfl), trivial⟩, hp⟩
    refine st_move hf (wantY hf rfl rfl hb6) rfl (by decide) ?_
    clear hf; intro a ha hf; clear ha
    refine st_len (E := (Ek.int .u8)) hf (by decide) Try.underlying29 (wantY hf rfl rfl hb6) rfl (hmarks1.sl hp) ?_
    clear hf; intro a ha hf; clear ha
    refine st_igtr hf (by decide) (wantY hf rfl rfl hb6) rfl rfl ?_
    clear hf; intro a ha hf; clear ha
    refine st_pick (v := .bool (decide ((32768 : Int) < (marks1.length : Int)))) hf rfl rfl (fun hb' => ?_) (fun hb' => ?_) (by decide) ?_
    · exact absurd (hb6.symm.trans hb') (by decide)
    · rfl
    clear hf; intro a ha hf; clear ha
    refine st_nil hf (th_n ?_)
    exact ⟨hf.sub ⟨rfl, rfl, (by rw [hb6]; rfl), trivial⟩, hp⟩
  rintro a w ⟨hf, hp⟩
  refine st_move hf rfl rfl (by decide) ?_
  clear hf; intro a ha hf; clear ha
  refine wpList_cut 5 (fun a w => Fr 40 a [(1, vmarks1), (2, optr v1 0), (19, .bool (((!q3) || (decide ((32768 : Int) < (marks1.length : Int)))) || ((((marks1.length : Int)).tmod (2 : Int)) != (0 : Int))))] ∧ Hp S w0 w (Res.obj 41 v1 [.int .i64 c0_Length, .int .u32 c0_One, .int .u32 c0_Two] :: ow)) ?_ ?_
  · rcases Bool.eq_false_or_eq_true ((!q3) || (decide ((32768 : Int) < (marks1.length : Int)))) with hb8 | hb8
    · skip
      refine st_skip hf (wantN hf rfl rfl hb8) rfl (by decide) ?_ rfl
      clear hf; intro a hf
      refine st_skip hf (wantN hf rfl rfl hb8) rfl (by decide) ?_ rfl
      clear hf; intro a hf
      refine st_skip hf (wantN hf rfl rfl hb8) rfl (by decide) ?_ rfl
      clear hf; intro a hf
      refine st_skip hf (wantN hf rfl rfl hb8) rfl (by decide) ?_ rfl
      clear hf; intro a hf
      refine st_pick (v := .bool true) hf rfl rfl (fun hb' => ?_) (fun hb' => ?_) (by decide) ?_
      · rfl
      · exact absurd (hb8.symm.trans hb') (by decide)
      clear hf; intro a ha hf; clear ha
      refine st_nil hf (th_n ?_)
      exact ⟨hf.sub ⟨rfl, rfl, (by rw [hb8]; rfl), trivial⟩, hp⟩
    refine st_move hf (wantY hf rfl rfl hb8) rfl (by decide) ?_
    clear hf; intro a ha hf; clear ha
    refine st_len (E := (Ek.int .u8)) hf (by decide) Try.underlying29 (wantY hf rfl rfl hb8) rfl (hmarks1.sl hp) ?_
    clear hf; intro a ha hf; clear ha
    refine st_irem hf (by decide) (wantY hf rfl rfl hb8) rfl rfl (by decide) ?_
    clear hf; intro a ha hf; clear ha
    refine st_ineq hf (by decide) (wantY hf rfl rfl hb8) rfl rfl ?_
    clear hf; intro a ha hf; clear ha
    refine st_pick (v := .bool ((((marks1.length : Int)).tmod (2 : Int)) != (0 : Int))) hf rfl rfl (fun hb' => ?_) (fun hb' => ?_) (by decide) ?_
    · exact absurd (hb8.symm.trans hb') (by decide)
    · rfl
    clear hf; intro a ha hf; clear ha
    refine st_nil hf (th_n ?_)
    exact ⟨hf.sub ⟨rfl, rfl, (by rw [hb8]; rfl), trivial⟩, hp⟩
  rintro a w ⟨hf, hp⟩
  refine st_move hf rfl rfl (by decide) ?_
  clear hf; intro a ha hf; clear ha
  refine wpList_cut 8 (fun a w => Fr 40 a [(1, vmarks1), (28, .bool ((((!q3) || (decide ((32768 : Int) < (marks1.length : Int)))) || ((((marks1.length : Int)).tmod (2 : Int)) != (0 : Int))) || (decide ((marks1.length : Int) < (IntKind.i64.wrap ((2 : Int) * (IntKind.i64.wrap (c0_Length - (1 : Int)))))))))] ∧ Hp S w0 w (Res.obj 41 v1 [.int .i64 c0_Length, .int .u32 c0_One, .int .u32 c0_Two] :: ow)) ?_ ?_
  · rcases Bool.eq_false_or_eq_true (((!q3) || (decide ((32768 : Int) < (marks1.length : Int)))) || ((((marks1.length : Int)).tmod (2 : Int)) != (0 : Int))) with hb10 | hb10
    · skip
      refine st_skip hf (wantN hf rfl rfl hb10) rfl (by decide) ?_ rfl
      clear hf; intro a hf
      refine st_skip hf (wantN hf rfl rfl hb10) rfl (by decide) ?_ rfl
      clear hf; intro a hf
      refine st_skip hf (wantN hf rfl rfl hb10) rfl (by decide) ?_ rfl
      clear hf; intro a hf
      refine st_skip hf (wantN hf rfl rfl hb10) rfl (by decide) ?_ rfl
      clear hf; intro a hf
      refine st_skip hf (wantN hf rfl rfl hb10) rfl (by decide) ?_ rfl
      clear hf; intro a hf
      refine st_skip hf (wantN hf rfl rfl hb10) rfl (by decide) ?_ rfl
      clear hf; intro a hf
      refine st_skip hf (wantN hf rfl rfl hb10) rfl (by decide) ?_ rfl
      clear hf; intro a hf
      refine st_pick (v := .bool true) hf rfl rfl (fun hb' => ?_) (fun hb' => ?_) (by decide) ?_
      · rfl
      · exact absurd (hb10.symm.trans hb') (by decide)
      clear hf; intro a ha hf; clear ha
      refine st_nil hf (th_n ?_)
      exact ⟨hf.sub ⟨rfl, (by rw [hb10]; rfl), trivial⟩, hp⟩
    refine st_move hf (wantY hf rfl rfl hb10) rfl (by decide) ?_
    clear hf; intro a ha hf; clear ha
    refine st_len (E := (Ek.int .u8)) hf (by decide) Try.underlying29 (wantY hf rfl rfl hb10) rfl (hmarks1.sl hp) ?_
    clear hf; intro a ha hf; clear ha
    refine st_fa (o' := 0) hf (by decide) (off := 0) (sz := 1) (by kernel_rfl) (by decide) (wantY hf rfl rfl hb10) rfl (hp.ob (i := 0) rfl) rfl ?_
    clear hf; intro a ha hf; clear ha
    refine st_ldO (u := .int .i64 c0_Length) hf (by decide) pl3 (wantY hf rfl rfl hb10) rfl (hp.ob (i := 0) rfl) rfl ?_
    clear hf; intro a ha hf; clear ha
    refine st_isub hf (by decide) (wantY hf rfl rfl hb10) rfl rfl ?_
    clear hf; intro a ha hf; clear ha
    refine st_imul hf (by decide) (wantY hf rfl rfl hb10) rfl rfl ?_
    clear hf; intro a ha hf; clear ha
    refine st_ilss hf (by decide) (wantY hf rfl rfl hb10) rfl rfl ?_
    clear hf; intro a ha hf; clear ha
    refine st_pick (v := .bool (decide ((marks1.length : Int) < (IntKind.i64.wrap ((2 : Int) * (IntKind.i64.wrap (c0_Length - (1 : Int)))))))) hf rfl rfl (fun hb' => ?_) (fun hb' => ?_) (by decide) ?_
    · exact absurd (hb10.symm.trans hb') (by decide)
    · rfl
    clear hf; intro a ha hf; clear ha
    refine st_nil hf (th_n ?_)
    exact ⟨hf.sub ⟨rfl, (by rw [hb10]; rfl), trivial⟩, hp⟩
  rintro a w ⟨hf, hp⟩
  refine st_nil hf ?_
  refine th_n ?_
  refine wp_if hf rfl (fun hb => ?_) (fun hb => ?_)
  · replace h := ifT h hb
    refine wp_seq ?_
    refine wp_reg ?_
    refine st_assign hf rfl rfl (by decide) ?_
    clear hf; intro a ha hf; clear ha
    refine st_nil hf ?_
    refine th_n ?_
    refine wp_ret ?_
    refine th_r ?_
    obtain rfl := Option.some.inj h
    have hp : Hp _ _ _ (ow) := Hp.sel (pre := [Res.obj 41 v1 [.int .i64 c0_Length, .int .u32 c0_One, .int .u32 c0_Two]]) (tail := ow) (rs' := []) hp [] (by decide) (by simp) rfl
    exact ⟨rfl, ⟨hf.sub ⟨rfl, trivial⟩, hp⟩⟩
  replace h := ifF h hb
  refine wp_skip ?_
  refine th_n ?_
  refine wp_seq ?_
  refine wp_seq ?_
  refine wp_reg ?_
  refine st_assign hf rfl rfl (by decide) ?_
  clear hf; intro a ha hf; clear ha
  refine st_nil hf ?_
  refine th_n ?_
  refine wp_block ?_
  obtain ⟨q12, hl, h⟩ := bnd h
  have hp : Hp _ _ _ (ow) := Hp.sel (pre := [Res.obj 41 v1 [.int .i64 c0_Length, .int .u32 c0_One, .int .u32 c0_Two]]) (tail := ow) (rs' := []) hp [] (by decide) (by simp) rfl
  refine wp_loop_pure (f := (f_foghornref22_Fits.s1 marks1)) (s := (0 : Int)) (fun s a w => Fr 40 a [(1, vmarks1), (5, .int .i64 s)] ∧ Hp S w0 w (ow)) (fun q e a w => match q with | (Sum.inl q) => e = .exit 0 ∧ Fr 40 a [] ∧ Hp S w0 w (ow) | (Sum.inr q) => e = .ret ∧ Fr 40 a [(4, .bool q)] ∧ Hp S w0 w (ow)) ?_ hl ⟨hf.sub ⟨rfl, rfl, trivial⟩, hp⟩ ?_
  · clear hl hf hp
    intro s x a w h hI
    obtain ⟨i5, hs⟩ : ∃ z, z = s := ⟨s, rfl⟩; subst hs
    obtain ⟨hf, hp⟩ : Fr 40 a [(1, vmarks1), (5, .int .i64 i5)] ∧ Hp S w0 w (ow) := hI
    replace h : f_foghornref22_Fits.s1c marks1 i5 = some x := h
    unfold f_foghornref22_Fits.s1c at h
    refine wp_seq ?_
    refine wp_seq ?_
    refine wp_reg ?_
    refine st_move hf rfl rfl (by decide) ?_
    clear hf; intro a ha hf; clear ha
    refine st_move hf rfl rfl (by decide) ?_
    clear hf; intro a ha hf; clear ha
    refine st_len (E := (Ek.int .u8)) hf (by decide) Try.underlying29 rfl rfl (hmarks1.sl hp) ?_
    clear hf; intro a ha hf; clear ha
    refine st_ilss hf (by decide) rfl rfl rfl ?_
    clear hf; intro a ha hf; clear ha
    refine st_nil hf ?_
    refine th_n ?_
    refine wp_if hf rfl (fun hb => ?_) (fun hb => ?_)
    · replace h := ifT h hb
      refine wp_skip ?_
      refine th_n ?_
      refine wp_seq ?_
      refine wp_block ?_
      refine wp_seq ?_
      refine wp_reg ?_
      refine st_move hf rfl rfl (by decide) ?_
      clear hf; intro a ha hf; clear ha
      refine st_move hf rfl rfl (by decide) ?_
      clear hf; intro a ha hf; clear ha
      obtain ⟨hc11, h⟩ := chk h
      refine st_index (E := (Ek.int .u8)) hf (by decide) Try.underlying29 elt5 rfl rfl rfl (hmarks1.sl hp) hc11.1 hc11.2 ?_
      clear hf; intro a ha hf; clear ha
      refine st_ldI hf (by decide) pl5 rfl rfl (hmarks1.sl hp) hc11.1 hc11.2 ?_
      clear hf; intro a ha hf; clear ha
      refine st_igtr hf (by decide) rfl rfl rfl ?_
      clear hf; intro a ha hf; clear ha
      refine st_nil hf ?_
      refine th_n ?_
      refine wp_if hf rfl (fun hb => ?_) (fun hb => ?_)
      · replace h := ifT h hb
        refine wp_seq ?_
        refine wp_reg ?_
        refine st_assign hf rfl rfl (by decide) ?_
        clear hf; intro a ha hf; clear ha
        refine st_nil hf ?_
        refine th_n ?_
        refine wp_ret ?_
        refine ib_r ?_
        refine th_r ?_
        obtain rfl := Option.some.inj h
        exact rnd_r (by simp) ⟨rfl, ⟨hf.sub ⟨rfl, trivial⟩, hp⟩⟩
      replace h := ifF h hb
      refine wp_skip ?_
      refine ib_n ?_
      refine th_n ?_
      refine wp_reg ?_
      refine st_move hf rfl rfl (by decide) ?_
      clear hf; intro a ha hf; clear ha
      refine st_iadd hf (by decide) rfl rfl rfl ?_
      clear hf; intro a ha hf; clear ha
      refine st_assign hf rfl rfl (by decide) ?_
      clear hf; intro a ha hf; clear ha
      refine st_nil hf ?_
      obtain rfl := Option.some.inj h
      exact rnd_l ⟨hf.sub ⟨rfl, rfl, trivial⟩, hp⟩
    replace h := ifF h hb
    refine wp_exit ?_
    refine th_e ?_
    obtain rfl := Option.some.inj h
    exact rnd_r (by simp) ⟨rfl, hf.sub trivial, hp⟩
  clear hl hf hp
  intro e a w hne hO
  rcases q12 with q13 | q14
  · replace h := smL h
    obtain ⟨rfl, hf, hp⟩ := hO
    refine ib_same ?_
    refine th_n ?_
    refine wp_seq ?_
    refine wp_reg ?_
    refine st_assign hf rfl rfl (by decide) ?_
    clear hf; intro a ha hf; clear ha
    refine st_nil hf ?_
    refine th_n ?_
    refine wp_ret ?_
    obtain rfl := Option.some.inj h
    exact ⟨rfl, ⟨hf.sub ⟨rfl, trivial⟩, hp⟩⟩
  replace h := smR h
  obtain ⟨rfl, hf, hp⟩ := hO
  refine ib_r ?_
  refine th_r ?_
  obtain rfl := Option.some.inj h
  exact ⟨rfl, ⟨hf.sub ⟨rfl, trivial⟩, hp⟩⟩

noncomputable def f_foghornref22_odd.s1c (a0 : Int) (b1 : Int) (out5 : Bool) : Option ((Int × Int × Bool) ⊕ Bool) := (if ((decide ((0 : Int) < a0)) && (decide ((0 : Int) < b1))) = true then (if ((((a0).tmod (2 : Int)) == (1 : Int)) && (((b1).tmod (2 : Int)) == (1 : Int))) = true then (some (Sum.inl ((IntKind.u32.wrap ((a0).tdiv (2 : Int))), (IntKind.u32.wrap ((b1).tdiv (2 : Int))), (!out5)))) else (some (Sum.inl ((IntKind.u32.wrap ((a0).tdiv (2 : Int))), (IntKind.u32.wrap ((b1).tdiv (2 : Int))), out5)))) else (some (Sum.inr out5)))
noncomputable def f_foghornref22_odd.s1  (s : (Int × Int × Bool)) : Option ((Int × Int × Bool) ⊕ Bool) := f_foghornref22_odd.s1c s.1 s.2.1 s.2.2
noncomputable def f_foghornref22_odd (a0 : Int) (b1 : Int) : Option Bool := ((loop f_foghornref22_odd.s1 (a0, b1, false)).bind (fun q5 => (some q5)))
theorem f_foghornref22_odd_c {S : Nat → Prop} {w0 w : World} {ow : List Res} (hp : Hp S w0 w ow) (a0 : Int) (b1 : Int) {r : Bool} (h : f_foghornref22_odd a0 b1 = some r) :
    Calls Try.prog 50 #[.int .u32 a0, .int .u32 b1] w (fun e w' => e = .returned (.bool r) ∧ Hp S w0 w' (ow)) := by
  unfold f_foghornref22_odd at h
  refine enter (n := 27) (args := [.int .u32 a0, .int .u32 b1]) Try.func50 rfl rfl (Nat.le_of_ble_eq_true rfl) fun a hf => ?_
  replace hf : Fr 27 a [(0, .int .u32 a0), (1, .int .u32 b1)] := hf
  refine wp_mono (Q := fun e a w => e = .ret ∧ Fr 27 a [(4, .bool r)] ∧ Hp S w0 w (ow)) ?_ ?_
  rotate_left
  · rintro e a w ⟨rfl, hf, hp⟩
    exact ret1 hf rfl rfl ⟨rfl, hp⟩
  refine wp_seq ?_
  refine wp_reg ?_
  refine st_assign hf rfl rfl (by decide) ?_
  clear hf; intro a ha hf; clear ha
  refine st_nil hf ?_
  refine th_n ?_
  refine wp_seq ?_
  refine wp_reg ?_
  refine st_assign hf rfl rfl (by decide) ?_
  clear hf; intro a ha hf; clear ha
  refine st_nil hf ?_
  refine th_n ?_
  refine wp_seq ?_
  refine wp_block ?_
  obtain ⟨q5, hl, h⟩ := bnd h
  refine wp_loop_pure (f := f_foghornref22_odd.s1) (s := (a0, b1, false)) (fun s a w => Fr 27 a [(0, .int .u32 s.1), (1, .int .u32 s.2.1), (5, .bool s.2.2)] ∧ Hp S w0 w (ow)) (fun q e a w => e = .exit 0 ∧ Fr 27 a [(5, .bool q)] ∧ Hp S w0 w (ow)) ?_ hl ⟨hf.sub ⟨rfl, rfl, rfl, trivial⟩, hp⟩ ?_
  · clear hl hf hp
    intro s x a w h hI
    obtain ⟨a0, b1, out5⟩ := s
    obtain ⟨hf, hp⟩ : Fr 27 a [(0, .int .u32 a0), (1, .int .u32 b1), (5, .bool out5)] ∧ Hp S w0 w (ow) := hI
    replace h : f_foghornref22_odd.s1c a0 b1 out5 = some x := h
    unfold f_foghornref22_odd.s1c at h
    refine wp_seq ?_
    refine wp_seq ?_
    refine wp_reg ?_
    refine st_move hf rfl rfl (by decide) ?_
    clear hf; intro a ha hf; clear ha
    refine st_igtr hf (by decide) rfl rfl rfl ?_
    clear hf; intro a ha hf; clear ha
    refine st_move hf rfl rfl (by decide) ?_
    clear hf; intro a ha hf; clear ha
    refine wpList_cut 3 (fun a w => Fr 27 a [(0, .int .u32 a0), (1, .int .u32 b1), (5, .bool out5), (11, .bool ((decide ((0 : Int) < a0)) && (decide ((0 : Int) < b1))))] ∧ Hp S w0 w (ow)) ?_ ?_
    · rcases Bool.eq_false_or_eq_true (decide ((0 : Int) < a0)) with hb2 | hb2
      · skip
        refine st_move hf (wantY hf rfl rfl hb2) rfl (by decide) ?_
        clear hf; intro a ha hf; clear ha
        refine st_igtr hf (by decide) (wantY hf rfl rfl hb2) rfl rfl ?_
        clear hf; intro a ha hf; clear ha
        refine st_pick (v := .bool (decide ((0 : Int) < b1))) hf rfl rfl (fun hb' => ?_) (fun hb' => ?_) (by decide) ?_
        · rfl
        · exact absurd (hb2.symm.trans hb') (by decide)
        clear hf; intro a ha hf; clear ha
        refine st_nil hf (th_n ?_)
        exact ⟨hf.sub ⟨rfl, rfl, rfl, (by rw [hb2]; rfl), trivial⟩, hp⟩
      refine st_skip hf (wantN hf rfl rfl hb2) rfl (by decide) ?_ rfl
      clear hf; intro a hf
      refine st_skip hf (wantN hf rfl rfl hb2) rfl (by decide) ?_ rfl
      clear hf; intro a hf
      refine st_pick (v := .bool false) hf rfl rfl (fun hb' => ?_) (fun hb' => ?_) (by decide) ?_
      · exact absurd (hb2.symm.trans hb') (by decide)
      · rfl
      clear hf; intro a ha hf; clear ha
      refine st_nil hf (th_n ?_)
      exact ⟨hf.sub ⟨rfl, rfl, rfl, (by rw [hb2]; rfl), trivial⟩, hp⟩
    rintro a w ⟨hf, hp⟩
    refine st_nil hf ?_
    refine th_n ?_
    refine wp_if hf rfl (fun hb => ?_) (fun hb => ?_)
    · replace h := ifT h hb
      refine wp_skip ?_
      refine th_n ?_
      refine wp_block ?_
      refine wp_seq ?_
      refine wp_seq ?_
      refine wp_reg ?_
      refine st_move hf rfl rfl (by decide) ?_
      clear hf; intro a ha hf; clear ha
      refine st_irem hf (by decide) rfl rfl rfl (by decide) ?_
      clear hf; intro a ha hf; clear ha
      refine st_ieql hf (by decide) rfl rfl rfl ?_
      clear hf; intro a ha hf; clear ha
      refine st_move hf rfl rfl (by decide) ?_
      clear hf; intro a ha hf; clear ha
      refine wpList_cut 4 (fun a w => Fr 27 a [(0, .int .u32 a0), (1, .int .u32 b1), (5, .bool out5), (19, .bool ((((a0).tmod (2 : Int)) == (1 : Int)) && (((b1).tmod (2 : Int)) == (1 : Int))))] ∧ Hp S w0 w (ow)) ?_ ?_
      · rcases Bool.eq_false_or_eq_true (((a0).tmod (2 : Int)) == (1 : Int)) with hb4 | hb4
        · skip
          refine st_move hf (wantY hf rfl rfl hb4) rfl (by decide) ?_
          clear hf; intro a ha hf; clear ha
          refine st_irem hf (by decide) (wantY hf rfl rfl hb4) rfl rfl (by decide) ?_
          clear hf; intro a ha hf; clear ha
          refine st_ieql hf (by decide) (wantY hf rfl rfl hb4) rfl rfl ?_
          clear hf; intro a ha hf; clear ha
          refine st_pick (v := .bool (((b1).tmod (2 : Int)) == (1 : Int))) hf rfl rfl (fun hb' => ?_) (fun hb' => ?_) (by decide) ?_
          · rfl
          · exact absurd (hb4.symm.trans hb') (by decide)
          clear hf; intro a ha hf; clear ha
          refine st_nil hf (th_n ?_)
          exact ⟨hf.sub ⟨rfl, rfl, rfl, (by rw [hb4]; rfl), trivial⟩, hp⟩
        refine st_skip hf (wantN hf rfl rfl hb4) rfl (by decide) ?_ rfl
        clear hf; intro a hf
        refine st_skip hf (wantN hf rfl rfl hb4) rfl (by decide) ?_ rfl
        clear hf; intro a hf
        refine st_skip hf (wantN hf rfl rfl hb4) rfl (by decide) ?_ rfl
        clear hf; intro a hf
        refine st_pick (v := .bool false) hf rfl rfl (fun hb' => ?_) (fun hb' => ?_) (by decide) ?_
        · exact absurd (hb4.symm.trans hb') (by decide)
        · rfl
        clear hf; intro a ha hf; clear ha
        refine st_nil hf (th_n ?_)
        exact ⟨hf.sub ⟨rfl, rfl, rfl, (by rw [hb4]; rfl), trivial⟩, hp⟩
      rintro a w ⟨hf, hp⟩
      refine st_nil hf ?_
      refine th_n ?_
      refine wp_if hf rfl (fun hb => ?_) (fun hb => ?_)
      · replace h := ifT h hb
        refine wp_reg ?_
        refine st_move hf rfl rfl (by decide) ?_
        clear hf; intro a ha hf; clear ha
        refine st_not hf (by decide) rfl rfl ?_
        clear hf; intro a ha hf; clear ha
        refine st_assign hf rfl rfl (by decide) ?_
        clear hf; intro a ha hf; clear ha
        refine st_nil hf ?_
        refine th_n ?_
        refine wp_seq ?_
        refine wp_reg ?_
        refine st_move hf rfl rfl (by decide) ?_
        clear hf; intro a ha hf; clear ha
        refine st_iquo hf (by decide) rfl rfl rfl (by decide) ?_
        clear hf; intro a ha hf; clear ha
        refine st_assign hf rfl rfl (by decide) ?_
        clear hf; intro a ha hf; clear ha
        refine st_nil hf ?_
        refine th_n ?_
        refine wp_reg ?_
        refine st_move hf rfl rfl (by decide) ?_
        clear hf; intro a ha hf; clear ha
        refine st_iquo hf (by decide) rfl rfl rfl (by decide) ?_
        clear hf; intro a ha hf; clear ha
        refine st_assign hf rfl rfl (by decide) ?_
        clear hf; intro a ha hf; clear ha
        refine st_nil hf ?_
        refine ib_n ?_
        obtain rfl := Option.some.inj h
        exact rnd_l ⟨hf.sub ⟨rfl, rfl, rfl, trivial⟩, hp⟩
      replace h := ifF h hb
      refine wp_skip ?_
      refine th_n ?_
      refine wp_seq ?_
      refine wp_reg ?_
      refine st_move hf rfl rfl (by decide) ?_
      clear hf; intro a ha hf; clear ha
      refine st_iquo hf (by decide) rfl rfl rfl (by decide) ?_
      clear hf; intro a ha hf; clear ha
      refine st_assign hf rfl rfl (by decide) ?_
      clear hf; intro a ha hf; clear ha
      refine st_nil hf ?_
      refine th_n ?_
      refine wp_reg ?_
      refine st_move hf rfl rfl (by decide) ?_
      clear hf; intro a ha hf; clear ha
      refine st_iquo hf (by decide) rfl rfl rfl (by decide) ?_
      clear hf; intro a ha hf; clear ha
      refine st_assign hf rfl rfl (by decide) ?_
      clear hf; intro a ha hf; clear ha
      refine st_nil hf ?_
      refine ib_n ?_
      obtain rfl := Option.some.inj h
      exact rnd_l ⟨hf.sub ⟨rfl, rfl, rfl, trivial⟩, hp⟩
    replace h := ifF h hb
    refine wp_exit ?_
    refine th_e ?_
    obtain rfl := Option.some.inj h
    exact rnd_r (by simp) ⟨rfl, hf.sub ⟨rfl, trivial⟩, hp⟩
  clear hl hf hp
  intro e a w hne hO
  obtain ⟨rfl, hf, hp⟩ := hO
  refine ib_same ?_
  refine th_n ?_
  refine wp_seq ?_
  refine wp_reg ?_
  refine st_move hf rfl rfl (by decide) ?_
  clear hf; intro a ha hf; clear ha
  refine st_assign hf rfl rfl (by decide) ?_
  clear hf; intro a ha hf; clear ha
  refine st_nil hf ?_
  refine th_n ?_
  refine wp_ret ?_
  obtain rfl := Option.some.inj h
  exact ⟨rfl, ⟨hf.sub ⟨rfl, trivial⟩, hp⟩⟩

noncomputable def f_foghornref22_Step.j1 (c0_One : Int) (c0_Two : Int) (all9 : Int) : Option (Int × Bool × Bool) := ((f_foghornref22_odd all9 c0_One).bind fun q9 => ((f_foghornref22_odd all9 c0_Two).bind fun q11 => (some ((IntKind.u32.wrap ((all9).tdiv (2 : Int))), q9, q11))))
noncomputable def f_foghornref22_Step (c0_Length : Int) (c0_One : Int) (c0_Two : Int) (state1 : Int) (bit2 : Bool) : Option (Int × Bool × Bool) := (if bit2 = true then (if 0 ≤ (IntKind.i64.wrap (c0_Length - (1 : Int))) then (f_foghornref22_Step.j1 c0_One c0_Two (IntKind.u32.wrap (state1 + (ishl .u32 (1 : Int) (IntKind.i64.wrap (c0_Length - (1 : Int))))))) else none) else (f_foghornref22_Step.j1 c0_One c0_Two state1))
theorem f_foghornref22_Step_c {S : Nat → Prop} {w0 w : World} {ow : List Res} (hp : Hp S w0 w ow) (c0_Length : Int) (c0_One : Int) (c0_Two : Int) (state1 : Int) (bit2 : Bool) {r : (Int × Bool × Bool)} (h : f_foghornref22_Step c0_Length c0_One c0_Two state1 bit2 = some r) :
    Calls Try.prog 35 #[.agg #[.int .i64 c0_Length, .int .u32 c0_One, .int .u32 c0_Two], .int .u32 state1, .bool bit2] w (fun e w' => e = .returned (.tuple #[.int .u32 r.1, .bool r.2.1, .bool r.2.2]) ∧ Hp S w0 w' (ow)) := by
  unfold f_foghornref22_Step at h
  refine enter (n := 28) (args := [.agg #[.int .i64 c0_Length, .int .u32 c0_One, .int .u32 c0_Two], .int .u32 state1, .bool bit2]) Try.func35 rfl rfl (Nat.le_of_ble_eq_true rfl) fun a hf => ?_
  replace hf : Fr 28 a [(0, .agg #[.int .i64 c0_Length, .int .u32 c0_One, .int .u32 c0_Two]), (1, .int .u32 state1), (2, .bool bit2)] := hf
  refine wp_mono (Q := fun e a w => e = .ret ∧ Fr 28 a [(6, .int .u32 r.1), (7, .bool r.2.1), (8, .bool r.2.2)] ∧ Hp S w0 w (ow)) ?_ ?_
  rotate_left
  · rintro e a w ⟨rfl, hf, hp⟩
    exact ret3 hf rfl rfl rfl rfl ⟨rfl, hp⟩
  refine wp_seq ?_
  refine wp_reg ?_
  refine st_boxO (cs := [.int .i64 c0_Length, .int .u32 c0_One, .int .u32 c0_Two]) hf (by decide) hp rfl rfl rfl ?_
  clear hf; intro a w v1 hf hp0; clear hp; have hp := hp0; clear hp0
  replace hp : Hp _ _ _ (Res.obj 41 v1 [.int .i64 c0_Length, .int .u32 c0_One, .int .u32 c0_Two] :: ow) := hp
  refine st_assign hf rfl rfl (by decide) ?_
  clear hf; intro a ha hf; clear ha
  refine st_assign hf rfl rfl (by decide) ?_
  clear hf; intro a ha hf; clear ha
  refine st_assign hf rfl rfl (by decide) ?_
  clear hf; intro a ha hf; clear ha
  refine st_nil hf ?_
  refine th_n ?_
  refine wp_seq ?_
  refine wp_reg ?_
  refine st_move hf rfl rfl (by decide) ?_
  clear hf; intro a ha hf; clear ha
  refine st_assign hf rfl rfl (by decide) ?_
  clear hf; intro a ha hf; clear ha
  refine st_nil hf ?_
  refine th_n ?_
  refine wp_seq_cut (fun a w => ∃ (all9 : Int), f_foghornref22_Step.j1 c0_One c0_Two all9 = some r ∧ Fr 28 a [(3, optr v1 0), (9, .int .u32 all9)] ∧ Hp S w0 w (Res.obj 41 v1 [.int .i64 c0_Length, .int .u32 c0_One, .int .u32 c0_Two] :: ow)) ?_ ?_
  · skip
    refine wp_seq ?_
    refine wp_reg ?_
    refine st_move hf rfl rfl (by decide) ?_
    clear hf; intro a ha hf; clear ha
    refine st_nil hf ?_
    refine th_n ?_
    refine wp_if hf rfl (fun hb => ?_) (fun hb => ?_)
    · replace h := ifT h hb
      refine wp_reg ?_
      refine st_move hf rfl rfl (by decide) ?_
      clear hf; intro a ha hf; clear ha
      refine st_fa (o' := 0) hf (by decide) (off := 0) (sz := 1) (by kernel_rfl) (by decide) rfl rfl (hp.ob (i := 0) rfl) rfl ?_
      clear hf; intro a ha hf; clear ha
      refine st_ldO (u := .int .i64 c0_Length) hf (by decide) pl3 rfl rfl (hp.ob (i := 0) rfl) rfl ?_
      clear hf; intro a ha hf; clear ha
      refine st_isub hf (by decide) rfl rfl rfl ?_
      clear hf; intro a ha hf; clear ha
      obtain ⟨hc13, h⟩ := chk h
      refine st_ishl hf (by decide) rfl rfl rfl hc13 ?_
      clear hf; intro a ha hf; clear ha
      refine st_iadd hf (by decide) rfl rfl rfl ?_
      clear hf; intro a ha hf; clear ha
      refine st_assign hf rfl rfl (by decide) ?_
      clear hf; intro a ha hf; clear ha
      refine st_nil hf ?_
      refine th_n ?_
      exact ⟨_, h, hf.sub ⟨rfl, rfl, trivial⟩, hp⟩
    replace h := ifF h hb
    refine wp_skip ?_
    refine th_n ?_
    exact ⟨_, h, hf.sub ⟨rfl, rfl, trivial⟩, hp⟩
  rintro a w ⟨all9, h, hf, hp⟩
  unfold f_foghornref22_Step.j1 at h
  refine wp_seq ?_
  obtain ⟨S3, hp4, rd5, up6, bk7⟩ := Hp.lendO hp (i := 0) rfl
  have rl8 := rd5
  obtain ⟨q9, hcall10, h⟩ := bnd h
  obtain ⟨q11, hcall12, h⟩ := bnd h
  refine wp_cutN (fun a w => Fr 28 a [(6, .int .u32 (IntKind.u32.wrap ((all9).tdiv (2 : Int)))), (7, .bool q9), (8, .bool q11)] ∧ Hp S w0 w (Res.obj 41 v1 [.int .i64 c0_Length, .int .u32 c0_One, .int .u32 c0_Two] :: ow)) ?_ ?_
  · have hp := hp4.same (Same.drew w)
    refine dr_begin' (fun a w => Fr 28 a [(6, .int .u32 (IntKind.u32.wrap ((all9).tdiv (2 : Int)))), (7, .bool q9), (8, .bool q11)] ∧ Hp S w0 w (Res.obj 41 v1 [.int .i64 c0_Length, .int .u32 c0_One, .int .u32 c0_Two] :: ow)) (fun w' => ∃ l, Hp S3 w w' l) [] (by kernel_rfl) ?_
    refine dr_take 0 (.int .u32 all9) rfl (by kernel_rfl) (by kernel_rfl) (by kernel_rfl) (by kernel_rfl) rfl rfl hf (by decide) rfl (fun w hp => ?_) ⟨_, hp⟩ ?_
    · obtain ⟨_, hp⟩ := hp
      refine st_move hf rfl rfl (by decide) ?_
      clear hf; intro a ha hf
      exact st_nil hf (th_n ⟨ha, rfl⟩)
    clear hf; intro a hf
    refine dr_take 1 (.int .u32 (IntKind.u32.wrap ((all9).tdiv (2 : Int)))) rfl (by kernel_rfl) (by kernel_rfl) (by kernel_rfl) (by kernel_rfl) rfl rfl hf (by decide) rfl (fun w hp => ?_) ⟨_, hp⟩ ?_
    · obtain ⟨_, hp⟩ := hp
      refine st_iquo hf (by decide) rfl rfl rfl (by decide) ?_
      clear hf; intro a ha hf
      exact st_nil hf (th_n ⟨ha, rfl⟩)
    clear hf; intro a hf
    refine dr_take 2 (.int .u32 all9) rfl (by kernel_rfl) (by kernel_rfl) (by kernel_rfl) (by kernel_rfl) rfl rfl hf (by decide) rfl (fun w hp => ?_) ⟨_, hp⟩ ?_
    · obtain ⟨_, hp⟩ := hp
      refine st_move hf rfl rfl (by decide) ?_
      clear hf; intro a ha hf
      exact st_nil hf (th_n ⟨ha, rfl⟩)
    clear hf; intro a hf
    refine dr_take 3 (optr v1 1) rfl (by kernel_rfl) (by kernel_rfl) (by kernel_rfl) (by kernel_rfl) rfl rfl hf (by decide) rfl (fun w hp => ?_) ⟨_, hp⟩ ?_
    · obtain ⟨_, hp⟩ := hp
      refine st_fa (o' := 1) hf (by decide) (off := 1) (sz := 1) (by kernel_rfl) (by decide) rfl rfl (rl8.ob hp) rfl ?_
      clear hf; intro a ha hf
      exact st_nil hf (th_n ⟨ha, rfl⟩)
    clear hf; intro a hf
    refine dr_take 4 (.int .u32 c0_One) rfl (by kernel_rfl) (by kernel_rfl) (by kernel_rfl) (by kernel_rfl) rfl rfl hf (by decide) rfl (fun w hp => ?_) ⟨_, hp⟩ ?_
    · obtain ⟨_, hp⟩ := hp
      refine st_ldO (u := .int .u32 c0_One) hf (by decide) pl37 rfl rfl (rl8.ob hp) rfl ?_
      clear hf; intro a ha hf
      exact st_nil hf (th_n ⟨ha, rfl⟩)
    clear hf; intro a hf
    refine dr_take 6 (.int .u32 all9) rfl (by kernel_rfl) (by kernel_rfl) (by kernel_rfl) (by kernel_rfl) rfl rfl hf (by decide) rfl (fun w hp => ?_) ⟨_, hp⟩ ?_
    · obtain ⟨_, hp⟩ := hp
      refine st_move hf rfl rfl (by decide) ?_
      clear hf; intro a ha hf
      exact st_nil hf (th_n ⟨ha, rfl⟩)
    clear hf; intro a hf
    refine dr_take 7 (optr v1 2) rfl (by kernel_rfl) (by kernel_rfl) (by kernel_rfl) (by kernel_rfl) rfl rfl hf (by decide) rfl (fun w hp => ?_) ⟨_, hp⟩ ?_
    · obtain ⟨_, hp⟩ := hp
      refine st_fa (o' := 2) hf (by decide) (off := 2) (sz := 1) (by kernel_rfl) (by decide) rfl rfl (rl8.ob hp) rfl ?_
      clear hf; intro a ha hf
      exact st_nil hf (th_n ⟨ha, rfl⟩)
    clear hf; intro a hf
    refine dr_take 8 (.int .u32 c0_Two) rfl (by kernel_rfl) (by kernel_rfl) (by kernel_rfl) (by kernel_rfl) rfl rfl hf (by decide) rfl (fun w hp => ?_) ⟨_, hp⟩ ?_
    · obtain ⟨_, hp⟩ := hp
      refine st_ldO (u := .int .u32 c0_Two) hf (by decide) pl37 rfl rfl (rl8.ob hp) rfl ?_
      clear hf; intro a ha hf
      exact st_nil hf (th_n ⟨ha, rfl⟩)
    clear hf; intro a hf
    refine dr_one 5 rfl (by kernel_rfl) ?_
    refine st_call hf (by decide) Try.func50 rfl rfl rfl rfl rfl (f_foghornref22_odd_c hp _ _ hcall10) ?_
    rintro _ w ⟨rfl, hp0⟩
    clear hp; have hp := hp0; clear hp0
    replace hp : Hp _ _ _ (ow) := hp
    refine ⟨_, rfl, ?_⟩
    clear hf; intro a hf
    refine st_nil hf (th_n ⟨fun _ _ => ⟨_, hp⟩, ?_⟩)
    refine dr_one 9 rfl (by kernel_rfl) ?_
    refine st_call hf (by decide) Try.func50 rfl rfl rfl rfl rfl (f_foghornref22_odd_c hp _ _ hcall12) ?_
    rintro _ w ⟨rfl, hp0⟩
    clear hp; have hp := hp0; clear hp0
    replace hp : Hp _ _ _ (ow) := hp
    refine ⟨_, rfl, ?_⟩
    clear hf; intro a hf
    refine st_nil hf (th_n ⟨fun _ _ => ⟨_, hp⟩, ?_⟩)
    refine dr_take 10 (.int .u32 (IntKind.u32.wrap ((all9).tdiv (2 : Int)))) rfl (by kernel_rfl) (by kernel_rfl) (by kernel_rfl) (by kernel_rfl) rfl rfl hf (by decide) rfl (fun w hp => ?_) ⟨_, hp⟩ ?_
    · obtain ⟨_, hp⟩ := hp
      refine st_assign hf rfl rfl (by decide) ?_
      clear hf; intro a ha hf
      exact st_nil hf (th_n ⟨ha, rfl⟩)
    clear hf; intro a hf
    refine dr_take 11 (.bool q9) rfl (by kernel_rfl) (by kernel_rfl) (by kernel_rfl) (by kernel_rfl) rfl rfl hf (by decide) rfl (fun w hp => ?_) ⟨_, hp⟩ ?_
    · obtain ⟨_, hp⟩ := hp
      refine st_assign hf rfl rfl (by decide) ?_
      clear hf; intro a ha hf
      exact st_nil hf (th_n ⟨ha, rfl⟩)
    clear hf; intro a hf
    refine dr_take 12 (.bool q11) rfl (by kernel_rfl) (by kernel_rfl) (by kernel_rfl) (by kernel_rfl) rfl rfl hf (by decide) rfl (fun w hp => ?_) ⟨_, hp⟩ ?_
    · obtain ⟨_, hp⟩ := hp
      refine st_assign hf rfl rfl (by decide) ?_
      clear hf; intro a ha hf
      exact st_nil hf (th_n ⟨ha, rfl⟩)
    clear hf; intro a hf
    refine dr_end (by kernel_rfl) ?_ _
    have hp := bk7 _ _ hp
    exact ⟨hf.sub ⟨rfl, rfl, rfl, trivial⟩, hp⟩
  rintro a w ⟨hf, hp⟩
  refine th_n ?_
  refine wp_ret ?_
  obtain rfl := Option.some.inj h
  have hp : Hp _ _ _ (ow) := Hp.sel (pre := [Res.obj 41 v1 [.int .i64 c0_Length, .int .u32 c0_One, .int .u32 c0_Two]]) (tail := ow) (rs' := []) hp [] (by decide) (by simp) rfl
  exact ⟨rfl, ⟨hf.sub ⟨rfl, rfl, rfl, trivial⟩, hp⟩⟩

noncomputable def f_foghornref22_unlike (b0 : Bool) (m1 : Int) : Option Int := (if (((m1 == (0 : Int)) && b0) || ((m1 == (1 : Int)) && (!b0))) = true then (some (1 : Int)) else (some (0 : Int)))
theorem f_foghornref22_unlike_c {S : Nat → Prop} {w0 w : World} {ow : List Res} (hp : Hp S w0 w ow) (b0 : Bool) (m1 : Int) {r : Int} (h : f_foghornref22_unlike b0 m1 = some r) :
    Calls Try.prog 37 #[.bool b0, .int .u8 m1] w (fun e w' => e = .returned (.int .i64 r) ∧ Hp S w0 w' (ow)) := by
  unfold f_foghornref22_unlike at h
  refine enter (n := 18) (args := [.bool b0, .int .u8 m1]) Try.func37 rfl rfl (Nat.le_of_ble_eq_true rfl) fun a hf => ?_
  replace hf : Fr 18 a [(0, .bool b0), (1, .int .u8 m1)] := hf
  refine wp_mono (Q := fun e a w => e = .ret ∧ Fr 18 a [(4, .int .i64 r)] ∧ Hp S w0 w (ow)) ?_ ?_
  rotate_left
  · rintro e a w ⟨rfl, hf, hp⟩
    exact ret1 hf rfl rfl ⟨rfl, hp⟩
  refine wp_seq ?_
  refine wp_reg ?_
  refine st_assign hf rfl rfl (by decide) ?_
  clear hf; intro a ha hf; clear ha
  refine st_nil hf ?_
  refine th_n ?_
  refine wp_seq ?_
  refine wp_seq ?_
  refine wp_reg ?_
  refine st_move hf rfl rfl (by decide) ?_
  clear hf; intro a ha hf; clear ha
  refine st_ieql hf (by decide) rfl rfl rfl ?_
  clear hf; intro a ha hf; clear ha
  refine st_move hf rfl rfl (by decide) ?_
  clear hf; intro a ha hf; clear ha
  refine wpList_cut 2 (fun a w => Fr 18 a [(0, .bool b0), (1, .int .u8 m1), (9, .bool ((m1 == (0 : Int)) && b0))] ∧ Hp S w0 w (ow)) ?_ ?_
  · rcases Bool.eq_false_or_eq_true (m1 == (0 : Int)) with hb2 | hb2
    · skip
      refine st_move hf (wantY hf rfl rfl hb2) rfl (by decide) ?_
      clear hf; intro a ha hf; clear ha
      refine st_pick (v := .bool b0) hf rfl rfl (fun hb' => ?_) (fun hb' => ?_) (by decide) ?_
      · rfl
      · exact absurd (hb2.symm.trans hb') (by decide)
      clear hf; intro a ha hf; clear ha
      refine st_nil hf (th_n ?_)
      exact ⟨hf.sub ⟨rfl, rfl, (by rw [hb2]; rfl), trivial⟩, hp⟩
    refine st_skip hf (wantN hf rfl rfl hb2) rfl (by decide) ?_ rfl
    clear hf; intro a hf
    refine st_pick (v := .bool false) hf rfl rfl (fun hb' => ?_) (fun hb' => ?_) (by decide) ?_
    · exact absurd (hb2.symm.trans hb') (by decide)
    · rfl
    clear hf; intro a ha hf; clear ha
    refine st_nil hf (th_n ?_)
    exact ⟨hf.sub ⟨rfl, rfl, (by rw [hb2]; rfl), trivial⟩, hp⟩
  rintro a w ⟨hf, hp⟩
  refine st_move hf rfl rfl (by decide) ?_
  clear hf; intro a ha hf; clear ha
  refine wpList_cut 7 (fun a w => Fr 18 a [(17, .bool (((m1 == (0 : Int)) && b0) || ((m1 == (1 : Int)) && (!b0))))] ∧ Hp S w0 w (ow)) ?_ ?_
  · rcases Bool.eq_false_or_eq_true ((m1 == (0 : Int)) && b0) with hb4 | hb4
    · skip
      refine st_skip hf (wantN hf rfl rfl hb4) rfl (by decide) ?_ rfl
      clear hf; intro a hf
      refine st_skip hf (wantN hf rfl rfl hb4) rfl (by decide) ?_ rfl
      clear hf; intro a hf
      refine st_skipU hf (wantN hf rfl rfl hb4) rfl (by decide) ?_
      clear hf; intro a hf
      refine st_skip hf (wantU hf rfl rfl) rfl (by decide) ?_ rfl
      clear hf; intro a hf
      refine st_skip hf (wantU hf rfl rfl) rfl (by decide) ?_ rfl
      clear hf; intro a hf
      refine st_skip hf (wantN hf rfl rfl hb4) rfl (by decide) ?_ rfl
      clear hf; intro a hf
      refine st_pick (v := .bool true) hf rfl rfl (fun hb' => ?_) (fun hb' => ?_) (by decide) ?_
      · rfl
      · exact absurd (hb4.symm.trans hb') (by decide)
      clear hf; intro a ha hf; clear ha
      refine st_nil hf (th_n ?_)
      exact ⟨hf.sub ⟨(by rw [hb4]; rfl), trivial⟩, hp⟩
    refine st_move hf (wantY hf rfl rfl hb4) rfl (by decide) ?_
    clear hf; intro a ha hf; clear ha
    refine st_ieql hf (by decide) (wantY hf rfl rfl hb4) rfl rfl ?_
    clear hf; intro a ha hf; clear ha
    refine st_move hf (wantY hf rfl rfl hb4) rfl (by decide) ?_
    clear hf; intro a ha hf; clear ha
    refine wpList_cut 3 (fun a w => Fr 18 a [(10, .bool ((m1 == (0 : Int)) && b0)), (16, .bool ((m1 == (1 : Int)) && (!b0)))] ∧ Hp S w0 w (ow)) ?_ ?_
    · rcases Bool.eq_false_or_eq_true (m1 == (1 : Int)) with hb6 | hb6
      · skip
        refine st_move hf (wantY hf rfl rfl hb6) rfl (by decide) ?_
        clear hf; intro a ha hf; clear ha
        refine st_not hf (by decide) (wantY hf rfl rfl hb6) rfl ?_
        clear hf; intro a ha hf; clear ha
        refine st_pick (v := .bool (!b0)) hf (wantY hf rfl rfl hb4) rfl (fun hb' => ?_) (fun hb' => ?_) (by decide) ?_
        · rfl
        · exact absurd (hb6.symm.trans hb') (by decide)
        clear hf; intro a ha hf; clear ha
        refine st_nil hf (th_n ?_)
        exact ⟨hf.sub ⟨rfl, (by rw [hb6]; rfl), trivial⟩, hp⟩
      refine st_skip hf (wantN hf rfl rfl hb6) rfl (by decide) ?_ rfl
      clear hf; intro a hf
      refine st_skip hf (wantN hf rfl rfl hb6) rfl (by decide) ?_ rfl
      clear hf; intro a hf
      refine st_pick (v := .bool false) hf (wantY hf rfl rfl hb4) rfl (fun hb' => ?_) (fun hb' => ?_) (by decide) ?_
      · exact absurd (hb6.symm.trans hb') (by decide)
      · rfl
      clear hf; intro a ha hf; clear ha
      refine st_nil hf (th_n ?_)
      exact ⟨hf.sub ⟨rfl, (by rw [hb6]; rfl), trivial⟩, hp⟩
    rintro a w ⟨hf, hp⟩
    refine st_pick (v := .bool ((m1 == (1 : Int)) && (!b0))) hf rfl rfl (fun hb' => ?_) (fun hb' => ?_) (by decide) ?_
    · exact absurd (hb4.symm.trans hb') (by decide)
    · rfl
    clear hf; intro a ha hf; clear ha
    refine st_nil hf (th_n ?_)
    exact ⟨hf.sub ⟨(by rw [hb4]; rfl), trivial⟩, hp⟩
  rintro a w ⟨hf, hp⟩
  refine st_nil hf ?_
  refine th_n ?_
  refine wp_if hf rfl (fun hb => ?_) (fun hb => ?_)
  · replace h := ifT h hb
    refine wp_seq ?_
    refine wp_reg ?_
    refine st_assign hf rfl rfl (by decide) ?_
    clear hf; intro a ha hf; clear ha
    refine st_nil hf ?_
    refine th_n ?_
    refine wp_ret ?_
    refine th_r ?_
    obtain rfl := Option.some.inj h
    exact ⟨rfl, ⟨hf.sub ⟨rfl, trivial⟩, hp⟩⟩
  replace h := ifF h hb
  refine wp_skip ?_
  refine th_n ?_
  refine wp_seq ?_
  refine wp_reg ?_
  refine st_assign hf rfl rfl (by decide) ?_
  clear hf; intro a ha hf; clear ha
  refine st_nil hf ?_
  refine th_n ?_
  refine wp_ret ?_
  obtain rfl := Option.some.inj h
  exact ⟨rfl, ⟨hf.sub ⟨rfl, trivial⟩, hp⟩⟩

noncomputable def f_foghornref22_way (c0_Length : Int) (c0_One : Int) (c0_Two : Int) (s1 : Int) (bit2 : Bool) (marks3 : (List Int)) (t4 : Int) (least5 : (List (List Int))) : Option Int := ((f_foghornref22_Step c0_Length c0_One c0_Two s1 bit2).bind fun q3 => (if 0 ≤ (IntKind.i64.wrap ((2 : Int) * t4)) ∧ (IntKind.i64.wrap ((2 : Int) * t4)) < (marks3.length : Int) then ((f_foghornref22_unlike q3.2.1 (gt marks3 (IntKind.i64.wrap ((2 : Int) * t4)))).bind fun q6 => (if 0 ≤ (IntKind.i64.wrap ((IntKind.i64.wrap ((2 : Int) * t4)) + (1 : Int))) ∧ (IntKind.i64.wrap ((IntKind.i64.wrap ((2 : Int) * t4)) + (1 : Int))) < (marks3.length : Int) then ((f_foghornref22_unlike q3.2.2 (gt marks3 (IntKind.i64.wrap ((IntKind.i64.wrap ((2 : Int) * t4)) + (1 : Int))))).bind fun q9 => (if 0 ≤ (IntKind.i64.wrap (t4 + (1 : Int))) ∧ (IntKind.i64.wrap (t4 + (1 : Int))) < (least5.length : Int) then (if 0 ≤ q3.1 ∧ q3.1 < ((gt least5 (IntKind.i64.wrap (t4 + (1 : Int)))).length : Int) then (some (IntKind.i64.wrap ((IntKind.i64.wrap (q6 + q9)) + (gt (gt least5 (IntKind.i64.wrap (t4 + (1 : Int)))) q3.1)))) else none) else none)) else none)) else none))
theorem f_foghornref22_way_c {S : Nat → Prop} {w0 w : World} {ow : List Res} (hp : Hp S w0 w ow) (c0_Length : Int) (c0_One : Int) (c0_Two : Int) (s1 : Int) (bit2 : Bool) (vmarks3 : Value) (marks3 : (List Int)) (hmarks3 : RdS (Ek.int .u8) S w0 vmarks3 marks3) (t4 : Int) (vleast5 : Value) (sleast5 : List Value) (least5 : (List (List Int))) (hleast5 : RdR (RowK.sl (Ek.int .i64) 3) S w0 vleast5 sleast5 (least5.map some)) {r : Int} (h : f_foghornref22_way c0_Length c0_One c0_Two s1 bit2 marks3 t4 least5 = some r) :
    Calls Try.prog 34 #[.agg #[.int .i64 c0_Length, .int .u32 c0_One, .int .u32 c0_Two], .int .u32 s1, .bool bit2, vmarks3, .int .i64 t4, vleast5] w (fun e w' => e = .returned (.int .i64 r) ∧ Hp S w0 w' (ow)) := by
  unfold f_foghornref22_way at h
  refine enter (n := 49) (args := [.agg #[.int .i64 c0_Length, .int .u32 c0_One, .int .u32 c0_Two], .int .u32 s1, .bool bit2, vmarks3, .int .i64 t4, vleast5]) Try.func34 rfl rfl (Nat.le_of_ble_eq_true rfl) fun a hf => ?_
  replace hf : Fr 49 a [(0, .agg #[.int .i64 c0_Length, .int .u32 c0_One, .int .u32 c0_Two]), (1, .int .u32 s1), (2, .bool bit2), (3, vmarks3), (4, .int .i64 t4), (5, vleast5)] := hf
  refine wp_mono (Q := fun e a w => e = .ret ∧ Fr 49 a [(12, .int .i64 r)] ∧ Hp S w0 w (ow)) ?_ ?_
  rotate_left
  · rintro e a w ⟨rfl, hf, hp⟩
    exact ret1 hf rfl rfl ⟨rfl, hp⟩
  refine wp_seq ?_
  refine wp_reg ?_
  refine st_boxO (cs := [.int .i64 c0_Length, .int .u32 c0_One, .int .u32 c0_Two]) hf (by decide) hp rfl rfl rfl ?_
  clear hf; intro a w v1 hf hp0; clear hp; have hp := hp0; clear hp0
  replace hp : Hp _ _ _ (Res.obj 41 v1 [.int .i64 c0_Length, .int .u32 c0_One, .int .u32 c0_Two] :: ow) := hp
  refine st_assign hf rfl rfl (by decide) ?_
  clear hf; intro a ha hf; clear ha
  refine st_nil hf ?_
  refine th_n ?_
  refine wp_seq ?_
  refine wp_reg ?_
  refine st_ldOA (m := 3) (us := [.int .i64 c0_Length, .int .u32 c0_One, .int .u32 c0_Two]) hf (by decide) (by kernel_rfl) rfl rfl (hp.ob (i := 0) rfl) rfl rfl ?_
  clear hf; intro a ha hf; clear ha
  refine st_move hf rfl rfl (by decide) ?_
  clear hf; intro a ha hf; clear ha
  refine st_move hf rfl rfl (by decide) ?_
  clear hf; intro a ha hf; clear ha
  obtain ⟨q3, hcall4, h⟩ := bnd h
  refine st_call hf (by decide) Try.func35 rfl rfl rfl rfl rfl (f_foghornref22_Step_c hp _ _ _ _ _ hcall4) ?_
  rintro _ w ⟨rfl, hp0⟩
  clear hp; have hp := hp0; clear hp0
  replace hp : Hp _ _ _ (Res.obj 41 v1 [.int .i64 c0_Length, .int .u32 c0_One, .int .u32 c0_Two] :: ow) := hp
  refine ⟨_, rfl, ?_⟩
  clear hf; intro a hf
  refine st_move hf rfl rfl (by decide) ?_
  clear hf; intro a ha hf; clear ha
  refine st_extract hf (by decide) rfl rfl rfl ?_
  clear hf; intro a ha hf; clear ha
  refine st_extract hf (by decide) rfl rfl rfl ?_
  clear hf; intro a ha hf; clear ha
  refine st_extract hf (by decide) rfl rfl rfl ?_
  clear hf; intro a ha hf; clear ha
  refine st_assign hf rfl rfl (by decide) ?_
  clear hf; intro a ha hf; clear ha
  refine st_assign hf rfl rfl (by decide) ?_
  clear hf; intro a ha hf; clear ha
  refine st_assign hf rfl rfl (by decide) ?_
  clear hf; intro a ha hf; clear ha
  refine st_nil hf ?_
  refine th_n ?_
  refine wp_seq ?_
  obtain ⟨hc5, h⟩ := chk h
  obtain ⟨q6, hcall7, h⟩ := bnd h
  obtain ⟨hc8, h⟩ := chk h
  obtain ⟨q9, hcall10, h⟩ := bnd h
  obtain ⟨hc11, h⟩ := chk h
  obtain ⟨hc12, h⟩ := chk h
  refine wp_cutN (fun a w => Fr 49 a [(12, .int .i64 (IntKind.i64.wrap ((IntKind.i64.wrap (q6 + q9)) + (gt (gt least5 (IntKind.i64.wrap (t4 + (1 : Int)))) q3.1))))] ∧ Hp S w0 w (Res.obj 41 v1 [.int .i64 c0_Length, .int .u32 c0_One, .int .u32 c0_Two] :: ow)) ?_ ?_
  · have hp := hp.same (Same.drew w)
    refine dr_begin' (fun a w => Fr 49 a [(12, .int .i64 (IntKind.i64.wrap ((IntKind.i64.wrap (q6 + q9)) + (gt (gt least5 (IntKind.i64.wrap (t4 + (1 : Int)))) q3.1))))] ∧ Hp S w0 w (Res.obj 41 v1 [.int .i64 c0_Length, .int .u32 c0_One, .int .u32 c0_Two] :: ow)) (fun w' => ∃ l, Hp S w0 w' l) [] (by kernel_rfl) ?_
    refine dr_take 0 (.bool q3.2.1) rfl (by kernel_rfl) (by kernel_rfl) (by kernel_rfl) (by kernel_rfl) rfl rfl hf (by decide) rfl (fun w hp => ?_) ⟨_, hp⟩ ?_
    · obtain ⟨_, hp⟩ := hp
      refine st_move hf rfl rfl (by decide) ?_
      clear hf; intro a ha hf
      exact st_nil hf (th_n ⟨ha, rfl⟩)
    clear hf; intro a hf
    refine dr_take 1 (vmarks3) rfl (by kernel_rfl) (by kernel_rfl) (by kernel_rfl) (by kernel_rfl) rfl rfl hf (by decide) rfl (fun w hp => ?_) ⟨_, hp⟩ ?_
    · obtain ⟨_, hp⟩ := hp
      refine st_move hf rfl rfl (by decide) ?_
      clear hf; intro a ha hf
      exact st_nil hf (th_n ⟨ha, rfl⟩)
    clear hf; intro a hf
    refine dr_take 2 (.int .i64 t4) rfl (by kernel_rfl) (by kernel_rfl) (by kernel_rfl) (by kernel_rfl) rfl rfl hf (by decide) rfl (fun w hp => ?_) ⟨_, hp⟩ ?_
    · obtain ⟨_, hp⟩ := hp
      refine st_move hf rfl rfl (by decide) ?_
      clear hf; intro a ha hf
      exact st_nil hf (th_n ⟨ha, rfl⟩)
    clear hf; intro a hf
    refine dr_take 3 (.int .i64 (IntKind.i64.wrap ((2 : Int) * t4))) rfl (by kernel_rfl) (by kernel_rfl) (by kernel_rfl) (by kernel_rfl) rfl rfl hf (by decide) rfl (fun w hp => ?_) ⟨_, hp⟩ ?_
    · obtain ⟨_, hp⟩ := hp
      refine st_imul hf (by decide) rfl rfl rfl ?_
      clear hf; intro a ha hf
      exact st_nil hf (th_n ⟨ha, rfl⟩)
    clear hf; intro a hf
    refine dr_take 4 (eptr vmarks3 (IntKind.i64.wrap ((2 : Int) * t4)) 1) rfl (by kernel_rfl) (by kernel_rfl) (by kernel_rfl) (by kernel_rfl) rfl rfl hf (by decide) rfl (fun w hp => ?_) ⟨_, hp⟩ ?_
    · obtain ⟨_, hp⟩ := hp
      refine st_index (E := (Ek.int .u8)) hf (by decide) Try.underlying29 elt5 rfl rfl rfl (hmarks3.sl hp) hc5.1 hc5.2 ?_
      clear hf; intro a ha hf
      exact st_nil hf (th_n ⟨ha, rfl⟩)
    clear hf; intro a hf
    refine dr_take 5 (.int .u8 (gt marks3 (IntKind.i64.wrap ((2 : Int) * t4)))) rfl (by kernel_rfl) (by kernel_rfl) (by kernel_rfl) (by kernel_rfl) rfl rfl hf (by decide) rfl (fun w hp => ?_) ⟨_, hp⟩ ?_
    · obtain ⟨_, hp⟩ := hp
      refine st_ldI hf (by decide) pl5 rfl rfl (hmarks3.sl hp) hc5.1 hc5.2 ?_
      clear hf; intro a ha hf
      exact st_nil hf (th_n ⟨ha, rfl⟩)
    clear hf; intro a hf
    refine dr_take 7 (.bool q3.2.2) rfl (by kernel_rfl) (by kernel_rfl) (by kernel_rfl) (by kernel_rfl) rfl rfl hf (by decide) rfl (fun w hp => ?_) ⟨_, hp⟩ ?_
    · obtain ⟨_, hp⟩ := hp
      refine st_move hf rfl rfl (by decide) ?_
      clear hf; intro a ha hf
      exact st_nil hf (th_n ⟨ha, rfl⟩)
    clear hf; intro a hf
    refine dr_take 8 (vmarks3) rfl (by kernel_rfl) (by kernel_rfl) (by kernel_rfl) (by kernel_rfl) rfl rfl hf (by decide) rfl (fun w hp => ?_) ⟨_, hp⟩ ?_
    · obtain ⟨_, hp⟩ := hp
      refine st_move hf rfl rfl (by decide) ?_
      clear hf; intro a ha hf
      exact st_nil hf (th_n ⟨ha, rfl⟩)
    clear hf; intro a hf
    refine dr_take 9 (.int .i64 t4) rfl (by kernel_rfl) (by kernel_rfl) (by kernel_rfl) (by kernel_rfl) rfl rfl hf (by decide) rfl (fun w hp => ?_) ⟨_, hp⟩ ?_
    · obtain ⟨_, hp⟩ := hp
      refine st_move hf rfl rfl (by decide) ?_
      clear hf; intro a ha hf
      exact st_nil hf (th_n ⟨ha, rfl⟩)
    clear hf; intro a hf
    refine dr_take 10 (.int .i64 (IntKind.i64.wrap ((2 : Int) * t4))) rfl (by kernel_rfl) (by kernel_rfl) (by kernel_rfl) (by kernel_rfl) rfl rfl hf (by decide) rfl (fun w hp => ?_) ⟨_, hp⟩ ?_
    · obtain ⟨_, hp⟩ := hp
      refine st_imul hf (by decide) rfl rfl rfl ?_
      clear hf; intro a ha hf
      exact st_nil hf (th_n ⟨ha, rfl⟩)
    clear hf; intro a hf
    refine dr_take 11 (.int .i64 (IntKind.i64.wrap ((IntKind.i64.wrap ((2 : Int) * t4)) + (1 : Int)))) rfl (by kernel_rfl) (by kernel_rfl) (by kernel_rfl) (by kernel_rfl) rfl rfl hf (by decide) rfl (fun w hp => ?_) ⟨_, hp⟩ ?_
    · obtain ⟨_, hp⟩ := hp
      refine st_iadd hf (by decide) rfl rfl rfl ?_
      clear hf; intro a ha hf
      exact st_nil hf (th_n ⟨ha, rfl⟩)
    clear hf; intro a hf
    refine dr_take 12 (eptr vmarks3 (IntKind.i64.wrap ((IntKind.i64.wrap ((2 : Int) * t4)) + (1 : Int))) 1) rfl (by kernel_rfl) (by kernel_rfl) (by kernel_rfl) (by kernel_rfl) rfl rfl hf (by decide) rfl (fun w hp => ?_) ⟨_, hp⟩ ?_
    · obtain ⟨_, hp⟩ := hp
      refine st_index (E := (Ek.int .u8)) hf (by decide) Try.underlying29 elt5 rfl rfl rfl (hmarks3.sl hp) hc8.1 hc8.2 ?_
      clear hf; intro a ha hf
      exact st_nil hf (th_n ⟨ha, rfl⟩)
    clear hf; intro a hf
    refine dr_take 13 (.int .u8 (gt marks3 (IntKind.i64.wrap ((IntKind.i64.wrap ((2 : Int) * t4)) + (1 : Int))))) rfl (by kernel_rfl) (by kernel_rfl) (by kernel_rfl) (by kernel_rfl) rfl rfl hf (by decide) rfl (fun w hp => ?_) ⟨_, hp⟩ ?_
    · obtain ⟨_, hp⟩ := hp
      refine st_ldI hf (by decide) pl5 rfl rfl (hmarks3.sl hp) hc8.1 hc8.2 ?_
      clear hf; intro a ha hf
      exact st_nil hf (th_n ⟨ha, rfl⟩)
    clear hf; intro a hf
    refine dr_take 16 (vleast5) rfl (by kernel_rfl) (by kernel_rfl) (by kernel_rfl) (by kernel_rfl) rfl rfl hf (by decide) rfl (fun w hp => ?_) ⟨_, hp⟩ ?_
    · obtain ⟨_, hp⟩ := hp
      refine st_move hf rfl rfl (by decide) ?_
      clear hf; intro a ha hf
      exact st_nil hf (th_n ⟨ha, rfl⟩)
    clear hf; intro a hf
    refine dr_take 17 (.int .i64 t4) rfl (by kernel_rfl) (by kernel_rfl) (by kernel_rfl) (by kernel_rfl) rfl rfl hf (by decide) rfl (fun w hp => ?_) ⟨_, hp⟩ ?_
    · obtain ⟨_, hp⟩ := hp
      refine st_move hf rfl rfl (by decide) ?_
      clear hf; intro a ha hf
      exact st_nil hf (th_n ⟨ha, rfl⟩)
    clear hf; intro a hf
    refine dr_take 18 (.int .i64 (IntKind.i64.wrap (t4 + (1 : Int)))) rfl (by kernel_rfl) (by kernel_rfl) (by kernel_rfl) (by kernel_rfl) rfl rfl hf (by decide) rfl (fun w hp => ?_) ⟨_, hp⟩ ?_
    · obtain ⟨_, hp⟩ := hp
      refine st_iadd hf (by decide) rfl rfl rfl ?_
      clear hf; intro a ha hf
      exact st_nil hf (th_n ⟨ha, rfl⟩)
    clear hf; intro a hf
    refine dr_take 19 (eptr vleast5 (IntKind.i64.wrap (t4 + (1 : Int))) 1) rfl (by kernel_rfl) (by kernel_rfl) (by kernel_rfl) (by kernel_rfl) rfl rfl hf (by decide) rfl (fun w hp => ?_) ⟨_, hp⟩ ?_
    · obtain ⟨_, hp⟩ := hp
      refine st_indexV (E := Ek.val) (m := least5.length) hf (by decide) Try.underlying69 eltv70 rfl rfl rfl (hleast5.ob hp).shapeNY hc11.1 hc11.2 ?_
      clear hf; intro a ha hf
      exact st_nil hf (th_n ⟨ha, rfl⟩)
    clear hf; intro a hf
    refine dr_take 20 ((gtv sleast5 (IntKind.i64.wrap (t4 + (1 : Int))))) rfl (by kernel_rfl) (by kernel_rfl) (by kernel_rfl) (by kernel_rfl) rfl rfl hf (by decide) rfl (fun w hp => ?_) ⟨_, hp⟩ ?_
    · obtain ⟨_, hp⟩ := hp
      refine st_ldRY hf (by decide) pl70 rfl rfl (hleast5.ob hp) hc11.1 hc11.2 ?_
      clear hf; intro a ha hf
      exact st_nil hf (th_n ⟨ha, rfl⟩)
    clear hf; intro a hf
    refine dr_take 21 (.int .u32 q3.1) rfl (by kernel_rfl) (by kernel_rfl) (by kernel_rfl) (by kernel_rfl) rfl rfl hf (by decide) rfl (fun w hp => ?_) ⟨_, hp⟩ ?_
    · obtain ⟨_, hp⟩ := hp
      refine st_move hf rfl rfl (by decide) ?_
      clear hf; intro a ha hf
      exact st_nil hf (th_n ⟨ha, rfl⟩)
    clear hf; intro a hf
    refine dr_take 22 (eptr (gtv sleast5 (IntKind.i64.wrap (t4 + (1 : Int)))) q3.1 1) rfl (by kernel_rfl) (by kernel_rfl) (by kernel_rfl) (by kernel_rfl) rfl rfl hf (by decide) rfl (fun w hp => ?_) ⟨_, hp⟩ ?_
    · obtain ⟨_, hp⟩ := hp
      refine st_index (E := (Ek.int .i64)) hf (by decide) Try.underlying70 elt3 rfl rfl rfl ((RdR.rowS hleast5 hc11.1 hc11.2).sl hp) hc12.1 hc12.2 ?_
      clear hf; intro a ha hf
      exact st_nil hf (th_n ⟨ha, rfl⟩)
    clear hf; intro a hf
    refine dr_take 23 (.int .i64 (gt (gt least5 (IntKind.i64.wrap (t4 + (1 : Int)))) q3.1)) rfl (by kernel_rfl) (by kernel_rfl) (by kernel_rfl) (by kernel_rfl) rfl rfl hf (by decide) rfl (fun w hp => ?_) ⟨_, hp⟩ ?_
    · obtain ⟨_, hp⟩ := hp
      refine st_ldI hf (by decide) pl3 rfl rfl ((RdR.rowS hleast5 hc11.1 hc11.2).sl hp) hc12.1 hc12.2 ?_
      clear hf; intro a ha hf
      exact st_nil hf (th_n ⟨ha, rfl⟩)
    clear hf; intro a hf
    refine dr_one 6 rfl (by kernel_rfl) ?_
    refine st_call hf (by decide) Try.func37 rfl rfl rfl rfl rfl (f_foghornref22_unlike_c hp _ _ hcall7) ?_
    rintro _ w ⟨rfl, hp0⟩
    clear hp; have hp := hp0; clear hp0
    replace hp : Hp _ _ _ (Res.obj 41 v1 [.int .i64 c0_Length, .int .u32 c0_One, .int .u32 c0_Two] :: ow) := hp
    refine ⟨_, rfl, ?_⟩
    clear hf; intro a hf
    refine st_nil hf (th_n ⟨fun _ _ => ⟨_, hp⟩, ?_⟩)
    refine dr_one 14 rfl (by kernel_rfl) ?_
    refine st_call hf (by decide) Try.func37 rfl rfl rfl rfl rfl (f_foghornref22_unlike_c hp _ _ hcall10) ?_
    rintro _ w ⟨rfl, hp0⟩
    clear hp; have hp := hp0; clear hp0
    replace hp : Hp _ _ _ (Res.obj 41 v1 [.int .i64 c0_Length, .int .u32 c0_One, .int .u32 c0_Two] :: ow) := hp
    refine ⟨_, rfl, ?_⟩
    clear hf; intro a hf
    refine st_nil hf (th_n ⟨fun _ _ => ⟨_, hp⟩, ?_⟩)
    refine dr_take 15 (.int .i64 (IntKind.i64.wrap (q6 + q9))) rfl (by kernel_rfl) (by kernel_rfl) (by kernel_rfl) (by kernel_rfl) rfl rfl hf (by decide) rfl (fun w hp => ?_) ⟨_, hp⟩ ?_
    · obtain ⟨_, hp⟩ := hp
      refine st_iadd hf (by decide) rfl rfl rfl ?_
      clear hf; intro a ha hf
      exact st_nil hf (th_n ⟨ha, rfl⟩)
    clear hf; intro a hf
    refine dr_take 24 (.int .i64 (IntKind.i64.wrap ((IntKind.i64.wrap (q6 + q9)) + (gt (gt least5 (IntKind.i64.wrap (t4 + (1 : Int)))) q3.1)))) rfl (by kernel_rfl) (by kernel_rfl) (by kernel_rfl) (by kernel_rfl) rfl rfl hf (by decide) rfl (fun w hp => ?_) ⟨_, hp⟩ ?_
    · obtain ⟨_, hp⟩ := hp
      refine st_iadd hf (by decide) rfl rfl rfl ?_
      clear hf; intro a ha hf
      exact st_nil hf (th_n ⟨ha, rfl⟩)
    clear hf; intro a hf
    refine dr_take 25 (.int .i64 (IntKind.i64.wrap ((IntKind.i64.wrap (q6 + q9)) + (gt (gt least5 (IntKind.i64.wrap (t4 + (1 : Int)))) q3.1)))) rfl (by kernel_rfl) (by kernel_rfl) (by kernel_rfl) (by kernel_rfl) rfl rfl hf (by decide) rfl (fun w hp => ?_) ⟨_, hp⟩ ?_
    · obtain ⟨_, hp⟩ := hp
      refine st_assign hf rfl rfl (by decide) ?_
      clear hf; intro a ha hf
      exact st_nil hf (th_n ⟨ha, rfl⟩)
    clear hf; intro a hf
    refine dr_end (by kernel_rfl) ?_ _
    exact ⟨hf.sub ⟨rfl, trivial⟩, hp⟩
  rintro a w ⟨hf, hp⟩
  refine th_n ?_
  refine wp_ret ?_
  obtain rfl := Option.some.inj h
  have hp : Hp _ _ _ (ow) := Hp.sel (pre := [Res.obj 41 v1 [.int .i64 c0_Length, .int .u32 c0_One, .int .u32 c0_Two]]) (tail := ow) (rs' := []) hp [] (by decide) (by simp) rfl
  exact ⟨rfl, ⟨hf.sub ⟨rfl, trivial⟩, hp⟩⟩

end Go.Proofs.Ythajdlihjobcoaa
