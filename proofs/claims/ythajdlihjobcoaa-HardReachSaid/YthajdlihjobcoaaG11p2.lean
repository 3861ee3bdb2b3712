/- The functions foghorn foghornlaw22.HardReach: what each answers, as a plain function, and that its call answers it; printed by gen.py. -/
import Derived.Test.YthajdlihjobcoaaProg
import Derived.Test.YthajdlihjobcoaaGlT
import Derived.KernelRfl
import Derived.Test.YthajdlihjobcoaaG11p1
set_option linter.unusedVariables false
set_option linter.unusedSimpArgs false
set_option maxRecDepth 100000
set_option maxHeartbeats 4000000
namespace Go.Proofs.Ythajdlihjobcoaa
open GL
noncomputable def f_hard_Path.s1c (c0_Length : Int) (marks1 : (List Int)) (rest10 : (List (List Int))) (t40 : Int) : Option (((List (List Int)) × Int) ⊕ (List (List Int))) := (if (decide (t40 < (ishl .u32 (1 : Int) (IntKind.i64.wrap (c0_Length - (1 : Int)))))) = true then (if 0 ≤ (IntKind.i64.wrap (((marks1.length : Int)).tdiv (2 : Int))) ∧ (IntKind.i64.wrap (((marks1.length : Int)).tdiv (2 : Int))) < (rest10.length : Int) then (if 0 ≤ t40 ∧ t40 < (64 : Int) then (some (Sum.inl ((rest10.set ((IntKind.i64.wrap (((marks1.length : Int)).tdiv (2 : Int)))).toNat ((gt rest10 (IntKind.i64.wrap (((marks1.length : Int)).tdiv (2 : Int)))).set (t40).toNat (1048576 : Int))), (IntKind.u32.wrap (t40 + (1 : Int)))))) else none) else none) else (some (Sum.inr rest10)))
noncomputable def f_hard_Path.s1 (c0_Length : Int) (marks1 : (List Int)) (s : ((List (List Int)) × Int)) : Option (((List (List Int)) × Int) ⊕ (List (List Int))) := f_hard_Path.s1c c0_Length marks1 s.1 s.2
noncomputable def f_hard_Path.s3c (c0_Length : Int) (c0_One : Int) (c0_Two : Int) (marks1 : (List Int)) (t12 : Int) (rest10 : (List (List Int))) (t60 : Int) : Option (((List (List Int)) × Int) ⊕ (List (List Int))) := (if (decide (t60 < (ishl .u32 (1 : Int) (IntKind.i64.wrap (c0_Length - (1 : Int)))))) = true then (if 0 ≤ (IntKind.i64.wrap ((2 : Int) * t12)) ∧ (IntKind.i64.wrap ((2 : Int) * t12)) ≤ (marks1.length : Int) then ((f_hard_step c0_Length c0_One c0_Two t60 (0 : Int) ((marks1.drop (((IntKind.i64.wrap ((2 : Int) * t12))).toNat)).take (marks1.length - ((IntKind.i64.wrap ((2 : Int) * t12))).toNat))).bind fun q37 => (if 0 ≤ (IntKind.i64.wrap (t12 + (1 : Int))) ∧ (IntKind.i64.wrap (t12 + (1 : Int))) < (rest10.length : Int) then (if 0 ≤ q37.1 ∧ q37.1 < (64 : Int) then (if 0 ≤ t12 ∧ t12 < (rest10.length : Int) then (if 0 ≤ t60 ∧ t60 < (64 : Int) then (if (decide (t12 < (IntKind.i64.wrap ((IntKind.i64.wrap (((marks1.length : Int)).tdiv (2 : Int))) - (IntKind.i64.wrap (c0_Length - (1 : Int))))))) = true then (if 0 ≤ (IntKind.i64.wrap ((2 : Int) * t12)) ∧ (IntKind.i64.wrap ((2 : Int) * t12)) ≤ (marks1.length : Int) then ((f_hard_step c0_Length c0_One c0_Two t60 (1 : Int) ((marks1.drop (((IntKind.i64.wrap ((2 : Int) * t12))).toNat)).take (marks1.length - ((IntKind.i64.wrap ((2 : Int) * t12))).toNat))).bind fun q60 => (if 0 ≤ t12 ∧ t12 < ((rest10.set (t12).toNat ((gt rest10 t12).set (t60).toNat (IntKind.i32.wrap (q37.2 + (gt (gt rest10 (IntKind.i64.wrap (t12 + (1 : Int)))) q37.1))))).length : Int) then (if 0 ≤ t60 ∧ t60 < (64 : Int) then (if 0 ≤ (IntKind.i64.wrap (t12 + (1 : Int))) ∧ (IntKind.i64.wrap (t12 + (1 : Int))) < ((rest10.set (t12).toNat ((gt rest10 t12).set (t60).toNat (IntKind.i32.wrap (q37.2 + (gt (gt rest10 (IntKind.i64.wrap (t12 + (1 : Int)))) q37.1))))).length : Int) then (if 0 ≤ q60.1 ∧ q60.1 < (64 : Int) then (if 0 ≤ t12 ∧ t12 < ((rest10.set (t12).toNat ((gt rest10 t12).set (t60).toNat (IntKind.i32.wrap (q37.2 + (gt (gt rest10 (IntKind.i64.wrap (t12 + (1 : Int)))) q37.1))))).length : Int) then (if 0 ≤ t60 ∧ t60 < (64 : Int) then (some (Sum.inl (((rest10.set (t12).toNat ((gt rest10 t12).set (t60).toNat (IntKind.i32.wrap (q37.2 + (gt (gt rest10 (IntKind.i64.wrap (t12 + (1 : Int)))) q37.1))))).set (t12).toNat ((gt (rest10.set (t12).toNat ((gt rest10 t12).set (t60).toNat (IntKind.i32.wrap (q37.2 + (gt (gt rest10 (IntKind.i64.wrap (t12 + (1 : Int)))) q37.1))))) t12).set (t60).toNat (imin (gt (gt (rest10.set (t12).toNat ((gt rest10 t12).set (t60).toNat (IntKind.i32.wrap (q37.2 + (gt (gt rest10 (IntKind.i64.wrap (t12 + (1 : Int)))) q37.1))))) t12) t60) (IntKind.i32.wrap (q60.2 + (gt (gt (rest10.set (t12).toNat ((gt rest10 t12).set (t60).toNat (IntKind.i32.wrap (q37.2 + (gt (gt rest10 (IntKind.i64.wrap (t12 + (1 : Int)))) q37.1))))) (IntKind.i64.wrap (t12 + (1 : Int)))) q60.1)))))), (IntKind.u32.wrap (t60 + (1 : Int)))))) else none) else none) else none) else none) else none) else none)) else none) else (some (Sum.inl ((rest10.set (t12).toNat ((gt rest10 t12).set (t60).toNat (IntKind.i32.wrap (q37.2 + (gt (gt rest10 (IntKind.i64.wrap (t12 + (1 : Int)))) q37.1))))), (IntKind.u32.wrap (t60 + (1 : Int))))))) else none) else none) else none) else none)) else none) else (some (Sum.inr rest10)))
noncomputable def f_hard_Path.s3 (c0_Length : Int) (c0_One : Int) (c0_Two : Int) (marks1 : (List Int)) (t12 : Int) (s : ((List (List Int)) × Int)) : Option (((List (List Int)) × Int) ⊕ (List (List Int))) := f_hard_Path.s3c c0_Length c0_One c0_Two marks1 t12 s.1 s.2
noncomputable def f_hard_Path.s2c (c0_Length : Int) (c0_One : Int) (c0_Two : Int) (marks1 : (List Int)) (rest10 : (List (List Int))) (t12 : Int) : Option (((List (List Int)) × Int) ⊕ (List (List Int))) := (if (decide ((0 : Int) ≤ t12)) = true then ((loop (f_hard_Path.s3 c0_Length c0_One c0_Two marks1 t12) (rest10, (0 : Int))).bind (fun q75 => (some (Sum.inl (q75, (IntKind.i64.wrap (t12 - (1 : Int)))))))) else (some (Sum.inr rest10)))
noncomputable def f_hard_Path.s2 (c0_Length : Int) (c0_One : Int) (c0_Two : Int) (marks1 : (List Int)) (s : ((List (List Int)) × Int)) : Option (((List (List Int)) × Int) ⊕ (List (List Int))) := f_hard_Path.s2c c0_Length c0_One c0_Two marks1 s.1 s.2
noncomputable def f_hard_Path.s4c (c0_Length : Int) (c0_One : Int) (c0_Two : Int) (marks1 : (List Int)) (q76 : (List (List Int))) (message4 : (List Bool)) (at16 : Int) (t125 : Int) : Option (((List Bool) × Int × Int) ⊕ (List Bool)) := (if (decide (t125 < (IntKind.i64.wrap ((IntKind.i64.wrap (((marks1.length : Int)).tdiv (2 : Int))) - (IntKind.i64.wrap (c0_Length - (1 : Int))))))) = true then (if 0 ≤ (IntKind.i64.wrap ((2 : Int) * t125)) ∧ (IntKind.i64.wrap ((2 : Int) * t125)) ≤ (marks1.length : Int) then ((f_hard_step c0_Length c0_One c0_Two at16 (0 : Int) ((marks1.drop (((IntKind.i64.wrap ((2 : Int) * t125))).toNat)).take (marks1.length - ((IntKind.i64.wrap ((2 : Int) * t125))).toNat))).bind fun q94 => (if 0 ≤ (IntKind.i64.wrap (t125 + (1 : Int))) ∧ (IntKind.i64.wrap (t125 + (1 : Int))) < (q76.length : Int) then (if 0 ≤ q94.1 ∧ q94.1 < (64 : Int) then (if 0 ≤ t125 ∧ t125 < (q76.length : Int) then (if 0 ≤ at16 ∧ at16 < (64 : Int) then (if 0 ≤ t125 ∧ t125 < (message4.length : Int) then (if 0 ≤ t125 ∧ t125 < ((message4.set (t125).toNat ((IntKind.i32.wrap (q94.2 + (gt (gt q76 (IntKind.i64.wrap (t125 + (1 : Int)))) q94.1))) != (gt (gt q76 t125) at16))).length : Int) then (if (gt (message4.set (t125).toNat ((IntKind.i32.wrap (q94.2 + (gt (gt q76 (IntKind.i64.wrap (t125 + (1 : Int)))) q94.1))) != (gt (gt q76 t125) at16))) t125) = true then (if 0 ≤ (IntKind.i64.wrap ((2 : Int) * t125)) ∧ (IntKind.i64.wrap ((2 : Int) * t125)) ≤ (marks1.length : Int) then ((f_hard_step c0_Length c0_One c0_Two at16 (1 : Int) ((marks1.drop (((IntKind.i64.wrap ((2 : Int) * t125))).toNat)).take (marks1.length - ((IntKind.i64.wrap ((2 : Int) * t125))).toNat))).bind fun q125 => (some (Sum.inl ((message4.set (t125).toNat ((IntKind.i32.wrap (q94.2 + (gt (gt q76 (IntKind.i64.wrap (t125 + (1 : Int)))) q94.1))) != (gt (gt q76 t125) at16))), q125.1, (IntKind.i64.wrap (t125 + (1 : Int))))))) else none) else (some (Sum.inl ((message4.set (t125).toNat ((IntKind.i32.wrap (q94.2 + (gt (gt q76 (IntKind.i64.wrap (t125 + (1 : Int)))) q94.1))) != (gt (gt q76 t125) at16))), q94.1, (IntKind.i64.wrap (t125 + (1 : Int))))))) else none) else none) else none) else none) else none) else none)) else none) else (some (Sum.inr message4)))
noncomputable def f_hard_Path.s4 (c0_Length : Int) (c0_One : Int) (c0_Two : Int) (marks1 : (List Int)) (q76 : (List (List Int))) (s : ((List Bool) × Int × Int)) : Option (((List Bool) × Int × Int) ⊕ (List Bool)) := f_hard_Path.s4c c0_Length c0_One c0_Two marks1 q76 s.1 s.2.1 s.2.2
noncomputable def f_hard_Path (c0_Length : Int) (c0_One : Int) (c0_Two : Int) (marks1 : (List Int)) : Option ((List Bool) × Int × Int) := ((f_hard_fits c0_Length c0_One c0_Two marks1).bind fun q3 => (if (!q3) = true then (some ([], (0 : Int), (1 : Int))) else (if 0 ≤ (IntKind.i64.wrap (c0_Length - (1 : Int))) then (if 0 ≤ (IntKind.i64.wrap ((IntKind.i64.wrap (((marks1.length : Int)).tdiv (2 : Int))) + (1 : Int))) ∧ (IntKind.i64.wrap ((IntKind.i64.wrap (((marks1.length : Int)).tdiv (2 : Int))) + (1 : Int))) ≤ (IntKind.i64.wrap ((IntKind.i64.wrap (((marks1.length : Int)).tdiv (2 : Int))) + (1 : Int))) ∧ (IntKind.i64.wrap ((IntKind.i64.wrap (((marks1.length : Int)).tdiv (2 : Int))) + (1 : Int))) * 256 ≤ 281474976710656 then ((loop (f_hard_Path.s1 c0_Length marks1) ((List.replicate ((IntKind.i64.wrap ((IntKind.i64.wrap (((marks1.length : Int)).tdiv (2 : Int))) + (1 : Int)))).toNat (List.replicate 64 (0 : Int))), (0 : Int))).bind (fun q16 => (if 0 ≤ (IntKind.i64.wrap (((marks1.length : Int)).tdiv (2 : Int))) ∧ (IntKind.i64.wrap (((marks1.length : Int)).tdiv (2 : Int))) < (q16.length : Int) then ((loop (f_hard_Path.s2 c0_Length c0_One c0_Two marks1) ((q16.set ((IntKind.i64.wrap (((marks1.length : Int)).tdiv (2 : Int)))).toNat ((gt q16 (IntKind.i64.wrap (((marks1.length : Int)).tdiv (2 : Int)))).set ((0 : Int)).toNat (0 : Int))), (IntKind.i64.wrap ((IntKind.i64.wrap (((marks1.length : Int)).tdiv (2 : Int))) - (1 : Int))))).bind (fun q76 => (if 0 ≤ (IntKind.i64.wrap ((IntKind.i64.wrap (((marks1.length : Int)).tdiv (2 : Int))) - (IntKind.i64.wrap (c0_Length - (1 : Int))))) ∧ (IntKind.i64.wrap ((IntKind.i64.wrap (((marks1.length : Int)).tdiv (2 : Int))) - (IntKind.i64.wrap (c0_Length - (1 : Int))))) ≤ (IntKind.i64.wrap ((IntKind.i64.wrap (((marks1.length : Int)).tdiv (2 : Int))) - (IntKind.i64.wrap (c0_Length - (1 : Int))))) ∧ (IntKind.i64.wrap ((IntKind.i64.wrap (((marks1.length : Int)).tdiv (2 : Int))) - (IntKind.i64.wrap (c0_Length - (1 : Int))))) * 1 ≤ 281474976710656 then ((loop (f_hard_Path.s4 c0_Length c0_One c0_Two marks1 q76) ((List.replicate ((IntKind.i64.wrap ((IntKind.i64.wrap (((marks1.length : Int)).tdiv (2 : Int))) - (IntKind.i64.wrap (c0_Length - (1 : Int)))))).toNat false), (0 : Int), (0 : Int))).bind (fun q127 => (if 0 ≤ (0 : Int) ∧ (0 : Int) < (q76.length : Int) then (some (q127, (IntKind.i64.wrap (gt (gt q76 (0 : Int)) (0 : Int))), (0 : Int))) else none))) else none))) else none))) else none) else none)))
theorem f_hard_Path_c {S : Nat → Prop} {w0 w : World} {ow : List Res} (hp : Hp S w0 w ow) (c0_Length : Int) (c0_One : Int) (c0_Two : Int) (vmarks1 : Value) (marks1 : (List Int)) (hmarks1 : RdS (Ek.int .u8) S w0 vmarks1 marks1) {r : ((List Bool) × Int × Int)} (h : f_hard_Path c0_Length c0_One c0_Two marks1 = some r) :
    Calls Try.prog 19 #[.agg #[.int .i64 c0_Length, .int .u32 c0_One, .int .u32 c0_Two], vmarks1] w (fun e w' => ∃ (u0 : Value), e = .returned (.tuple #[u0, .int .i64 r.2.1, .int .i64 r.2.2]) ∧ Hp S w0 w' (Res.sl Ek.bool 4 u0 r.1 :: ow)) := by
  unfold f_hard_Path at h
  refine enter (n := 179) (args := [.agg #[.int .i64 c0_Length, .int .u32 c0_One, .int .u32 c0_Two], vmarks1]) Try.func19 rfl rfl (Nat.le_of_ble_eq_true rfl) fun a hf => ?_
  replace hf : Fr 179 a [(0, .agg #[.int .i64 c0_Length, .int .u32 c0_One, .int .u32 c0_Two]), (1, vmarks1)] := hf
  refine wp_mono (Q := fun e a w => e = .ret ∧ ∃ (u0 : Value), Fr 179 a [(4, u0), (5, .int .i64 r.2.1), (6, .int .i64 r.2.2)] ∧ Hp S w0 w (Res.sl Ek.bool 4 u0 r.1 :: ow)) ?_ ?_
  rotate_left
  · rintro e a w ⟨rfl, x0, hf, hp⟩
    exact ret3 hf rfl rfl rfl rfl ⟨x0, rfl, hp⟩
  refine wp_seq ?_
  refine wp_reg ?_
  refine st_boxO (cs := [.int .i64 c0_Length, .int .u32 c0_One, .int .u32 c0_Two]) hf (by decide) hp rfl rfl rfl ?_
  clear hf; intro a w v1 hf hp0; clear hp; have hp := hp0; clear hp0
  replace hp : Hp _ _ _ (Res.obj 40 v1 [.int .i64 c0_Length, .int .u32 c0_One, .int .u32 c0_Two] :: ow) := hp
  refine st_assign hf rfl rfl (by decide) ?_
  clear hf; intro a ha hf; clear ha
  refine st_assign hf rfl rfl (by decide) ?_
  clear hf; intro a ha hf; clear ha
  refine st_assign hf rfl rfl (by decide) ?_
  clear hf; intro a ha hf; clear ha
  refine st_nil hf ?_
  refine th_n ?_
  refine wp_seq ?_
  refine wp_seq ?_
  refine wp_reg ?_
  refine st_ldOA (m := 3) (us := [.int .i64 c0_Length, .int .u32 c0_One, .int .u32 c0_Two]) hf (by decide) (by kernel_rfl) rfl rfl (hp.ob (i := 0) rfl) rfl rfl ?_
  clear hf; intro a ha hf; clear ha
  refine st_move hf rfl rfl (by decide) ?_
  clear hf; intro a ha hf; clear ha
  obtain ⟨q3, hcall4, h⟩ := bnd h
  refine st_call hf (by decide) Try.func31 rfl rfl rfl rfl rfl (f_hard_fits_c hp _ _ _ _ _ hmarks1 hcall4) ?_
  rintro _ w ⟨rfl, hp0⟩
  clear hp; have hp := hp0; clear hp0
  replace hp : Hp _ _ _ (Res.obj 40 v1 [.int .i64 c0_Length, .int .u32 c0_One, .int .u32 c0_Two] :: ow) := hp
  refine ⟨_, rfl, ?_⟩
  clear hf; intro a hf
  refine st_not hf (by decide) rfl rfl ?_
  clear hf; intro a ha hf; clear ha
  refine st_nil hf ?_
  refine th_n ?_
  refine wp_if hf rfl (fun hb => ?_) (fun hb => ?_)
  · replace h := ifT h hb
    refine wp_seq ?_
    refine wp_reg ?_
    refine st_assign hf rfl rfl (by decide) ?_
    clear hf; intro a ha hf; clear ha
    refine st_assign hf rfl rfl (by decide) ?_
    clear hf; intro a ha hf; clear ha
    refine st_assign hf rfl rfl (by decide) ?_
    clear hf; intro a ha hf; clear ha
    refine st_nil hf ?_
    refine th_n ?_
    refine wp_ret ?_
    refine th_r ?_
    obtain rfl := Option.some.inj h
    have hp := hp.nil Ek.bool 4
    have hp : Hp _ _ _ (Res.sl Ek.bool 4 (.slice none 0 0) ([]) :: ow) := Hp.sel (pre := [Res.sl Ek.bool 4 (.slice none 0 0) ([]), Res.obj 40 v1 [.int .i64 c0_Length, .int .u32 c0_One, .int .u32 c0_Two]]) (tail := ow) (rs' := [Res.sl Ek.bool 4 (.slice none 0 0) ([])]) hp [0] (by decide) (by simp) rfl
    exact ⟨rfl, ⟨_, hf.sub ⟨rfl, rfl, rfl, trivial⟩, hp⟩⟩
  replace h := ifF h hb
  refine wp_skip ?_
  refine th_n ?_
  refine wp_seq ?_
  refine wp_reg ?_
  refine st_move hf rfl rfl (by decide) ?_
  clear hf; intro a ha hf; clear ha
  refine st_len (E := (Ek.int .u8)) hf (by decide) Try.underlying26 rfl rfl (hmarks1.sl hp) ?_
  clear hf; intro a ha hf; clear ha
  refine st_iquo hf (by decide) rfl rfl rfl (by decide) ?_
  clear hf; intro a ha hf; clear ha
  refine st_assign hf rfl rfl (by decide) ?_
  clear hf; intro a ha hf; clear ha
  refine st_nil hf ?_
  refine th_n ?_
  refine wp_seq ?_
  refine wp_reg ?_
  refine st_move hf rfl rfl (by decide) ?_
  clear hf; intro a ha hf; clear ha
  refine st_fa (o' := 0) hf (by decide) (off := 0) (sz := 1) (by kernel_rfl) (by decide) rfl rfl (hp.ob (i := 0) rfl) rfl ?_
  clear hf; intro a ha hf; clear ha
  refine st_ldO (u := .int .i64 c0_Length) hf (by decide) pl3 rfl rfl (hp.ob (i := 0) rfl) rfl ?_
  clear hf; intro a ha hf; clear ha
  refine st_isub hf (by decide) rfl rfl rfl ?_
  clear hf; intro a ha hf; clear ha
  refine st_isub hf (by decide) rfl rfl rfl ?_
  clear hf; intro a ha hf; clear ha
  refine st_assign hf rfl rfl (by decide) ?_
  clear hf; intro a ha hf; clear ha
  refine st_nil hf ?_
  refine th_n ?_
  refine wp_seq ?_
  refine wp_reg ?_
  refine st_fa (o' := 0) hf (by decide) (off := 0) (sz := 1) (by kernel_rfl) (by decide) rfl rfl (hp.ob (i := 0) rfl) rfl ?_
  clear hf; intro a ha hf; clear ha
  refine st_ldO (u := .int .i64 c0_Length) hf (by decide) pl3 rfl rfl (hp.ob (i := 0) rfl) rfl ?_
  clear hf; intro a ha hf; clear ha
  refine st_isub hf (by decide) rfl rfl rfl ?_
  clear hf; intro a ha hf; clear ha
  obtain ⟨hc6, h⟩ := chk h
  refine st_ishl hf (by decide) rfl rfl rfl hc6 ?_
  clear hf; intro a ha hf; clear ha
  refine st_assign hf rfl rfl (by decide) ?_
  clear hf; intro a ha hf; clear ha
  refine st_nil hf ?_
  refine th_n ?_
  refine wp_seq ?_
  refine wp_reg ?_
  refine st_move hf rfl rfl (by decide) ?_
  clear hf; intro a ha hf; clear ha
  refine st_iadd hf (by decide) rfl rfl rfl ?_
  clear hf; intro a ha hf; clear ha
  obtain ⟨hc7, h⟩ := chk h
  refine st_make (E := (Ek.arr 64 (Ek.int .i32))) hf (by decide) elt65 Try.underlying64 (by decide) hp rfl rfl rfl hc7.1 hc7.2.1 hc7.2.2 ?_
  clear hf; intro a w v8 hf hp0; clear hp; have hp := hp0; clear hp0
  replace hp : Hp _ _ _ (Res.sl (Ek.arr 64 (Ek.int .i32)) 65 v8 (List.replicate ((IntKind.i64.wrap ((IntKind.i64.wrap (((marks1.length : Int)).tdiv (2 : Int))) + (1 : Int)))).toNat (List.replicate 64 (0 : Int))) :: Res.obj 40 v1 [.int .i64 c0_Length, .int .u32 c0_One, .int .u32 c0_Two] :: ow) := hp
  refine st_assign hf rfl rfl (by decide) ?_
  clear hf; intro a ha hf; clear ha
  refine st_nil hf ?_
  refine th_n ?_
  refine wp_seq ?_
  refine wp_seq ?_
  refine wp_reg ?_
  refine st_move hf rfl rfl (by decide) ?_
  clear hf; intro a ha hf; clear ha
  refine st_move hf rfl rfl (by decide) ?_
  clear hf; intro a ha hf; clear ha
  refine st_nil hf ?_
  refine th_n ?_
  refine wp_block ?_
  obtain ⟨q16, hl, h⟩ := bnd h
  refine wp_loop_pure (f := (f_hard_Path.s1 c0_Length marks1)) (s := ((List.replicate ((IntKind.i64.wrap ((IntKind.i64.wrap (((marks1.length : Int)).tdiv (2 : Int))) + (1 : Int)))).toNat (List.replicate 64 (0 : Int))), (0 : Int))) (fun s a w => ∃ (v10 : Value), Fr 179 a [(1, vmarks1), (2, optr v1 0), (7, .int .i64 (IntKind.i64.wrap (((marks1.length : Int)).tdiv (2 : Int)))), (8, .int .i64 (IntKind.i64.wrap ((IntKind.i64.wrap (((marks1.length : Int)).tdiv (2 : Int))) - (IntKind.i64.wrap (c0_Length - (1 : Int)))))), (9, .int .u32 (ishl .u32 (1 : Int) (IntKind.i64.wrap (c0_Length - (1 : Int))))), (10, v10), (39, .int .u32 (ishl .u32 (1 : Int) (IntKind.i64.wrap (c0_Length - (1 : Int))))), (40, .int .u32 s.2)] ∧ Hp S w0 w (Res.sl (Ek.arr 64 (Ek.int .i32)) 65 v10 s.1 :: Res.obj 40 v1 [.int .i64 c0_Length, .int .u32 c0_One, .int .u32 c0_Two] :: ow)) (fun q e a w => e = .exit 0 ∧ ∃ (v12 : Value), Fr 179 a [(1, vmarks1), (2, optr v1 0), (7, .int .i64 (IntKind.i64.wrap (((marks1.length : Int)).tdiv (2 : Int)))), (8, .int .i64 (IntKind.i64.wrap ((IntKind.i64.wrap (((marks1.length : Int)).tdiv (2 : Int))) - (IntKind.i64.wrap (c0_Length - (1 : Int)))))), (9, .int .u32 (ishl .u32 (1 : Int) (IntKind.i64.wrap (c0_Length - (1 : Int))))), (10, v12)] ∧ Hp S w0 w (Res.sl (Ek.arr 64 (Ek.int .i32)) 65 v12 q :: Res.obj 40 v1 [.int .i64 c0_Length, .int .u32 c0_One, .int .u32 c0_Two] :: ow)) ?_ hl ⟨_, hf.sub ⟨rfl, rfl, rfl, rfl, rfl, rfl, rfl, rfl, trivial⟩, hp⟩ ?_
  · clear hl hf hp
    intro s x a w h hI
    obtain ⟨rest10, t40⟩ := s
    obtain ⟨v10, hf, hp⟩ : ∃ (v10 : Value), Fr 179 a [(1, vmarks1), (2, optr v1 0), (7, .int .i64 (IntKind.i64.wrap (((marks1.length : Int)).tdiv (2 : Int)))), (8, .int .i64 (IntKind.i64.wrap ((IntKind.i64.wrap (((marks1.length : Int)).tdiv (2 : Int))) - (IntKind.i64.wrap (c0_Length - (1 : Int)))))), (9, .int .u32 (ishl .u32 (1 : Int) (IntKind.i64.wrap (c0_Length - (1 : Int))))), (10, v10), (39, .int .u32 (ishl .u32 (1 : Int) (IntKind.i64.wrap (c0_Length - (1 : Int))))), (40, .int .u32 t40)] ∧ Hp S w0 w (Res.sl (Ek.arr 64 (Ek.int .i32)) 65 v10 rest10 :: Res.obj 40 v1 [.int .i64 c0_Length, .int .u32 c0_One, .int .u32 c0_Two] :: ow) := hI
    replace h : f_hard_Path.s1c c0_Length marks1 rest10 t40 = some x := h
    unfold f_hard_Path.s1c at h
    refine wp_seq ?_
    refine wp_reg ?_
    refine st_ilss hf (by decide) rfl rfl rfl ?_
    clear hf; intro a ha hf; clear ha
    refine st_nil hf ?_
    refine th_n ?_
    refine wp_seq ?_
    refine wp_if hf rfl (fun hb => ?_) (fun hb => ?_)
    · replace h := ifT h hb
      refine wp_skip ?_
      refine th_n ?_
      refine wp_seq ?_
      refine wp_block ?_
      refine wp_seq ?_
      refine wp_reg ?_
      refine st_move hf rfl rfl (by decide) ?_
      clear hf; intro a ha hf; clear ha
      refine st_assign hf rfl rfl (by decide) ?_
      clear hf; intro a ha hf; clear ha
      refine st_nil hf ?_
      refine th_n ?_
      refine wp_reg ?_
      refine st_move hf rfl rfl (by decide) ?_
      clear hf; intro a ha hf; clear ha
      refine st_move hf rfl rfl (by decide) ?_
      clear hf; intro a ha hf; clear ha
      refine st_move hf rfl rfl (by decide) ?_
      clear hf; intro a ha hf; clear ha
      obtain ⟨hc14, h⟩ := chk h
      refine st_index (E := (Ek.arr 64 (Ek.int .i32))) hf (by decide) Try.underlying64 elt65 rfl rfl rfl (hp.sl (i := 0) rfl) hc14.1 hc14.2 ?_
      clear hf; intro a ha hf; clear ha
      obtain ⟨hc15, h⟩ := chk h
      refine st_iaP (sz := 1) hf (by decide) Try.underlying65 (by kernel_rfl) rfl rfl rfl (Sl.isP (hp.sl (i := 0) rfl) hc14.1 hc14.2) hc15.1 hc15.2 ?_
      clear hf; intro a ha hf; clear ha
      refine st_stQ (E := (Ek.arr 64 (Ek.int .i32))) (F := (Ek.int .i32)) (o := (t40).toNat * 1) (Sub.arr (F := (Ek.int .i32)) (N := 64) (j := t40) hc15.1 hc15.2) hf (by kernel_rfl) hp (i := 0) rfl rfl rfl rfl rfl hc14.1 hc14.2 ?_
      clear hf; intro a w hf hp0; clear hp; have hp := hp0; clear hp0
      replace hp : Hp _ _ _ (Res.sl (Ek.arr 64 (Ek.int .i32)) 65 v10 (rest10.set ((IntKind.i64.wrap (((marks1.length : Int)).tdiv (2 : Int)))).toNat ((gt rest10 (IntKind.i64.wrap (((marks1.length : Int)).tdiv (2 : Int)))).set (t40).toNat (1048576 : Int))) :: Res.obj 40 v1 [.int .i64 c0_Length, .int .u32 c0_One, .int .u32 c0_Two] :: ow) := hp
      refine st_nil hf ?_
      refine ib_n ?_
      refine th_n ?_
      refine wp_reg ?_
      refine st_iadd hf (by decide) rfl rfl rfl ?_
      clear hf; intro a ha hf; clear ha
      refine st_move hf rfl rfl (by decide) ?_
      clear hf; intro a ha hf; clear ha
      refine st_nil hf ?_
      obtain rfl := Option.some.inj h
      exact rnd_l ⟨_, hf.sub ⟨rfl, rfl, rfl, rfl, rfl, rfl, rfl, rfl, trivial⟩, hp⟩
    replace h := ifF h hb
    refine wp_exit ?_
    refine th_e ?_
    obtain rfl := Option.some.inj h
    exact rnd_r (by simp) ⟨rfl, _, hf.sub ⟨rfl, rfl, rfl, rfl, rfl, rfl, trivial⟩, hp⟩
  clear hl hf hp
  intro e a w hne hO
  obtain ⟨rfl, v12, hf, hp⟩ := hO
  refine ib_same ?_
  refine th_n ?_
  refine wp_seq ?_
  refine wp_reg ?_
  refine st_move hf rfl rfl (by decide) ?_
  clear hf; intro a ha hf; clear ha
  refine st_move hf rfl rfl (by decide) ?_
  clear hf; intro a ha hf; clear ha
  obtain ⟨hc17, h⟩ := chk h
  refine st_index (E := (Ek.arr 64 (Ek.int .i32))) hf (by decide) Try.underlying64 elt65 rfl rfl rfl (hp.sl (i := 0) rfl) hc17.1 hc17.2 ?_
  clear hf; intro a ha hf; clear ha
  have hc18 : 0 ≤ (0 : Int) ∧ (0 : Int) < (64 : Int) := by decide
  refine st_iaP (sz := 1) hf (by decide) Try.underlying65 (by kernel_rfl) rfl rfl rfl (Sl.isP (hp.sl (i := 0) rfl) hc17.1 hc17.2) hc18.1 hc18.2 ?_
  clear hf; intro a ha hf; clear ha
  refine st_stQ (E := (Ek.arr 64 (Ek.int .i32))) (F := (Ek.int .i32)) (o := ((0 : Int)).toNat * 1) (Sub.arr (F := (Ek.int .i32)) (N := 64) (j := (0 : Int)) hc18.1 hc18.2) hf (by kernel_rfl) hp (i := 0) rfl rfl rfl rfl rfl hc17.1 hc17.2 ?_
  clear hf; intro a w hf hp0; clear hp; have hp := hp0; clear hp0
  replace hp : Hp _ _ _ (Res.sl (Ek.arr 64 (Ek.int .i32)) 65 v12 (q16.set ((IntKind.i64.wrap (((marks1.length : Int)).tdiv (2 : Int)))).toNat ((gt q16 (IntKind.i64.wrap (((marks1.length : Int)).tdiv (2 : Int)))).set ((0 : Int)).toNat (0 : Int))) :: Res.obj 40 v1 [.int .i64 c0_Length, .int .u32 c0_One, .int .u32 c0_Two] :: ow) := hp
  refine st_nil hf ?_
  refine th_n ?_
  refine wp_seq ?_
  refine wp_seq ?_
  refine wp_reg ?_
  refine st_move hf rfl rfl (by decide) ?_
  clear hf; intro a ha hf; clear ha
  refine st_isub hf (by decide) rfl rfl rfl ?_
  clear hf; intro a ha hf; clear ha
  refine st_assign hf rfl rfl (by decide) ?_
  clear hf; intro a ha hf; clear ha
  refine st_nil hf ?_
  refine th_n ?_
  refine wp_block ?_
  obtain ⟨q76, hl, h⟩ := bnd h
  refine wp_loop_pure (f := (f_hard_Path.s2 c0_Length c0_One c0_Two marks1)) (s := ((q16.set ((IntKind.i64.wrap (((marks1.length : Int)).tdiv (2 : Int)))).toNat ((gt q16 (IntKind.i64.wrap (((marks1.length : Int)).tdiv (2 : Int)))).set ((0 : Int)).toNat (0 : Int))), (IntKind.i64.wrap ((IntKind.i64.wrap (((marks1.length : Int)).tdiv (2 : Int))) - (1 : Int))))) (fun s a w => ∃ (v19 : Value), Fr 179 a [(1, vmarks1), (2, optr v1 0), (8, .int .i64 (IntKind.i64.wrap ((IntKind.i64.wrap (((marks1.length : Int)).tdiv (2 : Int))) - (IntKind.i64.wrap (c0_Length - (1 : Int)))))), (9, .int .u32 (ishl .u32 (1 : Int) (IntKind.i64.wrap (c0_Length - (1 : Int))))), (10, v19), (12, .int .i64 s.2)] ∧ Hp S w0 w (Res.sl (Ek.arr 64 (Ek.int .i32)) 65 v19 s.1 :: Res.obj 40 v1 [.int .i64 c0_Length, .int .u32 c0_One, .int .u32 c0_Two] :: ow)) (fun q e a w => e = .exit 2 ∧ ∃ (v21 : Value), Fr 179 a [(1, vmarks1), (2, optr v1 0), (8, .int .i64 (IntKind.i64.wrap ((IntKind.i64.wrap (((marks1.length : Int)).tdiv (2 : Int))) - (IntKind.i64.wrap (c0_Length - (1 : Int)))))), (10, v21)] ∧ Hp S w0 w (Res.sl (Ek.arr 64 (Ek.int .i32)) 65 v21 q :: Res.obj 40 v1 [.int .i64 c0_Length, .int .u32 c0_One, .int .u32 c0_Two] :: ow)) ?_ hl ⟨_, hf.sub ⟨rfl, rfl, rfl, rfl, rfl, rfl, trivial⟩, hp⟩ ?_
  · clear hl hf hp
    intro s x a w h hI
    obtain ⟨rest10, t12⟩ := s
    obtain ⟨v19, hf, hp⟩ : ∃ (v19 : Value), Fr 179 a [(1, vmarks1), (2, optr v1 0), (8, .int .i64 (IntKind.i64.wrap ((IntKind.i64.wrap (((marks1.length : Int)).tdiv (2 : Int))) - (IntKind.i64.wrap (c0_Length - (1 : Int)))))), (9, .int .u32 (ishl .u32 (1 : Int) (IntKind.i64.wrap (c0_Length - (1 : Int))))), (10, v19), (12, .int .i64 t12)] ∧ Hp S w0 w (Res.sl (Ek.arr 64 (Ek.int .i32)) 65 v19 rest10 :: Res.obj 40 v1 [.int .i64 c0_Length, .int .u32 c0_One, .int .u32 c0_Two] :: ow) := hI
    replace h : f_hard_Path.s2c c0_Length c0_One c0_Two marks1 rest10 t12 = some x := h
    unfold f_hard_Path.s2c at h
    refine wp_seq ?_
    refine wp_seq ?_
    refine wp_reg ?_
    refine st_move hf rfl rfl (by decide) ?_
    clear hf; intro a ha hf; clear ha
    refine st_igeq hf (by decide) rfl rfl rfl ?_
    clear hf; intro a ha hf; clear ha
    refine st_nil hf ?_
    refine th_n ?_
    refine wp_if hf rfl (fun hb => ?_) (fun hb => ?_)
    · replace h := ifT h hb
      refine wp_skip ?_
      refine th_n ?_
      refine wp_seq ?_
      refine wp_block ?_
      refine wp_seq ?_
      refine wp_reg ?_
      refine st_move hf rfl rfl (by decide) ?_
      clear hf; intro a ha hf; clear ha
      refine st_move hf rfl rfl (by decide) ?_
      clear hf; intro a ha hf; clear ha
      refine st_nil hf ?_
      refine th_n ?_
      refine wp_block ?_
      obtain ⟨q75, hl, h⟩ := bnd h
      refine wp_loop_pure (f := (f_hard_Path.s3 c0_Length c0_One c0_Two marks1 t12)) (s := (rest10, (0 : Int))) (fun s a w => ∃ (v23 : Value), Fr 179 a [(1, vmarks1), (2, optr v1 0), (8, .int .i64 (IntKind.i64.wrap ((IntKind.i64.wrap (((marks1.length : Int)).tdiv (2 : Int))) - (IntKind.i64.wrap (c0_Length - (1 : Int)))))), (9, .int .u32 (ishl .u32 (1 : Int) (IntKind.i64.wrap (c0_Length - (1 : Int))))), (10, v23), (12, .int .i64 t12), (59, .int .u32 (ishl .u32 (1 : Int) (IntKind.i64.wrap (c0_Length - (1 : Int))))), (60, .int .u32 s.2)] ∧ Hp S w0 w (Res.sl (Ek.arr 64 (Ek.int .i32)) 65 v23 s.1 :: Res.obj 40 v1 [.int .i64 c0_Length, .int .u32 c0_One, .int .u32 c0_Two] :: ow)) (fun q e a w => e = .exit 4 ∧ ∃ (v25 : Value), Fr 179 a [(1, vmarks1), (2, optr v1 0), (8, .int .i64 (IntKind.i64.wrap ((IntKind.i64.wrap (((marks1.length : Int)).tdiv (2 : Int))) - (IntKind.i64.wrap (c0_Length - (1 : Int)))))), (9, .int .u32 (ishl .u32 (1 : Int) (IntKind.i64.wrap (c0_Length - (1 : Int))))), (10, v25), (12, .int .i64 t12)] ∧ Hp S w0 w (Res.sl (Ek.arr 64 (Ek.int .i32)) 65 v25 q :: Res.obj 40 v1 [.int .i64 c0_Length, .int .u32 c0_One, .int .u32 c0_Two] :: ow)) ?_ hl ⟨_, hf.sub ⟨rfl, rfl, rfl, rfl, rfl, rfl, rfl, rfl, trivial⟩, hp⟩ ?_
      · clear hl hf hp
        intro s x a w h hI
        obtain ⟨rest10, t60⟩ := s
        obtain ⟨v23, hf, hp⟩ : ∃ (v23 : Value), Fr 179 a [(1, vmarks1), (2, optr v1 0), (8, .int .i64 (IntKind.i64.wrap ((IntKind.i64.wrap (((marks1.length : Int)).tdiv (2 : Int))) - (IntKind.i64.wrap (c0_Length - (1 : Int)))))), (9, .int .u32 (ishl .u32 (1 : Int) (IntKind.i64.wrap (c0_Length - (1 : Int))))), (10, v23), (12, .int .i64 t12), (59, .int .u32 (ishl .u32 (1 : Int) (IntKind.i64.wrap (c0_Length - (1 : Int))))), (60, .int .u32 t60)] ∧ Hp S w0 w (Res.sl (Ek.arr 64 (Ek.int .i32)) 65 v23 rest10 :: Res.obj 40 v1 [.int .i64 c0_Length, .int .u32 c0_One, .int .u32 c0_Two] :: ow) := hI
        replace h : f_hard_Path.s3c c0_Length c0_One c0_Two marks1 t12 rest10 t60 = some x := h
        unfold f_hard_Path.s3c at h
        refine wp_seq ?_
        refine wp_reg ?_
        refine st_ilss hf (by decide) rfl rfl rfl ?_
        clear hf; intro a ha hf; clear ha
        refine st_nil hf ?_
        refine th_n ?_
        refine wp_seq ?_
        refine wp_if hf rfl (fun hb => ?_) (fun hb => ?_)
        · replace h := ifT h hb
          refine wp_skip ?_
          refine th_n ?_
          refine wp_seq ?_
          refine wp_block ?_
          refine wp_seq ?_
          refine wp_reg ?_
          refine st_move hf rfl rfl (by decide) ?_
          clear hf; intro a ha hf; clear ha
          refine st_assign hf rfl rfl (by decide) ?_
          clear hf; intro a ha hf; clear ha
          refine st_nil hf ?_
          refine th_n ?_
          refine wp_seq ?_
          obtain ⟨S27, hp28, rd29, up30, bk31⟩ := Hp.lendO hp (i := 1) rfl
          have rl32 := ((hmarks1.now hp).mono up30)
          have rl33 := rd29
          obtain ⟨hc34, h⟩ := chk h
          have hc35 : ((IntKind.i64.wrap ((2 : Int) * t12))).toNat ≤ marks1.length := by omega
          have hc36 : marks1.length ≤ marks1.length := by omega
          obtain ⟨q37, hcall38, h⟩ := bnd h
          refine wp_cutN (fun a w => Fr 179 a [(1, vmarks1), (2, optr v1 0), (8, .int .i64 (IntKind.i64.wrap ((IntKind.i64.wrap (((marks1.length : Int)).tdiv (2 : Int))) - (IntKind.i64.wrap (c0_Length - (1 : Int)))))), (9, .int .u32 (ishl .u32 (1 : Int) (IntKind.i64.wrap (c0_Length - (1 : Int))))), (10, v23), (12, .int .i64 t12), (13, .int .u32 t60), (14, .int .u32 q37.1), (15, .int .i32 q37.2), (59, .int .u32 (ishl .u32 (1 : Int) (IntKind.i64.wrap (c0_Length - (1 : Int))))), (60, .int .u32 t60)] ∧ Hp S w0 w (Res.obj 40 v1 [.int .i64 c0_Length, .int .u32 c0_One, .int .u32 c0_Two] :: Res.sl (Ek.arr 64 (Ek.int .i32)) 65 v23 rest10 :: ow)) ?_ ?_
          · have hp := hp28.same (Same.drew w)
            refine dr_begin' (fun a w => Fr 179 a [(1, vmarks1), (2, optr v1 0), (8, .int .i64 (IntKind.i64.wrap ((IntKind.i64.wrap (((marks1.length : Int)).tdiv (2 : Int))) - (IntKind.i64.wrap (c0_Length - (1 : Int)))))), (9, .int .u32 (ishl .u32 (1 : Int) (IntKind.i64.wrap (c0_Length - (1 : Int))))), (10, v23), (12, .int .i64 t12), (13, .int .u32 t60), (14, .int .u32 q37.1), (15, .int .i32 q37.2), (59, .int .u32 (ishl .u32 (1 : Int) (IntKind.i64.wrap (c0_Length - (1 : Int))))), (60, .int .u32 t60)] ∧ Hp S w0 w (Res.obj 40 v1 [.int .i64 c0_Length, .int .u32 c0_One, .int .u32 c0_Two] :: Res.sl (Ek.arr 64 (Ek.int .i32)) 65 v23 rest10 :: ow)) (fun w' => ∃ l, Hp S27 w w' l) [] (by kernel_rfl) ?_
            refine dr_take 0 (.agg #[.int .i64 c0_Length, .int .u32 c0_One, .int .u32 c0_Two]) rfl (by kernel_rfl) (by kernel_rfl) (by kernel_rfl) (by kernel_rfl) rfl rfl hf (by decide) rfl (fun w hp => ?_) ⟨_, hp⟩ ?_
            · obtain ⟨_, hp⟩ := hp
              refine st_ldOA (m := 3) (us := [.int .i64 c0_Length, .int .u32 c0_One, .int .u32 c0_Two]) hf (by decide) (by kernel_rfl) rfl rfl (rl33.ob hp) rfl rfl ?_
              clear hf; intro a ha hf
              exact st_nil hf (th_n ⟨ha, rfl⟩)
            clear hf; intro a hf
            refine dr_take 1 (.int .u32 t60) rfl (by kernel_rfl) (by kernel_rfl) (by kernel_rfl) (by kernel_rfl) rfl rfl hf (by decide) rfl (fun w hp => ?_) ⟨_, hp⟩ ?_
            · obtain ⟨_, hp⟩ := hp
              refine st_move hf rfl rfl (by decide) ?_
              clear hf; intro a ha hf
              exact st_nil hf (th_n ⟨ha, rfl⟩)
            clear hf; intro a hf
            refine dr_take 2 (vmarks1) rfl (by kernel_rfl) (by kernel_rfl) (by kernel_rfl) (by kernel_rfl) rfl rfl hf (by decide) rfl (fun w hp => ?_) ⟨_, hp⟩ ?_
            · obtain ⟨_, hp⟩ := hp
              refine st_move hf rfl rfl (by decide) ?_
              clear hf; intro a ha hf
              exact st_nil hf (th_n ⟨ha, rfl⟩)
            clear hf; intro a hf
            refine dr_take 3 (.int .i64 t12) rfl (by kernel_rfl) (by kernel_rfl) (by kernel_rfl) (by kernel_rfl) rfl rfl hf (by decide) rfl (fun w hp => ?_) ⟨_, hp⟩ ?_
            · obtain ⟨_, hp⟩ := hp
              refine st_move hf rfl rfl (by decide) ?_
              clear hf; intro a ha hf
              exact st_nil hf (th_n ⟨ha, rfl⟩)
            clear hf; intro a hf
            refine dr_take 4 (.int .i64 (IntKind.i64.wrap ((2 : Int) * t12))) rfl (by kernel_rfl) (by kernel_rfl) (by kernel_rfl) (by kernel_rfl) rfl rfl hf (by decide) rfl (fun w hp => ?_) ⟨_, hp⟩ ?_
            · obtain ⟨_, hp⟩ := hp
              refine st_imul hf (by decide) rfl rfl rfl ?_
              clear hf; intro a ha hf
              exact st_nil hf (th_n ⟨ha, rfl⟩)
            clear hf; intro a hf
            refine dr_take 5 ((GL.cut vmarks1 ((IntKind.i64.wrap ((2 : Int) * t12))).toNat marks1.length 1)) rfl (by kernel_rfl) (by kernel_rfl) (by kernel_rfl) (by kernel_rfl) rfl rfl hf (by decide) rfl (fun w hp => ?_) ⟨_, hp⟩ ?_
            · obtain ⟨_, hp⟩ := hp
              refine st_cutS (E := (Ek.int .u8)) hf (by decide) Try.underlying26 elt51 rfl rfl (rl32.sl hp) (.inr ⟨_, _, rfl, evI rfl hc34.1⟩) (.inl ⟨rfl, rfl⟩) hc35 hc36 ?_
              clear hf; intro a ha hf
              exact st_nil hf (th_n ⟨ha, rfl⟩)
            clear hf; intro a hf
            refine dr_one 6 rfl (by kernel_rfl) ?_
            refine st_call hf (by decide) Try.func32 rfl rfl rfl rfl rfl (f_hard_step_c hp _ _ _ _ _ _ _ (RdS.cut rl32 hc35 hc36) hcall38) ?_
            rintro _ w ⟨rfl, hp0⟩
            clear hp; have hp := hp0; clear hp0
            replace hp : Hp _ _ _ (Res.sl (Ek.arr 64 (Ek.int .i32)) 65 v23 rest10 :: ow) := hp
            refine ⟨_, rfl, ?_⟩
            clear hf; intro a hf
            refine st_nil hf (th_n ⟨fun _ _ => ⟨_, hp⟩, ?_⟩)
            refine dr_take 7 (.tuple #[.int .u32 q37.1, .int .i32 q37.2]) rfl (by kernel_rfl) (by kernel_rfl) (by kernel_rfl) (by kernel_rfl) rfl rfl hf (by decide) rfl (fun w hp => ?_) ⟨_, hp⟩ ?_
            · obtain ⟨_, hp⟩ := hp
              refine st_move hf rfl rfl (by decide) ?_
              clear hf; intro a ha hf
              exact st_nil hf (th_n ⟨ha, rfl⟩)
            clear hf; intro a hf
            refine dr_take 8 (.int .u32 q37.1) rfl (by kernel_rfl) (by kernel_rfl) (by kernel_rfl) (by kernel_rfl) rfl rfl hf (by decide) rfl (fun w hp => ?_) ⟨_, hp⟩ ?_
            · obtain ⟨_, hp⟩ := hp
              refine st_extract hf (by decide) rfl rfl rfl ?_
              clear hf; intro a ha hf
              exact st_nil hf (th_n ⟨ha, rfl⟩)
            clear hf; intro a hf
            refine dr_take 9 (.int .i32 q37.2) rfl (by kernel_rfl) (by kernel_rfl) (by kernel_rfl) (by kernel_rfl) rfl rfl hf (by decide) rfl (fun w hp => ?_) ⟨_, hp⟩ ?_
            · obtain ⟨_, hp⟩ := hp
              refine st_extract hf (by decide) rfl rfl rfl ?_
              clear hf; intro a ha hf
              exact st_nil hf (th_n ⟨ha, rfl⟩)
            clear hf; intro a hf
            refine dr_take 10 (.int .u32 q37.1) rfl (by kernel_rfl) (by kernel_rfl) (by kernel_rfl) (by kernel_rfl) rfl rfl hf (by decide) rfl (fun w hp => ?_) ⟨_, hp⟩ ?_
            · obtain ⟨_, hp⟩ := hp
              refine st_assign hf rfl rfl (by decide) ?_
              clear hf; intro a ha hf
              exact st_nil hf (th_n ⟨ha, rfl⟩)
            clear hf; intro a hf
            refine dr_take 11 (.int .i32 q37.2) rfl (by kernel_rfl) (by kernel_rfl) (by kernel_rfl) (by kernel_rfl) rfl rfl hf (by decide) rfl (fun w hp => ?_) ⟨_, hp⟩ ?_
            · obtain ⟨_, hp⟩ := hp
              refine st_assign hf rfl rfl (by decide) ?_
              clear hf; intro a ha hf
              exact st_nil hf (th_n ⟨ha, rfl⟩)
            clear hf; intro a hf
            refine dr_end (by kernel_rfl) ?_ _
            have hp := bk31 _ _ hp
            exact ⟨hf.sub ⟨rfl, rfl, rfl, rfl, rfl, rfl, rfl, rfl, rfl, rfl, rfl, trivial⟩, hp⟩
          rintro a w ⟨hf, hp⟩
          refine th_n ?_
          refine wp_seq ?_
          obtain ⟨S39, hp40, rd41, up42, bk43⟩ := Hp.lendS hp (i := 1) rfl
          have rl44 := ((hmarks1.now hp).mono up42)
          have rl45 := rd41
          obtain ⟨hc46, h⟩ := chk h
          obtain ⟨hc47, h⟩ := chk h
          obtain ⟨hc48, h⟩ := chk h
          obtain ⟨hc49, h⟩ := chk h
          refine wp_cutN (fun a w => Fr 179 a [(1, vmarks1), (2, optr v1 0), (8, .int .i64 (IntKind.i64.wrap ((IntKind.i64.wrap (((marks1.length : Int)).tdiv (2 : Int))) - (IntKind.i64.wrap (c0_Length - (1 : Int)))))), (9, .int .u32 (ishl .u32 (1 : Int) (IntKind.i64.wrap (c0_Length - (1 : Int))))), (10, v23), (12, .int .i64 t12), (13, .int .u32 t60), (59, .int .u32 (ishl .u32 (1 : Int) (IntKind.i64.wrap (c0_Length - (1 : Int))))), (60, .int .u32 t60)] ∧ Hp S w0 w (Res.sl (Ek.arr 64 (Ek.int .i32)) 65 v23 (rest10.set (t12).toNat ((gt rest10 t12).set (t60).toNat (IntKind.i32.wrap (q37.2 + (gt (gt rest10 (IntKind.i64.wrap (t12 + (1 : Int)))) q37.1))))) :: Res.obj 40 v1 [.int .i64 c0_Length, .int .u32 c0_One, .int .u32 c0_Two] :: ow)) ?_ ?_
          · have hp := hp40.same (Same.drew w)
            refine dr_begin' (fun a w => Fr 179 a [(1, vmarks1), (2, optr v1 0), (8, .int .i64 (IntKind.i64.wrap ((IntKind.i64.wrap (((marks1.length : Int)).tdiv (2 : Int))) - (IntKind.i64.wrap (c0_Length - (1 : Int)))))), (9, .int .u32 (ishl .u32 (1 : Int) (IntKind.i64.wrap (c0_Length - (1 : Int))))), (10, v23), (12, .int .i64 t12), (13, .int .u32 t60), (59, .int .u32 (ishl .u32 (1 : Int) (IntKind.i64.wrap (c0_Length - (1 : Int))))), (60, .int .u32 t60)] ∧ Hp S w0 w (Res.sl (Ek.arr 64 (Ek.int .i32)) 65 v23 (rest10.set (t12).toNat ((gt rest10 t12).set (t60).toNat (IntKind.i32.wrap (q37.2 + (gt (gt rest10 (IntKind.i64.wrap (t12 + (1 : Int)))) q37.1))))) :: Res.obj 40 v1 [.int .i64 c0_Length, .int .u32 c0_One, .int .u32 c0_Two] :: ow)) (fun w' => ∃ l, Hp S39 w w' l) [14] (by kernel_rfl) ?_
            refine dr_takeP 0 (v23) rfl (by kernel_rfl) (by kernel_rfl) (by kernel_rfl) rfl rfl hf (by decide) rfl (fun w => ?_) ?_
            · skip
              refine st_move hf rfl rfl (by decide) ?_
              clear hf; intro a ha hf
              exact st_nil hf (th_n ⟨ha, rfl⟩)
            clear hf; intro a hf
            refine dr_takeP 1 (.int .i64 t12) rfl (by kernel_rfl) (by kernel_rfl) (by kernel_rfl) rfl rfl hf (by decide) rfl (fun w => ?_) ?_
            · skip
              refine st_move hf rfl rfl (by decide) ?_
              clear hf; intro a ha hf
              exact st_nil hf (th_n ⟨ha, rfl⟩)
            clear hf; intro a hf
            refine dr_takeP 2 (.int .u32 t60) rfl (by kernel_rfl) (by kernel_rfl) (by kernel_rfl) rfl rfl hf (by decide) rfl (fun w => ?_) ?_
            · skip
              refine st_move hf rfl rfl (by decide) ?_
              clear hf; intro a ha hf
              exact st_nil hf (th_n ⟨ha, rfl⟩)
            clear hf; intro a hf
            refine dr_takeP 3 (.int .i32 q37.2) rfl (by kernel_rfl) (by kernel_rfl) (by kernel_rfl) rfl rfl hf (by decide) rfl (fun w => ?_) ?_
            · skip
              refine st_move hf rfl rfl (by decide) ?_
              clear hf; intro a ha hf
              exact st_nil hf (th_n ⟨ha, rfl⟩)
            clear hf; intro a hf
            refine dr_takeP 4 (v23) rfl (by kernel_rfl) (by kernel_rfl) (by kernel_rfl) rfl rfl hf (by decide) rfl (fun w => ?_) ?_
            · skip
              refine st_move hf rfl rfl (by decide) ?_
              clear hf; intro a ha hf
              exact st_nil hf (th_n ⟨ha, rfl⟩)
            clear hf; intro a hf
            refine dr_takeP 5 (.int .i64 t12) rfl (by kernel_rfl) (by kernel_rfl) (by kernel_rfl) rfl rfl hf (by decide) rfl (fun w => ?_) ?_
            · skip
              refine st_move hf rfl rfl (by decide) ?_
              clear hf; intro a ha hf
              exact st_nil hf (th_n ⟨ha, rfl⟩)
            clear hf; intro a hf
            refine dr_takeP 6 (.int .i64 (IntKind.i64.wrap (t12 + (1 : Int)))) rfl (by kernel_rfl) (by kernel_rfl) (by kernel_rfl) rfl rfl hf (by decide) rfl (fun w => ?_) ?_
            · skip
              refine st_iadd hf (by decide) rfl rfl rfl ?_
              clear hf; intro a ha hf
              exact st_nil hf (th_n ⟨ha, rfl⟩)
            clear hf; intro a hf
            refine dr_takeP 7 (.int .u32 q37.1) rfl (by kernel_rfl) (by kernel_rfl) (by kernel_rfl) rfl rfl hf (by decide) rfl (fun w => ?_) ?_
            · skip
              refine st_move hf rfl rfl (by decide) ?_
              clear hf; intro a ha hf
              exact st_nil hf (th_n ⟨ha, rfl⟩)
            clear hf; intro a hf
            refine dr_takeP 8 (eptr v23 (IntKind.i64.wrap (t12 + (1 : Int))) 64) rfl (by kernel_rfl) (by kernel_rfl) (by kernel_rfl) rfl rfl hf (by decide) rfl (fun w => ?_) ?_
            · skip
              refine st_index (E := (Ek.arr 64 (Ek.int .i32))) hf (by decide) Try.underlying64 elt65 rfl rfl rfl rl45.any hc46.1 hc46.2 ?_
              clear hf; intro a ha hf
              exact st_nil hf (th_n ⟨ha, rfl⟩)
            clear hf; intro a hf
            refine dr_takeP 9 (optr (eptr v23 (IntKind.i64.wrap (t12 + (1 : Int))) 64) ((q37.1).toNat * 1)) rfl (by kernel_rfl) (by kernel_rfl) (by kernel_rfl) rfl rfl hf (by decide) rfl (fun w => ?_) ?_
            · skip
              refine st_iaP (sz := 1) hf (by decide) Try.underlying65 (by kernel_rfl) rfl rfl rfl (Sl.isP rl45.any hc46.1 hc46.2) hc47.1 hc47.2 ?_
              clear hf; intro a ha hf
              exact st_nil hf (th_n ⟨ha, rfl⟩)
            clear hf; intro a hf
            refine dr_take2 10 (.int .i32 (gt (gt rest10 (IntKind.i64.wrap (t12 + (1 : Int)))) q37.1)) rfl (by kernel_rfl) (by kernel_rfl) (by kernel_rfl) (by kernel_rfl) (by kernel_rfl) rfl rfl hf (by decide) rfl (fun w hp => ?_) ⟨_, hp⟩ ?_
            · obtain ⟨_, hp⟩ := hp
              refine st_ldQ (F := (Ek.int .i32)) (yv := (gt (gt rest10 (IntKind.i64.wrap (t12 + (1 : Int)))) q37.1)) hf (by decide) pl21 (fun x => .int .i32 x) (fun _ _ h => h) rfl rfl (Sl.part (E := (Ek.arr 64 (Ek.int .i32))) (F := (Ek.int .i32)) (o := (q37.1).toNat * 1) (Sub.arr (F := (Ek.int .i32)) (N := 64) (j := q37.1) hc47.1 hc47.2) (rl45.sl hp) hc46.1 hc46.2) ?_
              clear hf; intro a ha hf
              exact st_nil hf (th_n ⟨ha, rfl⟩)
            clear hf; intro a hf
            refine dr_takeP 11 (.int .i32 (IntKind.i32.wrap (q37.2 + (gt (gt rest10 (IntKind.i64.wrap (t12 + (1 : Int)))) q37.1)))) rfl (by kernel_rfl) (by kernel_rfl) (by kernel_rfl) rfl rfl hf (by decide) rfl (fun w => ?_) ?_
            · skip
              refine st_iadd hf (by decide) rfl rfl rfl ?_
              clear hf; intro a ha hf
              exact st_nil hf (th_n ⟨ha, rfl⟩)
            clear hf; intro a hf
            refine dr_takeP 12 (eptr v23 t12 64) rfl (by kernel_rfl) (by kernel_rfl) (by kernel_rfl) rfl rfl hf (by decide) rfl (fun w => ?_) ?_
            · skip
              refine st_index (E := (Ek.arr 64 (Ek.int .i32))) hf (by decide) Try.underlying64 elt65 rfl rfl rfl rl45.any hc48.1 hc48.2 ?_
              clear hf; intro a ha hf
              exact st_nil hf (th_n ⟨ha, rfl⟩)
            clear hf; intro a hf
            refine dr_takeP 13 (optr (eptr v23 t12 64) ((t60).toNat * 1)) rfl (by kernel_rfl) (by kernel_rfl) (by kernel_rfl) rfl rfl hf (by decide) rfl (fun w => ?_) ?_
            · skip
              refine st_iaP (sz := 1) hf (by decide) Try.underlying65 (by kernel_rfl) rfl rfl rfl (Sl.isP rl45.any hc48.1 hc48.2) hc49.1 hc49.2 ?_
              clear hf; intro a ha hf
              exact st_nil hf (th_n ⟨ha, rfl⟩)
            clear hf; intro a hf
            have hp := bk43 _ _ hp
            refine dr_one 14 rfl (by kernel_rfl) ?_
            refine st_stQ (E := (Ek.arr 64 (Ek.int .i32))) (F := (Ek.int .i32)) (o := (t60).toNat * 1) (Sub.arr (F := (Ek.int .i32)) (N := 64) (j := t60) hc49.1 hc49.2) hf (by kernel_rfl) hp (i := 0) rfl rfl rfl rfl rfl hc48.1 hc48.2 ?_
            clear hf; intro a w hf hp0; clear hp; have hp := hp0; clear hp0
            replace hp : Hp _ _ _ (Res.sl (Ek.arr 64 (Ek.int .i32)) 65 v23 (rest10.set (t12).toNat ((gt rest10 t12).set (t60).toNat (IntKind.i32.wrap (q37.2 + (gt (gt rest10 (IntKind.i64.wrap (t12 + (1 : Int)))) q37.1))))) :: Res.obj 40 v1 [.int .i64 c0_Length, .int .u32 c0_One, .int .u32 c0_Two] :: ow) := hp
            refine st_nil hf (th_n ⟨fun hn => absurd hn (by decide), ?_⟩)
            refine dr_end (by kernel_rfl) ?_ _
            exact ⟨hf.sub ⟨rfl, rfl, rfl, rfl, rfl, rfl, rfl, rfl, rfl, trivial⟩, hp⟩
          rintro a w ⟨hf, hp⟩
          refine th_n ?_
          refine wp_seq ?_
          refine wp_reg ?_
          refine st_move hf rfl rfl (by decide) ?_
          clear hf; intro a ha hf; clear ha
          refine st_move hf rfl rfl (by decide) ?_
          clear hf; intro a ha hf; clear ha
          refine st_ilss hf (by decide) rfl rfl rfl ?_
          clear hf; intro a ha hf; clear ha
          refine st_nil hf ?_
          refine th_n ?_
          refine wp_if hf rfl (fun hb => ?_) (fun hb => ?_)
          · replace h := ifT h hb
            refine wp_seq ?_
            obtain ⟨S50, hp51, rd52, up53, bk54⟩ := Hp.lendO hp (i := 1) rfl
            have rl55 := ((hmarks1.now hp).mono up53)
            have rl56 := rd52
            obtain ⟨hc57, h⟩ := chk h
            have hc58 : ((IntKind.i64.wrap ((2 : Int) * t12))).toNat ≤ marks1.length := by omega
            have hc59 : marks1.length ≤ marks1.length := by omega
            obtain ⟨q60, hcall61, h⟩ := bnd h
            refine wp_cutN (fun a w => Fr 179 a [(1, vmarks1), (2, optr v1 0), (8, .int .i64 (IntKind.i64.wrap ((IntKind.i64.wrap (((marks1.length : Int)).tdiv (2 : Int))) - (IntKind.i64.wrap (c0_Length - (1 : Int)))))), (9, .int .u32 (ishl .u32 (1 : Int) (IntKind.i64.wrap (c0_Length - (1 : Int))))), (10, v23), (12, .int .i64 t12), (13, .int .u32 t60), (14, .int .u32 q60.1), (15, .int .i32 q60.2), (59, .int .u32 (ishl .u32 (1 : Int) (IntKind.i64.wrap (c0_Length - (1 : Int))))), (60, .int .u32 t60)] ∧ Hp S w0 w (Res.obj 40 v1 [.int .i64 c0_Length, .int .u32 c0_One, .int .u32 c0_Two] :: Res.sl (Ek.arr 64 (Ek.int .i32)) 65 v23 (rest10.set (t12).toNat ((gt rest10 t12).set (t60).toNat (IntKind.i32.wrap (q37.2 + (gt (gt rest10 (IntKind.i64.wrap (t12 + (1 : Int)))) q37.1))))) :: ow)) ?_ ?_
            · have hp := hp51.same (Same.drew w)
              refine dr_begin' (fun a w => Fr 179 a [(1, vmarks1), (2, optr v1 0), (8, .int .i64 (IntKind.i64.wrap ((IntKind.i64.wrap (((marks1.length : Int)).tdiv (2 : Int))) - (IntKind.i64.wrap (c0_Length - (1 : Int)))))), (9, .int .u32 (ishl .u32 (1 : Int) (IntKind.i64.wrap (c0_Length - (1 : Int))))), (10, v23), (12, .int .i64 t12), (13, .int .u32 t60), (14, .int .u32 q60.1), (15, .int .i32 q60.2), (59, .int .u32 (ishl .u32 (1 : Int) (IntKind.i64.wrap (c0_Length - (1 : Int))))), (60, .int .u32 t60)] ∧ Hp S w0 w (Res.obj 40 v1 [.int .i64 c0_Length, .int .u32 c0_One, .int .u32 c0_Two] :: Res.sl (Ek.arr 64 (Ek.int .i32)) 65 v23 (rest10.set (t12).toNat ((gt rest10 t12).set (t60).toNat (IntKind.i32.wrap (q37.2 + (gt (gt rest10 (IntKind.i64.wrap (t12 + (1 : Int)))) q37.1))))) :: ow)) (fun w' => ∃ l, Hp S50 w w' l) [] (by kernel_rfl) ?_
              refine dr_take 0 (.agg #[.int .i64 c0_Length, .int .u32 c0_One, .int .u32 c0_Two]) rfl (by kernel_rfl) (by kernel_rfl) (by kernel_rfl) (by kernel_rfl) rfl rfl hf (by decide) rfl (fun w hp => ?_) ⟨_, hp⟩ ?_
              · obtain ⟨_, hp⟩ := hp
                refine st_ldOA (m := 3) (us := [.int .i64 c0_Length, .int .u32 c0_One, .int .u32 c0_Two]) hf (by decide) (by kernel_rfl) rfl rfl (rl56.ob hp) rfl rfl ?_
                clear hf; intro a ha hf
                exact st_nil hf (th_n ⟨ha, rfl⟩)
              clear hf; intro a hf
              refine dr_take 1 (.int .u32 t60) rfl (by kernel_rfl) (by kernel_rfl) (by kernel_rfl) (by kernel_rfl) rfl rfl hf (by decide) rfl (fun w hp => ?_) ⟨_, hp⟩ ?_
              · obtain ⟨_, hp⟩ := hp
                refine st_move hf rfl rfl (by decide) ?_
                clear hf; intro a ha hf
                exact st_nil hf (th_n ⟨ha, rfl⟩)
              clear hf; intro a hf
              refine dr_take 2 (vmarks1) rfl (by kernel_rfl) (by kernel_rfl) (by kernel_rfl) (by kernel_rfl) rfl rfl hf (by decide) rfl (fun w hp => ?_) ⟨_, hp⟩ ?_
              · obtain ⟨_, hp⟩ := hp
                refine st_move hf rfl rfl (by decide) ?_
                clear hf; intro a ha hf
                exact st_nil hf (th_n ⟨ha, rfl⟩)
              clear hf; intro a hf
              refine dr_take 3 (.int .i64 t12) rfl (by kernel_rfl) (by kernel_rfl) (by kernel_rfl) (by kernel_rfl) rfl rfl hf (by decide) rfl (fun w hp => ?_) ⟨_, hp⟩ ?_
              · obtain ⟨_, hp⟩ := hp
                refine st_move hf rfl rfl (by decide) ?_
                clear hf; intro a ha hf
                exact st_nil hf (th_n ⟨ha, rfl⟩)
              clear hf; intro a hf
              refine dr_take 4 (.int .i64 (IntKind.i64.wrap ((2 : Int) * t12))) rfl (by kernel_rfl) (by kernel_rfl) (by kernel_rfl) (by kernel_rfl) rfl rfl hf (by decide) rfl (fun w hp => ?_) ⟨_, hp⟩ ?_
              · obtain ⟨_, hp⟩ := hp
                refine st_imul hf (by decide) rfl rfl rfl ?_
                clear hf; intro a ha hf
                exact st_nil hf (th_n ⟨ha, rfl⟩)
              clear hf; intro a hf
              refine dr_take 5 ((GL.cut vmarks1 ((IntKind.i64.wrap ((2 : Int) * t12))).toNat marks1.length 1)) rfl (by kernel_rfl) (by kernel_rfl) (by kernel_rfl) (by kernel_rfl) rfl rfl hf (by decide) rfl (fun w hp => ?_) ⟨_, hp⟩ ?_
              · obtain ⟨_, hp⟩ := hp
                refine st_cutS (E := (Ek.int .u8)) hf (by decide) Try.underlying26 elt51 rfl rfl (rl55.sl hp) (.inr ⟨_, _, rfl, evI rfl hc57.1⟩) (.inl ⟨rfl, rfl⟩) hc58 hc59 ?_
                clear hf; intro a ha hf
                exact st_nil hf (th_n ⟨ha, rfl⟩)
              clear hf; intro a hf
              refine dr_one 6 rfl (by kernel_rfl) ?_
              refine st_call hf (by decide) Try.func32 rfl rfl rfl rfl rfl (f_hard_step_c hp _ _ _ _ _ _ _ (RdS.cut rl55 hc58 hc59) hcall61) ?_
              rintro _ w ⟨rfl, hp0⟩
              clear hp; have hp := hp0; clear hp0
              replace hp : Hp _ _ _ (Res.sl (Ek.arr 64 (Ek.int .i32)) 65 v23 (rest10.set (t12).toNat ((gt rest10 t12).set (t60).toNat (IntKind.i32.wrap (q37.2 + (gt (gt rest10 (IntKind.i64.wrap (t12 + (1 : Int)))) q37.1))))) :: ow) := hp
              refine ⟨_, rfl, ?_⟩
              clear hf; intro a hf
              refine st_nil hf (th_n ⟨fun _ _ => ⟨_, hp⟩, ?_⟩)
              refine dr_take 7 (.tuple #[.int .u32 q60.1, .int .i32 q60.2]) rfl (by kernel_rfl) (by kernel_rfl) (by kernel_rfl) (by kernel_rfl) rfl rfl hf (by decide) rfl (fun w hp => ?_) ⟨_, hp⟩ ?_
              · obtain ⟨_, hp⟩ := hp
                refine st_move hf rfl rfl (by decide) ?_
                clear hf; intro a ha hf
                exact st_nil hf (th_n ⟨ha, rfl⟩)
              clear hf; intro a hf
              refine dr_take 8 (.int .u32 q60.1) rfl (by kernel_rfl) (by kernel_rfl) (by kernel_rfl) (by kernel_rfl) rfl rfl hf (by decide) rfl (fun w hp => ?_) ⟨_, hp⟩ ?_
              · obtain ⟨_, hp⟩ := hp
                refine st_extract hf (by decide) rfl rfl rfl ?_
                clear hf; intro a ha hf
                exact st_nil hf (th_n ⟨ha, rfl⟩)
              clear hf; intro a hf
              refine dr_take 9 (.int .i32 q60.2) rfl (by kernel_rfl) (by kernel_rfl) (by kernel_rfl) (by kernel_rfl) rfl rfl hf (by decide) rfl (fun w hp => ?_) ⟨_, hp⟩ ?_
              · obtain ⟨_, hp⟩ := hp
                refine st_extract hf (by decide) rfl rfl rfl ?_
                clear hf; intro a ha hf
                exact st_nil hf (th_n ⟨ha, rfl⟩)
              clear hf; intro a hf
              refine dr_take 10 (.int .u32 q60.1) rfl (by kernel_rfl) (by kernel_rfl) (by kernel_rfl) (by kernel_rfl) rfl rfl hf (by decide) rfl (fun w hp => ?_) ⟨_, hp⟩ ?_
              · obtain ⟨_, hp⟩ := hp
                refine st_assign hf rfl rfl (by decide) ?_
                clear hf; intro a ha hf
                exact st_nil hf (th_n ⟨ha, rfl⟩)
              clear hf; intro a hf
              refine dr_take 11 (.int .i32 q60.2) rfl (by kernel_rfl) (by kernel_rfl) (by kernel_rfl) (by kernel_rfl) rfl rfl hf (by decide) rfl (fun w hp => ?_) ⟨_, hp⟩ ?_
              · obtain ⟨_, hp⟩ := hp
                refine st_assign hf rfl rfl (by decide) ?_
                clear hf; intro a ha hf
                exact st_nil hf (th_n ⟨ha, rfl⟩)
              clear hf; intro a hf
              refine dr_end (by kernel_rfl) ?_ _
              have hp := bk54 _ _ hp
              exact ⟨hf.sub ⟨rfl, rfl, rfl, rfl, rfl, rfl, rfl, rfl, rfl, rfl, rfl, trivial⟩, hp⟩
            rintro a w ⟨hf, hp⟩
            refine th_n ?_
            obtain ⟨S62, hp63, rd64, up65, bk66⟩ := Hp.lendS hp (i := 1) rfl
            have rl67 := ((hmarks1.now hp).mono up65)
            have rl68 := rd64
            obtain ⟨hc69, h⟩ := chk h
            obtain ⟨hc70, h⟩ := chk h
            obtain ⟨hc71, h⟩ := chk h
            obtain ⟨hc72, h⟩ := chk h
            obtain ⟨hc73, h⟩ := chk h
            obtain ⟨hc74, h⟩ := chk h
            refine wp_cutN (fun a w => Fr 179 a [(1, vmarks1), (2, optr v1 0), (8, .int .i64 (IntKind.i64.wrap ((IntKind.i64.wrap (((marks1.length : Int)).tdiv (2 : Int))) - (IntKind.i64.wrap (c0_Length - (1 : Int)))))), (9, .int .u32 (ishl .u32 (1 : Int) (IntKind.i64.wrap (c0_Length - (1 : Int))))), (10, v23), (12, .int .i64 t12), (59, .int .u32 (ishl .u32 (1 : Int) (IntKind.i64.wrap (c0_Length - (1 : Int))))), (60, .int .u32 t60)] ∧ Hp S w0 w (Res.sl (Ek.arr 64 (Ek.int .i32)) 65 v23 ((rest10.set (t12).toNat ((gt rest10 t12).set (t60).toNat (IntKind.i32.wrap (q37.2 + (gt (gt rest10 (IntKind.i64.wrap (t12 + (1 : Int)))) q37.1))))).set (t12).toNat ((gt (rest10.set (t12).toNat ((gt rest10 t12).set (t60).toNat (IntKind.i32.wrap (q37.2 + (gt (gt rest10 (IntKind.i64.wrap (t12 + (1 : Int)))) q37.1))))) t12).set (t60).toNat (imin (gt (gt (rest10.set (t12).toNat ((gt rest10 t12).set (t60).toNat (IntKind.i32.wrap (q37.2 + (gt (gt rest10 (IntKind.i64.wrap (t12 + (1 : Int)))) q37.1))))) t12) t60) (IntKind.i32.wrap (q60.2 + (gt (gt (rest10.set (t12).toNat ((gt rest10 t12).set (t60).toNat (IntKind.i32.wrap (q37.2 + (gt (gt rest10 (IntKind.i64.wrap (t12 + (1 : Int)))) q37.1))))) (IntKind.i64.wrap (t12 + (1 : Int)))) q60.1)))))) :: Res.obj 40 v1 [.int .i64 c0_Length, .int .u32 c0_One, .int .u32 c0_Two] :: ow)) ?_ ?_
            · have hp := hp63.same (Same.drew w)
              refine dr_begin' (fun a w => Fr 179 a [(1, vmarks1), (2, optr v1 0), (8, .int .i64 (IntKind.i64.wrap ((IntKind.i64.wrap (((marks1.length : Int)).tdiv (2 : Int))) - (IntKind.i64.wrap (c0_Length - (1 : Int)))))), (9, .int .u32 (ishl .u32 (1 : Int) (IntKind.i64.wrap (c0_Length - (1 : Int))))), (10, v23), (12, .int .i64 t12), (59, .int .u32 (ishl .u32 (1 : Int) (IntKind.i64.wrap (c0_Length - (1 : Int))))), (60, .int .u32 t60)] ∧ Hp S w0 w (Res.sl (Ek.arr 64 (Ek.int .i32)) 65 v23 ((rest10.set (t12).toNat ((gt rest10 t12).set (t60).toNat (IntKind.i32.wrap (q37.2 + (gt (gt rest10 (IntKind.i64.wrap (t12 + (1 : Int)))) q37.1))))).set (t12).toNat ((gt (rest10.set (t12).toNat ((gt rest10 t12).set (t60).toNat (IntKind.i32.wrap (q37.2 + (gt (gt rest10 (IntKind.i64.wrap (t12 + (1 : Int)))) q37.1))))) t12).set (t60).toNat (imin (gt (gt (rest10.set (t12).toNat ((gt rest10 t12).set (t60).toNat (IntKind.i32.wrap (q37.2 + (gt (gt rest10 (IntKind.i64.wrap (t12 + (1 : Int)))) q37.1))))) t12) t60) (IntKind.i32.wrap (q60.2 + (gt (gt (rest10.set (t12).toNat ((gt rest10 t12).set (t60).toNat (IntKind.i32.wrap (q37.2 + (gt (gt rest10 (IntKind.i64.wrap (t12 + (1 : Int)))) q37.1))))) (IntKind.i64.wrap (t12 + (1 : Int)))) q60.1)))))) :: Res.obj 40 v1 [.int .i64 c0_Length, .int .u32 c0_One, .int .u32 c0_Two] :: ow)) (fun w' => ∃ l, Hp S62 w w' l) [21] (by kernel_rfl) ?_
              refine dr_takeP 0 (v23) rfl (by kernel_rfl) (by kernel_rfl) (by kernel_rfl) rfl rfl hf (by decide) rfl (fun w => ?_) ?_
              · skip
                refine st_move hf rfl rfl (by decide) ?_
                clear hf; intro a ha hf
                exact st_nil hf (th_n ⟨ha, rfl⟩)
              clear hf; intro a hf
              refine dr_takeP 1 (.int .i64 t12) rfl (by kernel_rfl) (by kernel_rfl) (by kernel_rfl) rfl rfl hf (by decide) rfl (fun w => ?_) ?_
              · skip
                refine st_move hf rfl rfl (by decide) ?_
                clear hf; intro a ha hf
                exact st_nil hf (th_n ⟨ha, rfl⟩)
              clear hf; intro a hf
              refine dr_takeP 2 (.int .u32 t60) rfl (by kernel_rfl) (by kernel_rfl) (by kernel_rfl) rfl rfl hf (by decide) rfl (fun w => ?_) ?_
              · skip
                refine st_move hf rfl rfl (by decide) ?_
                clear hf; intro a ha hf
                exact st_nil hf (th_n ⟨ha, rfl⟩)
              clear hf; intro a hf
              refine dr_takeP 3 (v23) rfl (by kernel_rfl) (by kernel_rfl) (by kernel_rfl) rfl rfl hf (by decide) rfl (fun w => ?_) ?_
              · skip
                refine st_move hf rfl rfl (by decide) ?_
                clear hf; intro a ha hf
                exact st_nil hf (th_n ⟨ha, rfl⟩)
              clear hf; intro a hf
              refine dr_takeP 4 (.int .i64 t12) rfl (by kernel_rfl) (by kernel_rfl) (by kernel_rfl) rfl rfl hf (by decide) rfl (fun w => ?_) ?_
              · skip
                refine st_move hf rfl rfl (by decide) ?_
                clear hf; intro a ha hf
                exact st_nil hf (th_n ⟨ha, rfl⟩)
              clear hf; intro a hf
              refine dr_takeP 5 (.int .u32 t60) rfl (by kernel_rfl) (by kernel_rfl) (by kernel_rfl) rfl rfl hf (by decide) rfl (fun w => ?_) ?_
              · skip
                refine st_move hf rfl rfl (by decide) ?_
                clear hf; intro a ha hf
                exact st_nil hf (th_n ⟨ha, rfl⟩)
              clear hf; intro a hf
              refine dr_takeP 6 (eptr v23 t12 64) rfl (by kernel_rfl) (by kernel_rfl) (by kernel_rfl) rfl rfl hf (by decide) rfl (fun w => ?_) ?_
              · skip
                refine st_index (E := (Ek.arr 64 (Ek.int .i32))) hf (by decide) Try.underlying64 elt65 rfl rfl rfl rl68.any hc69.1 hc69.2 ?_
                clear hf; intro a ha hf
                exact st_nil hf (th_n ⟨ha, rfl⟩)
              clear hf; intro a hf
              refine dr_takeP 7 (optr (eptr v23 t12 64) ((t60).toNat * 1)) rfl (by kernel_rfl) (by kernel_rfl) (by kernel_rfl) rfl rfl hf (by decide) rfl (fun w => ?_) ?_
              · skip
                refine st_iaP (sz := 1) hf (by decide) Try.underlying65 (by kernel_rfl) rfl rfl rfl (Sl.isP rl68.any hc69.1 hc69.2) hc70.1 hc70.2 ?_
                clear hf; intro a ha hf
                exact st_nil hf (th_n ⟨ha, rfl⟩)
              clear hf; intro a hf
              refine dr_take2 8 (.int .i32 (gt (gt (rest10.set (t12).toNat ((gt rest10 t12).set (t60).toNat (IntKind.i32.wrap (q37.2 + (gt (gt rest10 (IntKind.i64.wrap (t12 + (1 : Int)))) q37.1))))) t12) t60)) rfl (by kernel_rfl) (by kernel_rfl) (by kernel_rfl) (by kernel_rfl) (by kernel_rfl) rfl rfl hf (by decide) rfl (fun w hp => ?_) ⟨_, hp⟩ ?_
              · obtain ⟨_, hp⟩ := hp
                refine st_ldQ (F := (Ek.int .i32)) (yv := (gt (gt (rest10.set (t12).toNat ((gt rest10 t12).set (t60).toNat (IntKind.i32.wrap (q37.2 + (gt (gt rest10 (IntKind.i64.wrap (t12 + (1 : Int)))) q37.1))))) t12) t60)) hf (by decide) pl21 (fun x => .int .i32 x) (fun _ _ h => h) rfl rfl (Sl.part (E := (Ek.arr 64 (Ek.int .i32))) (F := (Ek.int .i32)) (o := (t60).toNat * 1) (Sub.arr (F := (Ek.int .i32)) (N := 64) (j := t60) hc70.1 hc70.2) (rl68.sl hp) hc69.1 hc69.2) ?_
                clear hf; intro a ha hf
                exact st_nil hf (th_n ⟨ha, rfl⟩)
              clear hf; intro a hf
              refine dr_takeP 9 (.int .i32 q60.2) rfl (by kernel_rfl) (by kernel_rfl) (by kernel_rfl) rfl rfl hf (by decide) rfl (fun w => ?_) ?_
              · skip
                refine st_move hf rfl rfl (by decide) ?_
                clear hf; intro a ha hf
                exact st_nil hf (th_n ⟨ha, rfl⟩)
              clear hf; intro a hf
              refine dr_takeP 10 (v23) rfl (by kernel_rfl) (by kernel_rfl) (by kernel_rfl) rfl rfl hf (by decide) rfl (fun w => ?_) ?_
              · skip
                refine st_move hf rfl rfl (by decide) ?_
                clear hf; intro a ha hf
                exact st_nil hf (th_n ⟨ha, rfl⟩)
              clear hf; intro a hf
              refine dr_takeP 11 (.int .i64 t12) rfl (by kernel_rfl) (by kernel_rfl) (by kernel_rfl) rfl rfl hf (by decide) rfl (fun w => ?_) ?_
              · skip
                refine st_move hf rfl rfl (by decide) ?_
                clear hf; intro a ha hf
                exact st_nil hf (th_n ⟨ha, rfl⟩)
              clear hf; intro a hf
              refine dr_takeP 12 (.int .i64 (IntKind.i64.wrap (t12 + (1 : Int)))) rfl (by kernel_rfl) (by kernel_rfl) (by kernel_rfl) rfl rfl hf (by decide) rfl (fun w => ?_) ?_
              · skip
                refine st_iadd hf (by decide) rfl rfl rfl ?_
                clear hf; intro a ha hf
                exact st_nil hf (th_n ⟨ha, rfl⟩)
              clear hf; intro a hf
              refine dr_takeP 13 (.int .u32 q60.1) rfl (by kernel_rfl) (by kernel_rfl) (by kernel_rfl) rfl rfl hf (by decide) rfl (fun w => ?_) ?_
              · skip
                refine st_move hf rfl rfl (by decide) ?_
                clear hf; intro a ha hf
                exact st_nil hf (th_n ⟨ha, rfl⟩)
              clear hf; intro a hf
              refine dr_takeP 14 (eptr v23 (IntKind.i64.wrap (t12 + (1 : Int))) 64) rfl (by kernel_rfl) (by kernel_rfl) (by kernel_rfl) rfl rfl hf (by decide) rfl (fun w => ?_) ?_
              · skip
                refine st_index (E := (Ek.arr 64 (Ek.int .i32))) hf (by decide) Try.underlying64 elt65 rfl rfl rfl rl68.any hc71.1 hc71.2 ?_
                clear hf; intro a ha hf
                exact st_nil hf (th_n ⟨ha, rfl⟩)
              clear hf; intro a hf
              refine dr_takeP 15 (optr (eptr v23 (IntKind.i64.wrap (t12 + (1 : Int))) 64) ((q60.1).toNat * 1)) rfl (by kernel_rfl) (by kernel_rfl) (by kernel_rfl) rfl rfl hf (by decide) rfl (fun w => ?_) ?_
              · skip
                refine st_iaP (sz := 1) hf (by decide) Try.underlying65 (by kernel_rfl) rfl rfl rfl (Sl.isP rl68.any hc71.1 hc71.2) hc72.1 hc72.2 ?_
                clear hf; intro a ha hf
                exact st_nil hf (th_n ⟨ha, rfl⟩)
              clear hf; intro a hf
              refine dr_take2 16 (.int .i32 (gt (gt (rest10.set (t12).toNat ((gt rest10 t12).set (t60).toNat (IntKind.i32.wrap (q37.2 + (gt (gt rest10 (IntKind.i64.wrap (t12 + (1 : Int)))) q37.1))))) (IntKind.i64.wrap (t12 + (1 : Int)))) q60.1)) rfl (by kernel_rfl) (by kernel_rfl) (by kernel_rfl) (by kernel_rfl) (by kernel_rfl) rfl rfl hf (by decide) rfl (fun w hp => ?_) ⟨_, hp⟩ ?_
              · obtain ⟨_, hp⟩ := hp
                refine st_ldQ (F := (Ek.int .i32)) (yv := (gt (gt (rest10.set (t12).toNat ((gt rest10 t12).set (t60).toNat (IntKind.i32.wrap (q37.2 + (gt (gt rest10 (IntKind.i64.wrap (t12 + (1 : Int)))) q37.1))))) (IntKind.i64.wrap (t12 + (1 : Int)))) q60.1)) hf (by decide) pl21 (fun x => .int .i32 x) (fun _ _ h => h) rfl rfl (Sl.part (E := (Ek.arr 64 (Ek.int .i32))) (F := (Ek.int .i32)) (o := (q60.1).toNat * 1) (Sub.arr (F := (Ek.int .i32)) (N := 64) (j := q60.1) hc72.1 hc72.2) (rl68.sl hp) hc71.1 hc71.2) ?_
                clear hf; intro a ha hf
                exact st_nil hf (th_n ⟨ha, rfl⟩)
              clear hf; intro a hf
              refine dr_takeP 17 (.int .i32 (IntKind.i32.wrap (q60.2 + (gt (gt (rest10.set (t12).toNat ((gt rest10 t12).set (t60).toNat (IntKind.i32.wrap (q37.2 + (gt (gt rest10 (IntKind.i64.wrap (t12 + (1 : Int)))) q37.1))))) (IntKind.i64.wrap (t12 + (1 : Int)))) q60.1)))) rfl (by kernel_rfl) (by kernel_rfl) (by kernel_rfl) rfl rfl hf (by decide) rfl (fun w => ?_) ?_
              · skip
                refine st_iadd hf (by decide) rfl rfl rfl ?_
                clear hf; intro a ha hf
                exact st_nil hf (th_n ⟨ha, rfl⟩)
              clear hf; intro a hf
              refine dr_takeP 18 (.int .i32 (imin (gt (gt (rest10.set (t12).toNat ((gt rest10 t12).set (t60).toNat (IntKind.i32.wrap (q37.2 + (gt (gt rest10 (IntKind.i64.wrap (t12 + (1 : Int)))) q37.1))))) t12) t60) (IntKind.i32.wrap (q60.2 + (gt (gt (rest10.set (t12).toNat ((gt rest10 t12).set (t60).toNat (IntKind.i32.wrap (q37.2 + (gt (gt rest10 (IntKind.i64.wrap (t12 + (1 : Int)))) q37.1))))) (IntKind.i64.wrap (t12 + (1 : Int)))) q60.1))))) rfl (by kernel_rfl) (by kernel_rfl) (by kernel_rfl) rfl rfl hf (by decide) rfl (fun w => ?_) ?_
              · skip
                refine st_imin hf (by decide) rfl rfl rfl ?_
                clear hf; intro a ha hf
                exact st_nil hf (th_n ⟨ha, rfl⟩)
              clear hf; intro a hf
              refine dr_takeP 19 (eptr v23 t12 64) rfl (by kernel_rfl) (by kernel_rfl) (by kernel_rfl) rfl rfl hf (by decide) rfl (fun w => ?_) ?_
              · skip
                refine st_index (E := (Ek.arr 64 (Ek.int .i32))) hf (by decide) Try.underlying64 elt65 rfl rfl rfl rl68.any hc73.1 hc73.2 ?_
                clear hf; intro a ha hf
                exact st_nil hf (th_n ⟨ha, rfl⟩)
              clear hf; intro a hf
              refine dr_takeP 20 (optr (eptr v23 t12 64) ((t60).toNat * 1)) rfl (by kernel_rfl) (by kernel_rfl) (by kernel_rfl) rfl rfl hf (by decide) rfl (fun w => ?_) ?_
              · skip
                refine st_iaP (sz := 1) hf (by decide) Try.underlying65 (by kernel_rfl) rfl rfl rfl (Sl.isP rl68.any hc73.1 hc73.2) hc74.1 hc74.2 ?_
                clear hf; intro a ha hf
                exact st_nil hf (th_n ⟨ha, rfl⟩)
              clear hf; intro a hf
              have hp := bk66 _ _ hp
              refine dr_one 21 rfl (by kernel_rfl) ?_
              refine st_stQ (E := (Ek.arr 64 (Ek.int .i32))) (F := (Ek.int .i32)) (o := (t60).toNat * 1) (Sub.arr (F := (Ek.int .i32)) (N := 64) (j := t60) hc74.1 hc74.2) hf (by kernel_rfl) hp (i := 0) rfl rfl rfl rfl rfl hc73.1 hc73.2 ?_
              clear hf; intro a w hf hp0; clear hp; have hp := hp0; clear hp0
              replace hp : Hp _ _ _ (Res.sl (Ek.arr 64 (Ek.int .i32)) 65 v23 ((rest10.set (t12).toNat ((gt rest10 t12).set (t60).toNat (IntKind.i32.wrap (q37.2 + (gt (gt rest10 (IntKind.i64.wrap (t12 + (1 : Int)))) q37.1))))).set (t12).toNat ((gt (rest10.set (t12).toNat ((gt rest10 t12).set (t60).toNat (IntKind.i32.wrap (q37.2 + (gt (gt rest10 (IntKind.i64.wrap (t12 + (1 : Int)))) q37.1))))) t12).set (t60).toNat (imin (gt (gt (rest10.set (t12).toNat ((gt rest10 t12).set (t60).toNat (IntKind.i32.wrap (q37.2 + (gt (gt rest10 (IntKind.i64.wrap (t12 + (1 : Int)))) q37.1))))) t12) t60) (IntKind.i32.wrap (q60.2 + (gt (gt (rest10.set (t12).toNat ((gt rest10 t12).set (t60).toNat (IntKind.i32.wrap (q37.2 + (gt (gt rest10 (IntKind.i64.wrap (t12 + (1 : Int)))) q37.1))))) (IntKind.i64.wrap (t12 + (1 : Int)))) q60.1)))))) :: Res.obj 40 v1 [.int .i64 c0_Length, .int .u32 c0_One, .int .u32 c0_Two] :: ow) := hp
              refine st_nil hf (th_n ⟨fun hn => absurd hn (by decide), ?_⟩)
              refine dr_end (by kernel_rfl) ?_ _
              exact ⟨hf.sub ⟨rfl, rfl, rfl, rfl, rfl, rfl, rfl, rfl, trivial⟩, hp⟩
            rintro a w ⟨hf, hp⟩
            refine ib_n ?_
            refine th_n ?_
            refine wp_reg ?_
            refine st_iadd hf (by decide) rfl rfl rfl ?_
            clear hf; intro a ha hf; clear ha
            refine st_move hf rfl rfl (by decide) ?_
            clear hf; intro a ha hf; clear ha
            refine st_nil hf ?_
            obtain rfl := Option.some.inj h
            exact rnd_l ⟨_, hf.sub ⟨rfl, rfl, rfl, rfl, rfl, rfl, rfl, rfl, trivial⟩, hp⟩
          replace h := ifF h hb
          refine wp_skip ?_
          refine ib_n ?_
          refine th_n ?_
          refine wp_reg ?_
          refine st_iadd hf (by decide) rfl rfl rfl ?_
          clear hf; intro a ha hf; clear ha
          refine st_move hf rfl rfl (by decide) ?_
          clear hf; intro a ha hf; clear ha
          refine st_nil hf ?_
          obtain rfl := Option.some.inj h
          exact rnd_l ⟨_, hf.sub ⟨rfl, rfl, rfl, rfl, rfl, rfl, rfl, rfl, trivial⟩, hp⟩
        replace h := ifF h hb
        refine wp_exit ?_
        refine th_e ?_
        obtain rfl := Option.some.inj h
        exact rnd_r (by simp) ⟨rfl, _, hf.sub ⟨rfl, rfl, rfl, rfl, rfl, rfl, trivial⟩, hp⟩
      clear hl hf hp
      intro e a w hne hO
      obtain ⟨rfl, v25, hf, hp⟩ := hO
      refine ib_same ?_
      refine ib_n ?_
      refine th_n ?_
      refine wp_reg ?_
      refine st_move hf rfl rfl (by decide) ?_
      clear hf; intro a ha hf; clear ha
      refine st_isub hf (by decide) rfl rfl rfl ?_
      clear hf; intro a ha hf; clear ha
      refine st_assign hf rfl rfl (by decide) ?_
      clear hf; intro a ha hf; clear ha
      refine st_nil hf ?_
      obtain rfl := Option.some.inj h
      exact rnd_l ⟨_, hf.sub ⟨rfl, rfl, rfl, rfl, rfl, rfl, trivial⟩, hp⟩
    replace h := ifF h hb
    refine wp_exit ?_
    refine th_e ?_
    obtain rfl := Option.some.inj h
    exact rnd_r (by simp) ⟨rfl, _, hf.sub ⟨rfl, rfl, rfl, rfl, trivial⟩, hp⟩
  clear hl hf hp
  intro e a w hne hO
  obtain ⟨rfl, v21, hf, hp⟩ := hO
  refine ib_same ?_
  refine th_n ?_
  refine wp_seq ?_
  refine wp_reg ?_
  refine st_assign hf rfl rfl (by decide) ?_
  clear hf; intro a ha hf; clear ha
  refine st_nil hf ?_
  refine th_n ?_
  refine wp_seq ?_
  refine wp_reg ?_
  refine st_move hf rfl rfl (by decide) ?_
  clear hf; intro a ha hf; clear ha
  obtain ⟨hc77, h⟩ := chk h
  refine st_make (E := Ek.bool) hf (by decide) elt4 Try.underlying22 (by decide) hp rfl rfl rfl hc77.1 hc77.2.1 hc77.2.2 ?_
  clear hf; intro a w v78 hf hp0; clear hp; have hp := hp0; clear hp0
  replace hp : Hp _ _ _ (Res.sl Ek.bool 4 v78 (List.replicate ((IntKind.i64.wrap ((IntKind.i64.wrap (((marks1.length : Int)).tdiv (2 : Int))) - (IntKind.i64.wrap (c0_Length - (1 : Int)))))).toNat false) :: Res.sl (Ek.arr 64 (Ek.int .i32)) 65 v21 q76 :: Res.obj 40 v1 [.int .i64 c0_Length, .int .u32 c0_One, .int .u32 c0_Two] :: ow) := hp
  refine st_assign hf rfl rfl (by decide) ?_
  clear hf; intro a ha hf; clear ha
  refine st_nil hf ?_
  refine th_n ?_
  refine wp_seq ?_
  refine wp_seq ?_
  refine wp_reg ?_
  refine st_move hf rfl rfl (by decide) ?_
  clear hf; intro a ha hf; clear ha
  refine st_move hf rfl rfl (by decide) ?_
  clear hf; intro a ha hf; clear ha
  refine st_nil hf ?_
  refine th_n ?_
  refine wp_block ?_
  obtain ⟨q127, hl, h⟩ := bnd h
  have hp : Hp _ _ _ (Res.sl Ek.bool 4 v78 (List.replicate ((IntKind.i64.wrap ((IntKind.i64.wrap (((marks1.length : Int)).tdiv (2 : Int))) - (IntKind.i64.wrap (c0_Length - (1 : Int)))))).toNat false) :: Res.obj 40 v1 [.int .i64 c0_Length, .int .u32 c0_One, .int .u32 c0_Two] :: Res.sl (Ek.arr 64 (Ek.int .i32)) 65 v21 q76 :: ow) := Hp.sel (pre := [Res.sl Ek.bool 4 v78 (List.replicate ((IntKind.i64.wrap ((IntKind.i64.wrap (((marks1.length : Int)).tdiv (2 : Int))) - (IntKind.i64.wrap (c0_Length - (1 : Int)))))).toNat false), Res.sl (Ek.arr 64 (Ek.int .i32)) 65 v21 q76, Res.obj 40 v1 [.int .i64 c0_Length, .int .u32 c0_One, .int .u32 c0_Two]]) (tail := ow) (rs' := [Res.sl Ek.bool 4 v78 (List.replicate ((IntKind.i64.wrap ((IntKind.i64.wrap (((marks1.length : Int)).tdiv (2 : Int))) - (IntKind.i64.wrap (c0_Length - (1 : Int)))))).toNat false), Res.obj 40 v1 [.int .i64 c0_Length, .int .u32 c0_One, .int .u32 c0_Two], Res.sl (Ek.arr 64 (Ek.int .i32)) 65 v21 q76]) hp [0, 2, 1] (by decide) (by simp) rfl
  refine wp_loop_pure (f := (f_hard_Path.s4 c0_Length c0_One c0_Two marks1 q76)) (s := ((List.replicate ((IntKind.i64.wrap ((IntKind.i64.wrap (((marks1.length : Int)).tdiv (2 : Int))) - (IntKind.i64.wrap (c0_Length - (1 : Int)))))).toNat false), (0 : Int), (0 : Int))) (fun s a w => ∃ (v80 : Value), Fr 179 a [(1, vmarks1), (2, optr v1 0), (4, v80), (10, v21), (16, .int .u32 s.2.1), (124, .int .i64 (IntKind.i64.wrap ((IntKind.i64.wrap (((marks1.length : Int)).tdiv (2 : Int))) - (IntKind.i64.wrap (c0_Length - (1 : Int)))))), (125, .int .i64 s.2.2)] ∧ Hp S w0 w (Res.sl Ek.bool 4 v80 s.1 :: Res.obj 40 v1 [.int .i64 c0_Length, .int .u32 c0_One, .int .u32 c0_Two] :: Res.sl (Ek.arr 64 (Ek.int .i32)) 65 v21 q76 :: ow)) (fun q e a w => e = .exit 6 ∧ ∃ (v82 : Value), Fr 179 a [(4, v82), (10, v21)] ∧ Hp S w0 w (Res.sl Ek.bool 4 v82 q :: Res.sl (Ek.arr 64 (Ek.int .i32)) 65 v21 q76 :: ow)) ?_ hl ⟨_, hf.sub ⟨rfl, rfl, rfl, rfl, rfl, rfl, rfl, trivial⟩, hp⟩ ?_
  · clear hl hf hp
    intro s x a w h hI
    obtain ⟨message4, at16, t125⟩ := s
    obtain ⟨v80, hf, hp⟩ : ∃ (v80 : Value), Fr 179 a [(1, vmarks1), (2, optr v1 0), (4, v80), (10, v21), (16, .int .u32 at16), (124, .int .i64 (IntKind.i64.wrap ((IntKind.i64.wrap (((marks1.length : Int)).tdiv (2 : Int))) - (IntKind.i64.wrap (c0_Length - (1 : Int)))))), (125, .int .i64 t125)] ∧ Hp S w0 w (Res.sl Ek.bool 4 v80 message4 :: Res.obj 40 v1 [.int .i64 c0_Length, .int .u32 c0_One, .int .u32 c0_Two] :: Res.sl (Ek.arr 64 (Ek.int .i32)) 65 v21 q76 :: ow) := hI
    replace h : f_hard_Path.s4c c0_Length c0_One c0_Two marks1 q76 message4 at16 t125 = some x := h
    unfold f_hard_Path.s4c at h
    refine wp_seq ?_
    refine wp_reg ?_
    refine st_ilss hf (by decide) rfl rfl rfl ?_
    clear hf; intro a ha hf; clear ha
    refine st_nil hf ?_
    refine th_n ?_
    refine wp_seq ?_
    refine wp_if hf rfl (fun hb => ?_) (fun hb => ?_)
    · replace h := ifT h hb
      refine wp_skip ?_
      refine th_n ?_
      refine wp_seq ?_
      refine wp_block ?_
      refine wp_seq ?_
      refine wp_reg ?_
      refine st_move hf rfl rfl (by decide) ?_
      clear hf; intro a ha hf; clear ha
      refine st_assign hf rfl rfl (by decide) ?_
      clear hf; intro a ha hf; clear ha
      refine st_nil hf ?_
      refine th_n ?_
      refine wp_seq ?_
      obtain ⟨S84, hp85, rd86, up87, bk88⟩ := Hp.lendO hp (i := 1) rfl
      have rl89 := ((hmarks1.now hp).mono up87)
      have rl90 := rd86
      obtain ⟨hc91, h⟩ := chk h
      have hc92 : ((IntKind.i64.wrap ((2 : Int) * t125))).toNat ≤ marks1.length := by omega
      have hc93 : marks1.length ≤ marks1.length := by omega
      obtain ⟨q94, hcall95, h⟩ := bnd h
      refine wp_cutN (fun a w => Fr 179 a [(1, vmarks1), (2, optr v1 0), (4, v80), (10, v21), (16, .int .u32 at16), (17, .int .i64 t125), (18, .int .u32 q94.1), (19, .int .i32 q94.2), (124, .int .i64 (IntKind.i64.wrap ((IntKind.i64.wrap (((marks1.length : Int)).tdiv (2 : Int))) - (IntKind.i64.wrap (c0_Length - (1 : Int)))))), (125, .int .i64 t125)] ∧ Hp S w0 w (Res.obj 40 v1 [.int .i64 c0_Length, .int .u32 c0_One, .int .u32 c0_Two] :: Res.sl Ek.bool 4 v80 message4 :: Res.sl (Ek.arr 64 (Ek.int .i32)) 65 v21 q76 :: ow)) ?_ ?_
      · have hp := hp85.same (Same.drew w)
        refine dr_begin' (fun a w => Fr 179 a [(1, vmarks1), (2, optr v1 0), (4, v80), (10, v21), (16, .int .u32 at16), (17, .int .i64 t125), (18, .int .u32 q94.1), (19, .int .i32 q94.2), (124, .int .i64 (IntKind.i64.wrap ((IntKind.i64.wrap (((marks1.length : Int)).tdiv (2 : Int))) - (IntKind.i64.wrap (c0_Length - (1 : Int)))))), (125, .int .i64 t125)] ∧ Hp S w0 w (Res.obj 40 v1 [.int .i64 c0_Length, .int .u32 c0_One, .int .u32 c0_Two] :: Res.sl Ek.bool 4 v80 message4 :: Res.sl (Ek.arr 64 (Ek.int .i32)) 65 v21 q76 :: ow)) (fun w' => ∃ l, Hp S84 w w' l) [] (by kernel_rfl) ?_
        refine dr_take 0 (.agg #[.int .i64 c0_Length, .int .u32 c0_One, .int .u32 c0_Two]) rfl (by kernel_rfl) (by kernel_rfl) (by kernel_rfl) (by kernel_rfl) rfl rfl hf (by decide) rfl (fun w hp => ?_) ⟨_, hp⟩ ?_
        · obtain ⟨_, hp⟩ := hp
          refine st_ldOA (m := 3) (us := [.int .i64 c0_Length, .int .u32 c0_One, .int .u32 c0_Two]) hf (by decide) (by kernel_rfl) rfl rfl (rl90.ob hp) rfl rfl ?_
          clear hf; intro a ha hf
          exact st_nil hf (th_n ⟨ha, rfl⟩)
        clear hf; intro a hf
        refine dr_take 1 (.int .u32 at16) rfl (by kernel_rfl) (by kernel_rfl) (by kernel_rfl) (by kernel_rfl) rfl rfl hf (by decide) rfl (fun w hp => ?_) ⟨_, hp⟩ ?_
        · obtain ⟨_, hp⟩ := hp
          refine st_move hf rfl rfl (by decide) ?_
          clear hf; intro a ha hf
          exact st_nil hf (th_n ⟨ha, rfl⟩)
        clear hf; intro a hf
        refine dr_take 2 (vmarks1) rfl (by kernel_rfl) (by kernel_rfl) (by kernel_rfl) (by kernel_rfl) rfl rfl hf (by decide) rfl (fun w hp => ?_) ⟨_, hp⟩ ?_
        · obtain ⟨_, hp⟩ := hp
          refine st_move hf rfl rfl (by decide) ?_
          clear hf; intro a ha hf
          exact st_nil hf (th_n ⟨ha, rfl⟩)
        clear hf; intro a hf
        refine dr_take 3 (.int .i64 t125) rfl (by kernel_rfl) (by kernel_rfl) (by kernel_rfl) (by kernel_rfl) rfl rfl hf (by decide) rfl (fun w hp => ?_) ⟨_, hp⟩ ?_
        · obtain ⟨_, hp⟩ := hp
          refine st_move hf rfl rfl (by decide) ?_
          clear hf; intro a ha hf
          exact st_nil hf (th_n ⟨ha, rfl⟩)
        clear hf; intro a hf
        refine dr_take 4 (.int .i64 (IntKind.i64.wrap ((2 : Int) * t125))) rfl (by kernel_rfl) (by kernel_rfl) (by kernel_rfl) (by kernel_rfl) rfl rfl hf (by decide) rfl (fun w hp => ?_) ⟨_, hp⟩ ?_
        · obtain ⟨_, hp⟩ := hp
          refine st_imul hf (by decide) rfl rfl rfl ?_
          clear hf; intro a ha hf
          exact st_nil hf (th_n ⟨ha, rfl⟩)
        clear hf; intro a hf
        refine dr_take 5 ((GL.cut vmarks1 ((IntKind.i64.wrap ((2 : Int) * t125))).toNat marks1.length 1)) rfl (by kernel_rfl) (by kernel_rfl) (by kernel_rfl) (by kernel_rfl) rfl rfl hf (by decide) rfl (fun w hp => ?_) ⟨_, hp⟩ ?_
        · obtain ⟨_, hp⟩ := hp
          refine st_cutS (E := (Ek.int .u8)) hf (by decide) Try.underlying26 elt51 rfl rfl (rl89.sl hp) (.inr ⟨_, _, rfl, evI rfl hc91.1⟩) (.inl ⟨rfl, rfl⟩) hc92 hc93 ?_
          clear hf; intro a ha hf
          exact st_nil hf (th_n ⟨ha, rfl⟩)
        clear hf; intro a hf
        refine dr_one 6 rfl (by kernel_rfl) ?_
        refine st_call hf (by decide) Try.func32 rfl rfl rfl rfl rfl (f_hard_step_c hp _ _ _ _ _ _ _ (RdS.cut rl89 hc92 hc93) hcall95) ?_
        rintro _ w ⟨rfl, hp0⟩
        clear hp; have hp := hp0; clear hp0
        replace hp : Hp _ _ _ (Res.sl Ek.bool 4 v80 message4 :: Res.sl (Ek.arr 64 (Ek.int .i32)) 65 v21 q76 :: ow) := hp
        refine ⟨_, rfl, ?_⟩
        clear hf; intro a hf
        refine st_nil hf (th_n ⟨fun _ _ => ⟨_, hp⟩, ?_⟩)
        refine dr_take 7 (.tuple #[.int .u32 q94.1, .int .i32 q94.2]) rfl (by kernel_rfl) (by kernel_rfl) (by kernel_rfl) (by kernel_rfl) rfl rfl hf (by decide) rfl (fun w hp => ?_) ⟨_, hp⟩ ?_
        · obtain ⟨_, hp⟩ := hp
          refine st_move hf rfl rfl (by decide) ?_
          clear hf; intro a ha hf
          exact st_nil hf (th_n ⟨ha, rfl⟩)
        clear hf; intro a hf
        refine dr_take 8 (.int .u32 q94.1) rfl (by kernel_rfl) (by kernel_rfl) (by kernel_rfl) (by kernel_rfl) rfl rfl hf (by decide) rfl (fun w hp => ?_) ⟨_, hp⟩ ?_
        · obtain ⟨_, hp⟩ := hp
          refine st_extract hf (by decide) rfl rfl rfl ?_
          clear hf; intro a ha hf
          exact st_nil hf (th_n ⟨ha, rfl⟩)
        clear hf; intro a hf
        refine dr_take 9 (.int .i32 q94.2) rfl (by kernel_rfl) (by kernel_rfl) (by kernel_rfl) (by kernel_rfl) rfl rfl hf (by decide) rfl (fun w hp => ?_) ⟨_, hp⟩ ?_
        · obtain ⟨_, hp⟩ := hp
          refine st_extract hf (by decide) rfl rfl rfl ?_
          clear hf; intro a ha hf
          exact st_nil hf (th_n ⟨ha, rfl⟩)
        clear hf; intro a hf
        refine dr_take 10 (.int .u32 q94.1) rfl (by kernel_rfl) (by kernel_rfl) (by kernel_rfl) (by kernel_rfl) rfl rfl hf (by decide) rfl (fun w hp => ?_) ⟨_, hp⟩ ?_
        · obtain ⟨_, hp⟩ := hp
          refine st_assign hf rfl rfl (by decide) ?_
          clear hf; intro a ha hf
          exact st_nil hf (th_n ⟨ha, rfl⟩)
        clear hf; intro a hf
        refine dr_take 11 (.int .i32 q94.2) rfl (by kernel_rfl) (by kernel_rfl) (by kernel_rfl) (by kernel_rfl) rfl rfl hf (by decide) rfl (fun w hp => ?_) ⟨_, hp⟩ ?_
        · obtain ⟨_, hp⟩ := hp
          refine st_assign hf rfl rfl (by decide) ?_
          clear hf; intro a ha hf
          exact st_nil hf (th_n ⟨ha, rfl⟩)
        clear hf; intro a hf
        refine dr_end (by kernel_rfl) ?_ _
        have hp := bk88 _ _ hp
        exact ⟨hf.sub ⟨rfl, rfl, rfl, rfl, rfl, rfl, rfl, rfl, rfl, rfl, trivial⟩, hp⟩
      rintro a w ⟨hf, hp⟩
      refine th_n ?_
      refine wp_seq ?_
      refine wp_seq ?_
      obtain ⟨S96, hp97, rd98, up99, bk100⟩ := Hp.lendS hp (i := 2) rfl
      obtain ⟨S101, hp102, rd103, up104, bk105⟩ := Hp.lendS hp97 (i := 1) rfl
      have rl106 := ((((hmarks1.now hp).mono up99).now hp97).mono up104)
      have rl107 := rd103
      have rl108 := ((rd98.now hp97).mono up104)
      obtain ⟨hc109, h⟩ := chk h
      obtain ⟨hc110, h⟩ := chk h
      obtain ⟨hc111, h⟩ := chk h
      obtain ⟨hc112, h⟩ := chk h
      obtain ⟨hc113, h⟩ := chk h
      refine wp_cutN (fun a w => Fr 179 a [(1, vmarks1), (2, optr v1 0), (4, v80), (10, v21), (16, .int .u32 at16), (17, .int .i64 t125), (18, .int .u32 q94.1), (124, .int .i64 (IntKind.i64.wrap ((IntKind.i64.wrap (((marks1.length : Int)).tdiv (2 : Int))) - (IntKind.i64.wrap (c0_Length - (1 : Int)))))), (125, .int .i64 t125)] ∧ Hp S w0 w (Res.sl (Ek.arr 64 (Ek.int .i32)) 65 v21 q76 :: Res.sl Ek.bool 4 v80 (message4.set (t125).toNat ((IntKind.i32.wrap (q94.2 + (gt (gt q76 (IntKind.i64.wrap (t125 + (1 : Int)))) q94.1))) != (gt (gt q76 t125) at16))) :: Res.obj 40 v1 [.int .i64 c0_Length, .int .u32 c0_One, .int .u32 c0_Two] :: ow)) ?_ ?_
      · have hp := hp102.same (Same.drew w)
        refine dr_begin' (fun a w => Fr 179 a [(1, vmarks1), (2, optr v1 0), (4, v80), (10, v21), (16, .int .u32 at16), (17, .int .i64 t125), (18, .int .u32 q94.1), (124, .int .i64 (IntKind.i64.wrap ((IntKind.i64.wrap (((marks1.length : Int)).tdiv (2 : Int))) - (IntKind.i64.wrap (c0_Length - (1 : Int)))))), (125, .int .i64 t125)] ∧ Hp S w0 w (Res.sl (Ek.arr 64 (Ek.int .i32)) 65 v21 q76 :: Res.sl Ek.bool 4 v80 (message4.set (t125).toNat ((IntKind.i32.wrap (q94.2 + (gt (gt q76 (IntKind.i64.wrap (t125 + (1 : Int)))) q94.1))) != (gt (gt q76 t125) at16))) :: Res.obj 40 v1 [.int .i64 c0_Length, .int .u32 c0_One, .int .u32 c0_Two] :: ow)) (fun w' => ∃ l, Hp S101 w w' l) [19] (by kernel_rfl) ?_
        refine dr_takeP 0 (v80) rfl (by kernel_rfl) (by kernel_rfl) (by kernel_rfl) rfl rfl hf (by decide) rfl (fun w => ?_) ?_
        · skip
          refine st_move hf rfl rfl (by decide) ?_
          clear hf; intro a ha hf
          exact st_nil hf (th_n ⟨ha, rfl⟩)
        clear hf; intro a hf
        refine dr_takeP 1 (.int .i64 t125) rfl (by kernel_rfl) (by kernel_rfl) (by kernel_rfl) rfl rfl hf (by decide) rfl (fun w => ?_) ?_
        · skip
          refine st_move hf rfl rfl (by decide) ?_
          clear hf; intro a ha hf
          exact st_nil hf (th_n ⟨ha, rfl⟩)
        clear hf; intro a hf
        refine dr_takeP 2 (.int .i32 q94.2) rfl (by kernel_rfl) (by kernel_rfl) (by kernel_rfl) rfl rfl hf (by decide) rfl (fun w => ?_) ?_
        · skip
          refine st_move hf rfl rfl (by decide) ?_
          clear hf; intro a ha hf
          exact st_nil hf (th_n ⟨ha, rfl⟩)
        clear hf; intro a hf
        refine dr_takeP 3 (v21) rfl (by kernel_rfl) (by kernel_rfl) (by kernel_rfl) rfl rfl hf (by decide) rfl (fun w => ?_) ?_
        · skip
          refine st_move hf rfl rfl (by decide) ?_
          clear hf; intro a ha hf
          exact st_nil hf (th_n ⟨ha, rfl⟩)
        clear hf; intro a hf
        refine dr_takeP 4 (.int .i64 t125) rfl (by kernel_rfl) (by kernel_rfl) (by kernel_rfl) rfl rfl hf (by decide) rfl (fun w => ?_) ?_
        · skip
          refine st_move hf rfl rfl (by decide) ?_
          clear hf; intro a ha hf
          exact st_nil hf (th_n ⟨ha, rfl⟩)
        clear hf; intro a hf
        refine dr_takeP 5 (.int .i64 (IntKind.i64.wrap (t125 + (1 : Int)))) rfl (by kernel_rfl) (by kernel_rfl) (by kernel_rfl) rfl rfl hf (by decide) rfl (fun w => ?_) ?_
        · skip
          refine st_iadd hf (by decide) rfl rfl rfl ?_
          clear hf; intro a ha hf
          exact st_nil hf (th_n ⟨ha, rfl⟩)
        clear hf; intro a hf
        refine dr_takeP 6 (.int .u32 q94.1) rfl (by kernel_rfl) (by kernel_rfl) (by kernel_rfl) rfl rfl hf (by decide) rfl (fun w => ?_) ?_
        · skip
          refine st_move hf rfl rfl (by decide) ?_
          clear hf; intro a ha hf
          exact st_nil hf (th_n ⟨ha, rfl⟩)
        clear hf; intro a hf
        refine dr_takeP 7 (eptr v21 (IntKind.i64.wrap (t125 + (1 : Int))) 64) rfl (by kernel_rfl) (by kernel_rfl) (by kernel_rfl) rfl rfl hf (by decide) rfl (fun w => ?_) ?_
        · skip
          refine st_index (E := (Ek.arr 64 (Ek.int .i32))) hf (by decide) Try.underlying64 elt65 rfl rfl rfl rl108.any hc109.1 hc109.2 ?_
          clear hf; intro a ha hf
          exact st_nil hf (th_n ⟨ha, rfl⟩)
        clear hf; intro a hf
        refine dr_takeP 8 (optr (eptr v21 (IntKind.i64.wrap (t125 + (1 : Int))) 64) ((q94.1).toNat * 1)) rfl (by kernel_rfl) (by kernel_rfl) (by kernel_rfl) rfl rfl hf (by decide) rfl (fun w => ?_) ?_
        · skip
          refine st_iaP (sz := 1) hf (by decide) Try.underlying65 (by kernel_rfl) rfl rfl rfl (Sl.isP rl108.any hc109.1 hc109.2) hc110.1 hc110.2 ?_
          clear hf; intro a ha hf
          exact st_nil hf (th_n ⟨ha, rfl⟩)
        clear hf; intro a hf
        refine dr_take2 9 (.int .i32 (gt (gt q76 (IntKind.i64.wrap (t125 + (1 : Int)))) q94.1)) rfl (by kernel_rfl) (by kernel_rfl) (by kernel_rfl) (by kernel_rfl) (by kernel_rfl) rfl rfl hf (by decide) rfl (fun w hp => ?_) ⟨_, hp⟩ ?_
        · obtain ⟨_, hp⟩ := hp
          refine st_ldQ (F := (Ek.int .i32)) (yv := (gt (gt q76 (IntKind.i64.wrap (t125 + (1 : Int)))) q94.1)) hf (by decide) pl21 (fun x => .int .i32 x) (fun _ _ h => h) rfl rfl (Sl.part (E := (Ek.arr 64 (Ek.int .i32))) (F := (Ek.int .i32)) (o := (q94.1).toNat * 1) (Sub.arr (F := (Ek.int .i32)) (N := 64) (j := q94.1) hc110.1 hc110.2) (rl108.sl hp) hc109.1 hc109.2) ?_
          clear hf; intro a ha hf
          exact st_nil hf (th_n ⟨ha, rfl⟩)
        clear hf; intro a hf
        refine dr_takeP 10 (.int .i32 (IntKind.i32.wrap (q94.2 + (gt (gt q76 (IntKind.i64.wrap (t125 + (1 : Int)))) q94.1)))) rfl (by kernel_rfl) (by kernel_rfl) (by kernel_rfl) rfl rfl hf (by decide) rfl (fun w => ?_) ?_
        · skip
          refine st_iadd hf (by decide) rfl rfl rfl ?_
          clear hf; intro a ha hf
          exact st_nil hf (th_n ⟨ha, rfl⟩)
        clear hf; intro a hf
        refine dr_takeP 11 (v21) rfl (by kernel_rfl) (by kernel_rfl) (by kernel_rfl) rfl rfl hf (by decide) rfl (fun w => ?_) ?_
        · skip
          refine st_move hf rfl rfl (by decide) ?_
          clear hf; intro a ha hf
          exact st_nil hf (th_n ⟨ha, rfl⟩)
        clear hf; intro a hf
        refine dr_takeP 12 (.int .i64 t125) rfl (by kernel_rfl) (by kernel_rfl) (by kernel_rfl) rfl rfl hf (by decide) rfl (fun w => ?_) ?_
        · skip
          refine st_move hf rfl rfl (by decide) ?_
          clear hf; intro a ha hf
          exact st_nil hf (th_n ⟨ha, rfl⟩)
        clear hf; intro a hf
        refine dr_takeP 13 (.int .u32 at16) rfl (by kernel_rfl) (by kernel_rfl) (by kernel_rfl) rfl rfl hf (by decide) rfl (fun w => ?_) ?_
        · skip
          refine st_move hf rfl rfl (by decide) ?_
          clear hf; intro a ha hf
          exact st_nil hf (th_n ⟨ha, rfl⟩)
        clear hf; intro a hf
        refine dr_takeP 14 (eptr v21 t125 64) rfl (by kernel_rfl) (by kernel_rfl) (by kernel_rfl) rfl rfl hf (by decide) rfl (fun w => ?_) ?_
        · skip
          refine st_index (E := (Ek.arr 64 (Ek.int .i32))) hf (by decide) Try.underlying64 elt65 rfl rfl rfl rl108.any hc111.1 hc111.2 ?_
          clear hf; intro a ha hf
          exact st_nil hf (th_n ⟨ha, rfl⟩)
        clear hf; intro a hf
        refine dr_takeP 15 (optr (eptr v21 t125 64) ((at16).toNat * 1)) rfl (by kernel_rfl) (by kernel_rfl) (by kernel_rfl) rfl rfl hf (by decide) rfl (fun w => ?_) ?_
        · skip
          refine st_iaP (sz := 1) hf (by decide) Try.underlying65 (by kernel_rfl) rfl rfl rfl (Sl.isP rl108.any hc111.1 hc111.2) hc112.1 hc112.2 ?_
          clear hf; intro a ha hf
          exact st_nil hf (th_n ⟨ha, rfl⟩)
        clear hf; intro a hf
        refine dr_take2 16 (.int .i32 (gt (gt q76 t125) at16)) rfl (by kernel_rfl) (by kernel_rfl) (by kernel_rfl) (by kernel_rfl) (by kernel_rfl) rfl rfl hf (by decide) rfl (fun w hp => ?_) ⟨_, hp⟩ ?_
        · obtain ⟨_, hp⟩ := hp
          refine st_ldQ (F := (Ek.int .i32)) (yv := (gt (gt q76 t125) at16)) hf (by decide) pl21 (fun x => .int .i32 x) (fun _ _ h => h) rfl rfl (Sl.part (E := (Ek.arr 64 (Ek.int .i32))) (F := (Ek.int .i32)) (o := (at16).toNat * 1) (Sub.arr (F := (Ek.int .i32)) (N := 64) (j := at16) hc112.1 hc112.2) (rl108.sl hp) hc111.1 hc111.2) ?_
          clear hf; intro a ha hf
          exact st_nil hf (th_n ⟨ha, rfl⟩)
        clear hf; intro a hf
        refine dr_takeP 17 (.bool ((IntKind.i32.wrap (q94.2 + (gt (gt q76 (IntKind.i64.wrap (t125 + (1 : Int)))) q94.1))) != (gt (gt q76 t125) at16))) rfl (by kernel_rfl) (by kernel_rfl) (by kernel_rfl) rfl rfl hf (by decide) rfl (fun w => ?_) ?_
        · skip
          refine st_ineq hf (by decide) rfl rfl rfl ?_
          clear hf; intro a ha hf
          exact st_nil hf (th_n ⟨ha, rfl⟩)
        clear hf; intro a hf
        refine dr_takeP 18 (eptr v80 t125 1) rfl (by kernel_rfl) (by kernel_rfl) (by kernel_rfl) rfl rfl hf (by decide) rfl (fun w => ?_) ?_
        · skip
          refine st_index (E := Ek.bool) hf (by decide) Try.underlying22 elt4 rfl rfl rfl rl107.any hc113.1 hc113.2 ?_
          clear hf; intro a ha hf
          exact st_nil hf (th_n ⟨ha, rfl⟩)
        clear hf; intro a hf
        have hp := bk105 _ _ hp
        have hp := bk100 _ _ hp
        refine dr_one 19 rfl (by kernel_rfl) ?_
        refine st_store (E := Ek.bool) hf elt4 hp (i := 1) rfl rfl rfl rfl rfl hc113.1 hc113.2 ?_
        clear hf; intro a w hf hp0; clear hp; have hp := hp0; clear hp0
        replace hp : Hp _ _ _ (Res.sl (Ek.arr 64 (Ek.int .i32)) 65 v21 q76 :: Res.sl Ek.bool 4 v80 (message4.set (t125).toNat ((IntKind.i32.wrap (q94.2 + (gt (gt q76 (IntKind.i64.wrap (t125 + (1 : Int)))) q94.1))) != (gt (gt q76 t125) at16))) :: Res.obj 40 v1 [.int .i64 c0_Length, .int .u32 c0_One, .int .u32 c0_Two] :: ow) := hp
        refine st_nil hf (th_n ⟨fun hn => absurd hn (by decide), ?_⟩)
        refine dr_end (by kernel_rfl) ?_ _
        exact ⟨hf.sub ⟨rfl, rfl, rfl, rfl, rfl, rfl, rfl, rfl, rfl, trivial⟩, hp⟩
      rintro a w ⟨hf, hp⟩
      refine th_n ?_
      refine wp_seq ?_
      refine wp_reg ?_
      refine st_move hf rfl rfl (by decide) ?_
      clear hf; intro a ha hf; clear ha
      refine st_move hf rfl rfl (by decide) ?_
      clear hf; intro a ha hf; clear ha
      obtain ⟨hc114, h⟩ := chk h
      refine st_index (E := Ek.bool) hf (by decide) Try.underlying22 elt4 rfl rfl rfl (hp.sl (i := 1) rfl) hc114.1 hc114.2 ?_
      clear hf; intro a ha hf; clear ha
      refine st_ldB hf (by decide) pl4 rfl rfl (hp.sl (i := 1) rfl) hc114.1 hc114.2 ?_
      clear hf; intro a ha hf; clear ha
      refine st_nil hf ?_
      refine th_n ?_
      refine wp_if hf rfl (fun hb => ?_) (fun hb => ?_)
      · replace h := ifT h hb
        obtain ⟨S115, hp116, rd117, up118, bk119⟩ := Hp.lendO hp (i := 2) rfl
        have rl120 := ((hmarks1.now hp).mono up118)
        have rl121 := rd117
        obtain ⟨hc122, h⟩ := chk h
        have hc123 : ((IntKind.i64.wrap ((2 : Int) * t125))).toNat ≤ marks1.length := by omega
        have hc124 : marks1.length ≤ marks1.length := by omega
        obtain ⟨q125, hcall126, h⟩ := bnd h
        refine wp_cutN (fun a w => Fr 179 a [(1, vmarks1), (2, optr v1 0), (4, v80), (10, v21), (18, .int .u32 q125.1), (124, .int .i64 (IntKind.i64.wrap ((IntKind.i64.wrap (((marks1.length : Int)).tdiv (2 : Int))) - (IntKind.i64.wrap (c0_Length - (1 : Int)))))), (125, .int .i64 t125)] ∧ Hp S w0 w (Res.obj 40 v1 [.int .i64 c0_Length, .int .u32 c0_One, .int .u32 c0_Two] :: Res.sl (Ek.arr 64 (Ek.int .i32)) 65 v21 q76 :: Res.sl Ek.bool 4 v80 (message4.set (t125).toNat ((IntKind.i32.wrap (q94.2 + (gt (gt q76 (IntKind.i64.wrap (t125 + (1 : Int)))) q94.1))) != (gt (gt q76 t125) at16))) :: ow)) ?_ ?_
        · have hp := hp116.same (Same.drew w)
          refine dr_begin' (fun a w => Fr 179 a [(1, vmarks1), (2, optr v1 0), (4, v80), (10, v21), (18, .int .u32 q125.1), (124, .int .i64 (IntKind.i64.wrap ((IntKind.i64.wrap (((marks1.length : Int)).tdiv (2 : Int))) - (IntKind.i64.wrap (c0_Length - (1 : Int)))))), (125, .int .i64 t125)] ∧ Hp S w0 w (Res.obj 40 v1 [.int .i64 c0_Length, .int .u32 c0_One, .int .u32 c0_Two] :: Res.sl (Ek.arr 64 (Ek.int .i32)) 65 v21 q76 :: Res.sl Ek.bool 4 v80 (message4.set (t125).toNat ((IntKind.i32.wrap (q94.2 + (gt (gt q76 (IntKind.i64.wrap (t125 + (1 : Int)))) q94.1))) != (gt (gt q76 t125) at16))) :: ow)) (fun w' => ∃ l, Hp S115 w w' l) [] (by kernel_rfl) ?_
          refine dr_take 0 (.agg #[.int .i64 c0_Length, .int .u32 c0_One, .int .u32 c0_Two]) rfl (by kernel_rfl) (by kernel_rfl) (by kernel_rfl) (by kernel_rfl) rfl rfl hf (by decide) rfl (fun w hp => ?_) ⟨_, hp⟩ ?_
          · obtain ⟨_, hp⟩ := hp
            refine st_ldOA (m := 3) (us := [.int .i64 c0_Length, .int .u32 c0_One, .int .u32 c0_Two]) hf (by decide) (by kernel_rfl) rfl rfl (rl121.ob hp) rfl rfl ?_
            clear hf; intro a ha hf
            exact st_nil hf (th_n ⟨ha, rfl⟩)
          clear hf; intro a hf
          refine dr_take 1 (.int .u32 at16) rfl (by kernel_rfl) (by kernel_rfl) (by kernel_rfl) (by kernel_rfl) rfl rfl hf (by decide) rfl (fun w hp => ?_) ⟨_, hp⟩ ?_
          · obtain ⟨_, hp⟩ := hp
            refine st_move hf rfl rfl (by decide) ?_
            clear hf; intro a ha hf
            exact st_nil hf (th_n ⟨ha, rfl⟩)
          clear hf; intro a hf
          refine dr_take 2 (vmarks1) rfl (by kernel_rfl) (by kernel_rfl) (by kernel_rfl) (by kernel_rfl) rfl rfl hf (by decide) rfl (fun w hp => ?_) ⟨_, hp⟩ ?_
          · obtain ⟨_, hp⟩ := hp
            refine st_move hf rfl rfl (by decide) ?_
            clear hf; intro a ha hf
            exact st_nil hf (th_n ⟨ha, rfl⟩)
          clear hf; intro a hf
          refine dr_take 3 (.int .i64 t125) rfl (by kernel_rfl) (by kernel_rfl) (by kernel_rfl) (by kernel_rfl) rfl rfl hf (by decide) rfl (fun w hp => ?_) ⟨_, hp⟩ ?_
          · obtain ⟨_, hp⟩ := hp
            refine st_move hf rfl rfl (by decide) ?_
            clear hf; intro a ha hf
            exact st_nil hf (th_n ⟨ha, rfl⟩)
          clear hf; intro a hf
          refine dr_take 4 (.int .i64 (IntKind.i64.wrap ((2 : Int) * t125))) rfl (by kernel_rfl) (by kernel_rfl) (by kernel_rfl) (by kernel_rfl) rfl rfl hf (by decide) rfl (fun w hp => ?_) ⟨_, hp⟩ ?_
          · obtain ⟨_, hp⟩ := hp
            refine st_imul hf (by decide) rfl rfl rfl ?_
            clear hf; intro a ha hf
            exact st_nil hf (th_n ⟨ha, rfl⟩)
          clear hf; intro a hf
          refine dr_take 5 ((GL.cut vmarks1 ((IntKind.i64.wrap ((2 : Int) * t125))).toNat marks1.length 1)) rfl (by kernel_rfl) (by kernel_rfl) (by kernel_rfl) (by kernel_rfl) rfl rfl hf (by decide) rfl (fun w hp => ?_) ⟨_, hp⟩ ?_
          · obtain ⟨_, hp⟩ := hp
            refine st_cutS (E := (Ek.int .u8)) hf (by decide) Try.underlying26 elt51 rfl rfl (rl120.sl hp) (.inr ⟨_, _, rfl, evI rfl hc122.1⟩) (.inl ⟨rfl, rfl⟩) hc123 hc124 ?_
            clear hf; intro a ha hf
            exact st_nil hf (th_n ⟨ha, rfl⟩)
          clear hf; intro a hf
          refine dr_one 6 rfl (by kernel_rfl) ?_
          refine st_call hf (by decide) Try.func32 rfl rfl rfl rfl rfl (f_hard_step_c hp _ _ _ _ _ _ _ (RdS.cut rl120 hc123 hc124) hcall126) ?_
          rintro _ w ⟨rfl, hp0⟩
          clear hp; have hp := hp0; clear hp0
          replace hp : Hp _ _ _ (Res.sl (Ek.arr 64 (Ek.int .i32)) 65 v21 q76 :: Res.sl Ek.bool 4 v80 (message4.set (t125).toNat ((IntKind.i32.wrap (q94.2 + (gt (gt q76 (IntKind.i64.wrap (t125 + (1 : Int)))) q94.1))) != (gt (gt q76 t125) at16))) :: ow) := hp
          refine ⟨_, rfl, ?_⟩
          clear hf; intro a hf
          refine st_nil hf (th_n ⟨fun _ _ => ⟨_, hp⟩, ?_⟩)
          refine dr_take 7 (.tuple #[.int .u32 q125.1, .int .i32 q125.2]) rfl (by kernel_rfl) (by kernel_rfl) (by kernel_rfl) (by kernel_rfl) rfl rfl hf (by decide) rfl (fun w hp => ?_) ⟨_, hp⟩ ?_
          · obtain ⟨_, hp⟩ := hp
            refine st_move hf rfl rfl (by decide) ?_
            clear hf; intro a ha hf
            exact st_nil hf (th_n ⟨ha, rfl⟩)
          clear hf; intro a hf
          refine dr_take 8 (.int .u32 q125.1) rfl (by kernel_rfl) (by kernel_rfl) (by kernel_rfl) (by kernel_rfl) rfl rfl hf (by decide) rfl (fun w hp => ?_) ⟨_, hp⟩ ?_
          · obtain ⟨_, hp⟩ := hp
            refine st_extract hf (by decide) rfl rfl rfl ?_
            clear hf; intro a ha hf
            exact st_nil hf (th_n ⟨ha, rfl⟩)
          clear hf; intro a hf
          refine dr_take 9 (.int .i32 q125.2) rfl (by kernel_rfl) (by kernel_rfl) (by kernel_rfl) (by kernel_rfl) rfl rfl hf (by decide) rfl (fun w hp => ?_) ⟨_, hp⟩ ?_
          · obtain ⟨_, hp⟩ := hp
            refine st_extract hf (by decide) rfl rfl rfl ?_
            clear hf; intro a ha hf
            exact st_nil hf (th_n ⟨ha, rfl⟩)
          clear hf; intro a hf
          refine dr_take 10 (.int .u32 q125.1) rfl (by kernel_rfl) (by kernel_rfl) (by kernel_rfl) (by kernel_rfl) rfl rfl hf (by decide) rfl (fun w hp => ?_) ⟨_, hp⟩ ?_
          · obtain ⟨_, hp⟩ := hp
            refine st_assign hf rfl rfl (by decide) ?_
            clear hf; intro a ha hf
            exact st_nil hf (th_n ⟨ha, rfl⟩)
          clear hf; intro a hf
          refine dr_end (by kernel_rfl) ?_ _
          have hp := bk119 _ _ hp
          exact ⟨hf.sub ⟨rfl, rfl, rfl, rfl, rfl, rfl, rfl, trivial⟩, hp⟩
        rintro a w ⟨hf, hp⟩
        refine th_n ?_
        refine wp_reg ?_
        refine st_move hf rfl rfl (by decide) ?_
        clear hf; intro a ha hf; clear ha
        refine st_assign hf rfl rfl (by decide) ?_
        clear hf; intro a ha hf; clear ha
        refine st_nil hf ?_
        refine ib_n ?_
        refine th_n ?_
        refine wp_reg ?_
        refine st_iadd hf (by decide) rfl rfl rfl ?_
        clear hf; intro a ha hf; clear ha
        refine st_move hf rfl rfl (by decide) ?_
        clear hf; intro a ha hf; clear ha
        refine st_nil hf ?_
        obtain rfl := Option.some.inj h
        have hp : Hp _ _ _ (Res.sl Ek.bool 4 v80 (message4.set (t125).toNat ((IntKind.i32.wrap (q94.2 + (gt (gt q76 (IntKind.i64.wrap (t125 + (1 : Int)))) q94.1))) != (gt (gt q76 t125) at16))) :: Res.obj 40 v1 [.int .i64 c0_Length, .int .u32 c0_One, .int .u32 c0_Two] :: Res.sl (Ek.arr 64 (Ek.int .i32)) 65 v21 q76 :: ow) := Hp.sel (pre := [Res.obj 40 v1 [.int .i64 c0_Length, .int .u32 c0_One, .int .u32 c0_Two], Res.sl (Ek.arr 64 (Ek.int .i32)) 65 v21 q76, Res.sl Ek.bool 4 v80 (message4.set (t125).toNat ((IntKind.i32.wrap (q94.2 + (gt (gt q76 (IntKind.i64.wrap (t125 + (1 : Int)))) q94.1))) != (gt (gt q76 t125) at16)))]) (tail := ow) (rs' := [Res.sl Ek.bool 4 v80 (message4.set (t125).toNat ((IntKind.i32.wrap (q94.2 + (gt (gt q76 (IntKind.i64.wrap (t125 + (1 : Int)))) q94.1))) != (gt (gt q76 t125) at16))), Res.obj 40 v1 [.int .i64 c0_Length, .int .u32 c0_One, .int .u32 c0_Two], Res.sl (Ek.arr 64 (Ek.int .i32)) 65 v21 q76]) hp [2, 0, 1] (by decide) (by simp) rfl
        exact rnd_l ⟨_, hf.sub ⟨rfl, rfl, rfl, rfl, rfl, rfl, rfl, trivial⟩, hp⟩
      replace h := ifF h hb
      refine wp_skip ?_
      refine th_n ?_
      refine wp_reg ?_
      refine st_move hf rfl rfl (by decide) ?_
      clear hf; intro a ha hf; clear ha
      refine st_assign hf rfl rfl (by decide) ?_
      clear hf; intro a ha hf; clear ha
      refine st_nil hf ?_
      refine ib_n ?_
      refine th_n ?_
      refine wp_reg ?_
      refine st_iadd hf (by decide) rfl rfl rfl ?_
      clear hf; intro a ha hf; clear ha
      refine st_move hf rfl rfl (by decide) ?_
      clear hf; intro a ha hf; clear ha
      refine st_nil hf ?_
      obtain rfl := Option.some.inj h
      have hp : Hp _ _ _ (Res.sl Ek.bool 4 v80 (message4.set (t125).toNat ((IntKind.i32.wrap (q94.2 + (gt (gt q76 (IntKind.i64.wrap (t125 + (1 : Int)))) q94.1))) != (gt (gt q76 t125) at16))) :: Res.obj 40 v1 [.int .i64 c0_Length, .int .u32 c0_One, .int .u32 c0_Two] :: Res.sl (Ek.arr 64 (Ek.int .i32)) 65 v21 q76 :: ow) := Hp.sel (pre := [Res.sl (Ek.arr 64 (Ek.int .i32)) 65 v21 q76, Res.sl Ek.bool 4 v80 (message4.set (t125).toNat ((IntKind.i32.wrap (q94.2 + (gt (gt q76 (IntKind.i64.wrap (t125 + (1 : Int)))) q94.1))) != (gt (gt q76 t125) at16))), Res.obj 40 v1 [.int .i64 c0_Length, .int .u32 c0_One, .int .u32 c0_Two]]) (tail := ow) (rs' := [Res.sl Ek.bool 4 v80 (message4.set (t125).toNat ((IntKind.i32.wrap (q94.2 + (gt (gt q76 (IntKind.i64.wrap (t125 + (1 : Int)))) q94.1))) != (gt (gt q76 t125) at16))), Res.obj 40 v1 [.int .i64 c0_Length, .int .u32 c0_One, .int .u32 c0_Two], Res.sl (Ek.arr 64 (Ek.int .i32)) 65 v21 q76]) hp [1, 2, 0] (by decide) (by simp) rfl
      exact rnd_l ⟨_, hf.sub ⟨rfl, rfl, rfl, rfl, rfl, rfl, rfl, trivial⟩, hp⟩
    replace h := ifF h hb
    refine wp_exit ?_
    refine th_e ?_
    obtain rfl := Option.some.inj h
    have hp : Hp _ _ _ (Res.sl Ek.bool 4 v80 message4 :: Res.sl (Ek.arr 64 (Ek.int .i32)) 65 v21 q76 :: ow) := Hp.sel (pre := [Res.sl Ek.bool 4 v80 message4, Res.obj 40 v1 [.int .i64 c0_Length, .int .u32 c0_One, .int .u32 c0_Two], Res.sl (Ek.arr 64 (Ek.int .i32)) 65 v21 q76]) (tail := ow) (rs' := [Res.sl Ek.bool 4 v80 message4, Res.sl (Ek.arr 64 (Ek.int .i32)) 65 v21 q76]) hp [0, 2] (by decide) (by simp) rfl
    exact rnd_r (by simp) ⟨rfl, _, hf.sub ⟨rfl, rfl, trivial⟩, hp⟩
  clear hl hf hp
  intro e a w hne hO
  obtain ⟨rfl, v82, hf, hp⟩ := hO
  refine ib_same ?_
  refine th_n ?_
  refine wp_seq ?_
  obtain ⟨S128, hp129, rd130, up131, bk132⟩ := Hp.lendS hp (i := 1) rfl
  have rl133 := rd130
  obtain ⟨hc134, h⟩ := chk h
  have hc135 : 0 ≤ (0 : Int) ∧ (0 : Int) < (64 : Int) := by decide
  refine wp_cutN (fun a w => Fr 179 a [(4, v82), (5, .int .i64 (IntKind.i64.wrap (gt (gt q76 (0 : Int)) (0 : Int)))), (6, .int .i64 (0 : Int))] ∧ Hp S w0 w (Res.sl (Ek.arr 64 (Ek.int .i32)) 65 v21 q76 :: Res.sl Ek.bool 4 v82 q127 :: ow)) ?_ ?_
  · have hp := hp129.same (Same.drew w)
    refine dr_begin' (fun a w => Fr 179 a [(4, v82), (5, .int .i64 (IntKind.i64.wrap (gt (gt q76 (0 : Int)) (0 : Int)))), (6, .int .i64 (0 : Int))] ∧ Hp S w0 w (Res.sl (Ek.arr 64 (Ek.int .i32)) 65 v21 q76 :: Res.sl Ek.bool 4 v82 q127 :: ow)) (fun w' => ∃ l, Hp S128 w w' l) [] (by kernel_rfl) ?_
    refine dr_take 0 (v82) rfl (by kernel_rfl) (by kernel_rfl) (by kernel_rfl) (by kernel_rfl) rfl rfl hf (by decide) rfl (fun w hp => ?_) ⟨_, hp⟩ ?_
    · obtain ⟨_, hp⟩ := hp
      refine st_move hf rfl rfl (by decide) ?_
      clear hf; intro a ha hf
      exact st_nil hf (th_n ⟨ha, rfl⟩)
    clear hf; intro a hf
    refine dr_take 1 (v21) rfl (by kernel_rfl) (by kernel_rfl) (by kernel_rfl) (by kernel_rfl) rfl rfl hf (by decide) rfl (fun w hp => ?_) ⟨_, hp⟩ ?_
    · obtain ⟨_, hp⟩ := hp
      refine st_move hf rfl rfl (by decide) ?_
      clear hf; intro a ha hf
      exact st_nil hf (th_n ⟨ha, rfl⟩)
    clear hf; intro a hf
    refine dr_take 2 (eptr v21 (0 : Int) 64) rfl (by kernel_rfl) (by kernel_rfl) (by kernel_rfl) (by kernel_rfl) rfl rfl hf (by decide) rfl (fun w hp => ?_) ⟨_, hp⟩ ?_
    · obtain ⟨_, hp⟩ := hp
      refine st_index (E := (Ek.arr 64 (Ek.int .i32))) hf (by decide) Try.underlying64 elt65 rfl rfl rfl (rl133.sl hp) hc134.1 hc134.2 ?_
      clear hf; intro a ha hf
      exact st_nil hf (th_n ⟨ha, rfl⟩)
    clear hf; intro a hf
    refine dr_take 3 (optr (eptr v21 (0 : Int) 64) (((0 : Int)).toNat * 1)) rfl (by kernel_rfl) (by kernel_rfl) (by kernel_rfl) (by kernel_rfl) rfl rfl hf (by decide) rfl (fun w hp => ?_) ⟨_, hp⟩ ?_
    · obtain ⟨_, hp⟩ := hp
      refine st_iaP (sz := 1) hf (by decide) Try.underlying65 (by kernel_rfl) rfl rfl rfl (Sl.isP (rl133.sl hp) hc134.1 hc134.2) hc135.1 hc135.2 ?_
      clear hf; intro a ha hf
      exact st_nil hf (th_n ⟨ha, rfl⟩)
    clear hf; intro a hf
    refine dr_take 4 (.int .i32 (gt (gt q76 (0 : Int)) (0 : Int))) rfl (by kernel_rfl) (by kernel_rfl) (by kernel_rfl) (by kernel_rfl) rfl rfl hf (by decide) rfl (fun w hp => ?_) ⟨_, hp⟩ ?_
    · obtain ⟨_, hp⟩ := hp
      refine st_ldQ (F := (Ek.int .i32)) (yv := (gt (gt q76 (0 : Int)) (0 : Int))) hf (by decide) pl21 (fun x => .int .i32 x) (fun _ _ h => h) rfl rfl (Sl.part (E := (Ek.arr 64 (Ek.int .i32))) (F := (Ek.int .i32)) (o := ((0 : Int)).toNat * 1) (Sub.arr (F := (Ek.int .i32)) (N := 64) (j := (0 : Int)) hc135.1 hc135.2) (rl133.sl hp) hc134.1 hc134.2) ?_
      clear hf; intro a ha hf
      exact st_nil hf (th_n ⟨ha, rfl⟩)
    clear hf; intro a hf
    refine dr_take 5 (.int .i64 (IntKind.i64.wrap (gt (gt q76 (0 : Int)) (0 : Int)))) rfl (by kernel_rfl) (by kernel_rfl) (by kernel_rfl) (by kernel_rfl) rfl rfl hf (by decide) rfl (fun w hp => ?_) ⟨_, hp⟩ ?_
    · obtain ⟨_, hp⟩ := hp
      refine st_conv_ii hf (by decide) (by rw [Try.underlying21]; rfl) Try.underlying3 rfl rfl ?_
      clear hf; intro a ha hf
      exact st_nil hf (th_n ⟨ha, rfl⟩)
    clear hf; intro a hf
    refine dr_take 6 (v82) rfl (by kernel_rfl) (by kernel_rfl) (by kernel_rfl) (by kernel_rfl) rfl rfl hf (by decide) rfl (fun w hp => ?_) ⟨_, hp⟩ ?_
    · obtain ⟨_, hp⟩ := hp
      refine st_assign hf rfl rfl (by decide) ?_
      clear hf; intro a ha hf
      exact st_nil hf (th_n ⟨ha, rfl⟩)
    clear hf; intro a hf
    refine dr_take 7 (.int .i64 (IntKind.i64.wrap (gt (gt q76 (0 : Int)) (0 : Int)))) rfl (by kernel_rfl) (by kernel_rfl) (by kernel_rfl) (by kernel_rfl) rfl rfl hf (by decide) rfl (fun w hp => ?_) ⟨_, hp⟩ ?_
    · obtain ⟨_, hp⟩ := hp
      refine st_assign hf rfl rfl (by decide) ?_
      clear hf; intro a ha hf
      exact st_nil hf (th_n ⟨ha, rfl⟩)
    clear hf; intro a hf
    refine dr_take 8 (.int .i64 (0 : Int)) rfl (by kernel_rfl) (by kernel_rfl) (by kernel_rfl) (by kernel_rfl) rfl rfl hf (by decide) rfl (fun w hp => ?_) ⟨_, hp⟩ ?_
    · obtain ⟨_, hp⟩ := hp
      refine st_assign hf rfl rfl (by decide) ?_
      clear hf; intro a ha hf
      exact st_nil hf (th_n ⟨ha, rfl⟩)
    clear hf; intro a hf
    refine dr_end (by kernel_rfl) ?_ _
    have hp := bk132 _ _ hp
    exact ⟨hf.sub ⟨rfl, rfl, rfl, trivial⟩, hp⟩
  rintro a w ⟨hf, hp⟩
  refine th_n ?_
  refine wp_ret ?_
  obtain rfl := Option.some.inj h
  have hp : Hp _ _ _ (Res.sl Ek.bool 4 v82 q127 :: ow) := Hp.sel (pre := [Res.sl (Ek.arr 64 (Ek.int .i32)) 65 v21 q76, Res.sl Ek.bool 4 v82 q127]) (tail := ow) (rs' := [Res.sl Ek.bool 4 v82 q127]) hp [1] (by decide) (by simp) rfl
  exact ⟨rfl, ⟨_, hf.sub ⟨rfl, rfl, rfl, trivial⟩, hp⟩⟩

noncomputable def f_hard_Cost.j1 (c0_Length : Int) (c0_One : Int) (c0_Two : Int) (marks2 : (List Int)) (at8 : Int) (sum9 : Int) (t33 : Int) (bit11 : Int) : Option ((Int × Int × Int) ⊕ Int) := (if 0 ≤ (IntKind.i64.wrap ((2 : Int) * t33)) ∧ (IntKind.i64.wrap ((2 : Int) * t33)) ≤ (marks2.length : Int) then ((f_hard_step c0_Length c0_One c0_Two at8 bit11 ((marks2.drop (((IntKind.i64.wrap ((2 : Int) * t33))).toNat)).take (marks2.length - ((IntKind.i64.wrap ((2 : Int) * t33))).toNat))).bind fun q18 => (some (Sum.inl (q18.1, (IntKind.i32.wrap (sum9 + q18.2)), (IntKind.i64.wrap (t33 + (1 : Int))))))) else none)
noncomputable def f_hard_Cost.s1c (c0_Length : Int) (c0_One : Int) (c0_Two : Int) (message1 : (List Bool)) (marks2 : (List Int)) (at8 : Int) (sum9 : Int) (t33 : Int) : Option ((Int × Int × Int) ⊕ Int) := (if (decide (t33 < (IntKind.i64.wrap (((marks2.length : Int)).tdiv (2 : Int))))) = true then ((if (decide (t33 < (message1.length : Int))) = true then (if 0 ≤ t33 ∧ t33 < (message1.length : Int) then (some (gt message1 t33)) else none) else (some false)).bind fun z22 => (if z22 = true then (f_hard_Cost.j1 c0_Length c0_One c0_Two marks2 at8 sum9 t33 (1 : Int)) else (f_hard_Cost.j1 c0_Length c0_One c0_Two marks2 at8 sum9 t33 (0 : Int)))) else (some (Sum.inr sum9)))
noncomputable def f_hard_Cost.s1 (c0_Length : Int) (c0_One : Int) (c0_Two : Int) (message1 : (List Bool)) (marks2 : (List Int)) (s : (Int × Int × Int)) : Option ((Int × Int × Int) ⊕ Int) := f_hard_Cost.s1c c0_Length c0_One c0_Two message1 marks2 s.1 s.2.1 s.2.2
noncomputable def f_hard_Cost (c0_Length : Int) (c0_One : Int) (c0_Two : Int) (message1 : (List Bool)) (marks2 : (List Int)) : Option (Int × Int) := ((f_hard_fits c0_Length c0_One c0_Two marks2).bind fun q3 => (if ((!q3) || ((message1.length : Int) != (IntKind.i64.wrap ((IntKind.i64.wrap (((marks2.length : Int)).tdiv (2 : Int))) - (IntKind.i64.wrap (c0_Length - (1 : Int))))))) = true then (some ((0 : Int), (1 : Int))) else ((loop (f_hard_Cost.s1 c0_Length c0_One c0_Two message1 marks2) ((0 : Int), (0 : Int), (0 : Int))).bind (fun q24 => (some ((IntKind.i64.wrap q24), (0 : Int)))))))
theorem f_hard_Cost_c {S : Nat → Prop} {w0 w : World} {ow : List Res} (hp : Hp S w0 w ow) (c0_Length : Int) (c0_One : Int) (c0_Two : Int) (vmessage1 : Value) (message1 : (List Bool)) (hmessage1 : RdS Ek.bool S w0 vmessage1 message1) (vmarks2 : Value) (marks2 : (List Int)) (hmarks2 : RdS (Ek.int .u8) S w0 vmarks2 marks2) {r : (Int × Int)} (h : f_hard_Cost c0_Length c0_One c0_Two message1 marks2 = some r) :
    Calls Try.prog 21 #[.agg #[.int .i64 c0_Length, .int .u32 c0_One, .int .u32 c0_Two], vmessage1, vmarks2] w (fun e w' => e = .returned (.tuple #[.int .i64 r.1, .int .i64 r.2]) ∧ Hp S w0 w' (ow)) := by
  unfold f_hard_Cost at h
  refine enter (n := 64) (args := [.agg #[.int .i64 c0_Length, .int .u32 c0_One, .int .u32 c0_Two], vmessage1, vmarks2]) Try.func21 rfl rfl (Nat.le_of_ble_eq_true rfl) fun a hf => ?_
  replace hf : Fr 64 a [(0, .agg #[.int .i64 c0_Length, .int .u32 c0_One, .int .u32 c0_Two]), (1, vmessage1), (2, vmarks2)] := hf
  refine wp_mono (Q := fun e a w => e = .ret ∧ Fr 64 a [(6, .int .i64 r.1), (7, .int .i64 r.2)] ∧ Hp S w0 w (ow)) ?_ ?_
  rotate_left
  · rintro e a w ⟨rfl, hf, hp⟩
    exact ret2 hf rfl rfl rfl ⟨rfl, hp⟩
  refine wp_seq ?_
  refine wp_reg ?_
  refine st_boxO (cs := [.int .i64 c0_Length, .int .u32 c0_One, .int .u32 c0_Two]) hf (by decide) hp rfl rfl rfl ?_
  clear hf; intro a w v1 hf hp0; clear hp; have hp := hp0; clear hp0
  replace hp : Hp _ _ _ (Res.obj 40 v1 [.int .i64 c0_Length, .int .u32 c0_One, .int .u32 c0_Two] :: ow) := hp
  refine st_assign hf rfl rfl (by decide) ?_
  clear hf; intro a ha hf; clear ha
  refine st_assign hf rfl rfl (by decide) ?_
  clear hf; intro a ha hf; clear ha
  refine st_nil hf ?_
  refine th_n ?_
  refine wp_seq ?_
  refine wp_seq ?_
  refine wp_reg ?_
  refine st_ldOA (m := 3) (us := [.int .i64 c0_Length, .int .u32 c0_One, .int .u32 c0_Two]) hf (by decide) (by kernel_rfl) rfl rfl (hp.ob (i := 0) rfl) rfl rfl ?_
  clear hf; intro a ha hf; clear ha
  refine st_move hf rfl rfl (by decide) ?_
  clear hf; intro a ha hf; clear ha
  obtain ⟨q3, hcall4, h⟩ := bnd h
  refine st_call hf (by decide) Try.func31 rfl rfl rfl rfl rfl (f_hard_fits_c hp _ _ _ _ _ hmarks2 hcall4) ?_
  rintro _ w ⟨rfl, hp0⟩
  clear hp; have hp := hp0; clear hp0
  replace hp : Hp _ _ _ (Res.obj 40 v1 [.int .i64 c0_Length, .int .u32 c0_One, .int .u32 c0_Two] :: ow) := hp
  refine ⟨_, rfl, ?_⟩
  clear hf; intro a hf
  refine st_not hf (by decide) rfl rfl ?_
  clear hf; intro a ha hf; clear ha
  refine st_move hf rfl rfl (by decide) ?_
  clear hf; intro a ha hf; clear ha
  refine wpList_cut 11 (fun a w => Fr 64 a [(1, vmessage1), (2, vmarks2), (3, optr v1 0), (29, .bool ((!q3) || ((message1.length : Int) != (IntKind.i64.wrap ((IntKind.i64.wrap (((marks2.length : Int)).tdiv (2 : Int))) - (IntKind.i64.wrap (c0_Length - (1 : Int))))))))] ∧ Hp S w0 w (Res.obj 40 v1 [.int .i64 c0_Length, .int .u32 c0_One, .int .u32 c0_Two] :: ow)) ?_ ?_
  · rcases Bool.eq_false_or_eq_true (!q3) with hb6 | hb6
    · skip
      refine st_skip hf (wantN hf rfl rfl hb6) rfl (by decide) ?_ rfl
      clear hf; intro a hf
      refine st_skip hf (wantN hf rfl rfl hb6) rfl (by decide) ?_ rfl
      clear hf; intro a hf
      refine st_skip hf (wantN hf rfl rfl hb6) rfl (by decide) ?_ rfl
      clear hf; intro a hf
      refine st_skip hf (wantN hf rfl rfl hb6) rfl (by decide) ?_ rfl
      clear hf; intro a hf
      refine st_skip hf (wantN hf rfl rfl hb6) rfl (by decide) ?_ rfl
      clear hf; intro a hf
      refine st_skip hf (wantN hf rfl rfl hb6) rfl (by decide) ?_ rfl
      clear hf; intro a hf
      refine st_skip hf (wantN hf rfl rfl hb6) rfl (by decide) ?_ rfl
      clear hf; intro a hf
      refine st_skip hf (wantN hf rfl rfl hb6) rfl (by decide) ?_ rfl
      clear hf; intro a hf
      refine st_skip hf (wantN hf rfl rfl hb6) rfl (by decide) ?_ rfl
      clear hf; intro a hf
      refine st_skip hf (wantN hf rfl rfl hb6) rfl (by decide) ?_ rfl
      clear hf; intro a hf
      refine st_pick (v := .bool true) hf rfl rfl (fun hb' => ?_) (fun hb' => ?_) (by decide) ?_
      · rfl
      · exact absurd (hb6.symm.trans hb') (by decide)
      clear hf; intro a ha hf; clear ha
      refine st_nil hf (th_n ?_)
      exact ⟨hf.sub ⟨rfl, rfl, rfl, (by rw [hb6]; rfl), trivial⟩, hp⟩
    refine st_move hf (wantY hf rfl rfl hb6) rfl (by decide) ?_
    clear hf; intro a ha hf; clear ha
    refine st_len (E := Ek.bool) hf (by decide) Try.underlying22 (wantY hf rfl rfl hb6) rfl (hmessage1.sl hp) ?_
    clear hf; intro a ha hf; clear ha
    refine st_move hf (wantY hf rfl rfl hb6) rfl (by decide) ?_
    clear hf; intro a ha hf; clear ha
    refine st_len (E := (Ek.int .u8)) hf (by decide) Try.underlying26 (wantY hf rfl rfl hb6) rfl (hmarks2.sl hp) ?_
    clear hf; intro a ha hf; clear ha
    refine st_iquo hf (by decide) (wantY hf rfl rfl hb6) rfl rfl (by decide) ?_
    clear hf; intro a ha hf; clear ha
    refine st_fa (o' := 0) hf (by decide) (off := 0) (sz := 1) (by kernel_rfl) (by decide) (wantY hf rfl rfl hb6) rfl (hp.ob (i := 0) rfl) rfl ?_
    clear hf; intro a ha hf; clear ha
    refine st_ldO (u := .int .i64 c0_Length) hf (by decide) pl3 (wantY hf rfl rfl hb6) rfl (hp.ob (i := 0) rfl) rfl ?_
    clear hf; intro a ha hf; clear ha
    refine st_isub hf (by decide) (wantY hf rfl rfl hb6) rfl rfl ?_
    clear hf; intro a ha hf; clear ha
    refine st_isub hf (by decide) (wantY hf rfl rfl hb6) rfl rfl ?_
    clear hf; intro a ha hf; clear ha
    refine st_ineq hf (by decide) (wantY hf rfl rfl hb6) rfl rfl ?_
    clear hf; intro a ha hf; clear ha
    refine st_pick (v := .bool ((message1.length : Int) != (IntKind.i64.wrap ((IntKind.i64.wrap (((marks2.length : Int)).tdiv (2 : Int))) - (IntKind.i64.wrap (c0_Length - (1 : Int))))))) hf rfl rfl (fun hb' => ?_) (fun hb' => ?_) (by decide) ?_
    · exact absurd (hb6.symm.trans hb') (by decide)
    · rfl
    clear hf; intro a ha hf; clear ha
    refine st_nil hf (th_n ?_)
    exact ⟨hf.sub ⟨rfl, rfl, rfl, (by rw [hb6]; rfl), trivial⟩, hp⟩
  rintro a w ⟨hf, hp⟩
  refine st_nil hf ?_
  refine th_n ?_
  refine wp_if hf rfl (fun hb => ?_) (fun hb => ?_)
  · replace h := ifT h hb
    refine wp_seq ?_
    refine wp_reg ?_
    refine st_assign hf rfl rfl (by decide) ?_
    clear hf; intro a ha hf; clear ha
    refine st_assign hf rfl rfl (by decide) ?_
    clear hf; intro a ha hf; clear ha
    refine st_nil hf ?_
    refine th_n ?_
    refine wp_ret ?_
    refine th_r ?_
    obtain rfl := Option.some.inj h
    have hp : Hp _ _ _ (ow) := Hp.sel (pre := [Res.obj 40 v1 [.int .i64 c0_Length, .int .u32 c0_One, .int .u32 c0_Two]]) (tail := ow) (rs' := []) hp [] (by decide) (by simp) rfl
    exact ⟨rfl, ⟨hf.sub ⟨rfl, rfl, trivial⟩, hp⟩⟩
  replace h := ifF h hb
  refine wp_skip ?_
  refine th_n ?_
  refine wp_seq ?_
  refine wp_reg ?_
  refine st_assign hf rfl rfl (by decide) ?_
  clear hf; intro a ha hf; clear ha
  refine st_assign hf rfl rfl (by decide) ?_
  clear hf; intro a ha hf; clear ha
  refine st_nil hf ?_
  refine th_n ?_
  refine wp_seq ?_
  refine wp_seq ?_
  refine wp_reg ?_
  refine st_move hf rfl rfl (by decide) ?_
  clear hf; intro a ha hf; clear ha
  refine st_len (E := (Ek.int .u8)) hf (by decide) Try.underlying26 rfl rfl (hmarks2.sl hp) ?_
  clear hf; intro a ha hf; clear ha
  refine st_iquo hf (by decide) rfl rfl rfl (by decide) ?_
  clear hf; intro a ha hf; clear ha
  refine st_move hf rfl rfl (by decide) ?_
  clear hf; intro a ha hf; clear ha
  refine st_nil hf ?_
  refine th_n ?_
  refine wp_block ?_
  obtain ⟨q24, hl, h⟩ := bnd h
  refine wp_loop_pure (f := (f_hard_Cost.s1 c0_Length c0_One c0_Two message1 marks2)) (s := ((0 : Int), (0 : Int), (0 : Int))) (fun s a w => Fr 64 a [(1, vmessage1), (2, vmarks2), (3, optr v1 0), (8, .int .u32 s.1), (9, .int .i32 s.2.1), (32, .int .i64 (IntKind.i64.wrap (((marks2.length : Int)).tdiv (2 : Int)))), (33, .int .i64 s.2.2)] ∧ Hp S w0 w (Res.obj 40 v1 [.int .i64 c0_Length, .int .u32 c0_One, .int .u32 c0_Two] :: ow)) (fun q e a w => e = .exit 0 ∧ Fr 64 a [(9, .int .i32 q)] ∧ Hp S w0 w (ow)) ?_ hl ⟨hf.sub ⟨rfl, rfl, rfl, rfl, rfl, rfl, rfl, trivial⟩, hp⟩ ?_
  · clear hl hf hp
    intro s x a w h hI
    obtain ⟨at8, sum9, t33⟩ := s
    obtain ⟨hf, hp⟩ : Fr 64 a [(1, vmessage1), (2, vmarks2), (3, optr v1 0), (8, .int .u32 at8), (9, .int .i32 sum9), (32, .int .i64 (IntKind.i64.wrap (((marks2.length : Int)).tdiv (2 : Int)))), (33, .int .i64 t33)] ∧ Hp S w0 w (Res.obj 40 v1 [.int .i64 c0_Length, .int .u32 c0_One, .int .u32 c0_Two] :: ow) := hI
    replace h : f_hard_Cost.s1c c0_Length c0_One c0_Two message1 marks2 at8 sum9 t33 = some x := h
    unfold f_hard_Cost.s1c at h
    refine wp_seq ?_
    refine wp_reg ?_
    refine st_ilss hf (by decide) rfl rfl rfl ?_
    clear hf; intro a ha hf; clear ha
    refine st_nil hf ?_
    refine th_n ?_
    refine wp_seq ?_
    refine wp_if hf rfl (fun hb => ?_) (fun hb => ?_)
    · replace h := ifT h hb
      refine wp_skip ?_
      refine th_n ?_
      refine wp_seq ?_
      refine wp_block ?_
      refine wp_seq ?_
      refine wp_reg ?_
      refine st_move hf rfl rfl (by decide) ?_
      clear hf; intro a ha hf; clear ha
      refine st_assign hf rfl rfl (by decide) ?_
      clear hf; intro a ha hf; clear ha
      refine st_nil hf ?_
      refine th_n ?_
      refine wp_seq ?_
      refine wp_reg ?_
      refine st_assign hf rfl rfl (by decide) ?_
      clear hf; intro a ha hf; clear ha
      refine st_nil hf ?_
      refine th_n ?_
      refine wp_seq_cut (fun a w => ∃ (bit11 : Int), f_hard_Cost.j1 c0_Length c0_One c0_Two marks2 at8 sum9 t33 bit11 = some x ∧ Fr 64 a [(1, vmessage1), (2, vmarks2), (3, optr v1 0), (8, .int .u32 at8), (9, .int .i32 sum9), (10, .int .i64 t33), (11, .int .u32 bit11), (32, .int .i64 (IntKind.i64.wrap (((marks2.length : Int)).tdiv (2 : Int)))), (33, .int .i64 t33)] ∧ Hp S w0 w (Res.obj 40 v1 [.int .i64 c0_Length, .int .u32 c0_One, .int .u32 c0_Two] :: ow)) ?_ ?_
      · skip
        refine wp_seq ?_
        refine wp_reg ?_
        refine st_move hf rfl rfl (by decide) ?_
        clear hf; intro a ha hf; clear ha
        refine st_move hf rfl rfl (by decide) ?_
        clear hf; intro a ha hf; clear ha
        refine st_len (E := Ek.bool) hf (by decide) Try.underlying22 rfl rfl (hmessage1.sl hp) ?_
        clear hf; intro a ha hf; clear ha
        refine st_ilss hf (by decide) rfl rfl rfl ?_
        clear hf; intro a ha hf; clear ha
        refine st_move hf rfl rfl (by decide) ?_
        clear hf; intro a ha hf; clear ha
        obtain ⟨z22, hz20, h⟩ := bnd h
        refine wpList_cut 5 (fun a w => Fr 64 a [(1, vmessage1), (2, vmarks2), (3, optr v1 0), (8, .int .u32 at8), (9, .int .i32 sum9), (10, .int .i64 t33), (11, .int .u32 (0 : Int)), (32, .int .i64 (IntKind.i64.wrap (((marks2.length : Int)).tdiv (2 : Int)))), (33, .int .i64 t33), (45, .bool z22)] ∧ Hp S w0 w (Res.obj 40 v1 [.int .i64 c0_Length, .int .u32 c0_One, .int .u32 c0_Two] :: ow)) ?_ ?_
        · rcases Bool.eq_false_or_eq_true (decide (t33 < (message1.length : Int))) with hb21 | hb21
          · skip
            replace hz20 := ifT hz20 hb21
            refine st_move hf (wantY hf rfl rfl hb21) rfl (by decide) ?_
            clear hf; intro a ha hf; clear ha
            refine st_move hf (wantY hf rfl rfl hb21) rfl (by decide) ?_
            clear hf; intro a ha hf; clear ha
            obtain ⟨hc23, hz20⟩ := chk hz20
            refine st_index (E := Ek.bool) hf (by decide) Try.underlying22 elt4 (wantY hf rfl rfl hb21) rfl rfl (hmessage1.sl hp) hc23.1 hc23.2 ?_
            clear hf; intro a ha hf; clear ha
            refine st_ldB hf (by decide) pl4 (wantY hf rfl rfl hb21) rfl (hmessage1.sl hp) hc23.1 hc23.2 ?_
            clear hf; intro a ha hf; clear ha
            obtain rfl := Option.some.inj hz20
            refine st_pick (v := .bool (gt message1 t33)) hf rfl rfl (fun hb' => ?_) (fun hb' => ?_) (by decide) ?_
            · rfl
            · exact absurd (hb21.symm.trans hb') (by decide)
            clear hf; intro a ha hf; clear ha
            refine st_nil hf (th_n ?_)
            exact ⟨hf.sub ⟨rfl, rfl, rfl, rfl, rfl, rfl, rfl, rfl, rfl, rfl, trivial⟩, hp⟩
          replace hz20 := ifF hz20 hb21
          refine st_skip hf (wantN hf rfl rfl hb21) rfl (by decide) ?_ rfl
          clear hf; intro a hf
          refine st_skip hf (wantN hf rfl rfl hb21) rfl (by decide) ?_ rfl
          clear hf; intro a hf
          refine st_skip hf (wantN hf rfl rfl hb21) rfl (by decide) ?_ rfl
          clear hf; intro a hf
          refine st_skip hf (wantN hf rfl rfl hb21) rfl (by decide) ?_ rfl
          clear hf; intro a hf
          obtain rfl := Option.some.inj hz20
          refine st_pick (v := .bool false) hf rfl rfl (fun hb' => ?_) (fun hb' => ?_) (by decide) ?_
          · exact absurd (hb21.symm.trans hb') (by decide)
          · rfl
          clear hf; intro a ha hf; clear ha
          refine st_nil hf (th_n ?_)
          exact ⟨hf.sub ⟨rfl, rfl, rfl, rfl, rfl, rfl, rfl, rfl, rfl, rfl, trivial⟩, hp⟩
        rintro a w ⟨hf, hp⟩
        refine st_nil hf ?_
        refine th_n ?_
        refine wp_if hf rfl (fun hb => ?_) (fun hb => ?_)
        · replace h := ifT h hb
          refine wp_reg ?_
          refine st_assign hf rfl rfl (by decide) ?_
          clear hf; intro a ha hf; clear ha
          refine st_nil hf ?_
          refine th_n ?_
          exact ⟨_, h, hf.sub ⟨rfl, rfl, rfl, rfl, rfl, rfl, rfl, rfl, rfl, trivial⟩, hp⟩
        replace h := ifF h hb
        refine wp_skip ?_
        refine th_n ?_
        exact ⟨_, h, hf.sub ⟨rfl, rfl, rfl, rfl, rfl, rfl, rfl, rfl, rfl, trivial⟩, hp⟩
      rintro a w ⟨bit11, h, hf, hp⟩
      unfold f_hard_Cost.j1 at h
      refine wp_seq ?_
      obtain ⟨S7, hp8, rd9, up10, bk11⟩ := Hp.lendO hp (i := 0) rfl
      have rl12 := ((hmessage1.now hp).mono up10)
      have rl13 := ((hmarks2.now hp).mono up10)
      have rl14 := rd9
      obtain ⟨hc15, h⟩ := chk h
      have hc16 : ((IntKind.i64.wrap ((2 : Int) * t33))).toNat ≤ marks2.length := by omega
      have hc17 : marks2.length ≤ marks2.length := by omega
      obtain ⟨q18, hcall19, h⟩ := bnd h
      refine wp_cutN (fun a w => Fr 64 a [(1, vmessage1), (2, vmarks2), (3, optr v1 0), (9, .int .i32 sum9), (12, .int .u32 q18.1), (13, .int .i32 q18.2), (32, .int .i64 (IntKind.i64.wrap (((marks2.length : Int)).tdiv (2 : Int)))), (33, .int .i64 t33)] ∧ Hp S w0 w (Res.obj 40 v1 [.int .i64 c0_Length, .int .u32 c0_One, .int .u32 c0_Two] :: ow)) ?_ ?_
      · have hp := hp8.same (Same.drew w)
        refine dr_begin' (fun a w => Fr 64 a [(1, vmessage1), (2, vmarks2), (3, optr v1 0), (9, .int .i32 sum9), (12, .int .u32 q18.1), (13, .int .i32 q18.2), (32, .int .i64 (IntKind.i64.wrap (((marks2.length : Int)).tdiv (2 : Int)))), (33, .int .i64 t33)] ∧ Hp S w0 w (Res.obj 40 v1 [.int .i64 c0_Length, .int .u32 c0_One, .int .u32 c0_Two] :: ow)) (fun w' => ∃ l, Hp S7 w w' l) [] (by kernel_rfl) ?_
        refine dr_take 0 (.agg #[.int .i64 c0_Length, .int .u32 c0_One, .int .u32 c0_Two]) rfl (by kernel_rfl) (by kernel_rfl) (by kernel_rfl) (by kernel_rfl) rfl rfl hf (by decide) rfl (fun w hp => ?_) ⟨_, hp⟩ ?_
        · obtain ⟨_, hp⟩ := hp
          refine st_ldOA (m := 3) (us := [.int .i64 c0_Length, .int .u32 c0_One, .int .u32 c0_Two]) hf (by decide) (by kernel_rfl) rfl rfl (rl14.ob hp) rfl rfl ?_
          clear hf; intro a ha hf
          exact st_nil hf (th_n ⟨ha, rfl⟩)
        clear hf; intro a hf
        refine dr_take 1 (.int .u32 at8) rfl (by kernel_rfl) (by kernel_rfl) (by kernel_rfl) (by kernel_rfl) rfl rfl hf (by decide) rfl (fun w hp => ?_) ⟨_, hp⟩ ?_
        · obtain ⟨_, hp⟩ := hp
          refine st_move hf rfl rfl (by decide) ?_
          clear hf; intro a ha hf
          exact st_nil hf (th_n ⟨ha, rfl⟩)
        clear hf; intro a hf
        refine dr_take 2 (.int .u32 bit11) rfl (by kernel_rfl) (by kernel_rfl) (by kernel_rfl) (by kernel_rfl) rfl rfl hf (by decide) rfl (fun w hp => ?_) ⟨_, hp⟩ ?_
        · obtain ⟨_, hp⟩ := hp
          refine st_move hf rfl rfl (by decide) ?_
          clear hf; intro a ha hf
          exact st_nil hf (th_n ⟨ha, rfl⟩)
        clear hf; intro a hf
        refine dr_take 3 (vmarks2) rfl (by kernel_rfl) (by kernel_rfl) (by kernel_rfl) (by kernel_rfl) rfl rfl hf (by decide) rfl (fun w hp => ?_) ⟨_, hp⟩ ?_
        · obtain ⟨_, hp⟩ := hp
          refine st_move hf rfl rfl (by decide) ?_
          clear hf; intro a ha hf
          exact st_nil hf (th_n ⟨ha, rfl⟩)
        clear hf; intro a hf
        refine dr_take 4 (.int .i64 t33) rfl (by kernel_rfl) (by kernel_rfl) (by kernel_rfl) (by kernel_rfl) rfl rfl hf (by decide) rfl (fun w hp => ?_) ⟨_, hp⟩ ?_
        · obtain ⟨_, hp⟩ := hp
          refine st_move hf rfl rfl (by decide) ?_
          clear hf; intro a ha hf
          exact st_nil hf (th_n ⟨ha, rfl⟩)
        clear hf; intro a hf
        refine dr_take 5 (.int .i64 (IntKind.i64.wrap ((2 : Int) * t33))) rfl (by kernel_rfl) (by kernel_rfl) (by kernel_rfl) (by kernel_rfl) rfl rfl hf (by decide) rfl (fun w hp => ?_) ⟨_, hp⟩ ?_
        · obtain ⟨_, hp⟩ := hp
          refine st_imul hf (by decide) rfl rfl rfl ?_
          clear hf; intro a ha hf
          exact st_nil hf (th_n ⟨ha, rfl⟩)
        clear hf; intro a hf
        refine dr_take 6 ((GL.cut vmarks2 ((IntKind.i64.wrap ((2 : Int) * t33))).toNat marks2.length 1)) rfl (by kernel_rfl) (by kernel_rfl) (by kernel_rfl) (by kernel_rfl) rfl rfl hf (by decide) rfl (fun w hp => ?_) ⟨_, hp⟩ ?_
        · obtain ⟨_, hp⟩ := hp
          refine st_cutS (E := (Ek.int .u8)) hf (by decide) Try.underlying26 elt51 rfl rfl (rl13.sl hp) (.inr ⟨_, _, rfl, evI rfl hc15.1⟩) (.inl ⟨rfl, rfl⟩) hc16 hc17 ?_
          clear hf; intro a ha hf
          exact st_nil hf (th_n ⟨ha, rfl⟩)
        clear hf; intro a hf
        refine dr_one 7 rfl (by kernel_rfl) ?_
        refine st_call hf (by decide) Try.func32 rfl rfl rfl rfl rfl (f_hard_step_c hp _ _ _ _ _ _ _ (RdS.cut rl13 hc16 hc17) hcall19) ?_
        rintro _ w ⟨rfl, hp0⟩
        clear hp; have hp := hp0; clear hp0
        replace hp : Hp _ _ _ (ow) := hp
        refine ⟨_, rfl, ?_⟩
        clear hf; intro a hf
        refine st_nil hf (th_n ⟨fun _ _ => ⟨_, hp⟩, ?_⟩)
        refine dr_take 8 (.tuple #[.int .u32 q18.1, .int .i32 q18.2]) rfl (by kernel_rfl) (by kernel_rfl) (by kernel_rfl) (by kernel_rfl) rfl rfl hf (by decide) rfl (fun w hp => ?_) ⟨_, hp⟩ ?_
        · obtain ⟨_, hp⟩ := hp
          refine st_move hf rfl rfl (by decide) ?_
          clear hf; intro a ha hf
          exact st_nil hf (th_n ⟨ha, rfl⟩)
        clear hf; intro a hf
        refine dr_take 9 (.int .u32 q18.1) rfl (by kernel_rfl) (by kernel_rfl) (by kernel_rfl) (by kernel_rfl) rfl rfl hf (by decide) rfl (fun w hp => ?_) ⟨_, hp⟩ ?_
        · obtain ⟨_, hp⟩ := hp
          refine st_extract hf (by decide) rfl rfl rfl ?_
          clear hf; intro a ha hf
          exact st_nil hf (th_n ⟨ha, rfl⟩)
        clear hf; intro a hf
        refine dr_take 10 (.int .i32 q18.2) rfl (by kernel_rfl) (by kernel_rfl) (by kernel_rfl) (by kernel_rfl) rfl rfl hf (by decide) rfl (fun w hp => ?_) ⟨_, hp⟩ ?_
        · obtain ⟨_, hp⟩ := hp
          refine st_extract hf (by decide) rfl rfl rfl ?_
          clear hf; intro a ha hf
          exact st_nil hf (th_n ⟨ha, rfl⟩)
        clear hf; intro a hf
        refine dr_take 11 (.int .u32 q18.1) rfl (by kernel_rfl) (by kernel_rfl) (by kernel_rfl) (by kernel_rfl) rfl rfl hf (by decide) rfl (fun w hp => ?_) ⟨_, hp⟩ ?_
        · obtain ⟨_, hp⟩ := hp
          refine st_assign hf rfl rfl (by decide) ?_
          clear hf; intro a ha hf
          exact st_nil hf (th_n ⟨ha, rfl⟩)
        clear hf; intro a hf
        refine dr_take 12 (.int .i32 q18.2) rfl (by kernel_rfl) (by kernel_rfl) (by kernel_rfl) (by kernel_rfl) rfl rfl hf (by decide) rfl (fun w hp => ?_) ⟨_, hp⟩ ?_
        · obtain ⟨_, hp⟩ := hp
          refine st_assign hf rfl rfl (by decide) ?_
          clear hf; intro a ha hf
          exact st_nil hf (th_n ⟨ha, rfl⟩)
        clear hf; intro a hf
        refine dr_end (by kernel_rfl) ?_ _
        have hp := bk11 _ _ hp
        exact ⟨hf.sub ⟨rfl, rfl, rfl, rfl, rfl, rfl, rfl, rfl, trivial⟩, hp⟩
      rintro a w ⟨hf, hp⟩
      refine th_n ?_
      refine wp_reg ?_
      refine st_move hf rfl rfl (by decide) ?_
      clear hf; intro a ha hf; clear ha
      refine st_move hf rfl rfl (by decide) ?_
      clear hf; intro a ha hf; clear ha
      refine st_move hf rfl rfl (by decide) ?_
      clear hf; intro a ha hf; clear ha
      refine st_iadd hf (by decide) rfl rfl rfl ?_
      clear hf; intro a ha hf; clear ha
      refine st_assign hf rfl rfl (by decide) ?_
      clear hf; intro a ha hf; clear ha
      refine st_assign hf rfl rfl (by decide) ?_
      clear hf; intro a ha hf; clear ha
      refine st_nil hf ?_
      refine ib_n ?_
      refine th_n ?_
      refine wp_reg ?_
      refine st_iadd hf (by decide) rfl rfl rfl ?_
      clear hf; intro a ha hf; clear ha
      refine st_move hf rfl rfl (by decide) ?_
      clear hf; intro a ha hf; clear ha
      refine st_nil hf ?_
      obtain rfl := Option.some.inj h
      exact rnd_l ⟨hf.sub ⟨rfl, rfl, rfl, rfl, rfl, rfl, rfl, trivial⟩, hp⟩
    replace h := ifF h hb
    refine wp_exit ?_
    refine th_e ?_
    obtain rfl := Option.some.inj h
    have hp : Hp _ _ _ (ow) := Hp.sel (pre := [Res.obj 40 v1 [.int .i64 c0_Length, .int .u32 c0_One, .int .u32 c0_Two]]) (tail := ow) (rs' := []) hp [] (by decide) (by simp) rfl
    exact rnd_r (by simp) ⟨rfl, hf.sub ⟨rfl, trivial⟩, hp⟩
  clear hl hf hp
  intro e a w hne hO
  obtain ⟨rfl, hf, hp⟩ := hO
  refine ib_same ?_
  refine th_n ?_
  refine wp_seq ?_
  refine wp_reg ?_
  refine st_move hf rfl rfl (by decide) ?_
  clear hf; intro a ha hf; clear ha
  refine st_conv_ii hf (by decide) (by rw [Try.underlying21]; rfl) Try.underlying3 rfl rfl ?_
  clear hf; intro a ha hf; clear ha
  refine st_assign hf rfl rfl (by decide) ?_
  clear hf; intro a ha hf; clear ha
  refine st_assign hf rfl rfl (by decide) ?_
  clear hf; intro a ha hf; clear ha
  refine st_nil hf ?_
  refine th_n ?_
  refine wp_ret ?_
  obtain rfl := Option.some.inj h
  exact ⟨rfl, ⟨hf.sub ⟨rfl, rfl, trivial⟩, hp⟩⟩

noncomputable def f_slices_Index_bool_bool.s1c (s0 : (List Bool)) (v1 : Bool) (t8 : Int) : Option (Int ⊕ (Unit ⊕ Int)) := (if (decide (t8 < (s0.length : Int))) = true then (if 0 ≤ t8 ∧ t8 < (s0.length : Int) then (if (v1 == (gt s0 t8)) = true then (some (Sum.inr (Sum.inr t8))) else (some (Sum.inl (IntKind.i64.wrap (t8 + (1 : Int)))))) else none) else (some (Sum.inr (Sum.inl ()))))
noncomputable def f_slices_Index_bool_bool.s1 (s0 : (List Bool)) (v1 : Bool) (s : Int) : Option (Int ⊕ (Unit ⊕ Int)) := f_slices_Index_bool_bool.s1c s0 v1 s
noncomputable def f_slices_Index_bool_bool (s0 : (List Bool)) (v1 : Bool) : Option Int := ((loop (f_slices_Index_bool_bool.s1 s0 v1) (0 : Int)).bind (fun q2 => sm q2 (fun q3 => (some (-1 : Int))) (fun q4 => (some q4))))
theorem f_slices_Index_bool_bool_c {S : Nat → Prop} {w0 w : World} {ow : List Res} (hp : Hp S w0 w ow) (vs0 : Value) (s0 : (List Bool)) (hs0 : RdS Ek.bool S w0 vs0 s0) (v1 : Bool) {r : Int} (h : f_slices_Index_bool_bool s0 v1 = some r) :
    Calls Try.prog 52 #[vs0, .bool v1] w (fun e w' => e = .returned (.int .i64 r) ∧ Hp S w0 w' (ow)) := by
  unfold f_slices_Index_bool_bool at h
  refine enter (n := 19) (args := [vs0, .bool v1]) Try.func52 rfl rfl (Nat.le_of_ble_eq_true rfl) fun a hf => ?_
  replace hf : Fr 19 a [(0, vs0), (1, .bool v1)] := hf
  refine wp_mono (Q := fun e a w => e = .ret ∧ Fr 19 a [(4, .int .i64 r)] ∧ Hp S w0 w (ow)) ?_ ?_
  rotate_left
  · rintro e a w ⟨rfl, hf, hp⟩
    exact ret1 hf rfl rfl ⟨rfl, hp⟩
  refine wp_seq ?_
  refine wp_reg ?_
  refine st_assign hf rfl rfl (by decide) ?_
  clear hf; intro a ha hf; clear ha
  refine st_nil hf ?_
  refine th_n ?_
  refine wp_seq ?_
  refine wp_seq ?_
  refine wp_reg ?_
  refine st_move hf rfl rfl (by decide) ?_
  clear hf; intro a ha hf; clear ha
  refine st_len (E := Ek.bool) hf (by decide) Try.underlying22 rfl rfl (hs0.sl hp) ?_
  clear hf; intro a ha hf; clear ha
  refine st_move hf rfl rfl (by decide) ?_
  clear hf; intro a ha hf; clear ha
  refine st_nil hf ?_
  refine th_n ?_
  refine wp_block ?_
  obtain ⟨q2, hl, h⟩ := bnd h
  refine wp_loop_pure (f := (f_slices_Index_bool_bool.s1 s0 v1)) (s := (0 : Int)) (fun s a w => Fr 19 a [(0, vs0), (1, .bool v1), (7, .int .i64 (s0.length : Int)), (8, .int .i64 s)] ∧ Hp S w0 w (ow)) (fun q e a w => match q with | (Sum.inl q) => e = .exit 0 ∧ Fr 19 a [] ∧ Hp S w0 w (ow) | (Sum.inr q) => e = .ret ∧ Fr 19 a [(4, .int .i64 q)] ∧ Hp S w0 w (ow)) ?_ hl ⟨hf.sub ⟨rfl, rfl, rfl, rfl, trivial⟩, hp⟩ ?_
  · clear hl hf hp
    intro s x a w h hI
    obtain ⟨t8, hs⟩ : ∃ z, z = s := ⟨s, rfl⟩; subst hs
    obtain ⟨hf, hp⟩ : Fr 19 a [(0, vs0), (1, .bool v1), (7, .int .i64 (s0.length : Int)), (8, .int .i64 t8)] ∧ Hp S w0 w (ow) := hI
    replace h : f_slices_Index_bool_bool.s1c s0 v1 t8 = some x := h
    unfold f_slices_Index_bool_bool.s1c at h
    refine wp_seq ?_
    refine wp_reg ?_
    refine st_ilss hf (by decide) rfl rfl rfl ?_
    clear hf; intro a ha hf; clear ha
    refine st_nil hf ?_
    refine th_n ?_
    refine wp_seq ?_
    refine wp_if hf rfl (fun hb => ?_) (fun hb => ?_)
    · replace h := ifT h hb
      refine wp_skip ?_
      refine th_n ?_
      refine wp_seq ?_
      refine wp_block ?_
      refine wp_seq ?_
      refine wp_reg ?_
      refine st_move hf rfl rfl (by decide) ?_
      clear hf; intro a ha hf; clear ha
      refine st_assign hf rfl rfl (by decide) ?_
      clear hf; intro a ha hf; clear ha
      refine st_nil hf ?_
      refine th_n ?_
      refine wp_seq ?_
      refine wp_reg ?_
      refine st_move hf rfl rfl (by decide) ?_
      clear hf; intro a ha hf; clear ha
      refine st_move hf rfl rfl (by decide) ?_
      clear hf; intro a ha hf; clear ha
      refine st_move hf rfl rfl (by decide) ?_
      clear hf; intro a ha hf; clear ha
      obtain ⟨hc1, h⟩ := chk h
      refine st_index (E := Ek.bool) hf (by decide) Try.underlying22 elt4 rfl rfl rfl (hs0.sl hp) hc1.1 hc1.2 ?_
      clear hf; intro a ha hf; clear ha
      refine st_ldB hf (by decide) pl4 rfl rfl (hs0.sl hp) hc1.1 hc1.2 ?_
      clear hf; intro a ha hf; clear ha
      refine st_beql hf (by decide) Try.underlying4 rfl rfl rfl ?_
      clear hf; intro a ha hf; clear ha
      refine st_nil hf ?_
      refine th_n ?_
      refine wp_if hf rfl (fun hb => ?_) (fun hb => ?_)
      · replace h := ifT h hb
        refine wp_seq ?_
        refine wp_reg ?_
        refine st_move hf rfl rfl (by decide) ?_
        clear hf; intro a ha hf; clear ha
        refine st_assign hf rfl rfl (by decide) ?_
        clear hf; intro a ha hf; clear ha
        refine st_nil hf ?_
        refine th_n ?_
        refine wp_ret ?_
        refine ib_r ?_
        refine th_r ?_
        obtain rfl := Option.some.inj h
        exact rnd_r (by simp) ⟨rfl, ⟨hf.sub ⟨rfl, trivial⟩, hp⟩⟩
      replace h := ifF h hb
      refine wp_skip ?_
      refine ib_n ?_
      refine th_n ?_
      refine wp_reg ?_
      refine st_iadd hf (by decide) rfl rfl rfl ?_
      clear hf; intro a ha hf; clear ha
      refine st_move hf rfl rfl (by decide) ?_
      clear hf; intro a ha hf; clear ha
      refine st_nil hf ?_
      obtain rfl := Option.some.inj h
      exact rnd_l ⟨hf.sub ⟨rfl, rfl, rfl, rfl, trivial⟩, hp⟩
    replace h := ifF h hb
    refine wp_exit ?_
    refine th_e ?_
    obtain rfl := Option.some.inj h
    exact rnd_r (by simp) ⟨rfl, hf.sub trivial, hp⟩
  clear hl hf hp
  intro e a w hne hO
  rcases q2 with q3 | q4
  · replace h := smL h
    obtain ⟨rfl, hf, hp⟩ := hO
    refine ib_same ?_
    refine th_n ?_
    refine wp_seq ?_
    refine wp_reg ?_
    refine st_assign hf rfl rfl (by decide) ?_
    clear hf; intro a ha hf; clear ha
    refine st_nil hf ?_
    refine th_n ?_
    refine wp_ret ?_
    obtain rfl := Option.some.inj h
    exact ⟨rfl, ⟨hf.sub ⟨rfl, trivial⟩, hp⟩⟩
  replace h := smR h
  obtain ⟨rfl, hf, hp⟩ := hO
  refine ib_r ?_
  refine th_r ?_
  obtain rfl := Option.some.inj h
  exact ⟨rfl, ⟨hf.sub ⟨rfl, trivial⟩, hp⟩⟩

noncomputable def f_slices_Contains_bool_bool (s0 : (List Bool)) (v1 : Bool) : Option Bool := ((f_slices_Index_bool_bool s0 v1).bind fun q1 => (some (decide ((0 : Int) ≤ q1))))
theorem f_slices_Contains_bool_bool_c {S : Nat → Prop} {w0 w : World} {ow : List Res} (hp : Hp S w0 w ow) (vs0 : Value) (s0 : (List Bool)) (hs0 : RdS Ek.bool S w0 vs0 s0) (v1 : Bool) {r : Bool} (h : f_slices_Contains_bool_bool s0 v1 = some r) :
    Calls Try.prog 43 #[vs0, .bool v1] w (fun e w' => e = .returned (.bool r) ∧ Hp S w0 w' (ow)) := by
  unfold f_slices_Contains_bool_bool at h
  refine enter (n := 9) (args := [vs0, .bool v1]) Try.func43 rfl rfl (Nat.le_of_ble_eq_true rfl) fun a hf => ?_
  replace hf : Fr 9 a [(0, vs0), (1, .bool v1)] := hf
  refine wp_mono (Q := fun e a w => e = .ret ∧ Fr 9 a [(4, .bool r)] ∧ Hp S w0 w (ow)) ?_ ?_
  rotate_left
  · rintro e a w ⟨rfl, hf, hp⟩
    exact ret1 hf rfl rfl ⟨rfl, hp⟩
  refine wp_seq ?_
  refine wp_reg ?_
  refine st_assign hf rfl rfl (by decide) ?_
  clear hf; intro a ha hf; clear ha
  refine st_nil hf ?_
  refine th_n ?_
  refine wp_seq ?_
  refine wp_reg ?_
  refine st_move hf rfl rfl (by decide) ?_
  clear hf; intro a ha hf; clear ha
  refine st_move hf rfl rfl (by decide) ?_
  clear hf; intro a ha hf; clear ha
  obtain ⟨q1, hcall2, h⟩ := bnd h
  refine st_call hf (by decide) Try.func52 rfl rfl rfl rfl rfl (f_slices_Index_bool_bool_c hp _ _ hs0 _ hcall2) ?_
  rintro _ w ⟨rfl, hp0⟩
  clear hp; have hp := hp0; clear hp0
  replace hp : Hp _ _ _ (ow) := hp
  refine ⟨_, rfl, ?_⟩
  clear hf; intro a hf
  refine st_igeq hf (by decide) rfl rfl rfl ?_
  clear hf; intro a ha hf; clear ha
  refine st_assign hf rfl rfl (by decide) ?_
  clear hf; intro a ha hf; clear ha
  refine st_nil hf ?_
  refine th_n ?_
  refine wp_ret ?_
  obtain rfl := Option.some.inj h
  exact ⟨rfl, ⟨hf.sub ⟨rfl, trivial⟩, hp⟩⟩

noncomputable def f_hard_pattern (keep0 : (List Bool)) : Option Bool := ((if (decide ((keep0.length : Int) ≤ (64 : Int))) = true then ((f_slices_Contains_bool_bool keep0 true).bind fun q4 => (some q4)) else (some false)).bind fun z3 => (some z3))
theorem f_hard_pattern_c {S : Nat → Prop} {w0 w : World} {ow : List Res} (hp : Hp S w0 w ow) (vkeep0 : Value) (keep0 : (List Bool)) (hkeep0 : RdS Ek.bool S w0 vkeep0 keep0) {r : Bool} (h : f_hard_pattern keep0 = some r) :
    Calls Try.prog 29 #[vkeep0] w (fun e w' => e = .returned (.bool r) ∧ Hp S w0 w' (ow)) := by
  unfold f_hard_pattern at h
  refine enter (n := 10) (args := [vkeep0]) Try.func29 rfl rfl (Nat.le_of_ble_eq_true rfl) fun a hf => ?_
  replace hf : Fr 10 a [(0, vkeep0)] := hf
  refine wp_mono (Q := fun e a w => e = .ret ∧ Fr 10 a [(2, .bool r)] ∧ Hp S w0 w (ow)) ?_ ?_
  rotate_left
  · rintro e a w ⟨rfl, hf, hp⟩
    exact ret1 hf rfl rfl ⟨rfl, hp⟩
  refine wp_seq ?_
  refine wp_reg ?_
  refine st_assign hf rfl rfl (by decide) ?_
  clear hf; intro a ha hf; clear ha
  refine st_nil hf ?_
  refine th_n ?_
  refine wp_seq ?_
  refine wp_reg ?_
  refine st_move hf rfl rfl (by decide) ?_
  clear hf; intro a ha hf; clear ha
  refine st_len (E := Ek.bool) hf (by decide) Try.underlying22 rfl rfl (hkeep0.sl hp) ?_
  clear hf; intro a ha hf; clear ha
  refine st_ileq hf (by decide) rfl rfl rfl ?_
  clear hf; intro a ha hf; clear ha
  refine st_move hf rfl rfl (by decide) ?_
  clear hf; intro a ha hf; clear ha
  obtain ⟨z3, hz1, h⟩ := bnd h
  refine wpList_cut 3 (fun a w => Fr 10 a [(9, .bool z3)] ∧ Hp S w0 w (ow)) ?_ ?_
  · rcases Bool.eq_false_or_eq_true (decide ((keep0.length : Int) ≤ (64 : Int))) with hb2 | hb2
    · skip
      replace hz1 := ifT hz1 hb2
      refine st_move hf (wantY hf rfl rfl hb2) rfl (by decide) ?_
      clear hf; intro a ha hf; clear ha
      obtain ⟨q4, hcall5, hz1⟩ := bnd hz1
      refine st_call hf (by decide) Try.func43 rfl rfl (wantY hf rfl rfl hb2) rfl rfl (f_slices_Contains_bool_bool_c hp _ _ hkeep0 _ hcall5) ?_
      rintro _ w ⟨rfl, hp0⟩
      clear hp; have hp := hp0; clear hp0
      replace hp : Hp _ _ _ (ow) := hp
      refine ⟨_, rfl, ?_⟩
      clear hf; intro a hf
      obtain rfl := Option.some.inj hz1
      refine st_pick (v := .bool q4) hf rfl rfl (fun hb' => ?_) (fun hb' => ?_) (by decide) ?_
      · rfl
      · exact absurd (hb2.symm.trans hb') (by decide)
      clear hf; intro a ha hf; clear ha
      refine st_nil hf (th_n ?_)
      exact ⟨hf.sub ⟨rfl, trivial⟩, hp⟩
    replace hz1 := ifF hz1 hb2
    refine st_skip hf (wantN hf rfl rfl hb2) rfl (by decide) ?_ rfl
    clear hf; intro a hf
    refine st_skip hf (wantN hf rfl rfl hb2) rfl (by decide) ?_ rfl
    clear hf; intro a hf
    obtain rfl := Option.some.inj hz1
    refine st_pick (v := .bool false) hf rfl rfl (fun hb' => ?_) (fun hb' => ?_) (by decide) ?_
    · exact absurd (hb2.symm.trans hb') (by decide)
    · rfl
    clear hf; intro a ha hf; clear ha
    refine st_nil hf (th_n ?_)
    exact ⟨hf.sub ⟨rfl, trivial⟩, hp⟩
  rintro a w ⟨hf, hp⟩
  refine st_assign hf rfl rfl (by decide) ?_
  clear hf; intro a ha hf; clear ha
  refine st_nil hf ?_
  refine th_n ?_
  refine wp_ret ?_
  obtain rfl := Option.some.inj h
  exact ⟨rfl, ⟨hf.sub ⟨rfl, trivial⟩, hp⟩⟩

noncomputable def f_hard_Fill.s1c (l0 : (List Bool)) (keep1 : (List Bool)) (n2 : Int) (out8 : (List Int)) (k9 : Int) (t25 : Int) : Option (((List Int) × Int × Int) ⊕ (((List Int) × Int) ⊕ ((List Int) × Int))) := (if (decide (t25 < n2)) = true then (if (keep1.length : Int) ≠ 0 then (if 0 ≤ ((t25).tmod (keep1.length : Int)) ∧ ((t25).tmod (keep1.length : Int)) < (keep1.length : Int) then (if (!(gt keep1 ((t25).tmod (keep1.length : Int)))) = true then (if 0 ≤ t25 ∧ t25 < (out8.length : Int) then (some (Sum.inl ((out8.set (t25).toNat (2 : Int)), k9, (IntKind.i64.wrap (t25 + (1 : Int)))))) else none) else (if (k9 == (l0.length : Int)) = true then (some (Sum.inr (Sum.inr ([], (1 : Int))))) else (if 0 ≤ k9 ∧ k9 < (l0.length : Int) then (if (gt l0 k9) = true then (if 0 ≤ t25 ∧ t25 < (out8.length : Int) then (some (Sum.inl ((out8.set (t25).toNat (1 : Int)), (IntKind.i64.wrap (k9 + (1 : Int))), (IntKind.i64.wrap (t25 + (1 : Int)))))) else none) else (some (Sum.inl (out8, (IntKind.i64.wrap (k9 + (1 : Int))), (IntKind.i64.wrap (t25 + (1 : Int))))))) else none))) else none) else none) else (some (Sum.inr (Sum.inl (out8, k9)))))
noncomputable def f_hard_Fill.s1 (l0 : (List Bool)) (keep1 : (List Bool)) (n2 : Int) (s : ((List Int) × Int × Int)) : Option (((List Int) × Int × Int) ⊕ (((List Int) × Int) ⊕ ((List Int) × Int))) := f_hard_Fill.s1c l0 keep1 n2 s.1 s.2.1 s.2.2
noncomputable def f_hard_Fill (l0 : (List Bool)) (keep1 : (List Bool)) (n2 : Int) : Option ((List Int) × Int) := ((f_hard_pattern keep1).bind fun q1 => (if (((!q1) || (decide (n2 < (0 : Int)))) || (decide ((32768 : Int) < n2))) = true then (some ([], (1 : Int))) else (if 0 ≤ n2 ∧ n2 ≤ n2 ∧ n2 * 1 ≤ 281474976710656 then ((loop (f_hard_Fill.s1 l0 keep1 n2) ((List.replicate (n2).toNat (0 : Int)), (0 : Int), (0 : Int))).bind (fun q21 => sm q21 (fun q22 => (if (q22.2 != (l0.length : Int)) = true then (some ([], (1 : Int))) else (some (q22.1, (0 : Int))))) (fun q23 => (some (q23.1, q23.2))))) else none)))
theorem f_hard_Fill_c {S : Nat → Prop} {w0 w : World} {ow : List Res} (hp : Hp S w0 w ow) (vl0 : Value) (l0 : (List Bool)) (hl0 : RdS Ek.bool S w0 vl0 l0) (vkeep1 : Value) (keep1 : (List Bool)) (hkeep1 : RdS Ek.bool S w0 vkeep1 keep1) (n2 : Int) {r : ((List Int) × Int)} (h : f_hard_Fill l0 keep1 n2 = some r) :
    Calls Try.prog 11 #[vl0, vkeep1, .int .i64 n2] w (fun e w' => ∃ (u0 : Value), e = .returned (.tuple #[u0, .int .i64 r.2]) ∧ Hp S w0 w' (Res.sl (Ek.int .u8) 51 u0 r.1 :: ow)) := by
  unfold f_hard_Fill at h
  refine enter (n := 61) (args := [vl0, vkeep1, .int .i64 n2]) Try.func11 rfl rfl (Nat.le_of_ble_eq_true rfl) fun a hf => ?_
  replace hf : Fr 61 a [(0, vl0), (1, vkeep1), (2, .int .i64 n2)] := hf
  refine wp_mono (Q := fun e a w => e = .ret ∧ ∃ (u0 : Value), Fr 61 a [(6, u0), (7, .int .i64 r.2)] ∧ Hp S w0 w (Res.sl (Ek.int .u8) 51 u0 r.1 :: ow)) ?_ ?_
  rotate_left
  · rintro e a w ⟨rfl, x0, hf, hp⟩
    exact ret2 hf rfl rfl rfl ⟨x0, rfl, hp⟩
  refine wp_seq ?_
  refine wp_reg ?_
  refine st_assign hf rfl rfl (by decide) ?_
  clear hf; intro a ha hf; clear ha
  refine st_assign hf rfl rfl (by decide) ?_
  clear hf; intro a ha hf; clear ha
  refine st_nil hf ?_
  refine th_n ?_
  refine wp_seq ?_
  refine wp_seq ?_
  refine wp_reg ?_
  refine st_move hf rfl rfl (by decide) ?_
  clear hf; intro a ha hf; clear ha
  obtain ⟨q1, hcall2, h⟩ := bnd h
  refine st_call hf (by decide) Try.func29 rfl rfl rfl rfl rfl (f_hard_pattern_c hp _ _ hkeep1 hcall2) ?_
  rintro _ w ⟨rfl, hp0⟩
  clear hp; have hp := hp0; clear hp0
  replace hp : Hp _ _ _ (ow) := hp
  refine ⟨_, rfl, ?_⟩
  clear hf; intro a hf
  refine st_not hf (by decide) rfl rfl ?_
  clear hf; intro a ha hf; clear ha
  refine st_move hf rfl rfl (by decide) ?_
  clear hf; intro a ha hf; clear ha
  refine wpList_cut 3 (fun a w => Fr 61 a [(0, vl0), (1, vkeep1), (2, .int .i64 n2), (17, .bool ((!q1) || (decide (n2 < (0 : Int)))))] ∧ Hp S w0 w (ow)) ?_ ?_
  · rcases Bool.eq_false_or_eq_true (!q1) with hb4 | hb4
    · skip
      refine st_skip hf (wantN hf rfl rfl hb4) rfl (by decide) ?_ rfl
      clear hf; intro a hf
      refine st_skip hf (wantN hf rfl rfl hb4) rfl (by decide) ?_ rfl
      clear hf; intro a hf
      refine st_pick (v := .bool true) hf rfl rfl (fun hb' => ?_) (fun hb' => ?_) (by decide) ?_
      · rfl
      · exact absurd (hb4.symm.trans hb') (by decide)
      clear hf; intro a ha hf; clear ha
      refine st_nil hf (th_n ?_)
      exact ⟨hf.sub ⟨rfl, rfl, rfl, (by rw [hb4]; rfl), trivial⟩, hp⟩
    refine st_move hf (wantY hf rfl rfl hb4) rfl (by decide) ?_
    clear hf; intro a ha hf; clear ha
    refine st_ilss hf (by decide) (wantY hf rfl rfl hb4) rfl rfl ?_
    clear hf; intro a ha hf; clear ha
    refine st_pick (v := .bool (decide (n2 < (0 : Int)))) hf rfl rfl (fun hb' => ?_) (fun hb' => ?_) (by decide) ?_
    · exact absurd (hb4.symm.trans hb') (by decide)
    · rfl
    clear hf; intro a ha hf; clear ha
    refine st_nil hf (th_n ?_)
    exact ⟨hf.sub ⟨rfl, rfl, rfl, (by rw [hb4]; rfl), trivial⟩, hp⟩
  rintro a w ⟨hf, hp⟩
  refine st_move hf rfl rfl (by decide) ?_
  clear hf; intro a ha hf; clear ha
  refine wpList_cut 3 (fun a w => Fr 61 a [(0, vl0), (1, vkeep1), (2, .int .i64 n2), (21, .bool (((!q1) || (decide (n2 < (0 : Int)))) || (decide ((32768 : Int) < n2))))] ∧ Hp S w0 w (ow)) ?_ ?_
  · rcases Bool.eq_false_or_eq_true ((!q1) || (decide (n2 < (0 : Int)))) with hb6 | hb6
    · skip
      refine st_skip hf (wantN hf rfl rfl hb6) rfl (by decide) ?_ rfl
      clear hf; intro a hf
      refine st_skip hf (wantN hf rfl rfl hb6) rfl (by decide) ?_ rfl
      clear hf; intro a hf
      refine st_pick (v := .bool true) hf rfl rfl (fun hb' => ?_) (fun hb' => ?_) (by decide) ?_
      · rfl
      · exact absurd (hb6.symm.trans hb') (by decide)
      clear hf; intro a ha hf; clear ha
      refine st_nil hf (th_n ?_)
      exact ⟨hf.sub ⟨rfl, rfl, rfl, (by rw [hb6]; rfl), trivial⟩, hp⟩
    refine st_move hf (wantY hf rfl rfl hb6) rfl (by decide) ?_
    clear hf; intro a ha hf; clear ha
    refine st_igtr hf (by decide) (wantY hf rfl rfl hb6) rfl rfl ?_
    clear hf; intro a ha hf; clear ha
    refine st_pick (v := .bool (decide ((32768 : Int) < n2))) hf rfl rfl (fun hb' => ?_) (fun hb' => ?_) (by decide) ?_
    · exact absurd (hb6.symm.trans hb') (by decide)
    · rfl
    clear hf; intro a ha hf; clear ha
    refine st_nil hf (th_n ?_)
    exact ⟨hf.sub ⟨rfl, rfl, rfl, (by rw [hb6]; rfl), trivial⟩, hp⟩
  rintro a w ⟨hf, hp⟩
  refine st_nil hf ?_
  refine th_n ?_
  refine wp_if hf rfl (fun hb => ?_) (fun hb => ?_)
  · replace h := ifT h hb
    refine wp_seq ?_
    refine wp_reg ?_
    refine st_assign hf rfl rfl (by decide) ?_
    clear hf; intro a ha hf; clear ha
    refine st_assign hf rfl rfl (by decide) ?_
    clear hf; intro a ha hf; clear ha
    refine st_nil hf ?_
    refine th_n ?_
    refine wp_ret ?_
    refine th_r ?_
    obtain rfl := Option.some.inj h
    have hp := hp.nil (Ek.int .u8) 51
    exact ⟨rfl, ⟨_, hf.sub ⟨rfl, rfl, trivial⟩, hp⟩⟩
  replace h := ifF h hb
  refine wp_skip ?_
  refine th_n ?_
  refine wp_seq ?_
  refine wp_reg ?_
  refine st_move hf rfl rfl (by decide) ?_
  clear hf; intro a ha hf; clear ha
  obtain ⟨hc8, h⟩ := chk h
  refine st_make (E := (Ek.int .u8)) hf (by decide) elt51 Try.underlying26 (by decide) hp rfl rfl rfl hc8.1 hc8.2.1 hc8.2.2 ?_
  clear hf; intro a w v9 hf hp0; clear hp; have hp := hp0; clear hp0
  replace hp : Hp _ _ _ (Res.sl (Ek.int .u8) 51 v9 (List.replicate (n2).toNat (0 : Int)) :: ow) := hp
  refine st_assign hf rfl rfl (by decide) ?_
  clear hf; intro a ha hf; clear ha
  refine st_nil hf ?_
  refine th_n ?_
  refine wp_seq ?_
  refine wp_reg ?_
  refine st_assign hf rfl rfl (by decide) ?_
  clear hf; intro a ha hf; clear ha
  refine st_nil hf ?_
  refine th_n ?_
  refine wp_seq ?_
  refine wp_seq ?_
  refine wp_reg ?_
  refine st_move hf rfl rfl (by decide) ?_
  clear hf; intro a ha hf; clear ha
  refine st_move hf rfl rfl (by decide) ?_
  clear hf; intro a ha hf; clear ha
  refine st_nil hf ?_
  refine th_n ?_
  refine wp_block ?_
  obtain ⟨q21, hl, h⟩ := bnd h
  refine wp_loop_pure (f := (f_hard_Fill.s1 l0 keep1 n2)) (s := ((List.replicate (n2).toNat (0 : Int)), (0 : Int), (0 : Int))) (fun s a w => ∃ (v11 : Value), Fr 61 a [(0, vl0), (1, vkeep1), (8, v11), (9, .int .i64 s.2.1), (24, .int .i64 n2), (25, .int .i64 s.2.2)] ∧ Hp S w0 w (Res.sl (Ek.int .u8) 51 v11 s.1 :: ow)) (fun q e a w => match q with | (Sum.inl q) => e = .exit 0 ∧ ∃ (v13 : Value), Fr 61 a [(0, vl0), (8, v13), (9, .int .i64 q.2)] ∧ Hp S w0 w (Res.sl (Ek.int .u8) 51 v13 q.1 :: ow) | (Sum.inr q) => e = .ret ∧ ∃ (u0 : Value), Fr 61 a [(6, u0), (7, .int .i64 q.2)] ∧ Hp S w0 w (Res.sl (Ek.int .u8) 51 u0 q.1 :: ow)) ?_ hl ⟨_, hf.sub ⟨rfl, rfl, rfl, rfl, rfl, rfl, trivial⟩, hp⟩ ?_
  · clear hl hf hp
    intro s x a w h hI
    obtain ⟨out8, k9, t25⟩ := s
    obtain ⟨v11, hf, hp⟩ : ∃ (v11 : Value), Fr 61 a [(0, vl0), (1, vkeep1), (8, v11), (9, .int .i64 k9), (24, .int .i64 n2), (25, .int .i64 t25)] ∧ Hp S w0 w (Res.sl (Ek.int .u8) 51 v11 out8 :: ow) := hI
    replace h : f_hard_Fill.s1c l0 keep1 n2 out8 k9 t25 = some x := h
    unfold f_hard_Fill.s1c at h
    refine wp_seq ?_
    refine wp_reg ?_
    refine st_ilss hf (by decide) rfl rfl rfl ?_
    clear hf; intro a ha hf; clear ha
    refine st_nil hf ?_
    refine th_n ?_
    refine wp_seq ?_
    refine wp_if hf rfl (fun hb => ?_) (fun hb => ?_)
    · replace h := ifT h hb
      refine wp_skip ?_
      refine th_n ?_
      refine wp_seq ?_
      refine wp_block ?_
      refine wp_seq ?_
      refine wp_reg ?_
      refine st_move hf rfl rfl (by decide) ?_
      clear hf; intro a ha hf; clear ha
      refine st_assign hf rfl rfl (by decide) ?_
      clear hf; intro a ha hf; clear ha
      refine st_nil hf ?_
      refine th_n ?_
      refine wp_seq ?_
      refine wp_block ?_
      refine wp_seq ?_
      refine wp_reg ?_
      refine st_move hf rfl rfl (by decide) ?_
      clear hf; intro a ha hf; clear ha
      refine st_move hf rfl rfl (by decide) ?_
      clear hf; intro a ha hf; clear ha
      refine st_move hf rfl rfl (by decide) ?_
      clear hf; intro a ha hf; clear ha
      refine st_len (E := Ek.bool) hf (by decide) Try.underlying22 rfl rfl (hkeep1.sl hp) ?_
      clear hf; intro a ha hf; clear ha
      obtain ⟨hc15, h⟩ := chk h
      refine st_irem hf (by decide) rfl rfl rfl hc15 ?_
      clear hf; intro a ha hf; clear ha
      obtain ⟨hc16, h⟩ := chk h
      refine st_index (E := Ek.bool) hf (by decide) Try.underlying22 elt4 rfl rfl rfl (hkeep1.sl hp) hc16.1 hc16.2 ?_
      clear hf; intro a ha hf; clear ha
      refine st_ldB hf (by decide) pl4 rfl rfl (hkeep1.sl hp) hc16.1 hc16.2 ?_
      clear hf; intro a ha hf; clear ha
      refine st_not hf (by decide) rfl rfl ?_
      clear hf; intro a ha hf; clear ha
      refine st_assign hf rfl rfl (by decide) ?_
      clear hf; intro a ha hf; clear ha
      refine st_nil hf ?_
      refine th_n ?_
      refine wp_if hf rfl (fun hb => ?_) (fun hb => ?_)
      · replace h := ifT h hb
        refine wp_seq ?_
        refine wp_reg ?_
        refine st_move hf rfl rfl (by decide) ?_
        clear hf; intro a ha hf; clear ha
        refine st_move hf rfl rfl (by decide) ?_
        clear hf; intro a ha hf; clear ha
        obtain ⟨hc17, h⟩ := chk h
        refine st_index (E := (Ek.int .u8)) hf (by decide) Try.underlying26 elt51 rfl rfl rfl (hp.sl (i := 0) rfl) hc17.1 hc17.2 ?_
        clear hf; intro a ha hf; clear ha
        refine st_store (E := (Ek.int .u8)) hf elt51 hp (i := 0) rfl rfl rfl rfl rfl hc17.1 hc17.2 ?_
        clear hf; intro a w hf hp0; clear hp; have hp := hp0; clear hp0
        replace hp : Hp _ _ _ (Res.sl (Ek.int .u8) 51 v11 (out8.set (t25).toNat (2 : Int)) :: ow) := hp
        refine st_nil hf ?_
        refine th_n ?_
        refine wp_exit ?_
        refine ib_ne rfl ?_
        refine th_e ?_
        refine ib_same ?_
        refine th_n ?_
        refine wp_reg ?_
        refine st_iadd hf (by decide) rfl rfl rfl ?_
        clear hf; intro a ha hf; clear ha
        refine st_move hf rfl rfl (by decide) ?_
        clear hf; intro a ha hf; clear ha
        refine st_nil hf ?_
        obtain rfl := Option.some.inj h
        exact rnd_l ⟨_, hf.sub ⟨rfl, rfl, rfl, rfl, rfl, rfl, trivial⟩, hp⟩
      replace h := ifF h hb
      refine wp_seq ?_
      refine wp_reg ?_
      refine st_move hf rfl rfl (by decide) ?_
      clear hf; intro a ha hf; clear ha
      refine st_move hf rfl rfl (by decide) ?_
      clear hf; intro a ha hf; clear ha
      refine st_len (E := Ek.bool) hf (by decide) Try.underlying22 rfl rfl (hl0.sl hp) ?_
      clear hf; intro a ha hf; clear ha
      refine st_ieql hf (by decide) rfl rfl rfl ?_
      clear hf; intro a ha hf; clear ha
      refine st_assign hf rfl rfl (by decide) ?_
      clear hf; intro a ha hf; clear ha
      refine st_nil hf ?_
      refine th_n ?_
      refine wp_if hf rfl (fun hb => ?_) (fun hb => ?_)
      · replace h := ifT h hb
        refine wp_seq ?_
        refine wp_reg ?_
        refine st_assign hf rfl rfl (by decide) ?_
        clear hf; intro a ha hf; clear ha
        refine st_assign hf rfl rfl (by decide) ?_
        clear hf; intro a ha hf; clear ha
        refine st_nil hf ?_
        refine th_n ?_
        refine wp_ret ?_
        refine ib_r ?_
        refine th_r ?_
        refine ib_r ?_
        refine th_r ?_
        obtain rfl := Option.some.inj h
        have hp := hp.nil (Ek.int .u8) 51
        have hp : Hp _ _ _ (Res.sl (Ek.int .u8) 51 (.slice none 0 0) ([]) :: ow) := Hp.sel (pre := [Res.sl (Ek.int .u8) 51 (.slice none 0 0) ([]), Res.sl (Ek.int .u8) 51 v11 out8]) (tail := ow) (rs' := [Res.sl (Ek.int .u8) 51 (.slice none 0 0) ([])]) hp [0] (by decide) (by simp) rfl
        exact rnd_r (by simp) ⟨rfl, ⟨_, hf.sub ⟨rfl, rfl, trivial⟩, hp⟩⟩
      replace h := ifF h hb
      refine wp_seq ?_
      refine wp_reg ?_
      refine st_move hf rfl rfl (by decide) ?_
      clear hf; intro a ha hf; clear ha
      refine st_move hf rfl rfl (by decide) ?_
      clear hf; intro a ha hf; clear ha
      obtain ⟨hc19, h⟩ := chk h
      refine st_index (E := Ek.bool) hf (by decide) Try.underlying22 elt4 rfl rfl rfl (hl0.sl hp) hc19.1 hc19.2 ?_
      clear hf; intro a ha hf; clear ha
      refine st_ldB hf (by decide) pl4 rfl rfl (hl0.sl hp) hc19.1 hc19.2 ?_
      clear hf; intro a ha hf; clear ha
      refine st_assign hf rfl rfl (by decide) ?_
      clear hf; intro a ha hf; clear ha
      refine st_nil hf ?_
      refine th_n ?_
      refine wp_if hf rfl (fun hb => ?_) (fun hb => ?_)
      · replace h := ifT h hb
        refine wp_reg ?_
        refine st_move hf rfl rfl (by decide) ?_
        clear hf; intro a ha hf; clear ha
        refine st_move hf rfl rfl (by decide) ?_
        clear hf; intro a ha hf; clear ha
        obtain ⟨hc20, h⟩ := chk h
        refine st_index (E := (Ek.int .u8)) hf (by decide) Try.underlying26 elt51 rfl rfl rfl (hp.sl (i := 0) rfl) hc20.1 hc20.2 ?_
        clear hf; intro a ha hf; clear ha
        refine st_store (E := (Ek.int .u8)) hf elt51 hp (i := 0) rfl rfl rfl rfl rfl hc20.1 hc20.2 ?_
        clear hf; intro a w hf hp0; clear hp; have hp := hp0; clear hp0
        replace hp : Hp _ _ _ (Res.sl (Ek.int .u8) 51 v11 (out8.set (t25).toNat (1 : Int)) :: ow) := hp
        refine st_nil hf ?_
        refine ib_n ?_
        refine th_n ?_
        refine wp_reg ?_
        refine st_move hf rfl rfl (by decide) ?_
        clear hf; intro a ha hf; clear ha
        refine st_iadd hf (by decide) rfl rfl rfl ?_
        clear hf; intro a ha hf; clear ha
        refine st_assign hf rfl rfl (by decide) ?_
        clear hf; intro a ha hf; clear ha
        refine st_nil hf ?_
        refine ib_n ?_
        refine th_n ?_
        refine wp_reg ?_
        refine st_iadd hf (by decide) rfl rfl rfl ?_
        clear hf; intro a ha hf; clear ha
        refine st_move hf rfl rfl (by decide) ?_
        clear hf; intro a ha hf; clear ha
        refine st_nil hf ?_
        obtain rfl := Option.some.inj h
        exact rnd_l ⟨_, hf.sub ⟨rfl, rfl, rfl, rfl, rfl, rfl, trivial⟩, hp⟩
      replace h := ifF h hb
      refine wp_skip ?_
      refine ib_n ?_
      refine th_n ?_
      refine wp_reg ?_
      refine st_move hf rfl rfl (by decide) ?_
      clear hf; intro a ha hf; clear ha
      refine st_iadd hf (by decide) rfl rfl rfl ?_
      clear hf; intro a ha hf; clear ha
      refine st_assign hf rfl rfl (by decide) ?_
      clear hf; intro a ha hf; clear ha
      refine st_nil hf ?_
      refine ib_n ?_
      refine th_n ?_
      refine wp_reg ?_
      refine st_iadd hf (by decide) rfl rfl rfl ?_
      clear hf; intro a ha hf; clear ha
      refine st_move hf rfl rfl (by decide) ?_
      clear hf; intro a ha hf; clear ha
      refine st_nil hf ?_
      obtain rfl := Option.some.inj h
      exact rnd_l ⟨_, hf.sub ⟨rfl, rfl, rfl, rfl, rfl, rfl, trivial⟩, hp⟩
    replace h := ifF h hb
    refine wp_exit ?_
    refine th_e ?_
    obtain rfl := Option.some.inj h
    exact rnd_r (by simp) ⟨rfl, _, hf.sub ⟨rfl, rfl, rfl, trivial⟩, hp⟩
  clear hl hf hp
  intro e a w hne hO
  rcases q21 with q22 | q23
  · replace h := smL h
    obtain ⟨rfl, v13, hf, hp⟩ := hO
    refine ib_same ?_
    refine th_n ?_
    refine wp_seq ?_
    refine wp_seq ?_
    refine wp_reg ?_
    refine st_move hf rfl rfl (by decide) ?_
    clear hf; intro a ha hf; clear ha
    refine st_move hf rfl rfl (by decide) ?_
    clear hf; intro a ha hf; clear ha
    refine st_len (E := Ek.bool) hf (by decide) Try.underlying22 rfl rfl (hl0.sl hp) ?_
    clear hf; intro a ha hf; clear ha
    refine st_ineq hf (by decide) rfl rfl rfl ?_
    clear hf; intro a ha hf; clear ha
    refine st_nil hf ?_
    refine th_n ?_
    refine wp_if hf rfl (fun hb => ?_) (fun hb => ?_)
    · replace h := ifT h hb
      refine wp_seq ?_
      refine wp_reg ?_
      refine st_assign hf rfl rfl (by decide) ?_
      clear hf; intro a ha hf; clear ha
      refine st_assign hf rfl rfl (by decide) ?_
      clear hf; intro a ha hf; clear ha
      refine st_nil hf ?_
      refine th_n ?_
      refine wp_ret ?_
      refine th_r ?_
      obtain rfl := Option.some.inj h
      have hp := hp.nil (Ek.int .u8) 51
      have hp : Hp _ _ _ (Res.sl (Ek.int .u8) 51 (.slice none 0 0) ([]) :: ow) := Hp.sel (pre := [Res.sl (Ek.int .u8) 51 (.slice none 0 0) ([]), Res.sl (Ek.int .u8) 51 v13 q22.1]) (tail := ow) (rs' := [Res.sl (Ek.int .u8) 51 (.slice none 0 0) ([])]) hp [0] (by decide) (by simp) rfl
      exact ⟨rfl, ⟨_, hf.sub ⟨rfl, rfl, trivial⟩, hp⟩⟩
    replace h := ifF h hb
    refine wp_skip ?_
    refine th_n ?_
    refine wp_seq ?_
    refine wp_reg ?_
    refine st_move hf rfl rfl (by decide) ?_
    clear hf; intro a ha hf; clear ha
    refine st_assign hf rfl rfl (by decide) ?_
    clear hf; intro a ha hf; clear ha
    refine st_assign hf rfl rfl (by decide) ?_
    clear hf; intro a ha hf; clear ha
    refine st_nil hf ?_
    refine th_n ?_
    refine wp_ret ?_
    obtain rfl := Option.some.inj h
    exact ⟨rfl, ⟨_, hf.sub ⟨rfl, rfl, trivial⟩, hp⟩⟩
  replace h := smR h
  obtain ⟨rfl, x0, hf, hp⟩ := hO
  refine ib_r ?_
  refine th_r ?_
  obtain rfl := Option.some.inj h
  exact ⟨rfl, ⟨_, hf.sub ⟨rfl, rfl, trivial⟩, hp⟩⟩

noncomputable def f_foghornlaw22_sameBits.s1c (a0 : (List Bool)) (b1 : (List Bool)) (i5 : Int) : Option (Int ⊕ (Unit ⊕ Bool)) := (if (decide (i5 < (a0.length : Int))) = true then (if 0 ≤ i5 ∧ i5 < (a0.length : Int) then (if 0 ≤ i5 ∧ i5 < (b1.length : Int) then (if ((gt a0 i5) != (gt b1 i5)) = true then (some (Sum.inr (Sum.inr false))) else (some (Sum.inl (IntKind.i64.wrap (i5 + (1 : Int)))))) else none) else none) else (some (Sum.inr (Sum.inl ()))))
noncomputable def f_foghornlaw22_sameBits.s1 (a0 : (List Bool)) (b1 : (List Bool)) (s : Int) : Option (Int ⊕ (Unit ⊕ Bool)) := f_foghornlaw22_sameBits.s1c a0 b1 s
noncomputable def f_foghornlaw22_sameBits (a0 : (List Bool)) (b1 : (List Bool)) : Option Bool := (if ((a0.length : Int) != (b1.length : Int)) = true then (some false) else ((loop (f_foghornlaw22_sameBits.s1 a0 b1) (0 : Int)).bind (fun q3 => sm q3 (fun q4 => (some true)) (fun q5 => (some q5)))))
theorem f_foghornlaw22_sameBits_c {S : Nat → Prop} {w0 w : World} {ow : List Res} (hp : Hp S w0 w ow) (va0 : Value) (a0 : (List Bool)) (ha0 : RdS Ek.bool S w0 va0 a0) (vb1 : Value) (b1 : (List Bool)) (hb1 : RdS Ek.bool S w0 vb1 b1) {r : Bool} (h : f_foghornlaw22_sameBits a0 b1 = some r) :
    Calls Try.prog 13 #[va0, vb1] w (fun e w' => e = .returned (.bool r) ∧ Hp S w0 w' (ow)) := by
  unfold f_foghornlaw22_sameBits at h
  refine enter (n := 26) (args := [va0, vb1]) Try.func13 rfl rfl (Nat.le_of_ble_eq_true rfl) fun a hf => ?_
  replace hf : Fr 26 a [(0, va0), (1, vb1)] := hf
  refine wp_mono (Q := fun e a w => e = .ret ∧ Fr 26 a [(4, .bool r)] ∧ Hp S w0 w (ow)) ?_ ?_
  rotate_left
  · rintro e a w ⟨rfl, hf, hp⟩
    exact ret1 hf rfl rfl ⟨rfl, hp⟩
  refine wp_seq ?_
  refine wp_reg ?_
  refine st_assign hf rfl rfl (by decide) ?_
  clear hf; intro a ha hf; clear ha
  refine st_nil hf ?_
  refine th_n ?_
  refine wp_seq ?_
  refine wp_seq ?_
  refine wp_reg ?_
  refine st_move hf rfl rfl (by decide) ?_
  clear hf; intro a ha hf; clear ha
  refine st_len (E := Ek.bool) hf (by decide) Try.underlying22 rfl rfl (ha0.sl hp) ?_
  clear hf; intro a ha hf; clear ha
  refine st_move hf rfl rfl (by decide) ?_
  clear hf; intro a ha hf; clear ha
  refine st_len (E := Ek.bool) hf (by decide) Try.underlying22 rfl rfl (hb1.sl hp) ?_
  clear hf; intro a ha hf; clear ha
  refine st_ineq hf (by decide) rfl rfl rfl ?_
  clear hf; intro a ha hf; clear ha
  refine st_nil hf ?_
  refine th_n ?_
  refine wp_if hf rfl (fun hb => ?_) (fun hb => ?_)
  · replace h := ifT h hb
    refine wp_seq ?_
    refine wp_reg ?_
    refine st_assign hf rfl rfl (by decide) ?_
    clear hf; intro a ha hf; clear ha
    refine st_nil hf ?_
    refine th_n ?_
    refine wp_ret ?_
    refine th_r ?_
    obtain rfl := Option.some.inj h
    exact ⟨rfl, ⟨hf.sub ⟨rfl, trivial⟩, hp⟩⟩
  replace h := ifF h hb
  refine wp_skip ?_
  refine th_n ?_
  refine wp_seq ?_
  refine wp_seq ?_
  refine wp_reg ?_
  refine st_assign hf rfl rfl (by decide) ?_
  clear hf; intro a ha hf; clear ha
  refine st_nil hf ?_
  refine th_n ?_
  refine wp_block ?_
  obtain ⟨q3, hl, h⟩ := bnd h
  refine wp_loop_pure (f := (f_foghornlaw22_sameBits.s1 a0 b1)) (s := (0 : Int)) (fun s a w => Fr 26 a [(0, va0), (1, vb1), (5, .int .i64 s)] ∧ Hp S w0 w (ow)) (fun q e a w => match q with | (Sum.inl q) => e = .exit 0 ∧ Fr 26 a [] ∧ Hp S w0 w (ow) | (Sum.inr q) => e = .ret ∧ Fr 26 a [(4, .bool q)] ∧ Hp S w0 w (ow)) ?_ hl ⟨hf.sub ⟨rfl, rfl, rfl, trivial⟩, hp⟩ ?_
  · clear hl hf hp
    intro s x a w h hI
    obtain ⟨i5, hs⟩ : ∃ z, z = s := ⟨s, rfl⟩; subst hs
    obtain ⟨hf, hp⟩ : Fr 26 a [(0, va0), (1, vb1), (5, .int .i64 i5)] ∧ Hp S w0 w (ow) := hI
    replace h : f_foghornlaw22_sameBits.s1c a0 b1 i5 = some x := h
    unfold f_foghornlaw22_sameBits.s1c at h
    refine wp_seq ?_
    refine wp_seq ?_
    refine wp_reg ?_
    refine st_move hf rfl rfl (by decide) ?_
    clear hf; intro a ha hf; clear ha
    refine st_move hf rfl rfl (by decide) ?_
    clear hf; intro a ha hf; clear ha
    refine st_len (E := Ek.bool) hf (by decide) Try.underlying22 rfl rfl (ha0.sl hp) ?_
    clear hf; intro a ha hf; clear ha
    refine st_ilss hf (by decide) rfl rfl rfl ?_
    clear hf; intro a ha hf; clear ha
    refine st_nil hf ?_
    refine th_n ?_
    refine wp_if hf rfl (fun hb => ?_) (fun hb => ?_)
    · replace h := ifT h hb
      refine wp_skip ?_
      refine th_n ?_
      refine wp_seq ?_
      refine wp_block ?_
      refine wp_seq ?_
      obtain ⟨hc1, h⟩ := chk h
      obtain ⟨hc2, h⟩ := chk h
      refine wp_cutN (fun a w => Fr 26 a [(0, va0), (1, vb1), (5, .int .i64 i5), (25, .bool ((gt a0 i5) != (gt b1 i5)))] ∧ Hp S w0 w (ow)) ?_ ?_
      · have hp := hp.same (Same.drew w)
        refine dr_begin' (fun a w => Fr 26 a [(0, va0), (1, vb1), (5, .int .i64 i5), (25, .bool ((gt a0 i5) != (gt b1 i5)))] ∧ Hp S w0 w (ow)) (fun w' => ∃ l, Hp S w0 w' l) [] (by kernel_rfl) ?_
        refine dr_take 0 (va0) rfl (by kernel_rfl) (by kernel_rfl) (by kernel_rfl) (by kernel_rfl) rfl rfl hf (by decide) rfl (fun w hp => ?_) ⟨_, hp⟩ ?_
        · obtain ⟨_, hp⟩ := hp
          refine st_move hf rfl rfl (by decide) ?_
          clear hf; intro a ha hf
          exact st_nil hf (th_n ⟨ha, rfl⟩)
        clear hf; intro a hf
        refine dr_take 1 (.int .i64 i5) rfl (by kernel_rfl) (by kernel_rfl) (by kernel_rfl) (by kernel_rfl) rfl rfl hf (by decide) rfl (fun w hp => ?_) ⟨_, hp⟩ ?_
        · obtain ⟨_, hp⟩ := hp
          refine st_move hf rfl rfl (by decide) ?_
          clear hf; intro a ha hf
          exact st_nil hf (th_n ⟨ha, rfl⟩)
        clear hf; intro a hf
        refine dr_take 2 (eptr va0 i5 1) rfl (by kernel_rfl) (by kernel_rfl) (by kernel_rfl) (by kernel_rfl) rfl rfl hf (by decide) rfl (fun w hp => ?_) ⟨_, hp⟩ ?_
        · obtain ⟨_, hp⟩ := hp
          refine st_index (E := Ek.bool) hf (by decide) Try.underlying22 elt4 rfl rfl rfl (ha0.sl hp) hc1.1 hc1.2 ?_
          clear hf; intro a ha hf
          exact st_nil hf (th_n ⟨ha, rfl⟩)
        clear hf; intro a hf
        refine dr_take 3 (.bool (gt a0 i5)) rfl (by kernel_rfl) (by kernel_rfl) (by kernel_rfl) (by kernel_rfl) rfl rfl hf (by decide) rfl (fun w hp => ?_) ⟨_, hp⟩ ?_
        · obtain ⟨_, hp⟩ := hp
          refine st_ldB hf (by decide) pl4 rfl rfl (ha0.sl hp) hc1.1 hc1.2 ?_
          clear hf; intro a ha hf
          exact st_nil hf (th_n ⟨ha, rfl⟩)
        clear hf; intro a hf
        refine dr_take 4 (vb1) rfl (by kernel_rfl) (by kernel_rfl) (by kernel_rfl) (by kernel_rfl) rfl rfl hf (by decide) rfl (fun w hp => ?_) ⟨_, hp⟩ ?_
        · obtain ⟨_, hp⟩ := hp
          refine st_move hf rfl rfl (by decide) ?_
          clear hf; intro a ha hf
          exact st_nil hf (th_n ⟨ha, rfl⟩)
        clear hf; intro a hf
        refine dr_take 5 (.int .i64 i5) rfl (by kernel_rfl) (by kernel_rfl) (by kernel_rfl) (by kernel_rfl) rfl rfl hf (by decide) rfl (fun w hp => ?_) ⟨_, hp⟩ ?_
        · obtain ⟨_, hp⟩ := hp
          refine st_move hf rfl rfl (by decide) ?_
          clear hf; intro a ha hf
          exact st_nil hf (th_n ⟨ha, rfl⟩)
        clear hf; intro a hf
        refine dr_take 6 (eptr vb1 i5 1) rfl (by kernel_rfl) (by kernel_rfl) (by kernel_rfl) (by kernel_rfl) rfl rfl hf (by decide) rfl (fun w hp => ?_) ⟨_, hp⟩ ?_
        · obtain ⟨_, hp⟩ := hp
          refine st_index (E := Ek.bool) hf (by decide) Try.underlying22 elt4 rfl rfl rfl (hb1.sl hp) hc2.1 hc2.2 ?_
          clear hf; intro a ha hf
          exact st_nil hf (th_n ⟨ha, rfl⟩)
        clear hf; intro a hf
        refine dr_take 7 (.bool (gt b1 i5)) rfl (by kernel_rfl) (by kernel_rfl) (by kernel_rfl) (by kernel_rfl) rfl rfl hf (by decide) rfl (fun w hp => ?_) ⟨_, hp⟩ ?_
        · obtain ⟨_, hp⟩ := hp
          refine st_ldB hf (by decide) pl4 rfl rfl (hb1.sl hp) hc2.1 hc2.2 ?_
          clear hf; intro a ha hf
          exact st_nil hf (th_n ⟨ha, rfl⟩)
        clear hf; intro a hf
        refine dr_take 8 (.bool ((gt a0 i5) != (gt b1 i5))) rfl (by kernel_rfl) (by kernel_rfl) (by kernel_rfl) (by kernel_rfl) rfl rfl hf (by decide) rfl (fun w hp => ?_) ⟨_, hp⟩ ?_
        · obtain ⟨_, hp⟩ := hp
          refine st_bneq hf (by decide) Try.underlying4 rfl rfl rfl ?_
          clear hf; intro a ha hf
          exact st_nil hf (th_n ⟨ha, rfl⟩)
        clear hf; intro a hf
        refine dr_end (by kernel_rfl) ?_ _
        exact ⟨hf.sub ⟨rfl, rfl, rfl, rfl, trivial⟩, hp⟩
      rintro a w ⟨hf, hp⟩
      refine th_n ?_
      refine wp_if hf rfl (fun hb => ?_) (fun hb => ?_)
      · replace h := ifT h hb
        refine wp_seq ?_
        refine wp_reg ?_
        refine st_assign hf rfl rfl (by decide) ?_
        clear hf; intro a ha hf; clear ha
        refine st_nil hf ?_
        refine th_n ?_
        refine wp_ret ?_
        refine ib_r ?_
        refine th_r ?_
        obtain rfl := Option.some.inj h
        exact rnd_r (by simp) ⟨rfl, ⟨hf.sub ⟨rfl, trivial⟩, hp⟩⟩
      replace h := ifF h hb
      refine wp_skip ?_
      refine ib_n ?_
      refine th_n ?_
      refine wp_reg ?_
      refine st_move hf rfl rfl (by decide) ?_
      clear hf; intro a ha hf; clear ha
      refine st_iadd hf (by decide) rfl rfl rfl ?_
      clear hf; intro a ha hf; clear ha
      refine st_assign hf rfl rfl (by decide) ?_
      clear hf; intro a ha hf; clear ha
      refine st_nil hf ?_
      obtain rfl := Option.some.inj h
      exact rnd_l ⟨hf.sub ⟨rfl, rfl, rfl, trivial⟩, hp⟩
    replace h := ifF h hb
    refine wp_exit ?_
    refine th_e ?_
    obtain rfl := Option.some.inj h
    exact rnd_r (by simp) ⟨rfl, hf.sub trivial, hp⟩
  clear hl hf hp
  intro e a w hne hO
  rcases q3 with q4 | q5
  · replace h := smL h
    obtain ⟨rfl, hf, hp⟩ := hO
    refine ib_same ?_
    refine th_n ?_
    refine wp_seq ?_
    refine wp_reg ?_
    refine st_assign hf rfl rfl (by decide) ?_
    clear hf; intro a ha hf; clear ha
    refine st_nil hf ?_
    refine th_n ?_
    refine wp_ret ?_
    obtain rfl := Option.some.inj h
    exact ⟨rfl, ⟨hf.sub ⟨rfl, trivial⟩, hp⟩⟩
  replace h := smR h
  obtain ⟨rfl, hf, hp⟩ := hO
  refine ib_r ?_
  refine th_r ?_
  obtain rfl := Option.some.inj h
  exact ⟨rfl, ⟨hf.sub ⟨rfl, trivial⟩, hp⟩⟩

noncomputable def f_foghornlaw22_sameMarks.s1c (a0 : (List Int)) (b1 : (List Int)) (i5 : Int) : Option (Int ⊕ (Unit ⊕ Bool)) := (if (decide (i5 < (a0.length : Int))) = true then (if 0 ≤ i5 ∧ i5 < (a0.length : Int) then (if 0 ≤ i5 ∧ i5 < (b1.length : Int) then (if ((gt a0 i5) != (gt b1 i5)) = true then (some (Sum.inr (Sum.inr false))) else (some (Sum.inl (IntKind.i64.wrap (i5 + (1 : Int)))))) else none) else none) else (some (Sum.inr (Sum.inl ()))))
noncomputable def f_foghornlaw22_sameMarks.s1 (a0 : (List Int)) (b1 : (List Int)) (s : Int) : Option (Int ⊕ (Unit ⊕ Bool)) := f_foghornlaw22_sameMarks.s1c a0 b1 s
noncomputable def f_foghornlaw22_sameMarks (a0 : (List Int)) (b1 : (List Int)) : Option Bool := (if ((a0.length : Int) != (b1.length : Int)) = true then (some false) else ((loop (f_foghornlaw22_sameMarks.s1 a0 b1) (0 : Int)).bind (fun q3 => sm q3 (fun q4 => (some true)) (fun q5 => (some q5)))))
theorem f_foghornlaw22_sameMarks_c {S : Nat → Prop} {w0 w : World} {ow : List Res} (hp : Hp S w0 w ow) (va0 : Value) (a0 : (List Int)) (ha0 : RdS (Ek.int .u8) S w0 va0 a0) (vb1 : Value) (b1 : (List Int)) (hb1 : RdS (Ek.int .u8) S w0 vb1 b1) {r : Bool} (h : f_foghornlaw22_sameMarks a0 b1 = some r) :
    Calls Try.prog 14 #[va0, vb1] w (fun e w' => e = .returned (.bool r) ∧ Hp S w0 w' (ow)) := by
  unfold f_foghornlaw22_sameMarks at h
  refine enter (n := 26) (args := [va0, vb1]) Try.func14 rfl rfl (Nat.le_of_ble_eq_true rfl) fun a hf => ?_
  replace hf : Fr 26 a [(0, va0), (1, vb1)] := hf
  refine wp_mono (Q := fun e a w => e = .ret ∧ Fr 26 a [(4, .bool r)] ∧ Hp S w0 w (ow)) ?_ ?_
  rotate_left
  · rintro e a w ⟨rfl, hf, hp⟩
    exact ret1 hf rfl rfl ⟨rfl, hp⟩
  refine wp_seq ?_
  refine wp_reg ?_
  refine st_assign hf rfl rfl (by decide) ?_
  clear hf; intro a ha hf; clear ha
  refine st_nil hf ?_
  refine th_n ?_
  refine wp_seq ?_
  refine wp_seq ?_
  refine wp_reg ?_
  refine st_move hf rfl rfl (by decide) ?_
  clear hf; intro a ha hf; clear ha
  refine st_len (E := (Ek.int .u8)) hf (by decide) Try.underlying26 rfl rfl (ha0.sl hp) ?_
  clear hf; intro a ha hf; clear ha
  refine st_move hf rfl rfl (by decide) ?_
  clear hf; intro a ha hf; clear ha
  refine st_len (E := (Ek.int .u8)) hf (by decide) Try.underlying29 rfl rfl (hb1.sl hp) ?_
  clear hf; intro a ha hf; clear ha
  refine st_ineq hf (by decide) rfl rfl rfl ?_
  clear hf; intro a ha hf; clear ha
  refine st_nil hf ?_
  refine th_n ?_
  refine wp_if hf rfl (fun hb => ?_) (fun hb => ?_)
  · replace h := ifT h hb
    refine wp_seq ?_
    refine wp_reg ?_
    refine st_assign hf rfl rfl (by decide) ?_
    clear hf; intro a ha hf; clear ha
    refine st_nil hf ?_
    refine th_n ?_
    refine wp_ret ?_
    refine th_r ?_
    obtain rfl := Option.some.inj h
    exact ⟨rfl, ⟨hf.sub ⟨rfl, trivial⟩, hp⟩⟩
  replace h := ifF h hb
  refine wp_skip ?_
  refine th_n ?_
  refine wp_seq ?_
  refine wp_seq ?_
  refine wp_reg ?_
  refine st_assign hf rfl rfl (by decide) ?_
  clear hf; intro a ha hf; clear ha
  refine st_nil hf ?_
  refine th_n ?_
  refine wp_block ?_
  obtain ⟨q3, hl, h⟩ := bnd h
  refine wp_loop_pure (f := (f_foghornlaw22_sameMarks.s1 a0 b1)) (s := (0 : Int)) (fun s a w => Fr 26 a [(0, va0), (1, vb1), (5, .int .i64 s)] ∧ Hp S w0 w (ow)) (fun q e a w => match q with | (Sum.inl q) => e = .exit 0 ∧ Fr 26 a [] ∧ Hp S w0 w (ow) | (Sum.inr q) => e = .ret ∧ Fr 26 a [(4, .bool q)] ∧ Hp S w0 w (ow)) ?_ hl ⟨hf.sub ⟨rfl, rfl, rfl, trivial⟩, hp⟩ ?_
  · clear hl hf hp
    intro s x a w h hI
    obtain ⟨i5, hs⟩ : ∃ z, z = s := ⟨s, rfl⟩; subst hs
    obtain ⟨hf, hp⟩ : Fr 26 a [(0, va0), (1, vb1), (5, .int .i64 i5)] ∧ Hp S w0 w (ow) := hI
    replace h : f_foghornlaw22_sameMarks.s1c a0 b1 i5 = some x := h
    unfold f_foghornlaw22_sameMarks.s1c at h
    refine wp_seq ?_
    refine wp_seq ?_
    refine wp_reg ?_
    refine st_move hf rfl rfl (by decide) ?_
    clear hf; intro a ha hf; clear ha
    refine st_move hf rfl rfl (by decide) ?_
    clear hf; intro a ha hf; clear ha
    refine st_len (E := (Ek.int .u8)) hf (by decide) Try.underlying26 rfl rfl (ha0.sl hp) ?_
    clear hf; intro a ha hf; clear ha
    refine st_ilss hf (by decide) rfl rfl rfl ?_
    clear hf; intro a ha hf; clear ha
    refine st_nil hf ?_
    refine th_n ?_
    refine wp_if hf rfl (fun hb => ?_) (fun hb => ?_)
    · replace h := ifT h hb
      refine wp_skip ?_
      refine th_n ?_
      refine wp_seq ?_
      refine wp_block ?_
      refine wp_seq ?_
      obtain ⟨hc1, h⟩ := chk h
      obtain ⟨hc2, h⟩ := chk h
      refine wp_cutN (fun a w => Fr 26 a [(0, va0), (1, vb1), (5, .int .i64 i5), (25, .bool ((gt a0 i5) != (gt b1 i5)))] ∧ Hp S w0 w (ow)) ?_ ?_
      · have hp := hp.same (Same.drew w)
        refine dr_begin' (fun a w => Fr 26 a [(0, va0), (1, vb1), (5, .int .i64 i5), (25, .bool ((gt a0 i5) != (gt b1 i5)))] ∧ Hp S w0 w (ow)) (fun w' => ∃ l, Hp S w0 w' l) [] (by kernel_rfl) ?_
        refine dr_take 0 (va0) rfl (by kernel_rfl) (by kernel_rfl) (by kernel_rfl) (by kernel_rfl) rfl rfl hf (by decide) rfl (fun w hp => ?_) ⟨_, hp⟩ ?_
        · obtain ⟨_, hp⟩ := hp
          refine st_move hf rfl rfl (by decide) ?_
          clear hf; intro a ha hf
          exact st_nil hf (th_n ⟨ha, rfl⟩)
        clear hf; intro a hf
        refine dr_take 1 (.int .i64 i5) rfl (by kernel_rfl) (by kernel_rfl) (by kernel_rfl) (by kernel_rfl) rfl rfl hf (by decide) rfl (fun w hp => ?_) ⟨_, hp⟩ ?_
        · obtain ⟨_, hp⟩ := hp
          refine st_move hf rfl rfl (by decide) ?_
          clear hf; intro a ha hf
          exact st_nil hf (th_n ⟨ha, rfl⟩)
        clear hf; intro a hf
        refine dr_take 2 (eptr va0 i5 1) rfl (by kernel_rfl) (by kernel_rfl) (by kernel_rfl) (by kernel_rfl) rfl rfl hf (by decide) rfl (fun w hp => ?_) ⟨_, hp⟩ ?_
        · obtain ⟨_, hp⟩ := hp
          refine st_index (E := (Ek.int .u8)) hf (by decide) Try.underlying26 elt51 rfl rfl rfl (ha0.sl hp) hc1.1 hc1.2 ?_
          clear hf; intro a ha hf
          exact st_nil hf (th_n ⟨ha, rfl⟩)
        clear hf; intro a hf
        refine dr_take 3 (.int .u8 (gt a0 i5)) rfl (by kernel_rfl) (by kernel_rfl) (by kernel_rfl) (by kernel_rfl) rfl rfl hf (by decide) rfl (fun w hp => ?_) ⟨_, hp⟩ ?_
        · obtain ⟨_, hp⟩ := hp
          refine st_ldI hf (by decide) pl51 rfl rfl (ha0.sl hp) hc1.1 hc1.2 ?_
          clear hf; intro a ha hf
          exact st_nil hf (th_n ⟨ha, rfl⟩)
        clear hf; intro a hf
        refine dr_take 4 (vb1) rfl (by kernel_rfl) (by kernel_rfl) (by kernel_rfl) (by kernel_rfl) rfl rfl hf (by decide) rfl (fun w hp => ?_) ⟨_, hp⟩ ?_
        · obtain ⟨_, hp⟩ := hp
          refine st_move hf rfl rfl (by decide) ?_
          clear hf; intro a ha hf
          exact st_nil hf (th_n ⟨ha, rfl⟩)
        clear hf; intro a hf
        refine dr_take 5 (.int .i64 i5) rfl (by kernel_rfl) (by kernel_rfl) (by kernel_rfl) (by kernel_rfl) rfl rfl hf (by decide) rfl (fun w hp => ?_) ⟨_, hp⟩ ?_
        · obtain ⟨_, hp⟩ := hp
          refine st_move hf rfl rfl (by decide) ?_
          clear hf; intro a ha hf
          exact st_nil hf (th_n ⟨ha, rfl⟩)
        clear hf; intro a hf
        refine dr_take 6 (eptr vb1 i5 1) rfl (by kernel_rfl) (by kernel_rfl) (by kernel_rfl) (by kernel_rfl) rfl rfl hf (by decide) rfl (fun w hp => ?_) ⟨_, hp⟩ ?_
        · obtain ⟨_, hp⟩ := hp
          refine st_index (E := (Ek.int .u8)) hf (by decide) Try.underlying29 elt5 rfl rfl rfl (hb1.sl hp) hc2.1 hc2.2 ?_
          clear hf; intro a ha hf
          exact st_nil hf (th_n ⟨ha, rfl⟩)
        clear hf; intro a hf
        refine dr_take 7 (.int .u8 (gt b1 i5)) rfl (by kernel_rfl) (by kernel_rfl) (by kernel_rfl) (by kernel_rfl) rfl rfl hf (by decide) rfl (fun w hp => ?_) ⟨_, hp⟩ ?_
        · obtain ⟨_, hp⟩ := hp
          refine st_ldI hf (by decide) pl5 rfl rfl (hb1.sl hp) hc2.1 hc2.2 ?_
          clear hf; intro a ha hf
          exact st_nil hf (th_n ⟨ha, rfl⟩)
        clear hf; intro a hf
        refine dr_take 8 (.bool ((gt a0 i5) != (gt b1 i5))) rfl (by kernel_rfl) (by kernel_rfl) (by kernel_rfl) (by kernel_rfl) rfl rfl hf (by decide) rfl (fun w hp => ?_) ⟨_, hp⟩ ?_
        · obtain ⟨_, hp⟩ := hp
          refine st_ineq hf (by decide) rfl rfl rfl ?_
          clear hf; intro a ha hf
          exact st_nil hf (th_n ⟨ha, rfl⟩)
        clear hf; intro a hf
        refine dr_end (by kernel_rfl) ?_ _
        exact ⟨hf.sub ⟨rfl, rfl, rfl, rfl, trivial⟩, hp⟩
      rintro a w ⟨hf, hp⟩
      refine th_n ?_
      refine wp_if hf rfl (fun hb => ?_) (fun hb => ?_)
      · replace h := ifT h hb
        refine wp_seq ?_
        refine wp_reg ?_
        refine st_assign hf rfl rfl (by decide) ?_
        clear hf; intro a ha hf; clear ha
        refine st_nil hf ?_
        refine th_n ?_
        refine wp_ret ?_
        refine ib_r ?_
        refine th_r ?_
        obtain rfl := Option.some.inj h
        exact rnd_r (by simp) ⟨rfl, ⟨hf.sub ⟨rfl, trivial⟩, hp⟩⟩
      replace h := ifF h hb
      refine wp_skip ?_
      refine ib_n ?_
      refine th_n ?_
      refine wp_reg ?_
      refine st_move hf rfl rfl (by decide) ?_
      clear hf; intro a ha hf; clear ha
      refine st_iadd hf (by decide) rfl rfl rfl ?_
      clear hf; intro a ha hf; clear ha
      refine st_assign hf rfl rfl (by decide) ?_
      clear hf; intro a ha hf; clear ha
      refine st_nil hf ?_
      obtain rfl := Option.some.inj h
      exact rnd_l ⟨hf.sub ⟨rfl, rfl, rfl, trivial⟩, hp⟩
    replace h := ifF h hb
    refine wp_exit ?_
    refine th_e ?_
    obtain rfl := Option.some.inj h
    exact rnd_r (by simp) ⟨rfl, hf.sub trivial, hp⟩
  clear hl hf hp
  intro e a w hne hO
  rcases q3 with q4 | q5
  · replace h := smL h
    obtain ⟨rfl, hf, hp⟩ := hO
    refine ib_same ?_
    refine th_n ?_
    refine wp_seq ?_
    refine wp_reg ?_
    refine st_assign hf rfl rfl (by decide) ?_
    clear hf; intro a ha hf; clear ha
    refine st_nil hf ?_
    refine th_n ?_
    refine wp_ret ?_
    obtain rfl := Option.some.inj h
    exact ⟨rfl, ⟨hf.sub ⟨rfl, trivial⟩, hp⟩⟩
  replace h := smR h
  obtain ⟨rfl, hf, hp⟩ := hO
  refine ib_r ?_
  refine th_r ?_
  obtain rfl := Option.some.inj h
  exact ⟨rfl, ⟨hf.sub ⟨rfl, trivial⟩, hp⟩⟩

noncomputable def f_foghornlaw22_works  : Option Bool := ((f_hard_Marks ([true, true, false, false, true, true])).bind fun q3 => ((f_foghornlaw22_short).bind fun q12 => ((f_hard_Path q12.1 q12.2.1 q12.2.2 q3).bind fun q14 => ((f_foghornlaw22_short).bind fun q23 => ((f_hard_Cost q23.1 q23.2.1 q23.2.2 ([true]) q3).bind fun q27 => ((f_hard_Fill ([true, false, true]) ([true, true, false]) (4 : Int)).bind fun q43 => ((if (((q14.2.2 == (0 : Int)) && (q27.2 == (0 : Int))) && (q43.2 == (0 : Int))) = true then ((f_foghornlaw22_sameBits q14.1 ([true])).bind fun q66 => (some q66)) else (some false)).bind fun z63 => ((if ((z63 && (q14.2.1 == (1 : Int))) && (q27.1 == (1 : Int))) = true then ((f_foghornlaw22_sameMarks q43.1 ([(1 : Int), (0 : Int), (2 : Int), (1 : Int)])).bind fun q87 => (some q87)) else (some false)).bind fun z84 => (some z84)))))))))
theorem f_foghornlaw22_works_c {S : Nat → Prop} {w0 w : World} {ow : List Res} (hp : Hp S w0 w ow) {r : Bool} (h : f_foghornlaw22_works = some r) :
    Calls Try.prog 23 #[] w (fun e w' => e = .returned (.bool r) ∧ Hp S w0 w' (ow)) := by
  unfold f_foghornlaw22_works at h
  refine enter (n := 59) (args := []) Try.func23 rfl rfl (Nat.le_of_ble_eq_true rfl) fun a hf => ?_
  replace hf : Fr 59 a [] := hf
  refine wp_mono (Q := fun e a w => e = .ret ∧ Fr 59 a [(0, .bool r)] ∧ Hp S w0 w (ow)) ?_ ?_
  rotate_left
  · rintro e a w ⟨rfl, hf, hp⟩
    exact ret1 hf rfl rfl ⟨rfl, hp⟩
  refine wp_seq ?_
  refine wp_reg ?_
  refine st_assign hf rfl rfl (by decide) ?_
  clear hf; intro a ha hf; clear ha
  refine st_nil hf ?_
  refine th_n ?_
  refine wp_seq ?_
  refine wp_reg ?_
  refine st_build (E := Ek.bool) (xs := [true, true, false, false, true, true]) hf (by decide) elt4 Try.underlying22 hp (vals := #[(0, .bool true), (1, .bool true), (2, .bool false), (3, .bool false), (4, .bool true), (5, .bool true)]) (cells := #[.bool true, .bool true, .bool false, .bool false, .bool true, .bool true]) rfl (by simp [hf.ev (x := (Operand.const (.bool true))) rfl, hf.ev (x := (Operand.const (.bool true))) rfl, hf.ev (x := (Operand.const (.bool false))) rfl, hf.ev (x := (Operand.const (.bool false))) rfl, hf.ev (x := (Operand.const (.bool true))) rfl, hf.ev (x := (Operand.const (.bool true))) rfl]) (by decide) (by decide) (z := .bool false) (by kernel_rfl) (by kernel_rfl) rfl (reps_cons (cs := [.bool true]) rfl (reps_cons (cs := [.bool true]) rfl (reps_cons (cs := [.bool false]) rfl (reps_cons (cs := [.bool false]) rfl (reps_cons (cs := [.bool true]) rfl (reps_cons (cs := [.bool true]) rfl (reps_nil _))))))) ?_
  clear hf; intro a w v1 hf hp0; clear hp; have hp := hp0; clear hp0
  replace hp : Hp _ _ _ (Res.sl Ek.bool 4 v1 ([true, true, false, false, true, true]) :: ow) := hp
  obtain ⟨q3, hcall4, h⟩ := bnd h
  obtain ⟨S5, hp6, rd7, up8, bk9⟩ := Hp.lendS hp (i := 0) rfl
  refine st_call hf (by decide) Try.func15 rfl rfl rfl rfl rfl (f_hard_Marks_c hp6 _ _ rd7 hcall4) ?_
  rintro _ w ⟨v10, rfl, hp0⟩
  have hp0 := bk9 _ _ hp0
  clear hp; have hp := hp0; clear hp0
  replace hp : Hp _ _ _ (Res.sl Ek.bool 4 v1 ([true, true, false, false, true, true]) :: Res.sl (Ek.int .u8) 51 v10 q3 :: ow) := hp
  refine ⟨_, rfl, ?_⟩
  clear hf; intro a hf
  refine st_assign hf rfl rfl (by decide) ?_
  clear hf; intro a ha hf; clear ha
  refine st_nil hf ?_
  refine th_n ?_
  refine wp_seq ?_
  refine wp_reg ?_
  obtain ⟨q12, hcall13, h⟩ := bnd h
  refine st_call hf (by decide) Try.func26 rfl rfl rfl rfl rfl (f_foghornlaw22_short_c hp  hcall13) ?_
  rintro _ w ⟨rfl, hp0⟩
  clear hp; have hp := hp0; clear hp0
  replace hp : Hp _ _ _ (Res.sl Ek.bool 4 v1 ([true, true, false, false, true, true]) :: Res.sl (Ek.int .u8) 51 v10 q3 :: ow) := hp
  refine ⟨_, rfl, ?_⟩
  clear hf; intro a hf
  refine st_move hf rfl rfl (by decide) ?_
  clear hf; intro a ha hf; clear ha
  obtain ⟨q14, hcall15, h⟩ := bnd h
  obtain ⟨S16, hp17, rd18, up19, bk20⟩ := Hp.lendS hp (i := 1) rfl
  refine st_call hf (by decide) Try.func19 rfl rfl rfl rfl rfl (f_hard_Path_c hp17 _ _ _ _ _ rd18 hcall15) ?_
  rintro _ w ⟨v21, rfl, hp0⟩
  have hp0 := bk20 _ _ hp0
  clear hp; have hp := hp0; clear hp0
  replace hp : Hp _ _ _ (Res.sl (Ek.int .u8) 51 v10 q3 :: Res.sl Ek.bool 4 v21 q14.1 :: Res.sl Ek.bool 4 v1 ([true, true, false, false, true, true]) :: ow) := hp
  refine ⟨_, rfl, ?_⟩
  clear hf; intro a hf
  refine st_move hf rfl rfl (by decide) ?_
  clear hf; intro a ha hf; clear ha
  refine st_extract hf (by decide) rfl rfl rfl ?_
  clear hf; intro a ha hf; clear ha
  refine st_extract hf (by decide) rfl rfl rfl ?_
  clear hf; intro a ha hf; clear ha
  refine st_extract hf (by decide) rfl rfl rfl ?_
  clear hf; intro a ha hf; clear ha
  refine st_assign hf rfl rfl (by decide) ?_
  clear hf; intro a ha hf; clear ha
  refine st_assign hf rfl rfl (by decide) ?_
  clear hf; intro a ha hf; clear ha
  refine st_assign hf rfl rfl (by decide) ?_
  clear hf; intro a ha hf; clear ha
  refine st_nil hf ?_
  refine th_n ?_
  refine wp_seq ?_
  refine wp_reg ?_
  obtain ⟨q23, hcall24, h⟩ := bnd h
  refine st_call hf (by decide) Try.func26 rfl rfl rfl rfl rfl (f_foghornlaw22_short_c hp  hcall24) ?_
  rintro _ w ⟨rfl, hp0⟩
  clear hp; have hp := hp0; clear hp0
  replace hp : Hp _ _ _ (Res.sl (Ek.int .u8) 51 v10 q3 :: Res.sl Ek.bool 4 v21 q14.1 :: Res.sl Ek.bool 4 v1 ([true, true, false, false, true, true]) :: ow) := hp
  refine ⟨_, rfl, ?_⟩
  clear hf; intro a hf
  refine st_build (E := Ek.bool) (xs := [true]) hf (by decide) elt4 Try.underlying22 hp (vals := #[(0, .bool true)]) (cells := #[.bool true]) rfl (by simp [hf.ev (x := (Operand.const (.bool true))) rfl]) (by decide) (by decide) (z := .bool false) (by kernel_rfl) (by kernel_rfl) rfl (reps_cons (cs := [.bool true]) rfl (reps_nil _)) ?_
  clear hf; intro a w v25 hf hp0; clear hp; have hp := hp0; clear hp0
  replace hp : Hp _ _ _ (Res.sl Ek.bool 4 v25 ([true]) :: Res.sl (Ek.int .u8) 51 v10 q3 :: Res.sl Ek.bool 4 v21 q14.1 :: Res.sl Ek.bool 4 v1 ([true, true, false, false, true, true]) :: ow) := hp
  refine st_move hf rfl rfl (by decide) ?_
  clear hf; intro a ha hf; clear ha
  obtain ⟨q27, hcall28, h⟩ := bnd h
  obtain ⟨S29, hp30, rd31, up32, bk33⟩ := Hp.lendS hp (i := 0) rfl
  obtain ⟨S34, hp35, rd36, up37, bk38⟩ := Hp.lendS hp30 (i := 0) rfl
  refine st_call hf (by decide) Try.func21 rfl rfl rfl rfl rfl (f_hard_Cost_c hp35 _ _ _ _ _ ((rd31.now hp30).mono up37) _ _ rd36 hcall28) ?_
  rintro _ w ⟨rfl, hp0⟩
  have hp0 := bk38 _ _ hp0
  have hp0 := bk33 _ _ hp0
  clear hp; have hp := hp0; clear hp0
  replace hp : Hp _ _ _ (Res.sl Ek.bool 4 v25 ([true]) :: Res.sl (Ek.int .u8) 51 v10 q3 :: Res.sl Ek.bool 4 v21 q14.1 :: Res.sl Ek.bool 4 v1 ([true, true, false, false, true, true]) :: ow) := hp
  refine ⟨_, rfl, ?_⟩
  clear hf; intro a hf
  refine st_move hf rfl rfl (by decide) ?_
  clear hf; intro a ha hf; clear ha
  refine st_extract hf (by decide) rfl rfl rfl ?_
  clear hf; intro a ha hf; clear ha
  refine st_extract hf (by decide) rfl rfl rfl ?_
  clear hf; intro a ha hf; clear ha
  refine st_assign hf rfl rfl (by decide) ?_
  clear hf; intro a ha hf; clear ha
  refine st_assign hf rfl rfl (by decide) ?_
  clear hf; intro a ha hf; clear ha
  refine st_nil hf ?_
  refine th_n ?_
  refine wp_seq ?_
  refine wp_reg ?_
  refine st_build (E := Ek.bool) (xs := [true, false, true]) hf (by decide) elt4 Try.underlying22 hp (vals := #[(0, .bool true), (1, .bool false), (2, .bool true)]) (cells := #[.bool true, .bool false, .bool true]) rfl (by simp [hf.ev (x := (Operand.const (.bool true))) rfl, hf.ev (x := (Operand.const (.bool false))) rfl, hf.ev (x := (Operand.const (.bool true))) rfl]) (by decide) (by decide) (z := .bool false) (by kernel_rfl) (by kernel_rfl) rfl (reps_cons (cs := [.bool true]) rfl (reps_cons (cs := [.bool false]) rfl (reps_cons (cs := [.bool true]) rfl (reps_nil _)))) ?_
  clear hf; intro a w v39 hf hp0; clear hp; have hp := hp0; clear hp0
  replace hp : Hp _ _ _ (Res.sl Ek.bool 4 v39 ([true, false, true]) :: Res.sl Ek.bool 4 v25 ([true]) :: Res.sl (Ek.int .u8) 51 v10 q3 :: Res.sl Ek.bool 4 v21 q14.1 :: Res.sl Ek.bool 4 v1 ([true, true, false, false, true, true]) :: ow) := hp
  refine st_build (E := Ek.bool) (xs := [true, true, false]) hf (by decide) elt4 Try.underlying22 hp (vals := #[(0, .bool true), (1, .bool true), (2, .bool false)]) (cells := #[.bool true, .bool true, .bool false]) rfl (by simp [hf.ev (x := (Operand.const (.bool true))) rfl, hf.ev (x := (Operand.const (.bool true))) rfl, hf.ev (x := (Operand.const (.bool false))) rfl]) (by decide) (by decide) (z := .bool false) (by kernel_rfl) (by kernel_rfl) rfl (reps_cons (cs := [.bool true]) rfl (reps_cons (cs := [.bool true]) rfl (reps_cons (cs := [.bool false]) rfl (reps_nil _)))) ?_
  clear hf; intro a w v41 hf hp0; clear hp; have hp := hp0; clear hp0
  replace hp : Hp _ _ _ (Res.sl Ek.bool 4 v41 ([true, true, false]) :: Res.sl Ek.bool 4 v39 ([true, false, true]) :: Res.sl Ek.bool 4 v25 ([true]) :: Res.sl (Ek.int .u8) 51 v10 q3 :: Res.sl Ek.bool 4 v21 q14.1 :: Res.sl Ek.bool 4 v1 ([true, true, false, false, true, true]) :: ow) := hp
  obtain ⟨q43, hcall44, h⟩ := bnd h
  obtain ⟨S45, hp46, rd47, up48, bk49⟩ := Hp.lendS hp (i := 1) rfl
  obtain ⟨S50, hp51, rd52, up53, bk54⟩ := Hp.lendS hp46 (i := 0) rfl
  refine st_call hf (by decide) Try.func11 rfl rfl rfl rfl rfl (f_hard_Fill_c hp51 _ _ ((rd47.now hp46).mono up53) _ _ rd52 _ hcall44) ?_
  rintro _ w ⟨v55, rfl, hp0⟩
  have hp0 := bk54 _ _ hp0
  have hp0 := bk49 _ _ hp0
  clear hp; have hp := hp0; clear hp0
  replace hp : Hp _ _ _ (Res.sl Ek.bool 4 v39 ([true, false, true]) :: Res.sl Ek.bool 4 v41 ([true, true, false]) :: Res.sl (Ek.int .u8) 51 v55 q43.1 :: Res.sl Ek.bool 4 v25 ([true]) :: Res.sl (Ek.int .u8) 51 v10 q3 :: Res.sl Ek.bool 4 v21 q14.1 :: Res.sl Ek.bool 4 v1 ([true, true, false, false, true, true]) :: ow) := hp
  refine ⟨_, rfl, ?_⟩
  clear hf; intro a hf
  refine st_move hf rfl rfl (by decide) ?_
  clear hf; intro a ha hf; clear ha
  refine st_extract hf (by decide) rfl rfl rfl ?_
  clear hf; intro a ha hf; clear ha
  refine st_extract hf (by decide) rfl rfl rfl ?_
  clear hf; intro a ha hf; clear ha
  refine st_assign hf rfl rfl (by decide) ?_
  clear hf; intro a ha hf; clear ha
  refine st_assign hf rfl rfl (by decide) ?_
  clear hf; intro a ha hf; clear ha
  refine st_nil hf ?_
  refine th_n ?_
  refine wp_seq ?_
  refine wp_reg ?_
  refine st_move hf rfl rfl (by decide) ?_
  clear hf; intro a ha hf; clear ha
  refine st_ieql hf (by decide) rfl rfl rfl ?_
  clear hf; intro a ha hf; clear ha
  refine st_move hf rfl rfl (by decide) ?_
  clear hf; intro a ha hf; clear ha
  refine wpList_cut 3 (fun a w => Fr 59 a [(2, v21), (3, .int .i64 q14.2.1), (5, .int .i64 q27.1), (7, v55), (8, .int .i64 q43.2), (36, .bool ((q14.2.2 == (0 : Int)) && (q27.2 == (0 : Int))))] ∧ Hp S w0 w (Res.sl Ek.bool 4 v39 ([true, false, true]) :: Res.sl Ek.bool 4 v41 ([true, true, false]) :: Res.sl (Ek.int .u8) 51 v55 q43.1 :: Res.sl Ek.bool 4 v25 ([true]) :: Res.sl (Ek.int .u8) 51 v10 q3 :: Res.sl Ek.bool 4 v21 q14.1 :: Res.sl Ek.bool 4 v1 ([true, true, false, false, true, true]) :: ow)) ?_ ?_
  · rcases Bool.eq_false_or_eq_true (q14.2.2 == (0 : Int)) with hb58 | hb58
    · skip
      refine st_move hf (wantY hf rfl rfl hb58) rfl (by decide) ?_
      clear hf; intro a ha hf; clear ha
      refine st_ieql hf (by decide) (wantY hf rfl rfl hb58) rfl rfl ?_
      clear hf; intro a ha hf; clear ha
      refine st_pick (v := .bool (q27.2 == (0 : Int))) hf rfl rfl (fun hb' => ?_) (fun hb' => ?_) (by decide) ?_
      · rfl
      · exact absurd (hb58.symm.trans hb') (by decide)
      clear hf; intro a ha hf; clear ha
      refine st_nil hf (th_n ?_)
      exact ⟨hf.sub ⟨rfl, rfl, rfl, rfl, rfl, (by rw [hb58]; rfl), trivial⟩, hp⟩
    refine st_skip hf (wantN hf rfl rfl hb58) rfl (by decide) ?_ rfl
    clear hf; intro a hf
    refine st_skip hf (wantN hf rfl rfl hb58) rfl (by decide) ?_ rfl
    clear hf; intro a hf
    refine st_pick (v := .bool false) hf rfl rfl (fun hb' => ?_) (fun hb' => ?_) (by decide) ?_
    · exact absurd (hb58.symm.trans hb') (by decide)
    · rfl
    clear hf; intro a ha hf; clear ha
    refine st_nil hf (th_n ?_)
    exact ⟨hf.sub ⟨rfl, rfl, rfl, rfl, rfl, (by rw [hb58]; rfl), trivial⟩, hp⟩
  rintro a w ⟨hf, hp⟩
  refine st_move hf rfl rfl (by decide) ?_
  clear hf; intro a ha hf; clear ha
  refine wpList_cut 3 (fun a w => Fr 59 a [(2, v21), (3, .int .i64 q14.2.1), (5, .int .i64 q27.1), (7, v55), (40, .bool (((q14.2.2 == (0 : Int)) && (q27.2 == (0 : Int))) && (q43.2 == (0 : Int))))] ∧ Hp S w0 w (Res.sl Ek.bool 4 v39 ([true, false, true]) :: Res.sl Ek.bool 4 v41 ([true, true, false]) :: Res.sl (Ek.int .u8) 51 v55 q43.1 :: Res.sl Ek.bool 4 v25 ([true]) :: Res.sl (Ek.int .u8) 51 v10 q3 :: Res.sl Ek.bool 4 v21 q14.1 :: Res.sl Ek.bool 4 v1 ([true, true, false, false, true, true]) :: ow)) ?_ ?_
  · rcases Bool.eq_false_or_eq_true ((q14.2.2 == (0 : Int)) && (q27.2 == (0 : Int))) with hb60 | hb60
    · skip
      refine st_move hf (wantY hf rfl rfl hb60) rfl (by decide) ?_
      clear hf; intro a ha hf; clear ha
      refine st_ieql hf (by decide) (wantY hf rfl rfl hb60) rfl rfl ?_
      clear hf; intro a ha hf; clear ha
      refine st_pick (v := .bool (q43.2 == (0 : Int))) hf rfl rfl (fun hb' => ?_) (fun hb' => ?_) (by decide) ?_
      · rfl
      · exact absurd (hb60.symm.trans hb') (by decide)
      clear hf; intro a ha hf; clear ha
      refine st_nil hf (th_n ?_)
      exact ⟨hf.sub ⟨rfl, rfl, rfl, rfl, (by rw [hb60]; rfl), trivial⟩, hp⟩
    refine st_skip hf (wantN hf rfl rfl hb60) rfl (by decide) ?_ rfl
    clear hf; intro a hf
    refine st_skip hf (wantN hf rfl rfl hb60) rfl (by decide) ?_ rfl
    clear hf; intro a hf
    refine st_pick (v := .bool false) hf rfl rfl (fun hb' => ?_) (fun hb' => ?_) (by decide) ?_
    · exact absurd (hb60.symm.trans hb') (by decide)
    · rfl
    clear hf; intro a ha hf; clear ha
    refine st_nil hf (th_n ?_)
    exact ⟨hf.sub ⟨rfl, rfl, rfl, rfl, (by rw [hb60]; rfl), trivial⟩, hp⟩
  rintro a w ⟨hf, hp⟩
  refine st_move hf rfl rfl (by decide) ?_
  clear hf; intro a ha hf; clear ha
  obtain ⟨z63, hz61, h⟩ := bnd h
  refine wpList_cut 4 (fun a w => Fr 59 a [(3, .int .i64 q14.2.1), (5, .int .i64 q27.1), (7, v55), (45, .bool z63)] ∧ Hp S w0 w (Res.sl Ek.bool 4 v39 ([true, false, true]) :: Res.sl Ek.bool 4 v41 ([true, true, false]) :: Res.sl (Ek.int .u8) 51 v55 q43.1 :: Res.sl Ek.bool 4 v25 ([true]) :: Res.sl (Ek.int .u8) 51 v10 q3 :: Res.sl Ek.bool 4 v21 q14.1 :: Res.sl Ek.bool 4 v1 ([true, true, false, false, true, true]) :: ow)) ?_ ?_
  · rcases Bool.eq_false_or_eq_true (((q14.2.2 == (0 : Int)) && (q27.2 == (0 : Int))) && (q43.2 == (0 : Int))) with hb62 | hb62
    · skip
      replace hz61 := ifT hz61 hb62
      refine st_move hf (wantY hf rfl rfl hb62) rfl (by decide) ?_
      clear hf; intro a ha hf; clear ha
      refine st_build (E := Ek.bool) (xs := [true]) hf (by decide) elt4 Try.underlying22 hp (vals := #[(0, .bool true)]) (cells := #[.bool true]) (wantY hf rfl rfl hb62) (by simp [hf.ev (x := (Operand.const (.bool true))) rfl]) (by decide) (by decide) (z := .bool false) (by kernel_rfl) (by kernel_rfl) rfl (reps_cons (cs := [.bool true]) rfl (reps_nil _)) ?_
      clear hf; intro a w v64 hf hp0; clear hp; have hp := hp0; clear hp0
      replace hp : Hp _ _ _ (Res.sl Ek.bool 4 v64 ([true]) :: Res.sl Ek.bool 4 v39 ([true, false, true]) :: Res.sl Ek.bool 4 v41 ([true, true, false]) :: Res.sl (Ek.int .u8) 51 v55 q43.1 :: Res.sl Ek.bool 4 v25 ([true]) :: Res.sl (Ek.int .u8) 51 v10 q3 :: Res.sl Ek.bool 4 v21 q14.1 :: Res.sl Ek.bool 4 v1 ([true, true, false, false, true, true]) :: ow) := hp
      obtain ⟨q66, hcall67, hz61⟩ := bnd hz61
      obtain ⟨S68, hp69, rd70, up71, bk72⟩ := Hp.lendS hp (i := 6) rfl
      obtain ⟨S73, hp74, rd75, up76, bk77⟩ := Hp.lendS hp69 (i := 0) rfl
      refine st_call hf (by decide) Try.func13 rfl rfl (wantY hf rfl rfl hb62) rfl rfl (f_foghornlaw22_sameBits_c hp74 _ _ ((rd70.now hp69).mono up76) _ _ rd75 hcall67) ?_
      rintro _ w ⟨rfl, hp0⟩
      have hp0 := bk77 _ _ hp0
      have hp0 := bk72 _ _ hp0
      clear hp; have hp := hp0; clear hp0
      replace hp : Hp _ _ _ (Res.sl Ek.bool 4 v21 q14.1 :: Res.sl Ek.bool 4 v64 ([true]) :: Res.sl Ek.bool 4 v39 ([true, false, true]) :: Res.sl Ek.bool 4 v41 ([true, true, false]) :: Res.sl (Ek.int .u8) 51 v55 q43.1 :: Res.sl Ek.bool 4 v25 ([true]) :: Res.sl (Ek.int .u8) 51 v10 q3 :: Res.sl Ek.bool 4 v1 ([true, true, false, false, true, true]) :: ow) := hp
      refine ⟨_, rfl, ?_⟩
      clear hf; intro a hf
      obtain rfl := Option.some.inj hz61
      refine st_pick (v := .bool q66) hf rfl rfl (fun hb' => ?_) (fun hb' => ?_) (by decide) ?_
      · rfl
      · exact absurd (hb62.symm.trans hb') (by decide)
      clear hf; intro a ha hf; clear ha
      refine st_nil hf (th_n ?_)
      have hp : Hp _ _ _ (Res.sl Ek.bool 4 v39 ([true, false, true]) :: Res.sl Ek.bool 4 v41 ([true, true, false]) :: Res.sl (Ek.int .u8) 51 v55 q43.1 :: Res.sl Ek.bool 4 v25 ([true]) :: Res.sl (Ek.int .u8) 51 v10 q3 :: Res.sl Ek.bool 4 v21 q14.1 :: Res.sl Ek.bool 4 v1 ([true, true, false, false, true, true]) :: ow) := Hp.sel (pre := [Res.sl Ek.bool 4 v21 q14.1, Res.sl Ek.bool 4 v64 ([true]), Res.sl Ek.bool 4 v39 ([true, false, true]), Res.sl Ek.bool 4 v41 ([true, true, false]), Res.sl (Ek.int .u8) 51 v55 q43.1, Res.sl Ek.bool 4 v25 ([true]), Res.sl (Ek.int .u8) 51 v10 q3, Res.sl Ek.bool 4 v1 ([true, true, false, false, true, true])]) (tail := ow) (rs' := [Res.sl Ek.bool 4 v39 ([true, false, true]), Res.sl Ek.bool 4 v41 ([true, true, false]), Res.sl (Ek.int .u8) 51 v55 q43.1, Res.sl Ek.bool 4 v25 ([true]), Res.sl (Ek.int .u8) 51 v10 q3, Res.sl Ek.bool 4 v21 q14.1, Res.sl Ek.bool 4 v1 ([true, true, false, false, true, true])]) hp [2, 3, 4, 5, 6, 0, 7] (by decide) (by simp) rfl
      exact ⟨hf.sub ⟨rfl, rfl, rfl, rfl, trivial⟩, hp⟩
    replace hz61 := ifF hz61 hb62
    refine st_skip hf (wantN hf rfl rfl hb62) rfl (by decide) ?_ rfl
    clear hf; intro a hf
    refine st_skip hf (wantN hf rfl rfl hb62) rfl (by decide) ?_ rfl
    clear hf; intro a hf
    refine st_skip hf (wantN hf rfl rfl hb62) rfl (by decide) ?_ rfl
    clear hf; intro a hf
    obtain rfl := Option.some.inj hz61
    refine st_pick (v := .bool false) hf rfl rfl (fun hb' => ?_) (fun hb' => ?_) (by decide) ?_
    · exact absurd (hb62.symm.trans hb') (by decide)
    · rfl
    clear hf; intro a ha hf; clear ha
    refine st_nil hf (th_n ?_)
    exact ⟨hf.sub ⟨rfl, rfl, rfl, rfl, trivial⟩, hp⟩
  rintro a w ⟨hf, hp⟩
  refine st_move hf rfl rfl (by decide) ?_
  clear hf; intro a ha hf; clear ha
  refine wpList_cut 3 (fun a w => Fr 59 a [(5, .int .i64 q27.1), (7, v55), (49, .bool (z63 && (q14.2.1 == (1 : Int))))] ∧ Hp S w0 w (Res.sl Ek.bool 4 v39 ([true, false, true]) :: Res.sl Ek.bool 4 v41 ([true, true, false]) :: Res.sl (Ek.int .u8) 51 v55 q43.1 :: Res.sl Ek.bool 4 v25 ([true]) :: Res.sl (Ek.int .u8) 51 v10 q3 :: Res.sl Ek.bool 4 v21 q14.1 :: Res.sl Ek.bool 4 v1 ([true, true, false, false, true, true]) :: ow)) ?_ ?_
  · rcases Bool.eq_false_or_eq_true z63 with hb79 | hb79
    · skip
      refine st_move hf (wantY hf rfl rfl hb79) rfl (by decide) ?_
      clear hf; intro a ha hf; clear ha
      refine st_ieql hf (by decide) (wantY hf rfl rfl hb79) rfl rfl ?_
      clear hf; intro a ha hf; clear ha
      refine st_pick (v := .bool (q14.2.1 == (1 : Int))) hf rfl rfl (fun hb' => ?_) (fun hb' => ?_) (by decide) ?_
      · rfl
      · exact absurd (hb79.symm.trans hb') (by decide)
      clear hf; intro a ha hf; clear ha
      refine st_nil hf (th_n ?_)
      exact ⟨hf.sub ⟨rfl, rfl, (by rw [hb79]; rfl), trivial⟩, hp⟩
    refine st_skip hf (wantN hf rfl rfl hb79) rfl (by decide) ?_ rfl
    clear hf; intro a hf
    refine st_skip hf (wantN hf rfl rfl hb79) rfl (by decide) ?_ rfl
    clear hf; intro a hf
    refine st_pick (v := .bool false) hf rfl rfl (fun hb' => ?_) (fun hb' => ?_) (by decide) ?_
    · exact absurd (hb79.symm.trans hb') (by decide)
    · rfl
    clear hf; intro a ha hf; clear ha
    refine st_nil hf (th_n ?_)
    exact ⟨hf.sub ⟨rfl, rfl, (by rw [hb79]; rfl), trivial⟩, hp⟩
  rintro a w ⟨hf, hp⟩
  refine st_move hf rfl rfl (by decide) ?_
  clear hf; intro a ha hf; clear ha
  refine wpList_cut 3 (fun a w => Fr 59 a [(7, v55), (53, .bool ((z63 && (q14.2.1 == (1 : Int))) && (q27.1 == (1 : Int))))] ∧ Hp S w0 w (Res.sl Ek.bool 4 v39 ([true, false, true]) :: Res.sl Ek.bool 4 v41 ([true, true, false]) :: Res.sl (Ek.int .u8) 51 v55 q43.1 :: Res.sl Ek.bool 4 v25 ([true]) :: Res.sl (Ek.int .u8) 51 v10 q3 :: Res.sl Ek.bool 4 v21 q14.1 :: Res.sl Ek.bool 4 v1 ([true, true, false, false, true, true]) :: ow)) ?_ ?_
  · rcases Bool.eq_false_or_eq_true (z63 && (q14.2.1 == (1 : Int))) with hb81 | hb81
    · skip
      refine st_move hf (wantY hf rfl rfl hb81) rfl (by decide) ?_
      clear hf; intro a ha hf; clear ha
      refine st_ieql hf (by decide) (wantY hf rfl rfl hb81) rfl rfl ?_
      clear hf; intro a ha hf; clear ha
      refine st_pick (v := .bool (q27.1 == (1 : Int))) hf rfl rfl (fun hb' => ?_) (fun hb' => ?_) (by decide) ?_
      · rfl
      · exact absurd (hb81.symm.trans hb') (by decide)
      clear hf; intro a ha hf; clear ha
      refine st_nil hf (th_n ?_)
      exact ⟨hf.sub ⟨rfl, (by rw [hb81]; rfl), trivial⟩, hp⟩
    refine st_skip hf (wantN hf rfl rfl hb81) rfl (by decide) ?_ rfl
    clear hf; intro a hf
    refine st_skip hf (wantN hf rfl rfl hb81) rfl (by decide) ?_ rfl
    clear hf; intro a hf
    refine st_pick (v := .bool false) hf rfl rfl (fun hb' => ?_) (fun hb' => ?_) (by decide) ?_
    · exact absurd (hb81.symm.trans hb') (by decide)
    · rfl
    clear hf; intro a ha hf; clear ha
    refine st_nil hf (th_n ?_)
    exact ⟨hf.sub ⟨rfl, (by rw [hb81]; rfl), trivial⟩, hp⟩
  rintro a w ⟨hf, hp⟩
  refine st_move hf rfl rfl (by decide) ?_
  clear hf; intro a ha hf; clear ha
  obtain ⟨z84, hz82, h⟩ := bnd h
  refine wpList_cut 4 (fun a w => Fr 59 a [(58, .bool z84)] ∧ Hp S w0 w (Res.sl Ek.bool 4 v39 ([true, false, true]) :: Res.sl Ek.bool 4 v41 ([true, true, false]) :: Res.sl (Ek.int .u8) 51 v55 q43.1 :: Res.sl Ek.bool 4 v25 ([true]) :: Res.sl (Ek.int .u8) 51 v10 q3 :: Res.sl Ek.bool 4 v21 q14.1 :: Res.sl Ek.bool 4 v1 ([true, true, false, false, true, true]) :: ow)) ?_ ?_
  · rcases Bool.eq_false_or_eq_true ((z63 && (q14.2.1 == (1 : Int))) && (q27.1 == (1 : Int))) with hb83 | hb83
    · skip
      replace hz82 := ifT hz82 hb83
      refine st_move hf (wantY hf rfl rfl hb83) rfl (by decide) ?_
      clear hf; intro a ha hf; clear ha
      refine st_build (E := (Ek.int .u8)) (xs := [(1 : Int), (0 : Int), (2 : Int), (1 : Int)]) hf (by decide) elt5 Try.underlying29 hp (vals := #[(0, .int .u8 (1 : Int)), (1, .int .u8 (0 : Int)), (2, .int .u8 (2 : Int)), (3, .int .u8 (1 : Int))]) (cells := #[.int .u8 (1 : Int), .int .u8 (0 : Int), .int .u8 (2 : Int), .int .u8 (1 : Int)]) (wantY hf rfl rfl hb83) (by simp [hf.ev (x := (Operand.const (.int .u8 (1 : Int)))) rfl, hf.ev (x := (Operand.const (.int .u8 (0 : Int)))) rfl, hf.ev (x := (Operand.const (.int .u8 (2 : Int)))) rfl, hf.ev (x := (Operand.const (.int .u8 (1 : Int)))) rfl]) (by decide) (by decide) (z := .int .u8 0) (by kernel_rfl) (by kernel_rfl) rfl (reps_cons (cs := [.int .u8 (1 : Int)]) rfl (reps_cons (cs := [.int .u8 (0 : Int)]) rfl (reps_cons (cs := [.int .u8 (2 : Int)]) rfl (reps_cons (cs := [.int .u8 (1 : Int)]) rfl (reps_nil _))))) ?_
      clear hf; intro a w v85 hf hp0; clear hp; have hp := hp0; clear hp0
      replace hp : Hp _ _ _ (Res.sl (Ek.int .u8) 5 v85 ([(1 : Int), (0 : Int), (2 : Int), (1 : Int)]) :: Res.sl Ek.bool 4 v39 ([true, false, true]) :: Res.sl Ek.bool 4 v41 ([true, true, false]) :: Res.sl (Ek.int .u8) 51 v55 q43.1 :: Res.sl Ek.bool 4 v25 ([true]) :: Res.sl (Ek.int .u8) 51 v10 q3 :: Res.sl Ek.bool 4 v21 q14.1 :: Res.sl Ek.bool 4 v1 ([true, true, false, false, true, true]) :: ow) := hp
      obtain ⟨q87, hcall88, hz82⟩ := bnd hz82
      obtain ⟨S89, hp90, rd91, up92, bk93⟩ := Hp.lendS hp (i := 3) rfl
      obtain ⟨S94, hp95, rd96, up97, bk98⟩ := Hp.lendS hp90 (i := 0) rfl
      refine st_call hf (by decide) Try.func14 rfl rfl (wantY hf rfl rfl hb83) rfl rfl (f_foghornlaw22_sameMarks_c hp95 _ _ ((rd91.now hp90).mono up97) _ _ rd96 hcall88) ?_
      rintro _ w ⟨rfl, hp0⟩
      have hp0 := bk98 _ _ hp0
      have hp0 := bk93 _ _ hp0
      clear hp; have hp := hp0; clear hp0
      replace hp : Hp _ _ _ (Res.sl (Ek.int .u8) 51 v55 q43.1 :: Res.sl (Ek.int .u8) 5 v85 ([(1 : Int), (0 : Int), (2 : Int), (1 : Int)]) :: Res.sl Ek.bool 4 v39 ([true, false, true]) :: Res.sl Ek.bool 4 v41 ([true, true, false]) :: Res.sl Ek.bool 4 v25 ([true]) :: Res.sl (Ek.int .u8) 51 v10 q3 :: Res.sl Ek.bool 4 v21 q14.1 :: Res.sl Ek.bool 4 v1 ([true, true, false, false, true, true]) :: ow) := hp
      refine ⟨_, rfl, ?_⟩
      clear hf; intro a hf
      obtain rfl := Option.some.inj hz82
      refine st_pick (v := .bool q87) hf rfl rfl (fun hb' => ?_) (fun hb' => ?_) (by decide) ?_
      · rfl
      · exact absurd (hb83.symm.trans hb') (by decide)
      clear hf; intro a ha hf; clear ha
      refine st_nil hf (th_n ?_)
      have hp : Hp _ _ _ (Res.sl Ek.bool 4 v39 ([true, false, true]) :: Res.sl Ek.bool 4 v41 ([true, true, false]) :: Res.sl (Ek.int .u8) 51 v55 q43.1 :: Res.sl Ek.bool 4 v25 ([true]) :: Res.sl (Ek.int .u8) 51 v10 q3 :: Res.sl Ek.bool 4 v21 q14.1 :: Res.sl Ek.bool 4 v1 ([true, true, false, false, true, true]) :: ow) := Hp.sel (pre := [Res.sl (Ek.int .u8) 51 v55 q43.1, Res.sl (Ek.int .u8) 5 v85 ([(1 : Int), (0 : Int), (2 : Int), (1 : Int)]), Res.sl Ek.bool 4 v39 ([true, false, true]), Res.sl Ek.bool 4 v41 ([true, true, false]), Res.sl Ek.bool 4 v25 ([true]), Res.sl (Ek.int .u8) 51 v10 q3, Res.sl Ek.bool 4 v21 q14.1, Res.sl Ek.bool 4 v1 ([true, true, false, false, true, true])]) (tail := ow) (rs' := [Res.sl Ek.bool 4 v39 ([true, false, true]), Res.sl Ek.bool 4 v41 ([true, true, false]), Res.sl (Ek.int .u8) 51 v55 q43.1, Res.sl Ek.bool 4 v25 ([true]), Res.sl (Ek.int .u8) 51 v10 q3, Res.sl Ek.bool 4 v21 q14.1, Res.sl Ek.bool 4 v1 ([true, true, false, false, true, true])]) hp [2, 3, 0, 4, 5, 6, 7] (by decide) (by simp) rfl
      exact ⟨hf.sub ⟨rfl, trivial⟩, hp⟩
    replace hz82 := ifF hz82 hb83
    refine st_skip hf (wantN hf rfl rfl hb83) rfl (by decide) ?_ rfl
    clear hf; intro a hf
    refine st_skip hf (wantN hf rfl rfl hb83) rfl (by decide) ?_ rfl
    clear hf; intro a hf
    refine st_skip hf (wantN hf rfl rfl hb83) rfl (by decide) ?_ rfl
    clear hf; intro a hf
    obtain rfl := Option.some.inj hz82
    refine st_pick (v := .bool false) hf rfl rfl (fun hb' => ?_) (fun hb' => ?_) (by decide) ?_
    · exact absurd (hb83.symm.trans hb') (by decide)
    · rfl
    clear hf; intro a ha hf; clear ha
    refine st_nil hf (th_n ?_)
    exact ⟨hf.sub ⟨rfl, trivial⟩, hp⟩
  rintro a w ⟨hf, hp⟩
  refine st_assign hf rfl rfl (by decide) ?_
  clear hf; intro a ha hf; clear ha
  refine st_nil hf ?_
  refine th_n ?_
  refine wp_ret ?_
  obtain rfl := Option.some.inj h
  have hp : Hp _ _ _ (ow) := Hp.sel (pre := [Res.sl Ek.bool 4 v39 ([true, false, true]), Res.sl Ek.bool 4 v41 ([true, true, false]), Res.sl (Ek.int .u8) 51 v55 q43.1, Res.sl Ek.bool 4 v25 ([true]), Res.sl (Ek.int .u8) 51 v10 q3, Res.sl Ek.bool 4 v21 q14.1, Res.sl Ek.bool 4 v1 ([true, true, false, false, true, true])]) (tail := ow) (rs' := []) hp [] (by decide) (by simp) rfl
  exact ⟨rfl, ⟨hf.sub ⟨rfl, trivial⟩, hp⟩⟩

end Go.Proofs.Ythajdlihjobcoaa
