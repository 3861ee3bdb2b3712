/- The functions foghorn foghornlaw22.HardPaths: what each answers, as a plain function, and that its call answers it; printed by gen.py. -/
import Derived.Test.YthajdlihjobcoaaProg
import Derived.Test.YthajdlihjobcoaaGlT
import Derived.KernelRfl
import Derived.Test.YthajdlihjobcoaaG10p2
set_option linter.unusedVariables false
set_option linter.unusedSimpArgs false
set_option maxRecDepth 100000
set_option maxHeartbeats 4000000
namespace Go.Proofs.Ythajdlihjobcoaa
open GL
noncomputable def f_foghornref22_Path.s1c (c0_Length : Int) (marks1 : (List Int)) (least10 : (List (List Int))) (s11 : Int) : Option (((List (List Int)) × Int) ⊕ (List (List Int))) := (if (decide (s11 < (ishl .i64 (1 : Int) (IntKind.i64.wrap (c0_Length - (1 : Int)))))) = true then (if 0 ≤ (IntKind.i64.wrap (((marks1.length : Int)).tdiv (2 : Int))) ∧ (IntKind.i64.wrap (((marks1.length : Int)).tdiv (2 : Int))) < (least10.length : Int) then (if 0 ≤ s11 ∧ s11 < ((gt least10 (IntKind.i64.wrap (((marks1.length : Int)).tdiv (2 : Int)))).length : Int) then (some (Sum.inl ((least10.set ((IntKind.i64.wrap (((marks1.length : Int)).tdiv (2 : Int)))).toNat ((gt least10 (IntKind.i64.wrap (((marks1.length : Int)).tdiv (2 : Int)))).set (s11).toNat (1000000 : Int))), (IntKind.i64.wrap (s11 + (1 : Int)))))) else none) else none) else (some (Sum.inr least10)))
noncomputable def f_foghornref22_Path.s1 (c0_Length : Int) (marks1 : (List Int)) (s : ((List (List Int)) × Int)) : Option (((List (List Int)) × Int) ⊕ (List (List Int))) := f_foghornref22_Path.s1c c0_Length marks1 s.1 s.2
noncomputable def f_foghornref22_Path.j1 (least10 : (List (List Int))) (t12 : Int) (s13 : Int) (x14 : Int) : Option (((List (List Int)) × Int) ⊕ (List (List Int))) := (if 0 ≤ t12 ∧ t12 < (least10.length : Int) then (if ((gt least10 t12).length + ([x14]).length) * 8 ≤ 140737488355328 then (if 0 ≤ t12 ∧ t12 < (least10.length : Int) then (some (Sum.inl ((least10.set (t12).toNat (((gt least10 t12) ++ [x14]) : (List Int))), (IntKind.i64.wrap (s13 + (1 : Int)))))) else none) else none) else none)
noncomputable def f_foghornref22_Path.s3c (c0_Length : Int) (c0_One : Int) (c0_Two : Int) (marks1 : (List Int)) (t12 : Int) (least10 : (List (List Int))) (s13 : Int) : Option (((List (List Int)) × Int) ⊕ (List (List Int))) := (if (decide (s13 < (ishl .i64 (1 : Int) (IntKind.i64.wrap (c0_Length - (1 : Int)))))) = true then ((f_foghornref22_way c0_Length c0_One c0_Two (IntKind.u32.wrap s13) false marks1 t12 least10).bind fun q36 => (if (decide (t12 < (IntKind.i64.wrap ((IntKind.i64.wrap (((marks1.length : Int)).tdiv (2 : Int))) - (IntKind.i64.wrap (c0_Length - (1 : Int))))))) = true then ((f_foghornref22_way c0_Length c0_One c0_Two (IntKind.u32.wrap s13) true marks1 t12 least10).bind fun q50 => (f_foghornref22_Path.j1 least10 t12 s13 (imin q36 q50))) else (f_foghornref22_Path.j1 least10 t12 s13 q36))) else (some (Sum.inr least10)))
noncomputable def f_foghornref22_Path.s3 (c0_Length : Int) (c0_One : Int) (c0_Two : Int) (marks1 : (List Int)) (t12 : Int) (s : ((List (List Int)) × Int)) : Option (((List (List Int)) × Int) ⊕ (List (List Int))) := f_foghornref22_Path.s3c c0_Length c0_One c0_Two marks1 t12 s.1 s.2
noncomputable def f_foghornref22_Path.s2c (c0_Length : Int) (c0_One : Int) (c0_Two : Int) (marks1 : (List Int)) (least10 : (List (List Int))) (t12 : Int) : Option (((List (List Int)) × Int) ⊕ (List (List Int))) := (if (decide ((0 : Int) ≤ t12)) = true then ((loop (f_foghornref22_Path.s3 c0_Length c0_One c0_Two marks1 t12) (least10, (0 : Int))).bind (fun q57 => (some (Sum.inl (q57, (IntKind.i64.wrap (t12 - (1 : Int)))))))) else (some (Sum.inr least10)))
noncomputable def f_foghornref22_Path.s2 (c0_Length : Int) (c0_One : Int) (c0_Two : Int) (marks1 : (List Int)) (s : ((List (List Int)) × Int)) : Option (((List (List Int)) × Int) ⊕ (List (List Int))) := f_foghornref22_Path.s2c c0_Length c0_One c0_Two marks1 s.1 s.2
noncomputable def f_foghornref22_Path.s4c (c0_Length : Int) (c0_One : Int) (c0_Two : Int) (marks1 : (List Int)) (q58 : (List (List Int))) (message15 : (List Bool)) (at16 : Int) (t17 : Int) : Option (((List Bool) × Int × Int) ⊕ (List Bool)) := (if (decide (t17 < (IntKind.i64.wrap ((IntKind.i64.wrap (((marks1.length : Int)).tdiv (2 : Int))) - (IntKind.i64.wrap (c0_Length - (1 : Int))))))) = true then ((f_foghornref22_way c0_Length c0_One c0_Two at16 false marks1 t17 q58).bind fun q70 => ((f_foghornref22_way c0_Length c0_One c0_Two at16 true marks1 t17 q58).bind fun q77 => (if (message15.length + ([(decide (q77 < q70))]).length) * 1 ≤ 140737488355328 then ((f_foghornref22_Step c0_Length c0_One c0_Two at16 (decide (q77 < q70))).bind fun q88 => (some (Sum.inl ((message15 ++ [(decide (q77 < q70))]), q88.1, (IntKind.i64.wrap (t17 + (1 : Int))))))) else none))) else (some (Sum.inr message15)))
noncomputable def f_foghornref22_Path.s4 (c0_Length : Int) (c0_One : Int) (c0_Two : Int) (marks1 : (List Int)) (q58 : (List (List Int))) (s : ((List Bool) × Int × Int)) : Option (((List Bool) × Int × Int) ⊕ (List Bool)) := f_foghornref22_Path.s4c c0_Length c0_One c0_Two marks1 q58 s.1 s.2.1 s.2.2
noncomputable def f_foghornref22_Path (c0_Length : Int) (c0_One : Int) (c0_Two : Int) (marks1 : (List Int)) : Option ((List Bool) × Int × Int) := ((f_foghornref22_Fits c0_Length c0_One c0_Two marks1).bind fun q3 => (if (!q3) = true then (some ([], (0 : Int), (1 : Int))) else (if 0 ≤ (IntKind.i64.wrap (c0_Length - (1 : Int))) then (if 0 ≤ (IntKind.i64.wrap ((IntKind.i64.wrap (((marks1.length : Int)).tdiv (2 : Int))) + (1 : Int))) ∧ (IntKind.i64.wrap ((IntKind.i64.wrap (((marks1.length : Int)).tdiv (2 : Int))) + (1 : Int))) ≤ (IntKind.i64.wrap ((IntKind.i64.wrap (((marks1.length : Int)).tdiv (2 : Int))) + (1 : Int))) ∧ (IntKind.i64.wrap ((IntKind.i64.wrap (((marks1.length : Int)).tdiv (2 : Int))) + (1 : Int))) * 24 ≤ 281474976710656 then (if 0 ≤ (ishl .i64 (1 : Int) (IntKind.i64.wrap (c0_Length - (1 : Int)))) ∧ (ishl .i64 (1 : Int) (IntKind.i64.wrap (c0_Length - (1 : Int)))) ≤ (ishl .i64 (1 : Int) (IntKind.i64.wrap (c0_Length - (1 : Int)))) ∧ (ishl .i64 (1 : Int) (IntKind.i64.wrap (c0_Length - (1 : Int)))) * 8 ≤ 281474976710656 then (if 0 ≤ (IntKind.i64.wrap (((marks1.length : Int)).tdiv (2 : Int))) ∧ (IntKind.i64.wrap (((marks1.length : Int)).tdiv (2 : Int))) < ((List.replicate ((IntKind.i64.wrap ((IntKind.i64.wrap (((marks1.length : Int)).tdiv (2 : Int))) + (1 : Int)))).toNat ([] : (List Int))).length : Int) then ((loop (f_foghornref22_Path.s1 c0_Length marks1) (((List.replicate ((IntKind.i64.wrap ((IntKind.i64.wrap (((marks1.length : Int)).tdiv (2 : Int))) + (1 : Int)))).toNat ([] : (List Int))).set ((IntKind.i64.wrap (((marks1.length : Int)).tdiv (2 : Int)))).toNat ((List.replicate ((ishl .i64 (1 : Int) (IntKind.i64.wrap (c0_Length - (1 : Int))))).toNat (0 : Int)) : (List Int))), (1 : Int))).bind (fun q23 => ((loop (f_foghornref22_Path.s2 c0_Length c0_One c0_Two marks1) (q23, (IntKind.i64.wrap ((IntKind.i64.wrap (((marks1.length : Int)).tdiv (2 : Int))) - (1 : Int))))).bind (fun q58 => ((loop (f_foghornref22_Path.s4 c0_Length c0_One c0_Two marks1 q58) ([], (0 : Int), (0 : Int))).bind (fun q90 => (if 0 ≤ (0 : Int) ∧ (0 : Int) < (q58.length : Int) then (if 0 ≤ (0 : Int) ∧ (0 : Int) < ((gt q58 (0 : Int)).length : Int) then (some (q90, (gt (gt q58 (0 : Int)) (0 : Int)), (0 : Int))) else none) else none))))))) else none) else none) else none) else none)))
theorem f_foghornref22_Path_c {S : Nat → Prop} {w0 w : World} {ow : List Res} (hp : Hp S w0 w ow) (c0_Length : Int) (c0_One : Int) (c0_Two : Int) (vmarks1 : Value) (marks1 : (List Int)) (hmarks1 : RdS (Ek.int .u8) S w0 vmarks1 marks1) {r : ((List Bool) × Int × Int)} (h : f_foghornref22_Path c0_Length c0_One c0_Two marks1 = some r) :
    Calls Try.prog 20 #[.agg #[.int .i64 c0_Length, .int .u32 c0_One, .int .u32 c0_Two], vmarks1] w (fun e w' => ∃ (u0 : Value), e = .returned (.tuple #[u0, .int .i64 r.2.1, .int .i64 r.2.2]) ∧ Hp S w0 w' (Res.sl Ek.bool 4 u0 r.1 :: ow)) := by
  unfold f_foghornref22_Path at h
  refine enter (n := 134) (args := [.agg #[.int .i64 c0_Length, .int .u32 c0_One, .int .u32 c0_Two], vmarks1]) Try.func20 rfl rfl (Nat.le_of_ble_eq_true rfl) fun a hf => ?_
  replace hf : Fr 134 a [(0, .agg #[.int .i64 c0_Length, .int .u32 c0_One, .int .u32 c0_Two]), (1, vmarks1)] := hf
  refine wp_mono (Q := fun e a w => e = .ret ∧ ∃ (u0 : Value), Fr 134 a [(4, u0), (5, .int .i64 r.2.1), (6, .int .i64 r.2.2)] ∧ Hp S w0 w (Res.sl Ek.bool 4 u0 r.1 :: ow)) ?_ ?_
  rotate_left
  · rintro e a w ⟨rfl, x0, hf, hp⟩
    exact ret3 hf rfl rfl rfl rfl ⟨x0, rfl, hp⟩
  refine wp_seq ?_
  refine wp_reg ?_
  refine st_boxO (cs := [.int .i64 c0_Length, .int .u32 c0_One, .int .u32 c0_Two]) hf (by decide) hp rfl rfl rfl ?_
  clear hf; intro a w v1 hf hp0; clear hp; have hp := hp0; clear hp0
  replace hp : Hp _ _ _ (Res.obj 41 v1 [.int .i64 c0_Length, .int .u32 c0_One, .int .u32 c0_Two] :: ow) := hp
  refine st_assign hf rfl rfl (by decide) ?_
  clear hf; intro a ha hf; clear ha
  refine st_assign hf rfl rfl (by decide) ?_
  clear hf; intro a ha hf; clear ha
  refine st_assign hf rfl rfl (by decide) ?_
  clear hf; intro a ha hf; clear ha
  refine st_nil hf ?_
  refine th_n ?_
  refine wp_seq ?_
  refine wp_seq ?_
  refine wp_reg ?_
  refine st_ldOA (m := 3) (us := [.int .i64 c0_Length, .int .u32 c0_One, .int .u32 c0_Two]) hf (by decide) (by kernel_rfl) rfl rfl (hp.ob (i := 0) rfl) rfl rfl ?_
  clear hf; intro a ha hf; clear ha
  refine st_move hf rfl rfl (by decide) ?_
  clear hf; intro a ha hf; clear ha
  obtain ⟨q3, hcall4, h⟩ := bnd h
  refine st_call hf (by decide) Try.func33 rfl rfl rfl rfl rfl (f_foghornref22_Fits_c hp _ _ _ _ _ hmarks1 hcall4) ?_
  rintro _ w ⟨rfl, hp0⟩
  clear hp; have hp := hp0; clear hp0
  replace hp : Hp _ _ _ (Res.obj 41 v1 [.int .i64 c0_Length, .int .u32 c0_One, .int .u32 c0_Two] :: ow) := hp
  refine ⟨_, rfl, ?_⟩
  clear hf; intro a hf
  refine st_not hf (by decide) rfl rfl ?_
  clear hf; intro a ha hf; clear ha
  refine st_nil hf ?_
  refine th_n ?_
  refine wp_if hf rfl (fun hb => ?_) (fun hb => ?_)
  · replace h := ifT h hb
    refine wp_seq ?_
    refine wp_reg ?_
    refine st_assign hf rfl rfl (by decide) ?_
    clear hf; intro a ha hf; clear ha
    refine st_assign hf rfl rfl (by decide) ?_
    clear hf; intro a ha hf; clear ha
    refine st_assign hf rfl rfl (by decide) ?_
    clear hf; intro a ha hf; clear ha
    refine st_nil hf ?_
    refine th_n ?_
    refine wp_ret ?_
    refine th_r ?_
    obtain rfl := Option.some.inj h
    have hp := hp.nil Ek.bool 4
    have hp : Hp _ _ _ (Res.sl Ek.bool 4 (.slice none 0 0) ([]) :: ow) := Hp.sel (pre := [Res.sl Ek.bool 4 (.slice none 0 0) ([]), Res.obj 41 v1 [.int .i64 c0_Length, .int .u32 c0_One, .int .u32 c0_Two]]) (tail := ow) (rs' := [Res.sl Ek.bool 4 (.slice none 0 0) ([])]) hp [0] (by decide) (by simp) rfl
    exact ⟨rfl, ⟨_, hf.sub ⟨rfl, rfl, rfl, trivial⟩, hp⟩⟩
  replace h := ifF h hb
  refine wp_skip ?_
  refine th_n ?_
  refine wp_seq ?_
  refine wp_reg ?_
  refine st_move hf rfl rfl (by decide) ?_
  clear hf; intro a ha hf; clear ha
  refine st_len (E := (Ek.int .u8)) hf (by decide) Try.underlying29 rfl rfl (hmarks1.sl hp) ?_
  clear hf; intro a ha hf; clear ha
  refine st_iquo hf (by decide) rfl rfl rfl (by decide) ?_
  clear hf; intro a ha hf; clear ha
  refine st_assign hf rfl rfl (by decide) ?_
  clear hf; intro a ha hf; clear ha
  refine st_nil hf ?_
  refine th_n ?_
  refine wp_seq ?_
  refine wp_reg ?_
  refine st_move hf rfl rfl (by decide) ?_
  clear hf; intro a ha hf; clear ha
  refine st_fa (o' := 0) hf (by decide) (off := 0) (sz := 1) (by kernel_rfl) (by decide) rfl rfl (hp.ob (i := 0) rfl) rfl ?_
  clear hf; intro a ha hf; clear ha
  refine st_ldO (u := .int .i64 c0_Length) hf (by decide) pl3 rfl rfl (hp.ob (i := 0) rfl) rfl ?_
  clear hf; intro a ha hf; clear ha
  refine st_isub hf (by decide) rfl rfl rfl ?_
  clear hf; intro a ha hf; clear ha
  refine st_isub hf (by decide) rfl rfl rfl ?_
  clear hf; intro a ha hf; clear ha
  refine st_assign hf rfl rfl (by decide) ?_
  clear hf; intro a ha hf; clear ha
  refine st_nil hf ?_
  refine th_n ?_
  refine wp_seq ?_
  refine wp_reg ?_
  refine st_fa (o' := 0) hf (by decide) (off := 0) (sz := 1) (by kernel_rfl) (by decide) rfl rfl (hp.ob (i := 0) rfl) rfl ?_
  clear hf; intro a ha hf; clear ha
  refine st_ldO (u := .int .i64 c0_Length) hf (by decide) pl3 rfl rfl (hp.ob (i := 0) rfl) rfl ?_
  clear hf; intro a ha hf; clear ha
  refine st_isub hf (by decide) rfl rfl rfl ?_
  clear hf; intro a ha hf; clear ha
  obtain ⟨hc6, h⟩ := chk h
  refine st_ishl hf (by decide) rfl rfl rfl hc6 ?_
  clear hf; intro a ha hf; clear ha
  refine st_assign hf rfl rfl (by decide) ?_
  clear hf; intro a ha hf; clear ha
  refine st_nil hf ?_
  refine th_n ?_
  refine wp_seq ?_
  refine wp_reg ?_
  refine st_move hf rfl rfl (by decide) ?_
  clear hf; intro a ha hf; clear ha
  refine st_iadd hf (by decide) rfl rfl rfl ?_
  clear hf; intro a ha hf; clear ha
  obtain ⟨hc7, h⟩ := chk h
  refine st_make (E := Ek.val) hf (by decide) eltv70 Try.underlying69 (by decide) hp rfl rfl rfl hc7.1 hc7.2.1 hc7.2.2 ?_
  clear hf; intro a w v8 hf hp0; clear hp; have hp := hp0; clear hp0
  replace hp : Hp _ _ _ (Res.rows (RowK.sl (Ek.int .i64) 3) 70 v8 (List.replicate ((IntKind.i64.wrap ((IntKind.i64.wrap (((marks1.length : Int)).tdiv (2 : Int))) + (1 : Int)))).toNat (Value.slice none 0 0)) (List.replicate ((IntKind.i64.wrap ((IntKind.i64.wrap (((marks1.length : Int)).tdiv (2 : Int))) + (1 : Int)))).toNat ([] : (List Int))) :: Res.obj 41 v1 [.int .i64 c0_Length, .int .u32 c0_One, .int .u32 c0_Two] :: ow) := hp.rowsMade (RowK.sl (Ek.int .i64) 3) ([] : (List Int)) (fun w => .inl ⟨rfl, rfl, rfl, fun _ h => h⟩)
  refine st_assign hf rfl rfl (by decide) ?_
  clear hf; intro a ha hf; clear ha
  refine st_nil hf ?_
  refine th_n ?_
  refine wp_seq ?_
  refine wp_reg ?_
  refine st_move hf rfl rfl (by decide) ?_
  clear hf; intro a ha hf; clear ha
  refine st_move hf rfl rfl (by decide) ?_
  clear hf; intro a ha hf; clear ha
  refine st_move hf rfl rfl (by decide) ?_
  clear hf; intro a ha hf; clear ha
  obtain ⟨hc10, h⟩ := chk h
  refine st_make (E := (Ek.int .i64)) hf (by decide) elt3 Try.underlying70 (by decide) hp rfl rfl rfl hc10.1 hc10.2.1 hc10.2.2 ?_
  clear hf; intro a w v11 hf hp0; clear hp; have hp := hp0; clear hp0
  replace hp : Hp _ _ _ (Res.sl (Ek.int .i64) 3 v11 (List.replicate ((ishl .i64 (1 : Int) (IntKind.i64.wrap (c0_Length - (1 : Int))))).toNat (0 : Int)) :: Res.rows (RowK.sl (Ek.int .i64) 3) 70 v8 (List.replicate ((IntKind.i64.wrap ((IntKind.i64.wrap (((marks1.length : Int)).tdiv (2 : Int))) + (1 : Int)))).toNat (Value.slice none 0 0)) (List.replicate ((IntKind.i64.wrap ((IntKind.i64.wrap (((marks1.length : Int)).tdiv (2 : Int))) + (1 : Int)))).toNat ([] : (List Int))) :: Res.obj 41 v1 [.int .i64 c0_Length, .int .u32 c0_One, .int .u32 c0_Two] :: ow) := hp
  obtain ⟨hc13, h⟩ := chk h
  refine st_indexV (E := Ek.val) (m := (List.replicate ((IntKind.i64.wrap ((IntKind.i64.wrap (((marks1.length : Int)).tdiv (2 : Int))) + (1 : Int)))).toNat ([] : (List Int))).length) hf (by decide) Try.underlying69 eltv70 rfl rfl rfl (hp.rd (i := 1) rfl).shapeNY hc13.1 hc13.2 ?_
  clear hf; intro a ha hf; clear ha
  have hp : Hp _ _ _ (Res.rows (RowK.sl (Ek.int .i64) 3) 70 v8 (List.replicate ((IntKind.i64.wrap ((IntKind.i64.wrap (((marks1.length : Int)).tdiv (2 : Int))) + (1 : Int)))).toNat (Value.slice none 0 0)) (List.replicate ((IntKind.i64.wrap ((IntKind.i64.wrap (((marks1.length : Int)).tdiv (2 : Int))) + (1 : Int)))).toNat ([] : (List Int))) :: Res.sl (Ek.int .i64) 3 v11 (List.replicate ((ishl .i64 (1 : Int) (IntKind.i64.wrap (c0_Length - (1 : Int))))).toNat (0 : Int)) :: Res.obj 41 v1 [.int .i64 c0_Length, .int .u32 c0_One, .int .u32 c0_Two] :: ow) := Hp.sel (pre := [Res.sl (Ek.int .i64) 3 v11 (List.replicate ((ishl .i64 (1 : Int) (IntKind.i64.wrap (c0_Length - (1 : Int))))).toNat (0 : Int)), Res.rows (RowK.sl (Ek.int .i64) 3) 70 v8 (List.replicate ((IntKind.i64.wrap ((IntKind.i64.wrap (((marks1.length : Int)).tdiv (2 : Int))) + (1 : Int)))).toNat (Value.slice none 0 0)) (List.replicate ((IntKind.i64.wrap ((IntKind.i64.wrap (((marks1.length : Int)).tdiv (2 : Int))) + (1 : Int)))).toNat ([] : (List Int))), Res.obj 41 v1 [.int .i64 c0_Length, .int .u32 c0_One, .int .u32 c0_Two]]) (tail := ow) (rs' := [Res.rows (RowK.sl (Ek.int .i64) 3) 70 v8 (List.replicate ((IntKind.i64.wrap ((IntKind.i64.wrap (((marks1.length : Int)).tdiv (2 : Int))) + (1 : Int)))).toNat (Value.slice none 0 0)) (List.replicate ((IntKind.i64.wrap ((IntKind.i64.wrap (((marks1.length : Int)).tdiv (2 : Int))) + (1 : Int)))).toNat ([] : (List Int))), Res.sl (Ek.int .i64) 3 v11 (List.replicate ((ishl .i64 (1 : Int) (IntKind.i64.wrap (c0_Length - (1 : Int))))).toNat (0 : Int)), Res.obj 41 v1 [.int .i64 c0_Length, .int .u32 c0_One, .int .u32 c0_Two]]) hp [1, 0, 2] (by decide) (by simp) rfl
  refine st_storeR (K := (RowK.sl (Ek.int .i64) 3)) (b := ((List.replicate ((ishl .i64 (1 : Int) (IntKind.i64.wrap (c0_Length - (1 : Int))))).toNat (0 : Int)) : (List Int))) hf eltv70 hp (hp.sl (i := 1) rfl).shapeV rfl rfl rfl hc13.1 (by simp only [List.length_set, List.length_map]; exact hc13.2) ?_
  clear hf; intro a w hf hp0; clear hp; have hp := hp0; clear hp0
  rw [fill2] at hp
  replace hp : Hp _ _ _ (Res.rows (RowK.sl (Ek.int .i64) 3) 70 v8 ((List.replicate ((IntKind.i64.wrap ((IntKind.i64.wrap (((marks1.length : Int)).tdiv (2 : Int))) + (1 : Int)))).toNat (Value.slice none 0 0)).set ((IntKind.i64.wrap (((marks1.length : Int)).tdiv (2 : Int)))).toNat v11) ((List.replicate ((IntKind.i64.wrap ((IntKind.i64.wrap (((marks1.length : Int)).tdiv (2 : Int))) + (1 : Int)))).toNat ([] : (List Int))).set ((IntKind.i64.wrap (((marks1.length : Int)).tdiv (2 : Int)))).toNat ((List.replicate ((ishl .i64 (1 : Int) (IntKind.i64.wrap (c0_Length - (1 : Int))))).toNat (0 : Int)) : (List Int))) :: Res.obj 41 v1 [.int .i64 c0_Length, .int .u32 c0_One, .int .u32 c0_Two] :: ow) := hp
  refine st_nil hf ?_
  refine th_n ?_
  refine wp_seq ?_
  refine wp_seq ?_
  refine wp_reg ?_
  refine st_assign hf rfl rfl (by decide) ?_
  clear hf; intro a ha hf; clear ha
  refine st_nil hf ?_
  refine th_n ?_
  refine wp_block ?_
  obtain ⟨q23, hl, h⟩ := bnd h
  refine wp_loop_pure (f := (f_foghornref22_Path.s1 c0_Length marks1)) (s := (((List.replicate ((IntKind.i64.wrap ((IntKind.i64.wrap (((marks1.length : Int)).tdiv (2 : Int))) + (1 : Int)))).toNat ([] : (List Int))).set ((IntKind.i64.wrap (((marks1.length : Int)).tdiv (2 : Int)))).toNat ((List.replicate ((ishl .i64 (1 : Int) (IntKind.i64.wrap (c0_Length - (1 : Int))))).toNat (0 : Int)) : (List Int))), (1 : Int))) (fun s a w => ∃ (v14 : Value) (vs15 : List Value), Fr 134 a [(1, vmarks1), (2, optr v1 0), (7, .int .i64 (IntKind.i64.wrap (((marks1.length : Int)).tdiv (2 : Int)))), (8, .int .i64 (IntKind.i64.wrap ((IntKind.i64.wrap (((marks1.length : Int)).tdiv (2 : Int))) - (IntKind.i64.wrap (c0_Length - (1 : Int)))))), (9, .int .i64 (ishl .i64 (1 : Int) (IntKind.i64.wrap (c0_Length - (1 : Int))))), (10, v14), (11, .int .i64 s.2)] ∧ Hp S w0 w (Res.rows (RowK.sl (Ek.int .i64) 3) 70 v14 vs15 s.1 :: Res.obj 41 v1 [.int .i64 c0_Length, .int .u32 c0_One, .int .u32 c0_Two] :: ow)) (fun q e a w => e = .exit 0 ∧ ∃ (v17 : Value) (vs18 : List Value), Fr 134 a [(1, vmarks1), (2, optr v1 0), (7, .int .i64 (IntKind.i64.wrap (((marks1.length : Int)).tdiv (2 : Int)))), (8, .int .i64 (IntKind.i64.wrap ((IntKind.i64.wrap (((marks1.length : Int)).tdiv (2 : Int))) - (IntKind.i64.wrap (c0_Length - (1 : Int)))))), (9, .int .i64 (ishl .i64 (1 : Int) (IntKind.i64.wrap (c0_Length - (1 : Int))))), (10, v17)] ∧ Hp S w0 w (Res.rows (RowK.sl (Ek.int .i64) 3) 70 v17 vs18 q :: Res.obj 41 v1 [.int .i64 c0_Length, .int .u32 c0_One, .int .u32 c0_Two] :: ow)) ?_ hl ⟨_, _, hf.sub ⟨rfl, rfl, rfl, rfl, rfl, rfl, rfl, trivial⟩, hp⟩ ?_
  · clear hl hf hp
    intro s x a w h hI
    obtain ⟨least10, s11⟩ := s
    obtain ⟨v14, vs15, hf, hp⟩ : ∃ (v14 : Value) (vs15 : List Value), Fr 134 a [(1, vmarks1), (2, optr v1 0), (7, .int .i64 (IntKind.i64.wrap (((marks1.length : Int)).tdiv (2 : Int)))), (8, .int .i64 (IntKind.i64.wrap ((IntKind.i64.wrap (((marks1.length : Int)).tdiv (2 : Int))) - (IntKind.i64.wrap (c0_Length - (1 : Int)))))), (9, .int .i64 (ishl .i64 (1 : Int) (IntKind.i64.wrap (c0_Length - (1 : Int))))), (10, v14), (11, .int .i64 s11)] ∧ Hp S w0 w (Res.rows (RowK.sl (Ek.int .i64) 3) 70 v14 vs15 least10 :: Res.obj 41 v1 [.int .i64 c0_Length, .int .u32 c0_One, .int .u32 c0_Two] :: ow) := hI
    replace h : f_foghornref22_Path.s1c c0_Length marks1 least10 s11 = some x := h
    unfold f_foghornref22_Path.s1c at h
    refine wp_seq ?_
    refine wp_seq ?_
    refine wp_reg ?_
    refine st_move hf rfl rfl (by decide) ?_
    clear hf; intro a ha hf; clear ha
    refine st_move hf rfl rfl (by decide) ?_
    clear hf; intro a ha hf; clear ha
    refine st_ilss hf (by decide) rfl rfl rfl ?_
    clear hf; intro a ha hf; clear ha
    refine st_nil hf ?_
    refine th_n ?_
    refine wp_if hf rfl (fun hb => ?_) (fun hb => ?_)
    · replace h := ifT h hb
      refine wp_skip ?_
      refine th_n ?_
      refine wp_seq ?_
      refine wp_block ?_
      refine wp_reg ?_
      refine st_move hf rfl rfl (by decide) ?_
      clear hf; intro a ha hf; clear ha
      refine st_move hf rfl rfl (by decide) ?_
      clear hf; intro a ha hf; clear ha
      obtain ⟨hc20, h⟩ := chk h
      refine st_indexV (E := Ek.val) (m := least10.length) hf (by decide) Try.underlying69 eltv70 rfl rfl rfl (hp.rd (i := 0) rfl).shapeNY hc20.1 hc20.2 ?_
      clear hf; intro a ha hf; clear ha
      refine st_ldRY hf (by decide) pl70 rfl rfl (hp.rd (i := 0) rfl) hc20.1 hc20.2 ?_
      clear hf; intro a ha hf; clear ha
      refine st_move hf rfl rfl (by decide) ?_
      clear hf; intro a ha hf; clear ha
      obtain ⟨hc21, h⟩ := chk h
      refine st_index (E := (Ek.int .i64)) hf (by decide) Try.underlying70 elt3 rfl rfl rfl (RdR.rowS (hp.rd (i := 0) rfl) hc20.1 hc20.2) hc21.1 hc21.2 ?_
      clear hf; intro a ha hf; clear ha
      replace hp : Hp _ _ _ (Res.sl (Ek.int .i64) 3 (gtv vs15 (IntKind.i64.wrap (((marks1.length : Int)).tdiv (2 : Int)))) (gt least10 (IntKind.i64.wrap (((marks1.length : Int)).tdiv (2 : Int)))) :: Res.rowsH (RowK.sl (Ek.int .i64) 3) 70 v14 vs15 ((least10.map some).set ((IntKind.i64.wrap (((marks1.length : Int)).tdiv (2 : Int)))).toNat none) :: Res.obj 41 v1 [.int .i64 c0_Length, .int .u32 c0_One, .int .u32 c0_Two] :: ow) := hp.rowsTake (k := (IntKind.i64.wrap (((marks1.length : Int)).tdiv (2 : Int)))) hc20.1 (take1 hc20.1 hc20.2)
      refine st_store (E := (Ek.int .i64)) hf elt3 hp (i := 0) rfl rfl rfl rfl rfl hc21.1 hc21.2 ?_
      clear hf; intro a w hf hp0; clear hp; have hp := hp0; clear hp0
      replace hp : Hp _ _ _ (Res.rows (RowK.sl (Ek.int .i64) 3) 70 v14 vs15 (least10.set ((IntKind.i64.wrap (((marks1.length : Int)).tdiv (2 : Int)))).toNat ((gt least10 (IntKind.i64.wrap (((marks1.length : Int)).tdiv (2 : Int)))).set (s11).toNat (1000000 : Int))) :: Res.obj 41 v1 [.int .i64 c0_Length, .int .u32 c0_One, .int .u32 c0_Two] :: ow) := Hp.rowsPut (K := (RowK.sl (Ek.int .i64) 3)) (k := (IntKind.i64.wrap (((marks1.length : Int)).tdiv (2 : Int)))) (X := least10) hc20.1 hc20.2 hp
      refine st_nil hf ?_
      refine ib_n ?_
      refine th_n ?_
      refine wp_reg ?_
      refine st_move hf rfl rfl (by decide) ?_
      clear hf; intro a ha hf; clear ha
      refine st_iadd hf (by decide) rfl rfl rfl ?_
      clear hf; intro a ha hf; clear ha
      refine st_assign hf rfl rfl (by decide) ?_
      clear hf; intro a ha hf; clear ha
      refine st_nil hf ?_
      obtain rfl := Option.some.inj h
      exact rnd_l ⟨_, _, hf.sub ⟨rfl, rfl, rfl, rfl, rfl, rfl, rfl, trivial⟩, hp⟩
    replace h := ifF h hb
    refine wp_exit ?_
    refine th_e ?_
    obtain rfl := Option.some.inj h
    exact rnd_r (by simp) ⟨rfl, _, _, hf.sub ⟨rfl, rfl, rfl, rfl, rfl, rfl, trivial⟩, hp⟩
  clear hl hf hp
  intro e a w hne hO
  obtain ⟨rfl, v17, vs18, hf, hp⟩ := hO
  refine ib_same ?_
  refine th_n ?_
  refine wp_seq ?_
  refine wp_seq ?_
  refine wp_reg ?_
  refine st_move hf rfl rfl (by decide) ?_
  clear hf; intro a ha hf; clear ha
  refine st_isub hf (by decide) rfl rfl rfl ?_
  clear hf; intro a ha hf; clear ha
  refine st_assign hf rfl rfl (by decide) ?_
  clear hf; intro a ha hf; clear ha
  refine st_nil hf ?_
  refine th_n ?_
  refine wp_block ?_
  obtain ⟨q58, hl, h⟩ := bnd h
  refine wp_loop_pure (f := (f_foghornref22_Path.s2 c0_Length c0_One c0_Two marks1)) (s := (q23, (IntKind.i64.wrap ((IntKind.i64.wrap (((marks1.length : Int)).tdiv (2 : Int))) - (1 : Int))))) (fun s a w => ∃ (v24 : Value) (vs25 : List Value), Fr 134 a [(1, vmarks1), (2, optr v1 0), (8, .int .i64 (IntKind.i64.wrap ((IntKind.i64.wrap (((marks1.length : Int)).tdiv (2 : Int))) - (IntKind.i64.wrap (c0_Length - (1 : Int)))))), (9, .int .i64 (ishl .i64 (1 : Int) (IntKind.i64.wrap (c0_Length - (1 : Int))))), (10, v24), (12, .int .i64 s.2)] ∧ Hp S w0 w (Res.rows (RowK.sl (Ek.int .i64) 3) 70 v24 vs25 s.1 :: Res.obj 41 v1 [.int .i64 c0_Length, .int .u32 c0_One, .int .u32 c0_Two] :: ow)) (fun q e a w => e = .exit 2 ∧ ∃ (v27 : Value) (vs28 : List Value), Fr 134 a [(1, vmarks1), (2, optr v1 0), (8, .int .i64 (IntKind.i64.wrap ((IntKind.i64.wrap (((marks1.length : Int)).tdiv (2 : Int))) - (IntKind.i64.wrap (c0_Length - (1 : Int)))))), (10, v27)] ∧ Hp S w0 w (Res.rows (RowK.sl (Ek.int .i64) 3) 70 v27 vs28 q :: Res.obj 41 v1 [.int .i64 c0_Length, .int .u32 c0_One, .int .u32 c0_Two] :: ow)) ?_ hl ⟨_, _, hf.sub ⟨rfl, rfl, rfl, rfl, rfl, rfl, trivial⟩, hp⟩ ?_
  · clear hl hf hp
    intro s x a w h hI
    obtain ⟨least10, t12⟩ := s
    obtain ⟨v24, vs25, hf, hp⟩ : ∃ (v24 : Value) (vs25 : List Value), Fr 134 a [(1, vmarks1), (2, optr v1 0), (8, .int .i64 (IntKind.i64.wrap ((IntKind.i64.wrap (((marks1.length : Int)).tdiv (2 : Int))) - (IntKind.i64.wrap (c0_Length - (1 : Int)))))), (9, .int .i64 (ishl .i64 (1 : Int) (IntKind.i64.wrap (c0_Length - (1 : Int))))), (10, v24), (12, .int .i64 t12)] ∧ Hp S w0 w (Res.rows (RowK.sl (Ek.int .i64) 3) 70 v24 vs25 least10 :: Res.obj 41 v1 [.int .i64 c0_Length, .int .u32 c0_One, .int .u32 c0_Two] :: ow) := hI
    replace h : f_foghornref22_Path.s2c c0_Length c0_One c0_Two marks1 least10 t12 = some x := h
    unfold f_foghornref22_Path.s2c at h
    refine wp_seq ?_
    refine wp_seq ?_
    refine wp_reg ?_
    refine st_move hf rfl rfl (by decide) ?_
    clear hf; intro a ha hf; clear ha
    refine st_igeq hf (by decide) rfl rfl rfl ?_
    clear hf; intro a ha hf; clear ha
    refine st_nil hf ?_
    refine th_n ?_
    refine wp_if hf rfl (fun hb => ?_) (fun hb => ?_)
    · replace h := ifT h hb
      refine wp_skip ?_
      refine th_n ?_
      refine wp_seq ?_
      refine wp_block ?_
      refine wp_seq ?_
      refine wp_reg ?_
      refine st_assign hf rfl rfl (by decide) ?_
      clear hf; intro a ha hf; clear ha
      refine st_nil hf ?_
      refine th_n ?_
      refine wp_block ?_
      obtain ⟨q57, hl, h⟩ := bnd h
      refine wp_loop_pure (f := (f_foghornref22_Path.s3 c0_Length c0_One c0_Two marks1 t12)) (s := (least10, (0 : Int))) (fun s a w => ∃ (v30 : Value) (vs31 : List Value), Fr 134 a [(1, vmarks1), (2, optr v1 0), (8, .int .i64 (IntKind.i64.wrap ((IntKind.i64.wrap (((marks1.length : Int)).tdiv (2 : Int))) - (IntKind.i64.wrap (c0_Length - (1 : Int)))))), (9, .int .i64 (ishl .i64 (1 : Int) (IntKind.i64.wrap (c0_Length - (1 : Int))))), (10, v30), (12, .int .i64 t12), (13, .int .i64 s.2)] ∧ Hp S w0 w (Res.rows (RowK.sl (Ek.int .i64) 3) 70 v30 vs31 s.1 :: Res.obj 41 v1 [.int .i64 c0_Length, .int .u32 c0_One, .int .u32 c0_Two] :: ow)) (fun q e a w => e = .exit 4 ∧ ∃ (v33 : Value) (vs34 : List Value), Fr 134 a [(1, vmarks1), (2, optr v1 0), (8, .int .i64 (IntKind.i64.wrap ((IntKind.i64.wrap (((marks1.length : Int)).tdiv (2 : Int))) - (IntKind.i64.wrap (c0_Length - (1 : Int)))))), (9, .int .i64 (ishl .i64 (1 : Int) (IntKind.i64.wrap (c0_Length - (1 : Int))))), (10, v33), (12, .int .i64 t12)] ∧ Hp S w0 w (Res.rows (RowK.sl (Ek.int .i64) 3) 70 v33 vs34 q :: Res.obj 41 v1 [.int .i64 c0_Length, .int .u32 c0_One, .int .u32 c0_Two] :: ow)) ?_ hl ⟨_, _, hf.sub ⟨rfl, rfl, rfl, rfl, rfl, rfl, rfl, trivial⟩, hp⟩ ?_
      · clear hl hf hp
        intro s x a w h hI
        obtain ⟨least10, s13⟩ := s
        obtain ⟨v30, vs31, hf, hp⟩ : ∃ (v30 : Value) (vs31 : List Value), Fr 134 a [(1, vmarks1), (2, optr v1 0), (8, .int .i64 (IntKind.i64.wrap ((IntKind.i64.wrap (((marks1.length : Int)).tdiv (2 : Int))) - (IntKind.i64.wrap (c0_Length - (1 : Int)))))), (9, .int .i64 (ishl .i64 (1 : Int) (IntKind.i64.wrap (c0_Length - (1 : Int))))), (10, v30), (12, .int .i64 t12), (13, .int .i64 s13)] ∧ Hp S w0 w (Res.rows (RowK.sl (Ek.int .i64) 3) 70 v30 vs31 least10 :: Res.obj 41 v1 [.int .i64 c0_Length, .int .u32 c0_One, .int .u32 c0_Two] :: ow) := hI
        replace h : f_foghornref22_Path.s3c c0_Length c0_One c0_Two marks1 t12 least10 s13 = some x := h
        unfold f_foghornref22_Path.s3c at h
        refine wp_seq ?_
        refine wp_seq ?_
        refine wp_reg ?_
        refine st_move hf rfl rfl (by decide) ?_
        clear hf; intro a ha hf; clear ha
        refine st_move hf rfl rfl (by decide) ?_
        clear hf; intro a ha hf; clear ha
        refine st_ilss hf (by decide) rfl rfl rfl ?_
        clear hf; intro a ha hf; clear ha
        refine st_nil hf ?_
        refine th_n ?_
        refine wp_if hf rfl (fun hb => ?_) (fun hb => ?_)
        · replace h := ifT h hb
          refine wp_skip ?_
          refine th_n ?_
          refine wp_seq ?_
          refine wp_block ?_
          refine wp_seq ?_
          refine wp_reg ?_
          refine st_ldOA (m := 3) (us := [.int .i64 c0_Length, .int .u32 c0_One, .int .u32 c0_Two]) hf (by decide) (by kernel_rfl) rfl rfl (hp.ob (i := 1) rfl) rfl rfl ?_
          clear hf; intro a ha hf; clear ha
          refine st_move hf rfl rfl (by decide) ?_
          clear hf; intro a ha hf; clear ha
          refine st_conv_ii hf (by decide) (by rw [Try.underlying3]; rfl) Try.underlying37 rfl rfl ?_
          clear hf; intro a ha hf; clear ha
          refine st_move hf rfl rfl (by decide) ?_
          clear hf; intro a ha hf; clear ha
          refine st_move hf rfl rfl (by decide) ?_
          clear hf; intro a ha hf; clear ha
          refine st_move hf rfl rfl (by decide) ?_
          clear hf; intro a ha hf; clear ha
          obtain ⟨q36, hcall37, h⟩ := bnd h
          obtain ⟨S38, hp39, rd40, up41, bk42⟩ := Hp.lendR hp (i := 0) rfl
          refine st_call hf (by decide) Try.func34 rfl rfl rfl rfl rfl (f_foghornref22_way_c hp39 _ _ _ _ _ _ _ ((hmarks1.now hp).mono up41) _ _ _ _ rd40 hcall37) ?_
          rintro _ w ⟨rfl, hp0⟩
          have hp0 := bk42 _ _ hp0
          clear hp; have hp := hp0; clear hp0
          replace hp : Hp _ _ _ (Res.rows (RowK.sl (Ek.int .i64) 3) 70 v30 vs31 least10 :: Res.obj 41 v1 [.int .i64 c0_Length, .int .u32 c0_One, .int .u32 c0_Two] :: ow) := hp
          refine ⟨_, rfl, ?_⟩
          clear hf; intro a hf
          refine st_assign hf rfl rfl (by decide) ?_
          clear hf; intro a ha hf; clear ha
          refine st_nil hf ?_
          refine th_n ?_
          refine wp_seq_cut (fun a w => ∃ (x14 : Int), f_foghornref22_Path.j1 least10 t12 s13 x14 = some x ∧ Fr 134 a [(1, vmarks1), (2, optr v1 0), (8, .int .i64 (IntKind.i64.wrap ((IntKind.i64.wrap (((marks1.length : Int)).tdiv (2 : Int))) - (IntKind.i64.wrap (c0_Length - (1 : Int)))))), (9, .int .i64 (ishl .i64 (1 : Int) (IntKind.i64.wrap (c0_Length - (1 : Int))))), (10, v30), (12, .int .i64 t12), (13, .int .i64 s13), (14, .int .i64 x14)] ∧ Hp S w0 w (Res.obj 41 v1 [.int .i64 c0_Length, .int .u32 c0_One, .int .u32 c0_Two] :: Res.rows (RowK.sl (Ek.int .i64) 3) 70 v30 vs31 least10 :: ow)) ?_ ?_
          · skip
            refine wp_seq ?_
            refine wp_reg ?_
            refine st_move hf rfl rfl (by decide) ?_
            clear hf; intro a ha hf; clear ha
            refine st_move hf rfl rfl (by decide) ?_
            clear hf; intro a ha hf; clear ha
            refine st_ilss hf (by decide) rfl rfl rfl ?_
            clear hf; intro a ha hf; clear ha
            refine st_nil hf ?_
            refine th_n ?_
            refine wp_if hf rfl (fun hb => ?_) (fun hb => ?_)
            · replace h := ifT h hb
              refine wp_reg ?_
              refine st_move hf rfl rfl (by decide) ?_
              clear hf; intro a ha hf; clear ha
              refine st_ldOA (m := 3) (us := [.int .i64 c0_Length, .int .u32 c0_One, .int .u32 c0_Two]) hf (by decide) (by kernel_rfl) rfl rfl (hp.ob (i := 1) rfl) rfl rfl ?_
              clear hf; intro a ha hf; clear ha
              refine st_move hf rfl rfl (by decide) ?_
              clear hf; intro a ha hf; clear ha
              refine st_conv_ii hf (by decide) (by rw [Try.underlying3]; rfl) Try.underlying37 rfl rfl ?_
              clear hf; intro a ha hf; clear ha
              refine st_move hf rfl rfl (by decide) ?_
              clear hf; intro a ha hf; clear ha
              refine st_move hf rfl rfl (by decide) ?_
              clear hf; intro a ha hf; clear ha
              refine st_move hf rfl rfl (by decide) ?_
              clear hf; intro a ha hf; clear ha
              obtain ⟨q50, hcall51, h⟩ := bnd h
              obtain ⟨S52, hp53, rd54, up55, bk56⟩ := Hp.lendR hp (i := 0) rfl
              refine st_call hf (by decide) Try.func34 rfl rfl rfl rfl rfl (f_foghornref22_way_c hp53 _ _ _ _ _ _ _ ((hmarks1.now hp).mono up55) _ _ _ _ rd54 hcall51) ?_
              rintro _ w ⟨rfl, hp0⟩
              have hp0 := bk56 _ _ hp0
              clear hp; have hp := hp0; clear hp0
              replace hp : Hp _ _ _ (Res.rows (RowK.sl (Ek.int .i64) 3) 70 v30 vs31 least10 :: Res.obj 41 v1 [.int .i64 c0_Length, .int .u32 c0_One, .int .u32 c0_Two] :: ow) := hp
              refine ⟨_, rfl, ?_⟩
              clear hf; intro a hf
              refine st_imin hf (by decide) rfl rfl rfl ?_
              clear hf; intro a ha hf; clear ha
              refine st_assign hf rfl rfl (by decide) ?_
              clear hf; intro a ha hf; clear ha
              refine st_nil hf ?_
              have hp : Hp _ _ _ (Res.obj 41 v1 [.int .i64 c0_Length, .int .u32 c0_One, .int .u32 c0_Two] :: Res.rows (RowK.sl (Ek.int .i64) 3) 70 v30 vs31 least10 :: ow) := Hp.sel (pre := [Res.rows (RowK.sl (Ek.int .i64) 3) 70 v30 vs31 least10, Res.obj 41 v1 [.int .i64 c0_Length, .int .u32 c0_One, .int .u32 c0_Two]]) (tail := ow) (rs' := [Res.obj 41 v1 [.int .i64 c0_Length, .int .u32 c0_One, .int .u32 c0_Two], Res.rows (RowK.sl (Ek.int .i64) 3) 70 v30 vs31 least10]) hp [1, 0] (by decide) (by simp) rfl
              refine th_n ?_
              exact ⟨_, h, hf.sub ⟨rfl, rfl, rfl, rfl, rfl, rfl, rfl, rfl, trivial⟩, hp⟩
            replace h := ifF h hb
            refine wp_skip ?_
            have hp : Hp _ _ _ (Res.obj 41 v1 [.int .i64 c0_Length, .int .u32 c0_One, .int .u32 c0_Two] :: Res.rows (RowK.sl (Ek.int .i64) 3) 70 v30 vs31 least10 :: ow) := Hp.sel (pre := [Res.rows (RowK.sl (Ek.int .i64) 3) 70 v30 vs31 least10, Res.obj 41 v1 [.int .i64 c0_Length, .int .u32 c0_One, .int .u32 c0_Two]]) (tail := ow) (rs' := [Res.obj 41 v1 [.int .i64 c0_Length, .int .u32 c0_One, .int .u32 c0_Two], Res.rows (RowK.sl (Ek.int .i64) 3) 70 v30 vs31 least10]) hp [1, 0] (by decide) (by simp) rfl
            refine th_n ?_
            exact ⟨_, h, hf.sub ⟨rfl, rfl, rfl, rfl, rfl, rfl, rfl, rfl, trivial⟩, hp⟩
          rintro a w ⟨x14, h, hf, hp⟩
          unfold f_foghornref22_Path.j1 at h
          refine wp_reg ?_
          refine st_move hf rfl rfl (by decide) ?_
          clear hf; intro a ha hf; clear ha
          refine st_move hf rfl rfl (by decide) ?_
          clear hf; intro a ha hf; clear ha
          refine st_move hf rfl rfl (by decide) ?_
          clear hf; intro a ha hf; clear ha
          refine st_move hf rfl rfl (by decide) ?_
          clear hf; intro a ha hf; clear ha
          obtain ⟨hc43, h⟩ := chk h
          refine st_indexV (E := Ek.val) (m := least10.length) hf (by decide) Try.underlying69 eltv70 rfl rfl rfl (hp.rd (i := 1) rfl).shapeNY hc43.1 hc43.2 ?_
          clear hf; intro a ha hf; clear ha
          refine st_ldRY hf (by decide) pl70 rfl rfl (hp.rd (i := 1) rfl) hc43.1 hc43.2 ?_
          clear hf; intro a ha hf; clear ha
          refine st_move hf rfl rfl (by decide) ?_
          clear hf; intro a ha hf; clear ha
          refine st_build (E := (Ek.int .i64)) (xs := [x14]) hf (by decide) elt3 Try.underlying70 hp (vals := #[(0, .int .i64 x14)]) (cells := #[.int .i64 x14]) rfl (by simp [hf.ev (x := (Operand.tmp 93)) rfl]) (by decide) (by decide) (z := .int .i64 0) (by kernel_rfl) (by kernel_rfl) rfl (reps_cons (cs := [.int .i64 x14]) rfl (reps_nil _)) ?_
          clear hf; intro a w v44 hf hp0; clear hp; have hp := hp0; clear hp0
          replace hp : Hp _ _ _ (Res.sl (Ek.int .i64) 3 v44 ([x14]) :: Res.obj 41 v1 [.int .i64 c0_Length, .int .u32 c0_One, .int .u32 c0_Two] :: Res.rows (RowK.sl (Ek.int .i64) 3) 70 v30 vs31 least10 :: ow) := hp
          have hp : Hp _ _ _ (Res.rows (RowK.sl (Ek.int .i64) 3) 70 v30 vs31 least10 :: Res.sl (Ek.int .i64) 3 v44 ([x14]) :: Res.obj 41 v1 [.int .i64 c0_Length, .int .u32 c0_One, .int .u32 c0_Two] :: ow) := Hp.sel (pre := [Res.sl (Ek.int .i64) 3 v44 ([x14]), Res.obj 41 v1 [.int .i64 c0_Length, .int .u32 c0_One, .int .u32 c0_Two], Res.rows (RowK.sl (Ek.int .i64) 3) 70 v30 vs31 least10]) (tail := ow) (rs' := [Res.rows (RowK.sl (Ek.int .i64) 3) 70 v30 vs31 least10, Res.sl (Ek.int .i64) 3 v44 ([x14]), Res.obj 41 v1 [.int .i64 c0_Length, .int .u32 c0_One, .int .u32 c0_Two]]) hp [2, 0, 1] (by decide) (by simp) rfl
          replace hp : Hp _ _ _ (Res.sl (Ek.int .i64) 3 (gtv vs31 t12) (gt least10 t12) :: Res.rowsH (RowK.sl (Ek.int .i64) 3) 70 v30 vs31 ((least10.map some).set (t12).toNat none) :: Res.sl (Ek.int .i64) 3 v44 ([x14]) :: Res.obj 41 v1 [.int .i64 c0_Length, .int .u32 c0_One, .int .u32 c0_Two] :: ow) := hp.rowsTake (k := t12) hc43.1 (take1 hc43.1 hc43.2)
          obtain ⟨hc47, h⟩ := chk h
          refine st_append (E := (Ek.int .i64)) hf (by decide) elt3 Try.underlying70 (by decide) hp (i := 0) rfl rfl rfl rfl (hp.sl (i := 2) rfl) hc47 ?_
          clear hf; intro a w v48 hf hp0; clear hp; have hp := hp0; clear hp0
          replace hp : Hp _ _ _ (Res.sl (Ek.int .i64) 3 v48 ((gt least10 t12) ++ [x14]) :: Res.rowsH (RowK.sl (Ek.int .i64) 3) 70 v30 vs31 ((least10.map some).set (t12).toNat none) :: Res.sl (Ek.int .i64) 3 v44 ([x14]) :: Res.obj 41 v1 [.int .i64 c0_Length, .int .u32 c0_One, .int .u32 c0_Two] :: ow) := hp
          obtain ⟨hc49, h⟩ := chk h
          refine st_indexV (E := Ek.val) (m := least10.length) hf (by decide) Try.underlying69 eltv70 rfl rfl rfl (by simpa only [List.length_set, List.length_map] using (hp.rd (i := 1) rfl).shapeN) hc49.1 hc49.2 ?_
          clear hf; intro a ha hf; clear ha
          have hp : Hp _ _ _ (Res.rowsH (RowK.sl (Ek.int .i64) 3) 70 v30 vs31 ((least10.map some).set (t12).toNat none) :: Res.sl (Ek.int .i64) 3 v48 ((gt least10 t12) ++ [x14]) :: Res.sl (Ek.int .i64) 3 v44 ([x14]) :: Res.obj 41 v1 [.int .i64 c0_Length, .int .u32 c0_One, .int .u32 c0_Two] :: ow) := Hp.sel (pre := [Res.sl (Ek.int .i64) 3 v48 ((gt least10 t12) ++ [x14]), Res.rowsH (RowK.sl (Ek.int .i64) 3) 70 v30 vs31 ((least10.map some).set (t12).toNat none), Res.sl (Ek.int .i64) 3 v44 ([x14]), Res.obj 41 v1 [.int .i64 c0_Length, .int .u32 c0_One, .int .u32 c0_Two]]) (tail := ow) (rs' := [Res.rowsH (RowK.sl (Ek.int .i64) 3) 70 v30 vs31 ((least10.map some).set (t12).toNat none), Res.sl (Ek.int .i64) 3 v48 ((gt least10 t12) ++ [x14]), Res.sl (Ek.int .i64) 3 v44 ([x14]), Res.obj 41 v1 [.int .i64 c0_Length, .int .u32 c0_One, .int .u32 c0_Two]]) hp [1, 0, 2, 3] (by decide) (by simp) rfl
          refine st_storeR (K := (RowK.sl (Ek.int .i64) 3)) (b := (((gt least10 t12) ++ [x14]) : (List Int))) hf eltv70 hp (hp.sl (i := 1) rfl).shapeV rfl rfl rfl hc49.1 (by simp only [List.length_set, List.length_map]; exact hc49.2) ?_
          clear hf; intro a w hf hp0; clear hp; have hp := hp0; clear hp0
          rw [fill1] at hp
          replace hp : Hp _ _ _ (Res.rows (RowK.sl (Ek.int .i64) 3) 70 v30 (vs31.set (t12).toNat v48) (least10.set (t12).toNat (((gt least10 t12) ++ [x14]) : (List Int))) :: Res.sl (Ek.int .i64) 3 v44 ([x14]) :: Res.obj 41 v1 [.int .i64 c0_Length, .int .u32 c0_One, .int .u32 c0_Two] :: ow) := hp
          refine st_nil hf ?_
          refine ib_n ?_
          refine th_n ?_
          refine wp_reg ?_
          refine st_move hf rfl rfl (by decide) ?_
          clear hf; intro a ha hf; clear ha
          refine st_iadd hf (by decide) rfl rfl rfl ?_
          clear hf; intro a ha hf; clear ha
          refine st_assign hf rfl rfl (by decide) ?_
          clear hf; intro a ha hf; clear ha
          refine st_nil hf ?_
          obtain rfl := Option.some.inj h
          have hp : Hp _ _ _ (Res.rows (RowK.sl (Ek.int .i64) 3) 70 v30 (vs31.set (t12).toNat v48) (least10.set (t12).toNat (((gt least10 t12) ++ [x14]) : (List Int))) :: Res.obj 41 v1 [.int .i64 c0_Length, .int .u32 c0_One, .int .u32 c0_Two] :: ow) := Hp.sel (pre := [Res.rows (RowK.sl (Ek.int .i64) 3) 70 v30 (vs31.set (t12).toNat v48) (least10.set (t12).toNat (((gt least10 t12) ++ [x14]) : (List Int))), Res.sl (Ek.int .i64) 3 v44 ([x14]), Res.obj 41 v1 [.int .i64 c0_Length, .int .u32 c0_One, .int .u32 c0_Two]]) (tail := ow) (rs' := [Res.rows (RowK.sl (Ek.int .i64) 3) 70 v30 (vs31.set (t12).toNat v48) (least10.set (t12).toNat (((gt least10 t12) ++ [x14]) : (List Int))), Res.obj 41 v1 [.int .i64 c0_Length, .int .u32 c0_One, .int .u32 c0_Two]]) hp [0, 2] (by decide) (by simp) rfl
          exact rnd_l ⟨_, _, hf.sub ⟨rfl, rfl, rfl, rfl, rfl, rfl, rfl, trivial⟩, hp⟩
        replace h := ifF h hb
        refine wp_exit ?_
        refine th_e ?_
        obtain rfl := Option.some.inj h
        exact rnd_r (by simp) ⟨rfl, _, _, hf.sub ⟨rfl, rfl, rfl, rfl, rfl, rfl, trivial⟩, hp⟩
      clear hl hf hp
      intro e a w hne hO
      obtain ⟨rfl, v33, vs34, hf, hp⟩ := hO
      refine ib_same ?_
      refine ib_n ?_
      refine th_n ?_
      refine wp_reg ?_
      refine st_move hf rfl rfl (by decide) ?_
      clear hf; intro a ha hf; clear ha
      refine st_isub hf (by decide) rfl rfl rfl ?_
      clear hf; intro a ha hf; clear ha
      refine st_assign hf rfl rfl (by decide) ?_
      clear hf; intro a ha hf; clear ha
      refine st_nil hf ?_
      obtain rfl := Option.some.inj h
      exact rnd_l ⟨_, _, hf.sub ⟨rfl, rfl, rfl, rfl, rfl, rfl, trivial⟩, hp⟩
    replace h := ifF h hb
    refine wp_exit ?_
    refine th_e ?_
    obtain rfl := Option.some.inj h
    exact rnd_r (by simp) ⟨rfl, _, _, hf.sub ⟨rfl, rfl, rfl, rfl, trivial⟩, hp⟩
  clear hl hf hp
  intro e a w hne hO
  obtain ⟨rfl, v27, vs28, hf, hp⟩ := hO
  refine ib_same ?_
  refine th_n ?_
  refine wp_seq ?_
  refine wp_reg ?_
  refine st_assign hf rfl rfl (by decide) ?_
  clear hf; intro a ha hf; clear ha
  refine st_nil hf ?_
  refine th_n ?_
  refine wp_seq ?_
  refine wp_reg ?_
  refine st_assign hf rfl rfl (by decide) ?_
  clear hf; intro a ha hf; clear ha
  refine st_nil hf ?_
  refine th_n ?_
  refine wp_seq ?_
  refine wp_seq ?_
  refine wp_reg ?_
  refine st_assign hf rfl rfl (by decide) ?_
  clear hf; intro a ha hf; clear ha
  refine st_nil hf ?_
  refine th_n ?_
  refine wp_block ?_
  obtain ⟨q90, hl, h⟩ := bnd h
  have hp := hp.nil Ek.bool 4
  have hp : Hp _ _ _ (Res.sl Ek.bool 4 (.slice none 0 0) ([]) :: Res.obj 41 v1 [.int .i64 c0_Length, .int .u32 c0_One, .int .u32 c0_Two] :: Res.rows (RowK.sl (Ek.int .i64) 3) 70 v27 vs28 q58 :: ow) := Hp.sel (pre := [Res.sl Ek.bool 4 (.slice none 0 0) ([]), Res.rows (RowK.sl (Ek.int .i64) 3) 70 v27 vs28 q58, Res.obj 41 v1 [.int .i64 c0_Length, .int .u32 c0_One, .int .u32 c0_Two]]) (tail := ow) (rs' := [Res.sl Ek.bool 4 (.slice none 0 0) ([]), Res.obj 41 v1 [.int .i64 c0_Length, .int .u32 c0_One, .int .u32 c0_Two], Res.rows (RowK.sl (Ek.int .i64) 3) 70 v27 vs28 q58]) hp [0, 2, 1] (by decide) (by simp) rfl
  refine wp_loop_pure (f := (f_foghornref22_Path.s4 c0_Length c0_One c0_Two marks1 q58)) (s := ([], (0 : Int), (0 : Int))) (fun s a w => ∃ (v59 : Value), Fr 134 a [(1, vmarks1), (2, optr v1 0), (8, .int .i64 (IntKind.i64.wrap ((IntKind.i64.wrap (((marks1.length : Int)).tdiv (2 : Int))) - (IntKind.i64.wrap (c0_Length - (1 : Int)))))), (10, v27), (15, v59), (16, .int .u32 s.2.1), (17, .int .i64 s.2.2)] ∧ Hp S w0 w (Res.sl Ek.bool 4 v59 s.1 :: Res.obj 41 v1 [.int .i64 c0_Length, .int .u32 c0_One, .int .u32 c0_Two] :: Res.rows (RowK.sl (Ek.int .i64) 3) 70 v27 vs28 q58 :: ow)) (fun q e a w => e = .exit 6 ∧ ∃ (v61 : Value), Fr 134 a [(10, v27), (15, v61)] ∧ Hp S w0 w (Res.sl Ek.bool 4 v61 q :: Res.rows (RowK.sl (Ek.int .i64) 3) 70 v27 vs28 q58 :: ow)) ?_ hl ⟨_, hf.sub ⟨rfl, rfl, rfl, rfl, rfl, rfl, rfl, trivial⟩, hp⟩ ?_
  · clear hl hf hp
    intro s x a w h hI
    obtain ⟨message15, at16, t17⟩ := s
    obtain ⟨v59, hf, hp⟩ : ∃ (v59 : Value), Fr 134 a [(1, vmarks1), (2, optr v1 0), (8, .int .i64 (IntKind.i64.wrap ((IntKind.i64.wrap (((marks1.length : Int)).tdiv (2 : Int))) - (IntKind.i64.wrap (c0_Length - (1 : Int)))))), (10, v27), (15, v59), (16, .int .u32 at16), (17, .int .i64 t17)] ∧ Hp S w0 w (Res.sl Ek.bool 4 v59 message15 :: Res.obj 41 v1 [.int .i64 c0_Length, .int .u32 c0_One, .int .u32 c0_Two] :: Res.rows (RowK.sl (Ek.int .i64) 3) 70 v27 vs28 q58 :: ow) := hI
    replace h : f_foghornref22_Path.s4c c0_Length c0_One c0_Two marks1 q58 message15 at16 t17 = some x := h
    unfold f_foghornref22_Path.s4c at h
    refine wp_seq ?_
    refine wp_seq ?_
    refine wp_reg ?_
    refine st_move hf rfl rfl (by decide) ?_
    clear hf; intro a ha hf; clear ha
    refine st_move hf rfl rfl (by decide) ?_
    clear hf; intro a ha hf; clear ha
    refine st_ilss hf (by decide) rfl rfl rfl ?_
    clear hf; intro a ha hf; clear ha
    refine st_nil hf ?_
    refine th_n ?_
    refine wp_if hf rfl (fun hb => ?_) (fun hb => ?_)
    · replace h := ifT h hb
      refine wp_skip ?_
      refine th_n ?_
      refine wp_seq ?_
      refine wp_block ?_
      refine wp_seq ?_
      obtain ⟨S63, hp64, rd65, up66, bk67⟩ := Hp.lendO hp (i := 1) rfl
      have rl68 := ((hmarks1.now hp).mono up66)
      have rl69 := rd65
      obtain ⟨q70, hcall71, h⟩ := bnd h
      obtain ⟨q77, hcall78, h⟩ := bnd h
      refine wp_cutN (fun a w => Fr 134 a [(1, vmarks1), (2, optr v1 0), (8, .int .i64 (IntKind.i64.wrap ((IntKind.i64.wrap (((marks1.length : Int)).tdiv (2 : Int))) - (IntKind.i64.wrap (c0_Length - (1 : Int)))))), (10, v27), (15, v59), (16, .int .u32 at16), (17, .int .i64 t17), (18, .bool (decide (q77 < q70)))] ∧ Hp S w0 w (Res.obj 41 v1 [.int .i64 c0_Length, .int .u32 c0_One, .int .u32 c0_Two] :: Res.rows (RowK.sl (Ek.int .i64) 3) 70 v27 vs28 q58 :: Res.sl Ek.bool 4 v59 message15 :: ow)) ?_ ?_
      · have hp := hp64.same (Same.drew w)
        refine dr_begin' (fun a w => Fr 134 a [(1, vmarks1), (2, optr v1 0), (8, .int .i64 (IntKind.i64.wrap ((IntKind.i64.wrap (((marks1.length : Int)).tdiv (2 : Int))) - (IntKind.i64.wrap (c0_Length - (1 : Int)))))), (10, v27), (15, v59), (16, .int .u32 at16), (17, .int .i64 t17), (18, .bool (decide (q77 < q70)))] ∧ Hp S w0 w (Res.obj 41 v1 [.int .i64 c0_Length, .int .u32 c0_One, .int .u32 c0_Two] :: Res.rows (RowK.sl (Ek.int .i64) 3) 70 v27 vs28 q58 :: Res.sl Ek.bool 4 v59 message15 :: ow)) (fun w' => ∃ l, Hp S63 w w' l) [] (by kernel_rfl) ?_
        refine dr_take 0 (.agg #[.int .i64 c0_Length, .int .u32 c0_One, .int .u32 c0_Two]) rfl (by kernel_rfl) (by kernel_rfl) (by kernel_rfl) (by kernel_rfl) rfl rfl hf (by decide) rfl (fun w hp => ?_) ⟨_, hp⟩ ?_
        · obtain ⟨_, hp⟩ := hp
          refine st_ldOA (m := 3) (us := [.int .i64 c0_Length, .int .u32 c0_One, .int .u32 c0_Two]) hf (by decide) (by kernel_rfl) rfl rfl (rl69.ob hp) rfl rfl ?_
          clear hf; intro a ha hf
          exact st_nil hf (th_n ⟨ha, rfl⟩)
        clear hf; intro a hf
        refine dr_take 1 (.int .u32 at16) rfl (by kernel_rfl) (by kernel_rfl) (by kernel_rfl) (by kernel_rfl) rfl rfl hf (by decide) rfl (fun w hp => ?_) ⟨_, hp⟩ ?_
        · obtain ⟨_, hp⟩ := hp
          refine st_move hf rfl rfl (by decide) ?_
          clear hf; intro a ha hf
          exact st_nil hf (th_n ⟨ha, rfl⟩)
        clear hf; intro a hf
        refine dr_take 2 (vmarks1) rfl (by kernel_rfl) (by kernel_rfl) (by kernel_rfl) (by kernel_rfl) rfl rfl hf (by decide) rfl (fun w hp => ?_) ⟨_, hp⟩ ?_
        · obtain ⟨_, hp⟩ := hp
          refine st_move hf rfl rfl (by decide) ?_
          clear hf; intro a ha hf
          exact st_nil hf (th_n ⟨ha, rfl⟩)
        clear hf; intro a hf
        refine dr_take 3 (.int .i64 t17) rfl (by kernel_rfl) (by kernel_rfl) (by kernel_rfl) (by kernel_rfl) rfl rfl hf (by decide) rfl (fun w hp => ?_) ⟨_, hp⟩ ?_
        · obtain ⟨_, hp⟩ := hp
          refine st_move hf rfl rfl (by decide) ?_
          clear hf; intro a ha hf
          exact st_nil hf (th_n ⟨ha, rfl⟩)
        clear hf; intro a hf
        refine dr_take 4 (v27) rfl (by kernel_rfl) (by kernel_rfl) (by kernel_rfl) (by kernel_rfl) rfl rfl hf (by decide) rfl (fun w hp => ?_) ⟨_, hp⟩ ?_
        · obtain ⟨_, hp⟩ := hp
          refine st_move hf rfl rfl (by decide) ?_
          clear hf; intro a ha hf
          exact st_nil hf (th_n ⟨ha, rfl⟩)
        clear hf; intro a hf
        refine dr_take 6 (.agg #[.int .i64 c0_Length, .int .u32 c0_One, .int .u32 c0_Two]) rfl (by kernel_rfl) (by kernel_rfl) (by kernel_rfl) (by kernel_rfl) rfl rfl hf (by decide) rfl (fun w hp => ?_) ⟨_, hp⟩ ?_
        · obtain ⟨_, hp⟩ := hp
          refine st_ldOA (m := 3) (us := [.int .i64 c0_Length, .int .u32 c0_One, .int .u32 c0_Two]) hf (by decide) (by kernel_rfl) rfl rfl (rl69.ob hp) rfl rfl ?_
          clear hf; intro a ha hf
          exact st_nil hf (th_n ⟨ha, rfl⟩)
        clear hf; intro a hf
        refine dr_take 7 (.int .u32 at16) rfl (by kernel_rfl) (by kernel_rfl) (by kernel_rfl) (by kernel_rfl) rfl rfl hf (by decide) rfl (fun w hp => ?_) ⟨_, hp⟩ ?_
        · obtain ⟨_, hp⟩ := hp
          refine st_move hf rfl rfl (by decide) ?_
          clear hf; intro a ha hf
          exact st_nil hf (th_n ⟨ha, rfl⟩)
        clear hf; intro a hf
        refine dr_take 8 (vmarks1) rfl (by kernel_rfl) (by kernel_rfl) (by kernel_rfl) (by kernel_rfl) rfl rfl hf (by decide) rfl (fun w hp => ?_) ⟨_, hp⟩ ?_
        · obtain ⟨_, hp⟩ := hp
          refine st_move hf rfl rfl (by decide) ?_
          clear hf; intro a ha hf
          exact st_nil hf (th_n ⟨ha, rfl⟩)
        clear hf; intro a hf
        refine dr_take 9 (.int .i64 t17) rfl (by kernel_rfl) (by kernel_rfl) (by kernel_rfl) (by kernel_rfl) rfl rfl hf (by decide) rfl (fun w hp => ?_) ⟨_, hp⟩ ?_
        · obtain ⟨_, hp⟩ := hp
          refine st_move hf rfl rfl (by decide) ?_
          clear hf; intro a ha hf
          exact st_nil hf (th_n ⟨ha, rfl⟩)
        clear hf; intro a hf
        refine dr_take 10 (v27) rfl (by kernel_rfl) (by kernel_rfl) (by kernel_rfl) (by kernel_rfl) rfl rfl hf (by decide) rfl (fun w hp => ?_) ⟨_, hp⟩ ?_
        · obtain ⟨_, hp⟩ := hp
          refine st_move hf rfl rfl (by decide) ?_
          clear hf; intro a ha hf
          exact st_nil hf (th_n ⟨ha, rfl⟩)
        clear hf; intro a hf
        refine dr_one 5 rfl (by kernel_rfl) ?_
        obtain ⟨S72, hp73, rd74, up75, bk76⟩ := Hp.lendR hp (i := 1) rfl
        refine st_call hf (by decide) Try.func34 rfl rfl rfl rfl rfl (f_foghornref22_way_c hp73 _ _ _ _ _ _ _ ((rl68.now hp).mono up75) _ _ _ _ rd74 hcall71) ?_
        rintro _ w ⟨rfl, hp0⟩
        have hp0 := bk76 _ _ hp0
        clear hp; have hp := hp0; clear hp0
        replace hp : Hp _ _ _ (Res.rows (RowK.sl (Ek.int .i64) 3) 70 v27 vs28 q58 :: Res.sl Ek.bool 4 v59 message15 :: ow) := hp
        refine ⟨_, rfl, ?_⟩
        clear hf; intro a hf
        refine st_nil hf (th_n ⟨fun _ _ => ⟨_, hp⟩, ?_⟩)
        refine dr_one 11 rfl (by kernel_rfl) ?_
        obtain ⟨S79, hp80, rd81, up82, bk83⟩ := Hp.lendR hp (i := 0) rfl
        refine st_call hf (by decide) Try.func34 rfl rfl rfl rfl rfl (f_foghornref22_way_c hp80 _ _ _ _ _ _ _ ((rl68.now hp).mono up82) _ _ _ _ rd81 hcall78) ?_
        rintro _ w ⟨rfl, hp0⟩
        have hp0 := bk83 _ _ hp0
        clear hp; have hp := hp0; clear hp0
        replace hp : Hp _ _ _ (Res.rows (RowK.sl (Ek.int .i64) 3) 70 v27 vs28 q58 :: Res.sl Ek.bool 4 v59 message15 :: ow) := hp
        refine ⟨_, rfl, ?_⟩
        clear hf; intro a hf
        refine st_nil hf (th_n ⟨fun _ _ => ⟨_, hp⟩, ?_⟩)
        refine dr_take 12 (.bool (decide (q77 < q70))) rfl (by kernel_rfl) (by kernel_rfl) (by kernel_rfl) (by kernel_rfl) rfl rfl hf (by decide) rfl (fun w hp => ?_) ⟨_, hp⟩ ?_
        · obtain ⟨_, hp⟩ := hp
          refine st_igtr hf (by decide) rfl rfl rfl ?_
          clear hf; intro a ha hf
          exact st_nil hf (th_n ⟨ha, rfl⟩)
        clear hf; intro a hf
        refine dr_take 13 (.bool (decide (q77 < q70))) rfl (by kernel_rfl) (by kernel_rfl) (by kernel_rfl) (by kernel_rfl) rfl rfl hf (by decide) rfl (fun w hp => ?_) ⟨_, hp⟩ ?_
        · obtain ⟨_, hp⟩ := hp
          refine st_assign hf rfl rfl (by decide) ?_
          clear hf; intro a ha hf
          exact st_nil hf (th_n ⟨ha, rfl⟩)
        clear hf; intro a hf
        refine dr_end (by kernel_rfl) ?_ _
        have hp := bk67 _ _ hp
        exact ⟨hf.sub ⟨rfl, rfl, rfl, rfl, rfl, rfl, rfl, rfl, trivial⟩, hp⟩
      rintro a w ⟨hf, hp⟩
      refine th_n ?_
      refine wp_seq ?_
      refine wp_reg ?_
      refine st_move hf rfl rfl (by decide) ?_
      clear hf; intro a ha hf; clear ha
      refine st_move hf rfl rfl (by decide) ?_
      clear hf; intro a ha hf; clear ha
      refine st_build (E := Ek.bool) (xs := [(decide (q77 < q70))]) hf (by decide) elt4 Try.underlying22 hp (vals := #[(0, .bool (decide (q77 < q70)))]) (cells := #[.bool (decide (q77 < q70))]) rfl (by simp [hf.ev (x := (Operand.tmp 116)) rfl]) (by decide) (by decide) (z := .bool false) (by kernel_rfl) (by kernel_rfl) rfl (reps_cons (cs := [.bool (decide (q77 < q70))]) rfl (reps_nil _)) ?_
      clear hf; intro a w v84 hf hp0; clear hp; have hp := hp0; clear hp0
      replace hp : Hp _ _ _ (Res.sl Ek.bool 4 v84 ([(decide (q77 < q70))]) :: Res.obj 41 v1 [.int .i64 c0_Length, .int .u32 c0_One, .int .u32 c0_Two] :: Res.rows (RowK.sl (Ek.int .i64) 3) 70 v27 vs28 q58 :: Res.sl Ek.bool 4 v59 message15 :: ow) := hp
      obtain ⟨hc86, h⟩ := chk h
      refine st_append (E := Ek.bool) hf (by decide) elt4 Try.underlying22 (by decide) hp (i := 3) rfl rfl rfl rfl (hp.sl (i := 0) rfl) hc86 ?_
      clear hf; intro a w v87 hf hp0; clear hp; have hp := hp0; clear hp0
      replace hp : Hp _ _ _ (Res.sl Ek.bool 4 v84 ([(decide (q77 < q70))]) :: Res.obj 41 v1 [.int .i64 c0_Length, .int .u32 c0_One, .int .u32 c0_Two] :: Res.rows (RowK.sl (Ek.int .i64) 3) 70 v27 vs28 q58 :: Res.sl Ek.bool 4 v87 (message15 ++ [(decide (q77 < q70))]) :: ow) := hp
      refine st_assign hf rfl rfl (by decide) ?_
      clear hf; intro a ha hf; clear ha
      refine st_nil hf ?_
      refine th_n ?_
      refine wp_seq ?_
      refine wp_reg ?_
      refine st_ldOA (m := 3) (us := [.int .i64 c0_Length, .int .u32 c0_One, .int .u32 c0_Two]) hf (by decide) (by kernel_rfl) rfl rfl (hp.ob (i := 1) rfl) rfl rfl ?_
      clear hf; intro a ha hf; clear ha
      refine st_move hf rfl rfl (by decide) ?_
      clear hf; intro a ha hf; clear ha
      refine st_move hf rfl rfl (by decide) ?_
      clear hf; intro a ha hf; clear ha
      obtain ⟨q88, hcall89, h⟩ := bnd h
      refine st_call hf (by decide) Try.func35 rfl rfl rfl rfl rfl (f_foghornref22_Step_c hp _ _ _ _ _ hcall89) ?_
      rintro _ w ⟨rfl, hp0⟩
      clear hp; have hp := hp0; clear hp0
      replace hp : Hp _ _ _ (Res.sl Ek.bool 4 v84 ([(decide (q77 < q70))]) :: Res.obj 41 v1 [.int .i64 c0_Length, .int .u32 c0_One, .int .u32 c0_Two] :: Res.rows (RowK.sl (Ek.int .i64) 3) 70 v27 vs28 q58 :: Res.sl Ek.bool 4 v87 (message15 ++ [(decide (q77 < q70))]) :: ow) := hp
      refine ⟨_, rfl, ?_⟩
      clear hf; intro a hf
      refine st_move hf rfl rfl (by decide) ?_
      clear hf; intro a ha hf; clear ha
      refine st_extract hf (by decide) rfl rfl rfl ?_
      clear hf; intro a ha hf; clear ha
      refine st_extract hf (by decide) rfl rfl rfl ?_
      clear hf; intro a ha hf; clear ha
      refine st_extract hf (by decide) rfl rfl rfl ?_
      clear hf; intro a ha hf; clear ha
      refine st_assign hf rfl rfl (by decide) ?_
      clear hf; intro a ha hf; clear ha
      refine st_assign hf rfl rfl (by decide) ?_
      clear hf; intro a ha hf; clear ha
      refine st_assign hf rfl rfl (by decide) ?_
      clear hf; intro a ha hf; clear ha
      refine st_nil hf ?_
      refine th_n ?_
      refine wp_reg ?_
      refine st_move hf rfl rfl (by decide) ?_
      clear hf; intro a ha hf; clear ha
      refine st_assign hf rfl rfl (by decide) ?_
      clear hf; intro a ha hf; clear ha
      refine st_nil hf ?_
      refine ib_n ?_
      refine th_n ?_
      refine wp_reg ?_
      refine st_move hf rfl rfl (by decide) ?_
      clear hf; intro a ha hf; clear ha
      refine st_iadd hf (by decide) rfl rfl rfl ?_
      clear hf; intro a ha hf; clear ha
      refine st_assign hf rfl rfl (by decide) ?_
      clear hf; intro a ha hf; clear ha
      refine st_nil hf ?_
      obtain rfl := Option.some.inj h
      have hp : Hp _ _ _ (Res.sl Ek.bool 4 v87 (message15 ++ [(decide (q77 < q70))]) :: Res.obj 41 v1 [.int .i64 c0_Length, .int .u32 c0_One, .int .u32 c0_Two] :: Res.rows (RowK.sl (Ek.int .i64) 3) 70 v27 vs28 q58 :: ow) := Hp.sel (pre := [Res.sl Ek.bool 4 v84 ([(decide (q77 < q70))]), Res.obj 41 v1 [.int .i64 c0_Length, .int .u32 c0_One, .int .u32 c0_Two], Res.rows (RowK.sl (Ek.int .i64) 3) 70 v27 vs28 q58, Res.sl Ek.bool 4 v87 (message15 ++ [(decide (q77 < q70))])]) (tail := ow) (rs' := [Res.sl Ek.bool 4 v87 (message15 ++ [(decide (q77 < q70))]), Res.obj 41 v1 [.int .i64 c0_Length, .int .u32 c0_One, .int .u32 c0_Two], Res.rows (RowK.sl (Ek.int .i64) 3) 70 v27 vs28 q58]) hp [3, 1, 2] (by decide) (by simp) rfl
      exact rnd_l ⟨_, hf.sub ⟨rfl, rfl, rfl, rfl, rfl, rfl, rfl, trivial⟩, hp⟩
    replace h := ifF h hb
    refine wp_exit ?_
    refine th_e ?_
    obtain rfl := Option.some.inj h
    have hp : Hp _ _ _ (Res.sl Ek.bool 4 v59 message15 :: Res.rows (RowK.sl (Ek.int .i64) 3) 70 v27 vs28 q58 :: ow) := Hp.sel (pre := [Res.sl Ek.bool 4 v59 message15, Res.obj 41 v1 [.int .i64 c0_Length, .int .u32 c0_One, .int .u32 c0_Two], Res.rows (RowK.sl (Ek.int .i64) 3) 70 v27 vs28 q58]) (tail := ow) (rs' := [Res.sl Ek.bool 4 v59 message15, Res.rows (RowK.sl (Ek.int .i64) 3) 70 v27 vs28 q58]) hp [0, 2] (by decide) (by simp) rfl
    exact rnd_r (by simp) ⟨rfl, _, hf.sub ⟨rfl, rfl, trivial⟩, hp⟩
  clear hl hf hp
  intro e a w hne hO
  obtain ⟨rfl, v61, hf, hp⟩ := hO
  refine ib_same ?_
  refine th_n ?_
  refine wp_seq ?_
  obtain ⟨S92, hp93, rd94, up95, bk96⟩ := Hp.lendR hp (i := 1) rfl
  have rl97 := rd94
  obtain ⟨hc98, h⟩ := chk h
  obtain ⟨hc99, h⟩ := chk h
  refine wp_cutN (fun a w => Fr 134 a [(4, v61), (5, .int .i64 (gt (gt q58 (0 : Int)) (0 : Int))), (6, .int .i64 (0 : Int))] ∧ Hp S w0 w (Res.rows (RowK.sl (Ek.int .i64) 3) 70 v27 vs28 q58 :: Res.sl Ek.bool 4 v61 q90 :: ow)) ?_ ?_
  · have hp := hp93.same (Same.drew w)
    refine dr_begin' (fun a w => Fr 134 a [(4, v61), (5, .int .i64 (gt (gt q58 (0 : Int)) (0 : Int))), (6, .int .i64 (0 : Int))] ∧ Hp S w0 w (Res.rows (RowK.sl (Ek.int .i64) 3) 70 v27 vs28 q58 :: Res.sl Ek.bool 4 v61 q90 :: ow)) (fun w' => ∃ l, Hp S92 w w' l) [] (by kernel_rfl) ?_
    refine dr_take 0 (v61) rfl (by kernel_rfl) (by kernel_rfl) (by kernel_rfl) (by kernel_rfl) rfl rfl hf (by decide) rfl (fun w hp => ?_) ⟨_, hp⟩ ?_
    · obtain ⟨_, hp⟩ := hp
      refine st_move hf rfl rfl (by decide) ?_
      clear hf; intro a ha hf
      exact st_nil hf (th_n ⟨ha, rfl⟩)
    clear hf; intro a hf
    refine dr_take 1 (v27) rfl (by kernel_rfl) (by kernel_rfl) (by kernel_rfl) (by kernel_rfl) rfl rfl hf (by decide) rfl (fun w hp => ?_) ⟨_, hp⟩ ?_
    · obtain ⟨_, hp⟩ := hp
      refine st_move hf rfl rfl (by decide) ?_
      clear hf; intro a ha hf
      exact st_nil hf (th_n ⟨ha, rfl⟩)
    clear hf; intro a hf
    refine dr_take 2 (eptr v27 (0 : Int) 1) rfl (by kernel_rfl) (by kernel_rfl) (by kernel_rfl) (by kernel_rfl) rfl rfl hf (by decide) rfl (fun w hp => ?_) ⟨_, hp⟩ ?_
    · obtain ⟨_, hp⟩ := hp
      refine st_indexV (E := Ek.val) (m := q58.length) hf (by decide) Try.underlying69 eltv70 rfl rfl rfl (rl97.ob hp).shapeNY hc98.1 hc98.2 ?_
      clear hf; intro a ha hf
      exact st_nil hf (th_n ⟨ha, rfl⟩)
    clear hf; intro a hf
    refine dr_take 3 ((gtv vs28 (0 : Int))) rfl (by kernel_rfl) (by kernel_rfl) (by kernel_rfl) (by kernel_rfl) rfl rfl hf (by decide) rfl (fun w hp => ?_) ⟨_, hp⟩ ?_
    · obtain ⟨_, hp⟩ := hp
      refine st_ldRY hf (by decide) pl70 rfl rfl (rl97.ob hp) hc98.1 hc98.2 ?_
      clear hf; intro a ha hf
      exact st_nil hf (th_n ⟨ha, rfl⟩)
    clear hf; intro a hf
    refine dr_take 4 (eptr (gtv vs28 (0 : Int)) (0 : Int) 1) rfl (by kernel_rfl) (by kernel_rfl) (by kernel_rfl) (by kernel_rfl) rfl rfl hf (by decide) rfl (fun w hp => ?_) ⟨_, hp⟩ ?_
    · obtain ⟨_, hp⟩ := hp
      refine st_index (E := (Ek.int .i64)) hf (by decide) Try.underlying70 elt3 rfl rfl rfl ((RdR.rowS rl97 hc98.1 hc98.2).sl hp) hc99.1 hc99.2 ?_
      clear hf; intro a ha hf
      exact st_nil hf (th_n ⟨ha, rfl⟩)
    clear hf; intro a hf
    refine dr_take 5 (.int .i64 (gt (gt q58 (0 : Int)) (0 : Int))) rfl (by kernel_rfl) (by kernel_rfl) (by kernel_rfl) (by kernel_rfl) rfl rfl hf (by decide) rfl (fun w hp => ?_) ⟨_, hp⟩ ?_
    · obtain ⟨_, hp⟩ := hp
      refine st_ldI hf (by decide) pl3 rfl rfl ((RdR.rowS rl97 hc98.1 hc98.2).sl hp) hc99.1 hc99.2 ?_
      clear hf; intro a ha hf
      exact st_nil hf (th_n ⟨ha, rfl⟩)
    clear hf; intro a hf
    refine dr_take 6 (v61) rfl (by kernel_rfl) (by kernel_rfl) (by kernel_rfl) (by kernel_rfl) rfl rfl hf (by decide) rfl (fun w hp => ?_) ⟨_, hp⟩ ?_
    · obtain ⟨_, hp⟩ := hp
      refine st_assign hf rfl rfl (by decide) ?_
      clear hf; intro a ha hf
      exact st_nil hf (th_n ⟨ha, rfl⟩)
    clear hf; intro a hf
    refine dr_take 7 (.int .i64 (gt (gt q58 (0 : Int)) (0 : Int))) rfl (by kernel_rfl) (by kernel_rfl) (by kernel_rfl) (by kernel_rfl) rfl rfl hf (by decide) rfl (fun w hp => ?_) ⟨_, hp⟩ ?_
    · obtain ⟨_, hp⟩ := hp
      refine st_assign hf rfl rfl (by decide) ?_
      clear hf; intro a ha hf
      exact st_nil hf (th_n ⟨ha, rfl⟩)
    clear hf; intro a hf
    refine dr_take 8 (.int .i64 (0 : Int)) rfl (by kernel_rfl) (by kernel_rfl) (by kernel_rfl) (by kernel_rfl) rfl rfl hf (by decide) rfl (fun w hp => ?_) ⟨_, hp⟩ ?_
    · obtain ⟨_, hp⟩ := hp
      refine st_assign hf rfl rfl (by decide) ?_
      clear hf; intro a ha hf
      exact st_nil hf (th_n ⟨ha, rfl⟩)
    clear hf; intro a hf
    refine dr_end (by kernel_rfl) ?_ _
    have hp := bk96 _ _ hp
    exact ⟨hf.sub ⟨rfl, rfl, rfl, trivial⟩, hp⟩
  rintro a w ⟨hf, hp⟩
  refine th_n ?_
  refine wp_ret ?_
  obtain rfl := Option.some.inj h
  have hp : Hp _ _ _ (Res.sl Ek.bool 4 v61 q90 :: ow) := Hp.sel (pre := [Res.rows (RowK.sl (Ek.int .i64) 3) 70 v27 vs28 q58, Res.sl Ek.bool 4 v61 q90]) (tail := ow) (rs' := [Res.sl Ek.bool 4 v61 q90]) hp [1] (by decide) (by simp) rfl
  exact ⟨rfl, ⟨_, hf.sub ⟨rfl, rfl, rfl, trivial⟩, hp⟩⟩

noncomputable def f_hard_Cost.j1 (c0_Length : Int) (c0_One : Int) (c0_Two : Int) (marks2 : (List Int)) (at8 : Int) (sum9 : Int) (t33 : Int) (bit11 : Int) : Option ((Int × Int × Int) ⊕ Int) := (if 0 ≤ (IntKind.i64.wrap ((2 : Int) * t33)) ∧ (IntKind.i64.wrap ((2 : Int) * t33)) ≤ (marks2.length : Int) then ((f_hard_step c0_Length c0_One c0_Two at8 bit11 ((marks2.drop (((IntKind.i64.wrap ((2 : Int) * t33))).toNat)).take (marks2.length - ((IntKind.i64.wrap ((2 : Int) * t33))).toNat))).bind fun q18 => (some (Sum.inl (q18.1, (IntKind.i32.wrap (sum9 + q18.2)), (IntKind.i64.wrap (t33 + (1 : Int))))))) else none)
noncomputable def f_hard_Cost.s1c (c0_Length : Int) (c0_One : Int) (c0_Two : Int) (message1 : (List Bool)) (marks2 : (List Int)) (at8 : Int) (sum9 : Int) (t33 : Int) : Option ((Int × Int × Int) ⊕ Int) := (if (decide (t33 < (IntKind.i64.wrap (((marks2.length : Int)).tdiv (2 : Int))))) = true then ((if (decide (t33 < (message1.length : Int))) = true then (if 0 ≤ t33 ∧ t33 < (message1.length : Int) then (some (gt message1 t33)) else none) else (some false)).bind fun z22 => (if z22 = true then (f_hard_Cost.j1 c0_Length c0_One c0_Two marks2 at8 sum9 t33 (1 : Int)) else (f_hard_Cost.j1 c0_Length c0_One c0_Two marks2 at8 sum9 t33 (0 : Int)))) else (some (Sum.inr sum9)))
noncomputable def f_hard_Cost.s1 (c0_Length : Int) (c0_One : Int) (c0_Two : Int) (message1 : (List Bool)) (marks2 : (List Int)) (s : (Int × Int × Int)) : Option ((Int × Int × Int) ⊕ Int) := f_hard_Cost.s1c c0_Length c0_One c0_Two message1 marks2 s.1 s.2.1 s.2.2
noncomputable def f_hard_Cost (c0_Length : Int) (c0_One : Int) (c0_Two : Int) (message1 : (List Bool)) (marks2 : (List Int)) : Option (Int × Int) := ((f_hard_fits c0_Length c0_One c0_Two marks2).bind fun q3 => (if ((!q3) || ((message1.length : Int) != (IntKind.i64.wrap ((IntKind.i64.wrap (((marks2.length : Int)).tdiv (2 : Int))) - (IntKind.i64.wrap (c0_Length - (1 : Int))))))) = true then (some ((0 : Int), (1 : Int))) else ((loop (f_hard_Cost.s1 c0_Length c0_One c0_Two message1 marks2) ((0 : Int), (0 : Int), (0 : Int))).bind (fun q24 => (some ((IntKind.i64.wrap q24), (0 : Int)))))))
theorem f_hard_Cost_c {S : Nat → Prop} {w0 w : World} {ow : List Res} (hp : Hp S w0 w ow) (c0_Length : Int) (c0_One : Int) (c0_Two : Int) (vmessage1 : Value) (message1 : (List Bool)) (hmessage1 : RdS Ek.bool S w0 vmessage1 message1) (vmarks2 : Value) (marks2 : (List Int)) (hmarks2 : RdS (Ek.int .u8) S w0 vmarks2 marks2) {r : (Int × Int)} (h : f_hard_Cost c0_Length c0_One c0_Two message1 marks2 = some r) :
    Calls Try.prog 21 #[.agg #[.int .i64 c0_Length, .int .u32 c0_One, .int .u32 c0_Two], vmessage1, vmarks2] w (fun e w' => e = .returned (.tuple #[.int .i64 r.1, .int .i64 r.2]) ∧ Hp S w0 w' (ow)) := by
  unfold f_hard_Cost at h
  refine enter (n := 64) (args := [.agg #[.int .i64 c0_Length, .int .u32 c0_One, .int .u32 c0_Two], vmessage1, vmarks2]) Try.func21 rfl rfl (Nat.le_of_ble_eq_true rfl) fun a hf => ?_
  replace hf : Fr 64 a [(0, .agg #[.int .i64 c0_Length, .int .u32 c0_One, .int .u32 c0_Two]), (1, vmessage1), (2, vmarks2)] := hf
  refine wp_mono (Q := fun e a w => e = .ret ∧ Fr 64 a [(6, .int .i64 r.1), (7, .int .i64 r.2)] ∧ Hp S w0 w (ow)) ?_ ?_
  rotate_left
  · rintro e a w ⟨rfl, hf, hp⟩
    exact ret2 hf rfl rfl rfl ⟨rfl, hp⟩
  refine wp_seq ?_
  refine wp_reg ?_
  refine st_boxO (cs := [.int .i64 c0_Length, .int .u32 c0_One, .int .u32 c0_Two]) hf (by decide) hp rfl rfl rfl ?_
  clear hf; intro a w v1 hf hp0; clear hp; have hp := hp0; clear hp0
  replace hp : Hp _ _ _ (Res.obj 40 v1 [.int .i64 c0_Length, .int .u32 c0_One, .int .u32 c0_Two] :: ow) := hp
  refine st_assign hf rfl rfl (by decide) ?_
  clear hf; intro a ha hf; clear ha
  refine st_assign hf rfl rfl (by decide) ?_
  clear hf; intro a ha hf; clear ha
  refine st_nil hf ?_
  refine th_n ?_
  refine wp_seq ?_
  refine wp_seq ?_
  refine wp_reg ?_
  refine st_ldOA (m := 3) (us := [.int .i64 c0_Length, .int .u32 c0_One, .int .u32 c0_Two]) hf (by decide) (by kernel_rfl) rfl rfl (hp.ob (i := 0) rfl) rfl rfl ?_
  clear hf; intro a ha hf; clear ha
  refine st_move hf rfl rfl (by decide) ?_
  clear hf; intro a ha hf; clear ha
  obtain ⟨q3, hcall4, h⟩ := bnd h
  refine st_call hf (by decide) Try.func31 rfl rfl rfl rfl rfl (f_hard_fits_c hp _ _ _ _ _ hmarks2 hcall4) ?_
  rintro _ w ⟨rfl, hp0⟩
  clear hp; have hp := hp0; clear hp0
  replace hp : Hp _ _ _ (Res.obj 40 v1 [.int .i64 c0_Length, .int .u32 c0_One, .int .u32 c0_Two] :: ow) := hp
  refine ⟨_, rfl, ?_⟩
  clear hf; intro a hf
  refine st_not hf (by decide) rfl rfl ?_
  clear hf; intro a ha hf; clear ha
  refine st_move hf rfl rfl (by decide) ?_
  clear hf; intro a ha hf; clear ha
  refine wpList_cut 11 (fun a w => Fr 64 a [(1, vmessage1), (2, vmarks2), (3, optr v1 0), (29, .bool ((!q3) || ((message1.length : Int) != (IntKind.i64.wrap ((IntKind.i64.wrap (((marks2.length : Int)).tdiv (2 : Int))) - (IntKind.i64.wrap (c0_Length - (1 : Int))))))))] ∧ Hp S w0 w (Res.obj 40 v1 [.int .i64 c0_Length, .int .u32 c0_One, .int .u32 c0_Two] :: ow)) ?_ ?_
  · rcases Bool.eq_false_or_eq_true (!q3) with hb6 | hb6
    · skip
      refine st_skip hf (wantN hf rfl rfl hb6) rfl (by decide) ?_ rfl
      clear hf; intro a hf
      refine st_skip hf (wantN hf rfl rfl hb6) rfl (by decide) ?_ rfl
      clear hf; intro a hf
      refine st_skip hf (wantN hf rfl rfl hb6) rfl (by decide) ?_ rfl
      clear hf; intro a hf
      refine st_skip hf (wantN hf rfl rfl hb6) rfl (by decide) ?_ rfl
      clear hf; intro a hf
      refine st_skip hf (wantN hf rfl rfl hb6) rfl (by decide) ?_ rfl
      clear hf; intro a hf
      refine st_skip hf (wantN hf rfl rfl hb6) rfl (by decide) ?_ rfl
      clear hf; intro a hf
      refine st_skip hf (wantN hf rfl rfl hb6) rfl (by decide) ?_ rfl
      clear hf; intro a hf
      refine st_skip hf (wantN hf rfl rfl hb6) rfl (by decide) ?_ rfl
      clear hf; intro a hf
      refine st_skip hf (wantN hf rfl rfl hb6) rfl (by decide) ?_ rfl
      clear hf; intro a hf
      refine st_skip hf (wantN hf rfl rfl hb6) rfl (by decide) ?_ rfl
      clear hf; intro a hf
      refine st_pick (v := .bool true) hf rfl rfl (fun hb' => ?_) (fun hb' => ?_) (by decide) ?_
      · rfl
      · exact absurd (hb6.symm.trans hb') (by decide)
      clear hf; intro a ha hf; clear ha
      refine st_nil hf (th_n ?_)
      exact ⟨hf.sub ⟨rfl, rfl, rfl, (by rw [hb6]; rfl), trivial⟩, hp⟩
    refine st_move hf (wantY hf rfl rfl hb6) rfl (by decide) ?_
    clear hf; intro a ha hf; clear ha
    refine st_len (E := Ek.bool) hf (by decide) Try.underlying22 (wantY hf rfl rfl hb6) rfl (hmessage1.sl hp) ?_
    clear hf; intro a ha hf; clear ha
    refine st_move hf (wantY hf rfl rfl hb6) rfl (by decide) ?_
    clear hf; intro a ha hf; clear ha
    refine st_len (E := (Ek.int .u8)) hf (by decide) Try.underlying26 (wantY hf rfl rfl hb6) rfl (hmarks2.sl hp) ?_
    clear hf; intro a ha hf; clear ha
    refine st_iquo hf (by decide) (wantY hf rfl rfl hb6) rfl rfl (by decide) ?_
    clear hf; intro a ha hf; clear ha
    refine st_fa (o' := 0) hf (by decide) (off := 0) (sz := 1) (by kernel_rfl) (by decide) (wantY hf rfl rfl hb6) rfl (hp.ob (i := 0) rfl) rfl ?_
    clear hf; intro a ha hf; clear ha
    refine st_ldO (u := .int .i64 c0_Length) hf (by decide) pl3 (wantY hf rfl rfl hb6) rfl (hp.ob (i := 0) rfl) rfl ?_
    clear hf; intro a ha hf; clear ha
    refine st_isub hf (by decide) (wantY hf rfl rfl hb6) rfl rfl ?_
    clear hf; intro a ha hf; clear ha
    refine st_isub hf (by decide) (wantY hf rfl rfl hb6) rfl rfl ?_
    clear hf; intro a ha hf; clear ha
    refine st_ineq hf (by decide) (wantY hf rfl rfl hb6) rfl rfl ?_
    clear hf; intro a ha hf; clear ha
    refine st_pick (v := .bool ((message1.length : Int) != (IntKind.i64.wrap ((IntKind.i64.wrap (((marks2.length : Int)).tdiv (2 : Int))) - (IntKind.i64.wrap (c0_Length - (1 : Int))))))) hf rfl rfl (fun hb' => ?_) (fun hb' => ?_) (by decide) ?_
    · exact absurd (hb6.symm.trans hb') (by decide)
    · rfl
    clear hf; intro a ha hf; clear ha
    refine st_nil hf (th_n ?_)
    exact ⟨hf.sub ⟨rfl, rfl, rfl, (by rw [hb6]; rfl), trivial⟩, hp⟩
  rintro a w ⟨hf, hp⟩
  refine st_nil hf ?_
  refine th_n ?_
  refine wp_if hf rfl (fun hb => ?_) (fun hb => ?_)
  · replace h := ifT h hb
    refine wp_seq ?_
    refine wp_reg ?_
    refine st_assign hf rfl rfl (by decide) ?_
    clear hf; intro a ha hf; clear ha
    refine st_assign hf rfl rfl (by decide) ?_
    clear hf; intro a ha hf; clear ha
    refine st_nil hf ?_
    refine th_n ?_
    refine wp_ret ?_
    refine th_r ?_
    obtain rfl := Option.some.inj h
    have hp : Hp _ _ _ (ow) := Hp.sel (pre := [Res.obj 40 v1 [.int .i64 c0_Length, .int .u32 c0_One, .int .u32 c0_Two]]) (tail := ow) (rs' := []) hp [] (by decide) (by simp) rfl
    exact ⟨rfl, ⟨hf.sub ⟨rfl, rfl, trivial⟩, hp⟩⟩
  replace h := ifF h hb
  refine wp_skip ?_
  refine th_n ?_
  refine wp_seq ?_
  refine wp_reg ?_
  refine st_assign hf rfl rfl (by decide) ?_
  clear hf; intro a ha hf; clear ha
  refine st_assign hf rfl rfl (by decide) ?_
  clear hf; intro a ha hf; clear ha
  refine st_nil hf ?_
  refine th_n ?_
  refine wp_seq ?_
  refine wp_seq ?_
  refine wp_reg ?_
  refine st_move hf rfl rfl (by decide) ?_
  clear hf; intro a ha hf; clear ha
  refine st_len (E := (Ek.int .u8)) hf (by decide) Try.underlying26 rfl rfl (hmarks2.sl hp) ?_
  clear hf; intro a ha hf; clear ha
  refine st_iquo hf (by decide) rfl rfl rfl (by decide) ?_
  clear hf; intro a ha hf; clear ha
  refine st_move hf rfl rfl (by decide) ?_
  clear hf; intro a ha hf; clear ha
  refine st_nil hf ?_
  refine th_n ?_
  refine wp_block ?_
  obtain ⟨q24, hl, h⟩ := bnd h
  refine wp_loop_pure (f := (f_hard_Cost.s1 c0_Length c0_One c0_Two message1 marks2)) (s := ((0 : Int), (0 : Int), (0 : Int))) (fun s a w => Fr 64 a [(1, vmessage1), (2, vmarks2), (3, optr v1 0), (8, .int .u32 s.1), (9, .int .i32 s.2.1), (32, .int .i64 (IntKind.i64.wrap (((marks2.length : Int)).tdiv (2 : Int)))), (33, .int .i64 s.2.2)] ∧ Hp S w0 w (Res.obj 40 v1 [.int .i64 c0_Length, .int .u32 c0_One, .int .u32 c0_Two] :: ow)) (fun q e a w => e = .exit 0 ∧ Fr 64 a [(9, .int .i32 q)] ∧ Hp S w0 w (ow)) ?_ hl ⟨hf.sub ⟨rfl, rfl, rfl, rfl, rfl, rfl, rfl, trivial⟩, hp⟩ ?_
  · clear hl hf hp
    intro s x a w h hI
    obtain ⟨at8, sum9, t33⟩ := s
    obtain ⟨hf, hp⟩ : Fr 64 a [(1, vmessage1), (2, vmarks2), (3, optr v1 0), (8, .int .u32 at8), (9, .int .i32 sum9), (32, .int .i64 (IntKind.i64.wrap (((marks2.length : Int)).tdiv (2 : Int)))), (33, .int .i64 t33)] ∧ Hp S w0 w (Res.obj 40 v1 [.int .i64 c0_Length, .int .u32 c0_One, .int .u32 c0_Two] :: ow) := hI
    replace h : f_hard_Cost.s1c c0_Length c0_One c0_Two message1 marks2 at8 sum9 t33 = some x := h
    unfold f_hard_Cost.s1c at h
    refine wp_seq ?_
    refine wp_reg ?_
    refine st_ilss hf (by decide) rfl rfl rfl ?_
    clear hf; intro a ha hf; clear ha
    refine st_nil hf ?_
    refine th_n ?_
    refine wp_seq ?_
    refine wp_if hf rfl (fun hb => ?_) (fun hb => ?_)
    · replace h := ifT h hb
      refine wp_skip ?_
      refine th_n ?_
      refine wp_seq ?_
      refine wp_block ?_
      refine wp_seq ?_
      refine wp_reg ?_
      refine st_move hf rfl rfl (by decide) ?_
      clear hf; intro a ha hf; clear ha
      refine st_assign hf rfl rfl (by decide) ?_
      clear hf; intro a ha hf; clear ha
      refine st_nil hf ?_
      refine th_n ?_
      refine wp_seq ?_
      refine wp_reg ?_
      refine st_assign hf rfl rfl (by decide) ?_
      clear hf; intro a ha hf; clear ha
      refine st_nil hf ?_
      refine th_n ?_
      refine wp_seq_cut (fun a w => ∃ (bit11 : Int), f_hard_Cost.j1 c0_Length c0_One c0_Two marks2 at8 sum9 t33 bit11 = some x ∧ Fr 64 a [(1, vmessage1), (2, vmarks2), (3, optr v1 0), (8, .int .u32 at8), (9, .int .i32 sum9), (10, .int .i64 t33), (11, .int .u32 bit11), (32, .int .i64 (IntKind.i64.wrap (((marks2.length : Int)).tdiv (2 : Int)))), (33, .int .i64 t33)] ∧ Hp S w0 w (Res.obj 40 v1 [.int .i64 c0_Length, .int .u32 c0_One, .int .u32 c0_Two] :: ow)) ?_ ?_
      · skip
        refine wp_seq ?_
        refine wp_reg ?_
        refine st_move hf rfl rfl (by decide) ?_
        clear hf; intro a ha hf; clear ha
        refine st_move hf rfl rfl (by decide) ?_
        clear hf; intro a ha hf; clear ha
        refine st_len (E := Ek.bool) hf (by decide) Try.underlying22 rfl rfl (hmessage1.sl hp) ?_
        clear hf; intro a ha hf; clear ha
        refine st_ilss hf (by decide) rfl rfl rfl ?_
        clear hf; intro a ha hf; clear ha
        refine st_move hf rfl rfl (by decide) ?_
        clear hf; intro a ha hf; clear ha
        obtain ⟨z22, hz20, h⟩ := bnd h
        refine wpList_cut 5 (fun a w => Fr 64 a [(1, vmessage1), (2, vmarks2), (3, optr v1 0), (8, .int .u32 at8), (9, .int .i32 sum9), (10, .int .i64 t33), (11, .int .u32 (0 : Int)), (32, .int .i64 (IntKind.i64.wrap (((marks2.length : Int)).tdiv (2 : Int)))), (33, .int .i64 t33), (45, .bool z22)] ∧ Hp S w0 w (Res.obj 40 v1 [.int .i64 c0_Length, .int .u32 c0_One, .int .u32 c0_Two] :: ow)) ?_ ?_
        · rcases Bool.eq_false_or_eq_true (decide (t33 < (message1.length : Int))) with hb21 | hb21
          · skip
            replace hz20 := ifT hz20 hb21
            refine st_move hf (wantY hf rfl rfl hb21) rfl (by decide) ?_
            clear hf; intro a ha hf; clear ha
            refine st_move hf (wantY hf rfl rfl hb21) rfl (by decide) ?_
            clear hf; intro a ha hf; clear ha
            obtain ⟨hc23, hz20⟩ := chk hz20
            refine st_index (E := Ek.bool) hf (by decide) Try.underlying22 elt4 (wantY hf rfl rfl hb21) rfl rfl (hmessage1.sl hp) hc23.1 hc23.2 ?_
            clear hf; intro a ha hf; clear ha
            refine st_ldB hf (by decide) pl4 (wantY hf rfl rfl hb21) rfl (hmessage1.sl hp) hc23.1 hc23.2 ?_
            clear hf; intro a ha hf; clear ha
            obtain rfl := Option.some.inj hz20
            refine st_pick (v := .bool (gt message1 t33)) hf rfl rfl (fun hb' => ?_) (fun hb' => ?_) (by decide) ?_
            · rfl
            · exact absurd (hb21.symm.trans hb') (by decide)
            clear hf; intro a ha hf; clear ha
            refine st_nil hf (th_n ?_)
            exact ⟨hf.sub ⟨rfl, rfl, rfl, rfl, rfl, rfl, rfl, rfl, rfl, rfl, trivial⟩, hp⟩
          replace hz20 := ifF hz20 hb21
          refine st_skip hf (wantN hf rfl rfl hb21) rfl (by decide) ?_ rfl
          clear hf; intro a hf
          refine st_skip hf (wantN hf rfl rfl hb21) rfl (by decide) ?_ rfl
          clear hf; intro a hf
          refine st_skip hf (wantN hf rfl rfl hb21) rfl (by decide) ?_ rfl
          clear hf; intro a hf
          refine st_skip hf (wantN hf rfl rfl hb21) rfl (by decide) ?_ rfl
          clear hf; intro a hf
          obtain rfl := Option.some.inj hz20
          refine st_pick (v := .bool false) hf rfl rfl (fun hb' => ?_) (fun hb' => ?_) (by decide) ?_
          · exact absurd (hb21.symm.trans hb') (by decide)
          · rfl
          clear hf; intro a ha hf; clear ha
          refine st_nil hf (th_n ?_)
          exact ⟨hf.sub ⟨rfl, rfl, rfl, rfl, rfl, rfl, rfl, rfl, rfl, rfl, trivial⟩, hp⟩
        rintro a w ⟨hf, hp⟩
        refine st_nil hf ?_
        refine th_n ?_
        refine wp_if hf rfl (fun hb => ?_) (fun hb => ?_)
        · replace h := ifT h hb
          refine wp_reg ?_
          refine st_assign hf rfl rfl (by decide) ?_
          clear hf; intro a ha hf; clear ha
          refine st_nil hf ?_
          refine th_n ?_
          exact ⟨_, h, hf.sub ⟨rfl, rfl, rfl, rfl, rfl, rfl, rfl, rfl, rfl, trivial⟩, hp⟩
        replace h := ifF h hb
        refine wp_skip ?_
        refine th_n ?_
        exact ⟨_, h, hf.sub ⟨rfl, rfl, rfl, rfl, rfl, rfl, rfl, rfl, rfl, trivial⟩, hp⟩
      rintro a w ⟨bit11, h, hf, hp⟩
      unfold f_hard_Cost.j1 at h
      refine wp_seq ?_
      obtain ⟨S7, hp8, rd9, up10, bk11⟩ := Hp.lendO hp (i := 0) rfl
      have rl12 := ((hmessage1.now hp).mono up10)
      have rl13 := ((hmarks2.now hp).mono up10)
      have rl14 := rd9
      obtain ⟨hc15, h⟩ := chk h
      have hc16 : ((IntKind.i64.wrap ((2 : Int) * t33))).toNat ≤ marks2.length := by omega
      have hc17 : marks2.length ≤ marks2.length := by omega
      obtain ⟨q18, hcall19, h⟩ := bnd h
      refine wp_cutN (fun a w => Fr 64 a [(1, vmessage1), (2, vmarks2), (3, optr v1 0), (9, .int .i32 sum9), (12, .int .u32 q18.1), (13, .int .i32 q18.2), (32, .int .i64 (IntKind.i64.wrap (((marks2.length : Int)).tdiv (2 : Int)))), (33, .int .i64 t33)] ∧ Hp S w0 w (Res.obj 40 v1 [.int .i64 c0_Length, .int .u32 c0_One, .int .u32 c0_Two] :: ow)) ?_ ?_
      · have hp := hp8.same (Same.drew w)
        refine dr_begin' (fun a w => Fr 64 a [(1, vmessage1), (2, vmarks2), (3, optr v1 0), (9, .int .i32 sum9), (12, .int .u32 q18.1), (13, .int .i32 q18.2), (32, .int .i64 (IntKind.i64.wrap (((marks2.length : Int)).tdiv (2 : Int)))), (33, .int .i64 t33)] ∧ Hp S w0 w (Res.obj 40 v1 [.int .i64 c0_Length, .int .u32 c0_One, .int .u32 c0_Two] :: ow)) (fun w' => ∃ l, Hp S7 w w' l) [] (by kernel_rfl) ?_
        refine dr_take 0 (.agg #[.int .i64 c0_Length, .int .u32 c0_One, .int .u32 c0_Two]) rfl (by kernel_rfl) (by kernel_rfl) (by kernel_rfl) (by kernel_rfl) rfl rfl hf (by decide) rfl (fun w hp => ?_) ⟨_, hp⟩ ?_
        · obtain ⟨_, hp⟩ := hp
          refine st_ldOA (m := 3) (us := [.int .i64 c0_Length, .int .u32 c0_One, .int .u32 c0_Two]) hf (by decide) (by kernel_rfl) rfl rfl (rl14.ob hp) rfl rfl ?_
          clear hf; intro a ha hf
          exact st_nil hf (th_n ⟨ha, rfl⟩)
        clear hf; intro a hf
        refine dr_take 1 (.int .u32 at8) rfl (by kernel_rfl) (by kernel_rfl) (by kernel_rfl) (by kernel_rfl) rfl rfl hf (by decide) rfl (fun w hp => ?_) ⟨_, hp⟩ ?_
        · obtain ⟨_, hp⟩ := hp
          refine st_move hf rfl rfl (by decide) ?_
          clear hf; intro a ha hf
          exact st_nil hf (th_n ⟨ha, rfl⟩)
        clear hf; intro a hf
        refine dr_take 2 (.int .u32 bit11) rfl (by kernel_rfl) (by kernel_rfl) (by kernel_rfl) (by kernel_rfl) rfl rfl hf (by decide) rfl (fun w hp => ?_) ⟨_, hp⟩ ?_
        · obtain ⟨_, hp⟩ := hp
          refine st_move hf rfl rfl (by decide) ?_
          clear hf; intro a ha hf
          exact st_nil hf (th_n ⟨ha, rfl⟩)
        clear hf; intro a hf
        refine dr_take 3 (vmarks2) rfl (by kernel_rfl) (by kernel_rfl) (by kernel_rfl) (by kernel_rfl) rfl rfl hf (by decide) rfl (fun w hp => ?_) ⟨_, hp⟩ ?_
        · obtain ⟨_, hp⟩ := hp
          refine st_move hf rfl rfl (by decide) ?_
          clear hf; intro a ha hf
          exact st_nil hf (th_n ⟨ha, rfl⟩)
        clear hf; intro a hf
        refine dr_take 4 (.int .i64 t33) rfl (by kernel_rfl) (by kernel_rfl) (by kernel_rfl) (by kernel_rfl) rfl rfl hf (by decide) rfl (fun w hp => ?_) ⟨_, hp⟩ ?_
        · obtain ⟨_, hp⟩ := hp
          refine st_move hf rfl rfl (by decide) ?_
          clear hf; intro a ha hf
          exact st_nil hf (th_n ⟨ha, rfl⟩)
        clear hf; intro a hf
        refine dr_take 5 (.int .i64 (IntKind.i64.wrap ((2 : Int) * t33))) rfl (by kernel_rfl) (by kernel_rfl) (by kernel_rfl) (by kernel_rfl) rfl rfl hf (by decide) rfl (fun w hp => ?_) ⟨_, hp⟩ ?_
        · obtain ⟨_, hp⟩ := hp
          refine st_imul hf (by decide) rfl rfl rfl ?_
          clear hf; intro a ha hf
          exact st_nil hf (th_n ⟨ha, rfl⟩)
        clear hf; intro a hf
        refine dr_take 6 ((GL.cut vmarks2 ((IntKind.i64.wrap ((2 : Int) * t33))).toNat marks2.length 1)) rfl (by kernel_rfl) (by kernel_rfl) (by kernel_rfl) (by kernel_rfl) rfl rfl hf (by decide) rfl (fun w hp => ?_) ⟨_, hp⟩ ?_
        · obtain ⟨_, hp⟩ := hp
          refine st_cutS (E := (Ek.int .u8)) hf (by decide) Try.underlying26 elt51 rfl rfl (rl13.sl hp) (.inr ⟨_, _, rfl, evI rfl hc15.1⟩) (.inl ⟨rfl, rfl⟩) hc16 hc17 ?_
          clear hf; intro a ha hf
          exact st_nil hf (th_n ⟨ha, rfl⟩)
        clear hf; intro a hf
        refine dr_one 7 rfl (by kernel_rfl) ?_
        refine st_call hf (by decide) Try.func32 rfl rfl rfl rfl rfl (f_hard_step_c hp _ _ _ _ _ _ _ (RdS.cut rl13 hc16 hc17) hcall19) ?_
        rintro _ w ⟨rfl, hp0⟩
        clear hp; have hp := hp0; clear hp0
        replace hp : Hp _ _ _ (ow) := hp
        refine ⟨_, rfl, ?_⟩
        clear hf; intro a hf
        refine st_nil hf (th_n ⟨fun _ _ => ⟨_, hp⟩, ?_⟩)
        refine dr_take 8 (.tuple #[.int .u32 q18.1, .int .i32 q18.2]) rfl (by kernel_rfl) (by kernel_rfl) (by kernel_rfl) (by kernel_rfl) rfl rfl hf (by decide) rfl (fun w hp => ?_) ⟨_, hp⟩ ?_
        · obtain ⟨_, hp⟩ := hp
          refine st_move hf rfl rfl (by decide) ?_
          clear hf; intro a ha hf
          exact st_nil hf (th_n ⟨ha, rfl⟩)
        clear hf; intro a hf
        refine dr_take 9 (.int .u32 q18.1) rfl (by kernel_rfl) (by kernel_rfl) (by kernel_rfl) (by kernel_rfl) rfl rfl hf (by decide) rfl (fun w hp => ?_) ⟨_, hp⟩ ?_
        · obtain ⟨_, hp⟩ := hp
          refine st_extract hf (by decide) rfl rfl rfl ?_
          clear hf; intro a ha hf
          exact st_nil hf (th_n ⟨ha, rfl⟩)
        clear hf; intro a hf
        refine dr_take 10 (.int .i32 q18.2) rfl (by kernel_rfl) (by kernel_rfl) (by kernel_rfl) (by kernel_rfl) rfl rfl hf (by decide) rfl (fun w hp => ?_) ⟨_, hp⟩ ?_
        · obtain ⟨_, hp⟩ := hp
          refine st_extract hf (by decide) rfl rfl rfl ?_
          clear hf; intro a ha hf
          exact st_nil hf (th_n ⟨ha, rfl⟩)
        clear hf; intro a hf
        refine dr_take 11 (.int .u32 q18.1) rfl (by kernel_rfl) (by kernel_rfl) (by kernel_rfl) (by kernel_rfl) rfl rfl hf (by decide) rfl (fun w hp => ?_) ⟨_, hp⟩ ?_
        · obtain ⟨_, hp⟩ := hp
          refine st_assign hf rfl rfl (by decide) ?_
          clear hf; intro a ha hf
          exact st_nil hf (th_n ⟨ha, rfl⟩)
        clear hf; intro a hf
        refine dr_take 12 (.int .i32 q18.2) rfl (by kernel_rfl) (by kernel_rfl) (by kernel_rfl) (by kernel_rfl) rfl rfl hf (by decide) rfl (fun w hp => ?_) ⟨_, hp⟩ ?_
        · obtain ⟨_, hp⟩ := hp
          refine st_assign hf rfl rfl (by decide) ?_
          clear hf; intro a ha hf
          exact st_nil hf (th_n ⟨ha, rfl⟩)
        clear hf; intro a hf
        refine dr_end (by kernel_rfl) ?_ _
        have hp := bk11 _ _ hp
        exact ⟨hf.sub ⟨rfl, rfl, rfl, rfl, rfl, rfl, rfl, rfl, trivial⟩, hp⟩
      rintro a w ⟨hf, hp⟩
      refine th_n ?_
      refine wp_reg ?_
      refine st_move hf rfl rfl (by decide) ?_
      clear hf; intro a ha hf; clear ha
      refine st_move hf rfl rfl (by decide) ?_
      clear hf; intro a ha hf; clear ha
      refine st_move hf rfl rfl (by decide) ?_
      clear hf; intro a ha hf; clear ha
      refine st_iadd hf (by decide) rfl rfl rfl ?_
      clear hf; intro a ha hf; clear ha
      refine st_assign hf rfl rfl (by decide) ?_
      clear hf; intro a ha hf; clear ha
      refine st_assign hf rfl rfl (by decide) ?_
      clear hf; intro a ha hf; clear ha
      refine st_nil hf ?_
      refine ib_n ?_
      refine th_n ?_
      refine wp_reg ?_
      refine st_iadd hf (by decide) rfl rfl rfl ?_
      clear hf; intro a ha hf; clear ha
      refine st_move hf rfl rfl (by decide) ?_
      clear hf; intro a ha hf; clear ha
      refine st_nil hf ?_
      obtain rfl := Option.some.inj h
      exact rnd_l ⟨hf.sub ⟨rfl, rfl, rfl, rfl, rfl, rfl, rfl, trivial⟩, hp⟩
    replace h := ifF h hb
    refine wp_exit ?_
    refine th_e ?_
    obtain rfl := Option.some.inj h
    have hp : Hp _ _ _ (ow) := Hp.sel (pre := [Res.obj 40 v1 [.int .i64 c0_Length, .int .u32 c0_One, .int .u32 c0_Two]]) (tail := ow) (rs' := []) hp [] (by decide) (by simp) rfl
    exact rnd_r (by simp) ⟨rfl, hf.sub ⟨rfl, trivial⟩, hp⟩
  clear hl hf hp
  intro e a w hne hO
  obtain ⟨rfl, hf, hp⟩ := hO
  refine ib_same ?_
  refine th_n ?_
  refine wp_seq ?_
  refine wp_reg ?_
  refine st_move hf rfl rfl (by decide) ?_
  clear hf; intro a ha hf; clear ha
  refine st_conv_ii hf (by decide) (by rw [Try.underlying21]; rfl) Try.underlying3 rfl rfl ?_
  clear hf; intro a ha hf; clear ha
  refine st_assign hf rfl rfl (by decide) ?_
  clear hf; intro a ha hf; clear ha
  refine st_assign hf rfl rfl (by decide) ?_
  clear hf; intro a ha hf; clear ha
  refine st_nil hf ?_
  refine th_n ?_
  refine wp_ret ?_
  obtain rfl := Option.some.inj h
  exact ⟨rfl, ⟨hf.sub ⟨rfl, rfl, trivial⟩, hp⟩⟩

noncomputable def f_foghornref22_Encode.s1c (c0_Length : Int) (c0_One : Int) (c0_Two : Int) (message1 : (List Bool)) (out5 : (List Bool)) (state6 : Int) (i7 : Int) : Option (((List Bool) × Int × Int) ⊕ (List Bool)) := (if (decide (i7 < (IntKind.i64.wrap ((IntKind.i64.wrap ((message1.length : Int) + c0_Length)) - (1 : Int))))) = true then ((if (decide (i7 < (message1.length : Int))) = true then (if 0 ≤ i7 ∧ i7 < (message1.length : Int) then (some (gt message1 i7)) else none) else (some false)).bind fun z17 => ((f_foghornref22_Step c0_Length c0_One c0_Two state6 z17).bind fun q18 => (if (out5.length + ([q18.2.1, q18.2.2]).length) * 1 ≤ 140737488355328 then (some (Sum.inl ((out5 ++ [q18.2.1, q18.2.2]), q18.1, (IntKind.i64.wrap (i7 + (1 : Int)))))) else none))) else (some (Sum.inr out5)))
noncomputable def f_foghornref22_Encode.s1 (c0_Length : Int) (c0_One : Int) (c0_Two : Int) (message1 : (List Bool)) (s : ((List Bool) × Int × Int)) : Option (((List Bool) × Int × Int) ⊕ (List Bool)) := f_foghornref22_Encode.s1c c0_Length c0_One c0_Two message1 s.1 s.2.1 s.2.2
noncomputable def f_foghornref22_Encode (c0_Length : Int) (c0_One : Int) (c0_Two : Int) (message1 : (List Bool)) : Option (List Bool) := ((loop (f_foghornref22_Encode.s1 c0_Length c0_One c0_Two message1) ([], (0 : Int), (0 : Int))).bind (fun q24 => (some q24)))
theorem f_foghornref22_Encode_c {S : Nat → Prop} {w0 w : World} {ow : List Res} (hp : Hp S w0 w ow) (c0_Length : Int) (c0_One : Int) (c0_Two : Int) (vmessage1 : Value) (message1 : (List Bool)) (hmessage1 : RdS Ek.bool S w0 vmessage1 message1) {r : (List Bool)} (h : f_foghornref22_Encode c0_Length c0_One c0_Two message1 = some r) :
    Calls Try.prog 36 #[.agg #[.int .i64 c0_Length, .int .u32 c0_One, .int .u32 c0_Two], vmessage1] w (fun e w' => ∃ (u0 : Value), e = .returned (u0) ∧ Hp S w0 w' (Res.sl Ek.bool 4 u0 r :: ow)) := by
  unfold f_foghornref22_Encode at h
  refine enter (n := 45) (args := [.agg #[.int .i64 c0_Length, .int .u32 c0_One, .int .u32 c0_Two], vmessage1]) Try.func36 rfl rfl (Nat.le_of_ble_eq_true rfl) fun a hf => ?_
  replace hf : Fr 45 a [(0, .agg #[.int .i64 c0_Length, .int .u32 c0_One, .int .u32 c0_Two]), (1, vmessage1)] := hf
  refine wp_mono (Q := fun e a w => e = .ret ∧ ∃ (u0 : Value), Fr 45 a [(4, u0)] ∧ Hp S w0 w (Res.sl Ek.bool 4 u0 r :: ow)) ?_ ?_
  rotate_left
  · rintro e a w ⟨rfl, x0, hf, hp⟩
    exact ret1 hf rfl rfl ⟨x0, rfl, hp⟩
  refine wp_seq ?_
  refine wp_reg ?_
  refine st_boxO (cs := [.int .i64 c0_Length, .int .u32 c0_One, .int .u32 c0_Two]) hf (by decide) hp rfl rfl rfl ?_
  clear hf; intro a w v1 hf hp0; clear hp; have hp := hp0; clear hp0
  replace hp : Hp _ _ _ (Res.obj 41 v1 [.int .i64 c0_Length, .int .u32 c0_One, .int .u32 c0_Two] :: ow) := hp
  refine st_assign hf rfl rfl (by decide) ?_
  clear hf; intro a ha hf; clear ha
  refine st_nil hf ?_
  refine th_n ?_
  refine wp_seq ?_
  refine wp_reg ?_
  refine st_assign hf rfl rfl (by decide) ?_
  clear hf; intro a ha hf; clear ha
  refine st_nil hf ?_
  refine th_n ?_
  refine wp_seq ?_
  refine wp_reg ?_
  refine st_assign hf rfl rfl (by decide) ?_
  clear hf; intro a ha hf; clear ha
  refine st_nil hf ?_
  refine th_n ?_
  refine wp_seq ?_
  refine wp_seq ?_
  refine wp_reg ?_
  refine st_assign hf rfl rfl (by decide) ?_
  clear hf; intro a ha hf; clear ha
  refine st_nil hf ?_
  refine th_n ?_
  refine wp_block ?_
  obtain ⟨q24, hl, h⟩ := bnd h
  have hp := hp.nil Ek.bool 4
  refine wp_loop_pure (f := (f_foghornref22_Encode.s1 c0_Length c0_One c0_Two message1)) (s := ([], (0 : Int), (0 : Int))) (fun s a w => ∃ (v3 : Value), Fr 45 a [(1, vmessage1), (2, optr v1 0), (5, v3), (6, .int .u32 s.2.1), (7, .int .i64 s.2.2)] ∧ Hp S w0 w (Res.sl Ek.bool 4 v3 s.1 :: Res.obj 41 v1 [.int .i64 c0_Length, .int .u32 c0_One, .int .u32 c0_Two] :: ow)) (fun q e a w => e = .exit 0 ∧ ∃ (v5 : Value), Fr 45 a [(5, v5)] ∧ Hp S w0 w (Res.sl Ek.bool 4 v5 q :: ow)) ?_ hl ⟨_, hf.sub ⟨rfl, rfl, rfl, rfl, rfl, trivial⟩, hp⟩ ?_
  · clear hl hf hp
    intro s x a w h hI
    obtain ⟨out5, state6, i7⟩ := s
    obtain ⟨v3, hf, hp⟩ : ∃ (v3 : Value), Fr 45 a [(1, vmessage1), (2, optr v1 0), (5, v3), (6, .int .u32 state6), (7, .int .i64 i7)] ∧ Hp S w0 w (Res.sl Ek.bool 4 v3 out5 :: Res.obj 41 v1 [.int .i64 c0_Length, .int .u32 c0_One, .int .u32 c0_Two] :: ow) := hI
    replace h : f_foghornref22_Encode.s1c c0_Length c0_One c0_Two message1 out5 state6 i7 = some x := h
    unfold f_foghornref22_Encode.s1c at h
    refine wp_seq ?_
    refine wp_seq ?_
    refine wp_reg ?_
    refine st_move hf rfl rfl (by decide) ?_
    clear hf; intro a ha hf; clear ha
    refine st_move hf rfl rfl (by decide) ?_
    clear hf; intro a ha hf; clear ha
    refine st_len (E := Ek.bool) hf (by decide) Try.underlying22 rfl rfl (hmessage1.sl hp) ?_
    clear hf; intro a ha hf; clear ha
    refine st_fa (o' := 0) hf (by decide) (off := 0) (sz := 1) (by kernel_rfl) (by decide) rfl rfl (hp.ob (i := 1) rfl) rfl ?_
    clear hf; intro a ha hf; clear ha
    refine st_ldO (u := .int .i64 c0_Length) hf (by decide) pl3 rfl rfl (hp.ob (i := 1) rfl) rfl ?_
    clear hf; intro a ha hf; clear ha
    refine st_iadd hf (by decide) rfl rfl rfl ?_
    clear hf; intro a ha hf; clear ha
    refine st_isub hf (by decide) rfl rfl rfl ?_
    clear hf; intro a ha hf; clear ha
    refine st_ilss hf (by decide) rfl rfl rfl ?_
    clear hf; intro a ha hf; clear ha
    refine st_nil hf ?_
    refine th_n ?_
    refine wp_if hf rfl (fun hb => ?_) (fun hb => ?_)
    · replace h := ifT h hb
      refine wp_skip ?_
      refine th_n ?_
      refine wp_seq ?_
      refine wp_block ?_
      refine wp_seq ?_
      obtain ⟨S7, hp8, rd9, up10, bk11⟩ := Hp.lendO hp (i := 1) rfl
      have rl12 := ((hmessage1.now hp).mono up10)
      have rl13 := rd9
      obtain ⟨z17, hz14, h⟩ := bnd h
      obtain ⟨q18, hcall19, h⟩ := bnd h
      refine wp_cutN (fun a w => Fr 45 a [(1, vmessage1), (2, optr v1 0), (5, v3), (7, .int .i64 i7), (8, .int .u32 q18.1), (9, .bool q18.2.1), (10, .bool q18.2.2)] ∧ Hp S w0 w (Res.obj 41 v1 [.int .i64 c0_Length, .int .u32 c0_One, .int .u32 c0_Two] :: Res.sl Ek.bool 4 v3 out5 :: ow)) ?_ ?_
      · have hp := hp8.same (Same.drew w)
        rcases Bool.eq_false_or_eq_true (decide (i7 < (message1.length : Int))) with hb15 | hb15
        · skip
          replace hz14 := ifT hz14 hb15
          obtain ⟨hc16, hz14⟩ := chk hz14
          replace hz14 := Option.some.inj hz14
          refine dr_begin' (fun a w => Fr 45 a [(1, vmessage1), (2, optr v1 0), (5, v3), (7, .int .i64 i7), (8, .int .u32 q18.1), (9, .bool q18.2.1), (10, .bool q18.2.2)] ∧ Hp S w0 w (Res.obj 41 v1 [.int .i64 c0_Length, .int .u32 c0_One, .int .u32 c0_Two] :: Res.sl Ek.bool 4 v3 out5 :: ow)) (fun w' => ∃ l, Hp S7 w w' l) [] (by kernel_rfl) ?_
          refine dr_take 0 (.agg #[.int .i64 c0_Length, .int .u32 c0_One, .int .u32 c0_Two]) rfl (by kernel_rfl) (by kernel_rfl) (by kernel_rfl) (by kernel_rfl) rfl rfl hf (by decide) rfl (fun w hp => ?_) ⟨_, hp⟩ ?_
          · obtain ⟨_, hp⟩ := hp
            refine st_ldOA (m := 3) (us := [.int .i64 c0_Length, .int .u32 c0_One, .int .u32 c0_Two]) hf (by decide) (by kernel_rfl) rfl rfl (rl13.ob hp) rfl rfl ?_
            clear hf; intro a ha hf
            exact st_nil hf (th_n ⟨ha, rfl⟩)
          clear hf; intro a hf
          refine dr_take 1 (.int .u32 state6) rfl (by kernel_rfl) (by kernel_rfl) (by kernel_rfl) (by kernel_rfl) rfl rfl hf (by decide) rfl (fun w hp => ?_) ⟨_, hp⟩ ?_
          · obtain ⟨_, hp⟩ := hp
            refine st_move hf rfl rfl (by decide) ?_
            clear hf; intro a ha hf
            exact st_nil hf (th_n ⟨ha, rfl⟩)
          clear hf; intro a hf
          refine dr_take 2 (.int .i64 i7) rfl (by kernel_rfl) (by kernel_rfl) (by kernel_rfl) (by kernel_rfl) rfl rfl hf (by decide) rfl (fun w hp => ?_) ⟨_, hp⟩ ?_
          · obtain ⟨_, hp⟩ := hp
            refine st_move hf rfl rfl (by decide) ?_
            clear hf; intro a ha hf
            exact st_nil hf (th_n ⟨ha, rfl⟩)
          clear hf; intro a hf
          refine dr_take 3 (vmessage1) rfl (by kernel_rfl) (by kernel_rfl) (by kernel_rfl) (by kernel_rfl) rfl rfl hf (by decide) rfl (fun w hp => ?_) ⟨_, hp⟩ ?_
          · obtain ⟨_, hp⟩ := hp
            refine st_move hf rfl rfl (by decide) ?_
            clear hf; intro a ha hf
            exact st_nil hf (th_n ⟨ha, rfl⟩)
          clear hf; intro a hf
          refine dr_take 4 (.int .i64 (message1.length : Int)) rfl (by kernel_rfl) (by kernel_rfl) (by kernel_rfl) (by kernel_rfl) rfl rfl hf (by decide) rfl (fun w hp => ?_) ⟨_, hp⟩ ?_
          · obtain ⟨_, hp⟩ := hp
            refine st_len (E := Ek.bool) hf (by decide) Try.underlying22 rfl rfl (rl12.sl hp) ?_
            clear hf; intro a ha hf
            exact st_nil hf (th_n ⟨ha, rfl⟩)
          clear hf; intro a hf
          refine dr_take 5 (.bool (decide (i7 < (message1.length : Int)))) rfl (by kernel_rfl) (by kernel_rfl) (by kernel_rfl) (by kernel_rfl) rfl rfl hf (by decide) rfl (fun w hp => ?_) ⟨_, hp⟩ ?_
          · obtain ⟨_, hp⟩ := hp
            refine st_ilss hf (by decide) rfl rfl rfl ?_
            clear hf; intro a ha hf
            exact st_nil hf (th_n ⟨ha, rfl⟩)
          clear hf; intro a hf
          refine dr_take 6 (.bool (decide (i7 < (message1.length : Int)))) rfl (by kernel_rfl) (by kernel_rfl) (by kernel_rfl) (by kernel_rfl) rfl rfl hf (by decide) rfl (fun w hp => ?_) ⟨_, hp⟩ ?_
          · obtain ⟨_, hp⟩ := hp
            refine st_move hf rfl rfl (by decide) ?_
            clear hf; intro a ha hf
            exact st_nil hf (th_n ⟨ha, rfl⟩)
          clear hf; intro a hf
          refine dr_take 7 (vmessage1) rfl (by kernel_rfl) (by kernel_rfl) (by kernel_rfl) (by kernel_rfl) rfl rfl hf (by decide) (wantY hf rfl rfl hb15) (fun w hp => ?_) ⟨_, hp⟩ ?_
          · obtain ⟨_, hp⟩ := hp
            refine st_move hf (wantY hf rfl rfl hb15) rfl (by decide) ?_
            clear hf; intro a ha hf
            exact st_nil hf (th_n ⟨ha, rfl⟩)
          clear hf; intro a hf
          refine dr_take 8 (.int .i64 i7) rfl (by kernel_rfl) (by kernel_rfl) (by kernel_rfl) (by kernel_rfl) rfl rfl hf (by decide) (wantY hf rfl rfl hb15) (fun w hp => ?_) ⟨_, hp⟩ ?_
          · obtain ⟨_, hp⟩ := hp
            refine st_move hf (wantY hf rfl rfl hb15) rfl (by decide) ?_
            clear hf; intro a ha hf
            exact st_nil hf (th_n ⟨ha, rfl⟩)
          clear hf; intro a hf
          refine dr_take 9 (eptr vmessage1 i7 1) rfl (by kernel_rfl) (by kernel_rfl) (by kernel_rfl) (by kernel_rfl) rfl rfl hf (by decide) (wantY hf rfl rfl hb15) (fun w hp => ?_) ⟨_, hp⟩ ?_
          · obtain ⟨_, hp⟩ := hp
            refine st_index (E := Ek.bool) hf (by decide) Try.underlying22 elt4 (wantY hf rfl rfl hb15) rfl rfl (rl12.sl hp) hc16.1 hc16.2 ?_
            clear hf; intro a ha hf
            exact st_nil hf (th_n ⟨ha, rfl⟩)
          clear hf; intro a hf
          refine dr_take 10 (.bool (gt message1 i7)) rfl (by kernel_rfl) (by kernel_rfl) (by kernel_rfl) (by kernel_rfl) rfl rfl hf (by decide) (wantY hf rfl rfl hb15) (fun w hp => ?_) ⟨_, hp⟩ ?_
          · obtain ⟨_, hp⟩ := hp
            refine st_ldB hf (by decide) pl4 (wantY hf rfl rfl hb15) rfl (rl12.sl hp) hc16.1 hc16.2 ?_
            clear hf; intro a ha hf
            exact st_nil hf (th_n ⟨ha, rfl⟩)
          clear hf; intro a hf
          refine dr_take 11 (.bool z17) rfl (by kernel_rfl) (by kernel_rfl) (by kernel_rfl) (by kernel_rfl) rfl rfl hf (by decide) rfl (fun w hp => ?_) ⟨_, hp⟩ ?_
          · obtain ⟨_, hp⟩ := hp
            refine st_pick (v := .bool z17) hf rfl rfl (fun _ => by rw [← hz14]; rfl) (fun hb' => absurd (hb15.symm.trans hb') (by decide)) (by decide) ?_
            clear hf; intro a ha hf
            exact st_nil hf (th_n ⟨ha, rfl⟩)
          clear hf; intro a hf
          refine dr_one 12 rfl (by kernel_rfl) ?_
          refine st_call hf (by decide) Try.func35 rfl rfl rfl rfl rfl (f_foghornref22_Step_c hp _ _ _ _ _ hcall19) ?_
          rintro _ w ⟨rfl, hp0⟩
          clear hp; have hp := hp0; clear hp0
          replace hp : Hp _ _ _ (Res.sl Ek.bool 4 v3 out5 :: ow) := hp
          refine ⟨_, rfl, ?_⟩
          clear hf; intro a hf
          refine st_nil hf (th_n ⟨fun _ _ => ⟨_, hp⟩, ?_⟩)
          refine dr_take 13 (.tuple #[.int .u32 q18.1, .bool q18.2.1, .bool q18.2.2]) rfl (by kernel_rfl) (by kernel_rfl) (by kernel_rfl) (by kernel_rfl) rfl rfl hf (by decide) rfl (fun w hp => ?_) ⟨_, hp⟩ ?_
          · obtain ⟨_, hp⟩ := hp
            refine st_move hf rfl rfl (by decide) ?_
            clear hf; intro a ha hf
            exact st_nil hf (th_n ⟨ha, rfl⟩)
          clear hf; intro a hf
          refine dr_take 14 (.int .u32 q18.1) rfl (by kernel_rfl) (by kernel_rfl) (by kernel_rfl) (by kernel_rfl) rfl rfl hf (by decide) rfl (fun w hp => ?_) ⟨_, hp⟩ ?_
          · obtain ⟨_, hp⟩ := hp
            refine st_extract hf (by decide) rfl rfl rfl ?_
            clear hf; intro a ha hf
            exact st_nil hf (th_n ⟨ha, rfl⟩)
          clear hf; intro a hf
          refine dr_take 15 (.bool q18.2.1) rfl (by kernel_rfl) (by kernel_rfl) (by kernel_rfl) (by kernel_rfl) rfl rfl hf (by decide) rfl (fun w hp => ?_) ⟨_, hp⟩ ?_
          · obtain ⟨_, hp⟩ := hp
            refine st_extract hf (by decide) rfl rfl rfl ?_
            clear hf; intro a ha hf
            exact st_nil hf (th_n ⟨ha, rfl⟩)
          clear hf; intro a hf
          refine dr_take 16 (.bool q18.2.2) rfl (by kernel_rfl) (by kernel_rfl) (by kernel_rfl) (by kernel_rfl) rfl rfl hf (by decide) rfl (fun w hp => ?_) ⟨_, hp⟩ ?_
          · obtain ⟨_, hp⟩ := hp
            refine st_extract hf (by decide) rfl rfl rfl ?_
            clear hf; intro a ha hf
            exact st_nil hf (th_n ⟨ha, rfl⟩)
          clear hf; intro a hf
          refine dr_take 17 (.int .u32 q18.1) rfl (by kernel_rfl) (by kernel_rfl) (by kernel_rfl) (by kernel_rfl) rfl rfl hf (by decide) rfl (fun w hp => ?_) ⟨_, hp⟩ ?_
          · obtain ⟨_, hp⟩ := hp
            refine st_assign hf rfl rfl (by decide) ?_
            clear hf; intro a ha hf
            exact st_nil hf (th_n ⟨ha, rfl⟩)
          clear hf; intro a hf
          refine dr_take 18 (.bool q18.2.1) rfl (by kernel_rfl) (by kernel_rfl) (by kernel_rfl) (by kernel_rfl) rfl rfl hf (by decide) rfl (fun w hp => ?_) ⟨_, hp⟩ ?_
          · obtain ⟨_, hp⟩ := hp
            refine st_assign hf rfl rfl (by decide) ?_
            clear hf; intro a ha hf
            exact st_nil hf (th_n ⟨ha, rfl⟩)
          clear hf; intro a hf
          refine dr_take 19 (.bool q18.2.2) rfl (by kernel_rfl) (by kernel_rfl) (by kernel_rfl) (by kernel_rfl) rfl rfl hf (by decide) rfl (fun w hp => ?_) ⟨_, hp⟩ ?_
          · obtain ⟨_, hp⟩ := hp
            refine st_assign hf rfl rfl (by decide) ?_
            clear hf; intro a ha hf
            exact st_nil hf (th_n ⟨ha, rfl⟩)
          clear hf; intro a hf
          refine dr_end (by kernel_rfl) ?_ _
          have hp := bk11 _ _ hp
          exact ⟨hf.sub ⟨rfl, rfl, rfl, rfl, rfl, rfl, rfl, trivial⟩, hp⟩
        skip
        replace hz14 := ifF hz14 hb15
        replace hz14 := Option.some.inj hz14
        refine dr_begin' (fun a w => Fr 45 a [(1, vmessage1), (2, optr v1 0), (5, v3), (7, .int .i64 i7), (8, .int .u32 q18.1), (9, .bool q18.2.1), (10, .bool q18.2.2)] ∧ Hp S w0 w (Res.obj 41 v1 [.int .i64 c0_Length, .int .u32 c0_One, .int .u32 c0_Two] :: Res.sl Ek.bool 4 v3 out5 :: ow)) (fun w' => ∃ l, Hp S7 w w' l) [] (by kernel_rfl) ?_
        refine dr_take 0 (.agg #[.int .i64 c0_Length, .int .u32 c0_One, .int .u32 c0_Two]) rfl (by kernel_rfl) (by kernel_rfl) (by kernel_rfl) (by kernel_rfl) rfl rfl hf (by decide) rfl (fun w hp => ?_) ⟨_, hp⟩ ?_
        · obtain ⟨_, hp⟩ := hp
          refine st_ldOA (m := 3) (us := [.int .i64 c0_Length, .int .u32 c0_One, .int .u32 c0_Two]) hf (by decide) (by kernel_rfl) rfl rfl (rl13.ob hp) rfl rfl ?_
          clear hf; intro a ha hf
          exact st_nil hf (th_n ⟨ha, rfl⟩)
        clear hf; intro a hf
        refine dr_take 1 (.int .u32 state6) rfl (by kernel_rfl) (by kernel_rfl) (by kernel_rfl) (by kernel_rfl) rfl rfl hf (by decide) rfl (fun w hp => ?_) ⟨_, hp⟩ ?_
        · obtain ⟨_, hp⟩ := hp
          refine st_move hf rfl rfl (by decide) ?_
          clear hf; intro a ha hf
          exact st_nil hf (th_n ⟨ha, rfl⟩)
        clear hf; intro a hf
        refine dr_take 2 (.int .i64 i7) rfl (by kernel_rfl) (by kernel_rfl) (by kernel_rfl) (by kernel_rfl) rfl rfl hf (by decide) rfl (fun w hp => ?_) ⟨_, hp⟩ ?_
        · obtain ⟨_, hp⟩ := hp
          refine st_move hf rfl rfl (by decide) ?_
          clear hf; intro a ha hf
          exact st_nil hf (th_n ⟨ha, rfl⟩)
        clear hf; intro a hf
        refine dr_take 3 (vmessage1) rfl (by kernel_rfl) (by kernel_rfl) (by kernel_rfl) (by kernel_rfl) rfl rfl hf (by decide) rfl (fun w hp => ?_) ⟨_, hp⟩ ?_
        · obtain ⟨_, hp⟩ := hp
          refine st_move hf rfl rfl (by decide) ?_
          clear hf; intro a ha hf
          exact st_nil hf (th_n ⟨ha, rfl⟩)
        clear hf; intro a hf
        refine dr_take 4 (.int .i64 (message1.length : Int)) rfl (by kernel_rfl) (by kernel_rfl) (by kernel_rfl) (by kernel_rfl) rfl rfl hf (by decide) rfl (fun w hp => ?_) ⟨_, hp⟩ ?_
        · obtain ⟨_, hp⟩ := hp
          refine st_len (E := Ek.bool) hf (by decide) Try.underlying22 rfl rfl (rl12.sl hp) ?_
          clear hf; intro a ha hf
          exact st_nil hf (th_n ⟨ha, rfl⟩)
        clear hf; intro a hf
        refine dr_take 5 (.bool (decide (i7 < (message1.length : Int)))) rfl (by kernel_rfl) (by kernel_rfl) (by kernel_rfl) (by kernel_rfl) rfl rfl hf (by decide) rfl (fun w hp => ?_) ⟨_, hp⟩ ?_
        · obtain ⟨_, hp⟩ := hp
          refine st_ilss hf (by decide) rfl rfl rfl ?_
          clear hf; intro a ha hf
          exact st_nil hf (th_n ⟨ha, rfl⟩)
        clear hf; intro a hf
        refine dr_take 6 (.bool (decide (i7 < (message1.length : Int)))) rfl (by kernel_rfl) (by kernel_rfl) (by kernel_rfl) (by kernel_rfl) rfl rfl hf (by decide) rfl (fun w hp => ?_) ⟨_, hp⟩ ?_
        · obtain ⟨_, hp⟩ := hp
          refine st_move hf rfl rfl (by decide) ?_
          clear hf; intro a ha hf
          exact st_nil hf (th_n ⟨ha, rfl⟩)
        clear hf; intro a hf
        refine dr_out 7 rfl (by kernel_rfl) (by kernel_rfl) (by kernel_rfl) (by kernel_rfl) rfl hf (by decide) rfl (wantN hf rfl rfl hb15) ⟨_, hp⟩ ?_
        clear hf; intro a hf
        refine dr_out 8 rfl (by kernel_rfl) (by kernel_rfl) (by kernel_rfl) (by kernel_rfl) rfl hf (by decide) rfl (wantN hf rfl rfl hb15) ⟨_, hp⟩ ?_
        clear hf; intro a hf
        refine dr_out 9 rfl (by kernel_rfl) (by kernel_rfl) (by kernel_rfl) (by kernel_rfl) rfl hf (by decide) rfl (wantN hf rfl rfl hb15) ⟨_, hp⟩ ?_
        clear hf; intro a hf
        refine dr_out 10 rfl (by kernel_rfl) (by kernel_rfl) (by kernel_rfl) (by kernel_rfl) rfl hf (by decide) rfl (wantN hf rfl rfl hb15) ⟨_, hp⟩ ?_
        clear hf; intro a hf
        refine dr_take 11 (.bool z17) rfl (by kernel_rfl) (by kernel_rfl) (by kernel_rfl) (by kernel_rfl) rfl rfl hf (by decide) rfl (fun w hp => ?_) ⟨_, hp⟩ ?_
        · obtain ⟨_, hp⟩ := hp
          refine st_pick (v := .bool z17) hf rfl rfl (fun hb' => absurd (hb15.symm.trans hb') (by decide)) (fun _ => by rw [← hz14]; rfl) (by decide) ?_
          clear hf; intro a ha hf
          exact st_nil hf (th_n ⟨ha, rfl⟩)
        clear hf; intro a hf
        refine dr_one 12 rfl (by kernel_rfl) ?_
        refine st_call hf (by decide) Try.func35 rfl rfl rfl rfl rfl (f_foghornref22_Step_c hp _ _ _ _ _ hcall19) ?_
        rintro _ w ⟨rfl, hp0⟩
        clear hp; have hp := hp0; clear hp0
        replace hp : Hp _ _ _ (Res.sl Ek.bool 4 v3 out5 :: ow) := hp
        refine ⟨_, rfl, ?_⟩
        clear hf; intro a hf
        refine st_nil hf (th_n ⟨fun _ _ => ⟨_, hp⟩, ?_⟩)
        refine dr_take 13 (.tuple #[.int .u32 q18.1, .bool q18.2.1, .bool q18.2.2]) rfl (by kernel_rfl) (by kernel_rfl) (by kernel_rfl) (by kernel_rfl) rfl rfl hf (by decide) rfl (fun w hp => ?_) ⟨_, hp⟩ ?_
        · obtain ⟨_, hp⟩ := hp
          refine st_move hf rfl rfl (by decide) ?_
          clear hf; intro a ha hf
          exact st_nil hf (th_n ⟨ha, rfl⟩)
        clear hf; intro a hf
        refine dr_take 14 (.int .u32 q18.1) rfl (by kernel_rfl) (by kernel_rfl) (by kernel_rfl) (by kernel_rfl) rfl rfl hf (by decide) rfl (fun w hp => ?_) ⟨_, hp⟩ ?_
        · obtain ⟨_, hp⟩ := hp
          refine st_extract hf (by decide) rfl rfl rfl ?_
          clear hf; intro a ha hf
          exact st_nil hf (th_n ⟨ha, rfl⟩)
        clear hf; intro a hf
        refine dr_take 15 (.bool q18.2.1) rfl (by kernel_rfl) (by kernel_rfl) (by kernel_rfl) (by kernel_rfl) rfl rfl hf (by decide) rfl (fun w hp => ?_) ⟨_, hp⟩ ?_
        · obtain ⟨_, hp⟩ := hp
          refine st_extract hf (by decide) rfl rfl rfl ?_
          clear hf; intro a ha hf
          exact st_nil hf (th_n ⟨ha, rfl⟩)
        clear hf; intro a hf
        refine dr_take 16 (.bool q18.2.2) rfl (by kernel_rfl) (by kernel_rfl) (by kernel_rfl) (by kernel_rfl) rfl rfl hf (by decide) rfl (fun w hp => ?_) ⟨_, hp⟩ ?_
        · obtain ⟨_, hp⟩ := hp
          refine st_extract hf (by decide) rfl rfl rfl ?_
          clear hf; intro a ha hf
          exact st_nil hf (th_n ⟨ha, rfl⟩)
        clear hf; intro a hf
        refine dr_take 17 (.int .u32 q18.1) rfl (by kernel_rfl) (by kernel_rfl) (by kernel_rfl) (by kernel_rfl) rfl rfl hf (by decide) rfl (fun w hp => ?_) ⟨_, hp⟩ ?_
        · obtain ⟨_, hp⟩ := hp
          refine st_assign hf rfl rfl (by decide) ?_
          clear hf; intro a ha hf
          exact st_nil hf (th_n ⟨ha, rfl⟩)
        clear hf; intro a hf
        refine dr_take 18 (.bool q18.2.1) rfl (by kernel_rfl) (by kernel_rfl) (by kernel_rfl) (by kernel_rfl) rfl rfl hf (by decide) rfl (fun w hp => ?_) ⟨_, hp⟩ ?_
        · obtain ⟨_, hp⟩ := hp
          refine st_assign hf rfl rfl (by decide) ?_
          clear hf; intro a ha hf
          exact st_nil hf (th_n ⟨ha, rfl⟩)
        clear hf; intro a hf
        refine dr_take 19 (.bool q18.2.2) rfl (by kernel_rfl) (by kernel_rfl) (by kernel_rfl) (by kernel_rfl) rfl rfl hf (by decide) rfl (fun w hp => ?_) ⟨_, hp⟩ ?_
        · obtain ⟨_, hp⟩ := hp
          refine st_assign hf rfl rfl (by decide) ?_
          clear hf; intro a ha hf
          exact st_nil hf (th_n ⟨ha, rfl⟩)
        clear hf; intro a hf
        refine dr_end (by kernel_rfl) ?_ _
        have hp := bk11 _ _ hp
        exact ⟨hf.sub ⟨rfl, rfl, rfl, rfl, rfl, rfl, rfl, trivial⟩, hp⟩
      rintro a w ⟨hf, hp⟩
      refine th_n ?_
      refine wp_seq ?_
      refine wp_reg ?_
      refine st_move hf rfl rfl (by decide) ?_
      clear hf; intro a ha hf; clear ha
      refine st_move hf rfl rfl (by decide) ?_
      clear hf; intro a ha hf; clear ha
      refine st_move hf rfl rfl (by decide) ?_
      clear hf; intro a ha hf; clear ha
      refine st_build (E := Ek.bool) (xs := [q18.2.1, q18.2.2]) hf (by decide) elt4 Try.underlying22 hp (vals := #[(0, .bool q18.2.1), (1, .bool q18.2.2)]) (cells := #[.bool q18.2.1, .bool q18.2.2]) rfl (by simp [hf.ev (x := (Operand.tmp 39)) rfl, hf.ev (x := (Operand.tmp 40)) rfl]) (by decide) (by decide) (z := .bool false) (by kernel_rfl) (by kernel_rfl) rfl (reps_cons (cs := [.bool q18.2.1]) rfl (reps_cons (cs := [.bool q18.2.2]) rfl (reps_nil _))) ?_
      clear hf; intro a w v20 hf hp0; clear hp; have hp := hp0; clear hp0
      replace hp : Hp _ _ _ (Res.sl Ek.bool 4 v20 ([q18.2.1, q18.2.2]) :: Res.obj 41 v1 [.int .i64 c0_Length, .int .u32 c0_One, .int .u32 c0_Two] :: Res.sl Ek.bool 4 v3 out5 :: ow) := hp
      obtain ⟨hc22, h⟩ := chk h
      refine st_append (E := Ek.bool) hf (by decide) elt4 Try.underlying22 (by decide) hp (i := 2) rfl rfl rfl rfl (hp.sl (i := 0) rfl) hc22 ?_
      clear hf; intro a w v23 hf hp0; clear hp; have hp := hp0; clear hp0
      replace hp : Hp _ _ _ (Res.sl Ek.bool 4 v20 ([q18.2.1, q18.2.2]) :: Res.obj 41 v1 [.int .i64 c0_Length, .int .u32 c0_One, .int .u32 c0_Two] :: Res.sl Ek.bool 4 v23 (out5 ++ [q18.2.1, q18.2.2]) :: ow) := hp
      refine st_assign hf rfl rfl (by decide) ?_
      clear hf; intro a ha hf; clear ha
      refine st_nil hf ?_
      refine th_n ?_
      refine wp_reg ?_
      refine st_move hf rfl rfl (by decide) ?_
      clear hf; intro a ha hf; clear ha
      refine st_assign hf rfl rfl (by decide) ?_
      clear hf; intro a ha hf; clear ha
      refine st_nil hf ?_
      refine ib_n ?_
      refine th_n ?_
      refine wp_reg ?_
      refine st_move hf rfl rfl (by decide) ?_
      clear hf; intro a ha hf; clear ha
      refine st_iadd hf (by decide) rfl rfl rfl ?_
      clear hf; intro a ha hf; clear ha
      refine st_assign hf rfl rfl (by decide) ?_
      clear hf; intro a ha hf; clear ha
      refine st_nil hf ?_
      obtain rfl := Option.some.inj h
      have hp : Hp _ _ _ (Res.sl Ek.bool 4 v23 (out5 ++ [q18.2.1, q18.2.2]) :: Res.obj 41 v1 [.int .i64 c0_Length, .int .u32 c0_One, .int .u32 c0_Two] :: ow) := Hp.sel (pre := [Res.sl Ek.bool 4 v20 ([q18.2.1, q18.2.2]), Res.obj 41 v1 [.int .i64 c0_Length, .int .u32 c0_One, .int .u32 c0_Two], Res.sl Ek.bool 4 v23 (out5 ++ [q18.2.1, q18.2.2])]) (tail := ow) (rs' := [Res.sl Ek.bool 4 v23 (out5 ++ [q18.2.1, q18.2.2]), Res.obj 41 v1 [.int .i64 c0_Length, .int .u32 c0_One, .int .u32 c0_Two]]) hp [2, 1] (by decide) (by simp) rfl
      exact rnd_l ⟨_, hf.sub ⟨rfl, rfl, rfl, rfl, rfl, trivial⟩, hp⟩
    replace h := ifF h hb
    refine wp_exit ?_
    refine th_e ?_
    obtain rfl := Option.some.inj h
    have hp : Hp _ _ _ (Res.sl Ek.bool 4 v3 out5 :: ow) := Hp.sel (pre := [Res.sl Ek.bool 4 v3 out5, Res.obj 41 v1 [.int .i64 c0_Length, .int .u32 c0_One, .int .u32 c0_Two]]) (tail := ow) (rs' := [Res.sl Ek.bool 4 v3 out5]) hp [0] (by decide) (by simp) rfl
    exact rnd_r (by simp) ⟨rfl, _, hf.sub ⟨rfl, trivial⟩, hp⟩
  clear hl hf hp
  intro e a w hne hO
  obtain ⟨rfl, v5, hf, hp⟩ := hO
  refine ib_same ?_
  refine th_n ?_
  refine wp_seq ?_
  refine wp_reg ?_
  refine st_move hf rfl rfl (by decide) ?_
  clear hf; intro a ha hf; clear ha
  refine st_assign hf rfl rfl (by decide) ?_
  clear hf; intro a ha hf; clear ha
  refine st_nil hf ?_
  refine th_n ?_
  refine wp_ret ?_
  obtain rfl := Option.some.inj h
  exact ⟨rfl, ⟨_, hf.sub ⟨rfl, trivial⟩, hp⟩⟩

noncomputable def f_foghornref22_Cost.s1c (marks2 : (List Int)) (q7 : (List Bool)) (sum9 : Int) (i10 : Int) : Option ((Int × Int) ⊕ Int) := (if (decide (i10 < (q7.length : Int))) = true then (if 0 ≤ i10 ∧ i10 < (q7.length : Int) then (if 0 ≤ i10 ∧ i10 < (marks2.length : Int) then ((f_foghornref22_unlike (gt q7 i10) (gt marks2 i10)).bind fun q20 => (some (Sum.inl ((IntKind.i64.wrap (sum9 + q20)), (IntKind.i64.wrap (i10 + (1 : Int))))))) else none) else none) else (some (Sum.inr sum9)))
noncomputable def f_foghornref22_Cost.s1 (marks2 : (List Int)) (q7 : (List Bool)) (s : (Int × Int)) : Option ((Int × Int) ⊕ Int) := f_foghornref22_Cost.s1c marks2 q7 s.1 s.2
noncomputable def f_foghornref22_Cost (c0_Length : Int) (c0_One : Int) (c0_Two : Int) (message1 : (List Bool)) (marks2 : (List Int)) : Option (Int × Int) := ((f_foghornref22_Fits c0_Length c0_One c0_Two marks2).bind fun q3 => (if ((!q3) || ((IntKind.i64.wrap ((IntKind.i64.wrap ((message1.length : Int) + c0_Length)) - (1 : Int))) != (IntKind.i64.wrap (((marks2.length : Int)).tdiv (2 : Int))))) = true then (some ((0 : Int), (1 : Int))) else ((f_foghornref22_Encode c0_Length c0_One c0_Two message1).bind fun q7 => ((loop (f_foghornref22_Cost.s1 marks2 q7) ((0 : Int), (0 : Int))).bind (fun q22 => (some (q22, (0 : Int))))))))
theorem f_foghornref22_Cost_c {S : Nat → Prop} {w0 w : World} {ow : List Res} (hp : Hp S w0 w ow) (c0_Length : Int) (c0_One : Int) (c0_Two : Int) (vmessage1 : Value) (message1 : (List Bool)) (hmessage1 : RdS Ek.bool S w0 vmessage1 message1) (vmarks2 : Value) (marks2 : (List Int)) (hmarks2 : RdS (Ek.int .u8) S w0 vmarks2 marks2) {r : (Int × Int)} (h : f_foghornref22_Cost c0_Length c0_One c0_Two message1 marks2 = some r) :
    Calls Try.prog 22 #[.agg #[.int .i64 c0_Length, .int .u32 c0_One, .int .u32 c0_Two], vmessage1, vmarks2] w (fun e w' => e = .returned (.tuple #[.int .i64 r.1, .int .i64 r.2]) ∧ Hp S w0 w' (ow)) := by
  unfold f_foghornref22_Cost at h
  refine enter (n := 48) (args := [.agg #[.int .i64 c0_Length, .int .u32 c0_One, .int .u32 c0_Two], vmessage1, vmarks2]) Try.func22 rfl rfl (Nat.le_of_ble_eq_true rfl) fun a hf => ?_
  replace hf : Fr 48 a [(0, .agg #[.int .i64 c0_Length, .int .u32 c0_One, .int .u32 c0_Two]), (1, vmessage1), (2, vmarks2)] := hf
  refine wp_mono (Q := fun e a w => e = .ret ∧ Fr 48 a [(6, .int .i64 r.1), (7, .int .i64 r.2)] ∧ Hp S w0 w (ow)) ?_ ?_
  rotate_left
  · rintro e a w ⟨rfl, hf, hp⟩
    exact ret2 hf rfl rfl rfl ⟨rfl, hp⟩
  refine wp_seq ?_
  refine wp_reg ?_
  refine st_boxO (cs := [.int .i64 c0_Length, .int .u32 c0_One, .int .u32 c0_Two]) hf (by decide) hp rfl rfl rfl ?_
  clear hf; intro a w v1 hf hp0; clear hp; have hp := hp0; clear hp0
  replace hp : Hp _ _ _ (Res.obj 41 v1 [.int .i64 c0_Length, .int .u32 c0_One, .int .u32 c0_Two] :: ow) := hp
  refine st_assign hf rfl rfl (by decide) ?_
  clear hf; intro a ha hf; clear ha
  refine st_assign hf rfl rfl (by decide) ?_
  clear hf; intro a ha hf; clear ha
  refine st_nil hf ?_
  refine th_n ?_
  refine wp_seq ?_
  refine wp_seq ?_
  refine wp_reg ?_
  refine st_ldOA (m := 3) (us := [.int .i64 c0_Length, .int .u32 c0_One, .int .u32 c0_Two]) hf (by decide) (by kernel_rfl) rfl rfl (hp.ob (i := 0) rfl) rfl rfl ?_
  clear hf; intro a ha hf; clear ha
  refine st_move hf rfl rfl (by decide) ?_
  clear hf; intro a ha hf; clear ha
  obtain ⟨q3, hcall4, h⟩ := bnd h
  refine st_call hf (by decide) Try.func33 rfl rfl rfl rfl rfl (f_foghornref22_Fits_c hp _ _ _ _ _ hmarks2 hcall4) ?_
  rintro _ w ⟨rfl, hp0⟩
  clear hp; have hp := hp0; clear hp0
  replace hp : Hp _ _ _ (Res.obj 41 v1 [.int .i64 c0_Length, .int .u32 c0_One, .int .u32 c0_Two] :: ow) := hp
  refine ⟨_, rfl, ?_⟩
  clear hf; intro a hf
  refine st_not hf (by decide) rfl rfl ?_
  clear hf; intro a ha hf; clear ha
  refine st_move hf rfl rfl (by decide) ?_
  clear hf; intro a ha hf; clear ha
  refine wpList_cut 11 (fun a w => Fr 48 a [(1, vmessage1), (2, vmarks2), (3, optr v1 0), (26, .bool ((!q3) || ((IntKind.i64.wrap ((IntKind.i64.wrap ((message1.length : Int) + c0_Length)) - (1 : Int))) != (IntKind.i64.wrap (((marks2.length : Int)).tdiv (2 : Int))))))] ∧ Hp S w0 w (Res.obj 41 v1 [.int .i64 c0_Length, .int .u32 c0_One, .int .u32 c0_Two] :: ow)) ?_ ?_
  · rcases Bool.eq_false_or_eq_true (!q3) with hb6 | hb6
    · skip
      refine st_skip hf (wantN hf rfl rfl hb6) rfl (by decide) ?_ rfl
      clear hf; intro a hf
      refine st_skip hf (wantN hf rfl rfl hb6) rfl (by decide) ?_ rfl
      clear hf; intro a hf
      refine st_skip hf (wantN hf rfl rfl hb6) rfl (by decide) ?_ rfl
      clear hf; intro a hf
      refine st_skip hf (wantN hf rfl rfl hb6) rfl (by decide) ?_ rfl
      clear hf; intro a hf
      refine st_skip hf (wantN hf rfl rfl hb6) rfl (by decide) ?_ rfl
      clear hf; intro a hf
      refine st_skip hf (wantN hf rfl rfl hb6) rfl (by decide) ?_ rfl
      clear hf; intro a hf
      refine st_skip hf (wantN hf rfl rfl hb6) rfl (by decide) ?_ rfl
      clear hf; intro a hf
      refine st_skip hf (wantN hf rfl rfl hb6) rfl (by decide) ?_ rfl
      clear hf; intro a hf
      refine st_skip hf (wantN hf rfl rfl hb6) rfl (by decide) ?_ rfl
      clear hf; intro a hf
      refine st_skip hf (wantN hf rfl rfl hb6) rfl (by decide) ?_ rfl
      clear hf; intro a hf
      refine st_pick (v := .bool true) hf rfl rfl (fun hb' => ?_) (fun hb' => ?_) (by decide) ?_
      · rfl
      · exact absurd (hb6.symm.trans hb') (by decide)
      clear hf; intro a ha hf; clear ha
      refine st_nil hf (th_n ?_)
      exact ⟨hf.sub ⟨rfl, rfl, rfl, (by rw [hb6]; rfl), trivial⟩, hp⟩
    refine st_move hf (wantY hf rfl rfl hb6) rfl (by decide) ?_
    clear hf; intro a ha hf; clear ha
    refine st_len (E := Ek.bool) hf (by decide) Try.underlying22 (wantY hf rfl rfl hb6) rfl (hmessage1.sl hp) ?_
    clear hf; intro a ha hf; clear ha
    refine st_fa (o' := 0) hf (by decide) (off := 0) (sz := 1) (by kernel_rfl) (by decide) (wantY hf rfl rfl hb6) rfl (hp.ob (i := 0) rfl) rfl ?_
    clear hf; intro a ha hf; clear ha
    refine st_ldO (u := .int .i64 c0_Length) hf (by decide) pl3 (wantY hf rfl rfl hb6) rfl (hp.ob (i := 0) rfl) rfl ?_
    clear hf; intro a ha hf; clear ha
    refine st_iadd hf (by decide) (wantY hf rfl rfl hb6) rfl rfl ?_
    clear hf; intro a ha hf; clear ha
    refine st_isub hf (by decide) (wantY hf rfl rfl hb6) rfl rfl ?_
    clear hf; intro a ha hf; clear ha
    refine st_move hf (wantY hf rfl rfl hb6) rfl (by decide) ?_
    clear hf; intro a ha hf; clear ha
    refine st_len (E := (Ek.int .u8)) hf (by decide) Try.underlying29 (wantY hf rfl rfl hb6) rfl (hmarks2.sl hp) ?_
    clear hf; intro a ha hf; clear ha
    refine st_iquo hf (by decide) (wantY hf rfl rfl hb6) rfl rfl (by decide) ?_
    clear hf; intro a ha hf; clear ha
    refine st_ineq hf (by decide) (wantY hf rfl rfl hb6) rfl rfl ?_
    clear hf; intro a ha hf; clear ha
    refine st_pick (v := .bool ((IntKind.i64.wrap ((IntKind.i64.wrap ((message1.length : Int) + c0_Length)) - (1 : Int))) != (IntKind.i64.wrap (((marks2.length : Int)).tdiv (2 : Int))))) hf rfl rfl (fun hb' => ?_) (fun hb' => ?_) (by decide) ?_
    · exact absurd (hb6.symm.trans hb') (by decide)
    · rfl
    clear hf; intro a ha hf; clear ha
    refine st_nil hf (th_n ?_)
    exact ⟨hf.sub ⟨rfl, rfl, rfl, (by rw [hb6]; rfl), trivial⟩, hp⟩
  rintro a w ⟨hf, hp⟩
  refine st_nil hf ?_
  refine th_n ?_
  refine wp_if hf rfl (fun hb => ?_) (fun hb => ?_)
  · replace h := ifT h hb
    refine wp_seq ?_
    refine wp_reg ?_
    refine st_assign hf rfl rfl (by decide) ?_
    clear hf; intro a ha hf; clear ha
    refine st_assign hf rfl rfl (by decide) ?_
    clear hf; intro a ha hf; clear ha
    refine st_nil hf ?_
    refine th_n ?_
    refine wp_ret ?_
    refine th_r ?_
    obtain rfl := Option.some.inj h
    have hp : Hp _ _ _ (ow) := Hp.sel (pre := [Res.obj 41 v1 [.int .i64 c0_Length, .int .u32 c0_One, .int .u32 c0_Two]]) (tail := ow) (rs' := []) hp [] (by decide) (by simp) rfl
    exact ⟨rfl, ⟨hf.sub ⟨rfl, rfl, trivial⟩, hp⟩⟩
  replace h := ifF h hb
  refine wp_skip ?_
  refine th_n ?_
  refine wp_seq ?_
  refine wp_reg ?_
  refine st_ldOA (m := 3) (us := [.int .i64 c0_Length, .int .u32 c0_One, .int .u32 c0_Two]) hf (by decide) (by kernel_rfl) rfl rfl (hp.ob (i := 0) rfl) rfl rfl ?_
  clear hf; intro a ha hf; clear ha
  refine st_move hf rfl rfl (by decide) ?_
  clear hf; intro a ha hf; clear ha
  obtain ⟨q7, hcall8, h⟩ := bnd h
  refine st_call hf (by decide) Try.func36 rfl rfl rfl rfl rfl (f_foghornref22_Encode_c hp _ _ _ _ _ hmessage1 hcall8) ?_
  rintro _ w ⟨v9, rfl, hp0⟩
  clear hp; have hp := hp0; clear hp0
  replace hp : Hp _ _ _ (Res.sl Ek.bool 4 v9 q7 :: Res.obj 41 v1 [.int .i64 c0_Length, .int .u32 c0_One, .int .u32 c0_Two] :: ow) := hp
  refine ⟨_, rfl, ?_⟩
  clear hf; intro a hf
  refine st_assign hf rfl rfl (by decide) ?_
  clear hf; intro a ha hf; clear ha
  refine st_nil hf ?_
  refine th_n ?_
  refine wp_seq ?_
  refine wp_reg ?_
  refine st_assign hf rfl rfl (by decide) ?_
  clear hf; intro a ha hf; clear ha
  refine st_nil hf ?_
  refine th_n ?_
  refine wp_seq ?_
  refine wp_seq ?_
  refine wp_reg ?_
  refine st_assign hf rfl rfl (by decide) ?_
  clear hf; intro a ha hf; clear ha
  refine st_nil hf ?_
  refine th_n ?_
  refine wp_block ?_
  obtain ⟨q22, hl, h⟩ := bnd h
  have hp : Hp _ _ _ (Res.sl Ek.bool 4 v9 q7 :: ow) := Hp.sel (pre := [Res.sl Ek.bool 4 v9 q7, Res.obj 41 v1 [.int .i64 c0_Length, .int .u32 c0_One, .int .u32 c0_Two]]) (tail := ow) (rs' := [Res.sl Ek.bool 4 v9 q7]) hp [0] (by decide) (by simp) rfl
  refine wp_loop_pure (f := (f_foghornref22_Cost.s1 marks2 q7)) (s := ((0 : Int), (0 : Int))) (fun s a w => Fr 48 a [(2, vmarks2), (8, v9), (9, .int .i64 s.1), (10, .int .i64 s.2)] ∧ Hp S w0 w (Res.sl Ek.bool 4 v9 q7 :: ow)) (fun q e a w => e = .exit 0 ∧ Fr 48 a [(9, .int .i64 q)] ∧ Hp S w0 w (ow)) ?_ hl ⟨hf.sub ⟨rfl, rfl, rfl, rfl, trivial⟩, hp⟩ ?_
  · clear hl hf hp
    intro s x a w h hI
    obtain ⟨sum9, i10⟩ := s
    obtain ⟨hf, hp⟩ : Fr 48 a [(2, vmarks2), (8, v9), (9, .int .i64 sum9), (10, .int .i64 i10)] ∧ Hp S w0 w (Res.sl Ek.bool 4 v9 q7 :: ow) := hI
    replace h : f_foghornref22_Cost.s1c marks2 q7 sum9 i10 = some x := h
    unfold f_foghornref22_Cost.s1c at h
    refine wp_seq ?_
    refine wp_seq ?_
    refine wp_reg ?_
    refine st_move hf rfl rfl (by decide) ?_
    clear hf; intro a ha hf; clear ha
    refine st_move hf rfl rfl (by decide) ?_
    clear hf; intro a ha hf; clear ha
    refine st_len (E := Ek.bool) hf (by decide) Try.underlying22 rfl rfl (hp.sl (i := 0) rfl) ?_
    clear hf; intro a ha hf; clear ha
    refine st_ilss hf (by decide) rfl rfl rfl ?_
    clear hf; intro a ha hf; clear ha
    refine st_nil hf ?_
    refine th_n ?_
    refine wp_if hf rfl (fun hb => ?_) (fun hb => ?_)
    · replace h := ifT h hb
      refine wp_skip ?_
      refine th_n ?_
      refine wp_seq ?_
      refine wp_block ?_
      obtain ⟨S11, hp12, rd13, up14, bk15⟩ := Hp.lendS hp (i := 0) rfl
      have rl16 := ((hmarks2.now hp).mono up14)
      have rl17 := rd13
      obtain ⟨hc18, h⟩ := chk h
      obtain ⟨hc19, h⟩ := chk h
      obtain ⟨q20, hcall21, h⟩ := bnd h
      refine wp_cutN (fun a w => Fr 48 a [(2, vmarks2), (8, v9), (9, .int .i64 (IntKind.i64.wrap (sum9 + q20))), (10, .int .i64 i10)] ∧ Hp S w0 w (Res.sl Ek.bool 4 v9 q7 :: ow)) ?_ ?_
      · have hp := hp12.same (Same.drew w)
        refine dr_begin' (fun a w => Fr 48 a [(2, vmarks2), (8, v9), (9, .int .i64 (IntKind.i64.wrap (sum9 + q20))), (10, .int .i64 i10)] ∧ Hp S w0 w (Res.sl Ek.bool 4 v9 q7 :: ow)) (fun w' => ∃ l, Hp S11 w w' l) [] (by kernel_rfl) ?_
        refine dr_take 0 (.int .i64 sum9) rfl (by kernel_rfl) (by kernel_rfl) (by kernel_rfl) (by kernel_rfl) rfl rfl hf (by decide) rfl (fun w hp => ?_) ⟨_, hp⟩ ?_
        · obtain ⟨_, hp⟩ := hp
          refine st_move hf rfl rfl (by decide) ?_
          clear hf; intro a ha hf
          exact st_nil hf (th_n ⟨ha, rfl⟩)
        clear hf; intro a hf
        refine dr_take 1 (v9) rfl (by kernel_rfl) (by kernel_rfl) (by kernel_rfl) (by kernel_rfl) rfl rfl hf (by decide) rfl (fun w hp => ?_) ⟨_, hp⟩ ?_
        · obtain ⟨_, hp⟩ := hp
          refine st_move hf rfl rfl (by decide) ?_
          clear hf; intro a ha hf
          exact st_nil hf (th_n ⟨ha, rfl⟩)
        clear hf; intro a hf
        refine dr_take 2 (.int .i64 i10) rfl (by kernel_rfl) (by kernel_rfl) (by kernel_rfl) (by kernel_rfl) rfl rfl hf (by decide) rfl (fun w hp => ?_) ⟨_, hp⟩ ?_
        · obtain ⟨_, hp⟩ := hp
          refine st_move hf rfl rfl (by decide) ?_
          clear hf; intro a ha hf
          exact st_nil hf (th_n ⟨ha, rfl⟩)
        clear hf; intro a hf
        refine dr_take 3 (eptr v9 i10 1) rfl (by kernel_rfl) (by kernel_rfl) (by kernel_rfl) (by kernel_rfl) rfl rfl hf (by decide) rfl (fun w hp => ?_) ⟨_, hp⟩ ?_
        · obtain ⟨_, hp⟩ := hp
          refine st_index (E := Ek.bool) hf (by decide) Try.underlying22 elt4 rfl rfl rfl (rl17.sl hp) hc18.1 hc18.2 ?_
          clear hf; intro a ha hf
          exact st_nil hf (th_n ⟨ha, rfl⟩)
        clear hf; intro a hf
        refine dr_take 4 (.bool (gt q7 i10)) rfl (by kernel_rfl) (by kernel_rfl) (by kernel_rfl) (by kernel_rfl) rfl rfl hf (by decide) rfl (fun w hp => ?_) ⟨_, hp⟩ ?_
        · obtain ⟨_, hp⟩ := hp
          refine st_ldB hf (by decide) pl4 rfl rfl (rl17.sl hp) hc18.1 hc18.2 ?_
          clear hf; intro a ha hf
          exact st_nil hf (th_n ⟨ha, rfl⟩)
        clear hf; intro a hf
        refine dr_take 5 (vmarks2) rfl (by kernel_rfl) (by kernel_rfl) (by kernel_rfl) (by kernel_rfl) rfl rfl hf (by decide) rfl (fun w hp => ?_) ⟨_, hp⟩ ?_
        · obtain ⟨_, hp⟩ := hp
          refine st_move hf rfl rfl (by decide) ?_
          clear hf; intro a ha hf
          exact st_nil hf (th_n ⟨ha, rfl⟩)
        clear hf; intro a hf
        refine dr_take 6 (.int .i64 i10) rfl (by kernel_rfl) (by kernel_rfl) (by kernel_rfl) (by kernel_rfl) rfl rfl hf (by decide) rfl (fun w hp => ?_) ⟨_, hp⟩ ?_
        · obtain ⟨_, hp⟩ := hp
          refine st_move hf rfl rfl (by decide) ?_
          clear hf; intro a ha hf
          exact st_nil hf (th_n ⟨ha, rfl⟩)
        clear hf; intro a hf
        refine dr_take 7 (eptr vmarks2 i10 1) rfl (by kernel_rfl) (by kernel_rfl) (by kernel_rfl) (by kernel_rfl) rfl rfl hf (by decide) rfl (fun w hp => ?_) ⟨_, hp⟩ ?_
        · obtain ⟨_, hp⟩ := hp
          refine st_index (E := (Ek.int .u8)) hf (by decide) Try.underlying29 elt5 rfl rfl rfl (rl16.sl hp) hc19.1 hc19.2 ?_
          clear hf; intro a ha hf
          exact st_nil hf (th_n ⟨ha, rfl⟩)
        clear hf; intro a hf
        refine dr_take 8 (.int .u8 (gt marks2 i10)) rfl (by kernel_rfl) (by kernel_rfl) (by kernel_rfl) (by kernel_rfl) rfl rfl hf (by decide) rfl (fun w hp => ?_) ⟨_, hp⟩ ?_
        · obtain ⟨_, hp⟩ := hp
          refine st_ldI hf (by decide) pl5 rfl rfl (rl16.sl hp) hc19.1 hc19.2 ?_
          clear hf; intro a ha hf
          exact st_nil hf (th_n ⟨ha, rfl⟩)
        clear hf; intro a hf
        refine dr_one 9 rfl (by kernel_rfl) ?_
        refine st_call hf (by decide) Try.func37 rfl rfl rfl rfl rfl (f_foghornref22_unlike_c hp _ _ hcall21) ?_
        rintro _ w ⟨rfl, hp0⟩
        clear hp; have hp := hp0; clear hp0
        replace hp : Hp _ _ _ (ow) := hp
        refine ⟨_, rfl, ?_⟩
        clear hf; intro a hf
        refine st_nil hf (th_n ⟨fun _ _ => ⟨_, hp⟩, ?_⟩)
        refine dr_take 10 (.int .i64 (IntKind.i64.wrap (sum9 + q20))) rfl (by kernel_rfl) (by kernel_rfl) (by kernel_rfl) (by kernel_rfl) rfl rfl hf (by decide) rfl (fun w hp => ?_) ⟨_, hp⟩ ?_
        · obtain ⟨_, hp⟩ := hp
          refine st_iadd hf (by decide) rfl rfl rfl ?_
          clear hf; intro a ha hf
          exact st_nil hf (th_n ⟨ha, rfl⟩)
        clear hf; intro a hf
        refine dr_take 11 (.int .i64 (IntKind.i64.wrap (sum9 + q20))) rfl (by kernel_rfl) (by kernel_rfl) (by kernel_rfl) (by kernel_rfl) rfl rfl hf (by decide) rfl (fun w hp => ?_) ⟨_, hp⟩ ?_
        · obtain ⟨_, hp⟩ := hp
          refine st_assign hf rfl rfl (by decide) ?_
          clear hf; intro a ha hf
          exact st_nil hf (th_n ⟨ha, rfl⟩)
        clear hf; intro a hf
        refine dr_end (by kernel_rfl) ?_ _
        have hp := bk15 _ _ hp
        exact ⟨hf.sub ⟨rfl, rfl, rfl, rfl, trivial⟩, hp⟩
      rintro a w ⟨hf, hp⟩
      refine ib_n ?_
      refine th_n ?_
      refine wp_reg ?_
      refine st_move hf rfl rfl (by decide) ?_
      clear hf; intro a ha hf; clear ha
      refine st_iadd hf (by decide) rfl rfl rfl ?_
      clear hf; intro a ha hf; clear ha
      refine st_assign hf rfl rfl (by decide) ?_
      clear hf; intro a ha hf; clear ha
      refine st_nil hf ?_
      obtain rfl := Option.some.inj h
      exact rnd_l ⟨hf.sub ⟨rfl, rfl, rfl, rfl, trivial⟩, hp⟩
    replace h := ifF h hb
    refine wp_exit ?_
    refine th_e ?_
    obtain rfl := Option.some.inj h
    have hp : Hp _ _ _ (ow) := Hp.sel (pre := [Res.sl Ek.bool 4 v9 q7]) (tail := ow) (rs' := []) hp [] (by decide) (by simp) rfl
    exact rnd_r (by simp) ⟨rfl, hf.sub ⟨rfl, trivial⟩, hp⟩
  clear hl hf hp
  intro e a w hne hO
  obtain ⟨rfl, hf, hp⟩ := hO
  refine ib_same ?_
  refine th_n ?_
  refine wp_seq ?_
  refine wp_reg ?_
  refine st_move hf rfl rfl (by decide) ?_
  clear hf; intro a ha hf; clear ha
  refine st_assign hf rfl rfl (by decide) ?_
  clear hf; intro a ha hf; clear ha
  refine st_assign hf rfl rfl (by decide) ?_
  clear hf; intro a ha hf; clear ha
  refine st_nil hf ?_
  refine th_n ?_
  refine wp_ret ?_
  obtain rfl := Option.some.inj h
  exact ⟨rfl, ⟨hf.sub ⟨rfl, rfl, trivial⟩, hp⟩⟩

noncomputable def f_foghornlaw22_sameBits.s1c (a0 : (List Bool)) (b1 : (List Bool)) (i5 : Int) : Option (Int ⊕ (Unit ⊕ Bool)) := (if (decide (i5 < (a0.length : Int))) = true then (if 0 ≤ i5 ∧ i5 < (a0.length : Int) then (if 0 ≤ i5 ∧ i5 < (b1.length : Int) then (if ((gt a0 i5) != (gt b1 i5)) = true then (some (Sum.inr (Sum.inr false))) else (some (Sum.inl (IntKind.i64.wrap (i5 + (1 : Int)))))) else none) else none) else (some (Sum.inr (Sum.inl ()))))
noncomputable def f_foghornlaw22_sameBits.s1 (a0 : (List Bool)) (b1 : (List Bool)) (s : Int) : Option (Int ⊕ (Unit ⊕ Bool)) := f_foghornlaw22_sameBits.s1c a0 b1 s
noncomputable def f_foghornlaw22_sameBits (a0 : (List Bool)) (b1 : (List Bool)) : Option Bool := (if ((a0.length : Int) != (b1.length : Int)) = true then (some false) else ((loop (f_foghornlaw22_sameBits.s1 a0 b1) (0 : Int)).bind (fun q3 => sm q3 (fun q4 => (some true)) (fun q5 => (some q5)))))
theorem f_foghornlaw22_sameBits_c {S : Nat → Prop} {w0 w : World} {ow : List Res} (hp : Hp S w0 w ow) (va0 : Value) (a0 : (List Bool)) (ha0 : RdS Ek.bool S w0 va0 a0) (vb1 : Value) (b1 : (List Bool)) (hb1 : RdS Ek.bool S w0 vb1 b1) {r : Bool} (h : f_foghornlaw22_sameBits a0 b1 = some r) :
    Calls Try.prog 13 #[va0, vb1] w (fun e w' => e = .returned (.bool r) ∧ Hp S w0 w' (ow)) := by
  unfold f_foghornlaw22_sameBits at h
  refine enter (n := 26) (args := [va0, vb1]) Try.func13 rfl rfl (Nat.le_of_ble_eq_true rfl) fun a hf => ?_
  replace hf : Fr 26 a [(0, va0), (1, vb1)] := hf
  refine wp_mono (Q := fun e a w => e = .ret ∧ Fr 26 a [(4, .bool r)] ∧ Hp S w0 w (ow)) ?_ ?_
  rotate_left
  · rintro e a w ⟨rfl, hf, hp⟩
    exact ret1 hf rfl rfl ⟨rfl, hp⟩
  refine wp_seq ?_
  refine wp_reg ?_
  refine st_assign hf rfl rfl (by decide) ?_
  clear hf; intro a ha hf; clear ha
  refine st_nil hf ?_
  refine th_n ?_
  refine wp_seq ?_
  refine wp_seq ?_
  refine wp_reg ?_
  refine st_move hf rfl rfl (by decide) ?_
  clear hf; intro a ha hf; clear ha
  refine st_len (E := Ek.bool) hf (by decide) Try.underlying22 rfl rfl (ha0.sl hp) ?_
  clear hf; intro a ha hf; clear ha
  refine st_move hf rfl rfl (by decide) ?_
  clear hf; intro a ha hf; clear ha
  refine st_len (E := Ek.bool) hf (by decide) Try.underlying22 rfl rfl (hb1.sl hp) ?_
  clear hf; intro a ha hf; clear ha
  refine st_ineq hf (by decide) rfl rfl rfl ?_
  clear hf; intro a ha hf; clear ha
  refine st_nil hf ?_
  refine th_n ?_
  refine wp_if hf rfl (fun hb => ?_) (fun hb => ?_)
  · replace h := ifT h hb
    refine wp_seq ?_
    refine wp_reg ?_
    refine st_assign hf rfl rfl (by decide) ?_
    clear hf; intro a ha hf; clear ha
    refine st_nil hf ?_
    refine th_n ?_
    refine wp_ret ?_
    refine th_r ?_
    obtain rfl := Option.some.inj h
    exact ⟨rfl, ⟨hf.sub ⟨rfl, trivial⟩, hp⟩⟩
  replace h := ifF h hb
  refine wp_skip ?_
  refine th_n ?_
  refine wp_seq ?_
  refine wp_seq ?_
  refine wp_reg ?_
  refine st_assign hf rfl rfl (by decide) ?_
  clear hf; intro a ha hf; clear ha
  refine st_nil hf ?_
  refine th_n ?_
  refine wp_block ?_
  obtain ⟨q3, hl, h⟩ := bnd h
  refine wp_loop_pure (f := (f_foghornlaw22_sameBits.s1 a0 b1)) (s := (0 : Int)) (fun s a w => Fr 26 a [(0, va0), (1, vb1), (5, .int .i64 s)] ∧ Hp S w0 w (ow)) (fun q e a w => match q with | (Sum.inl q) => e = .exit 0 ∧ Fr 26 a [] ∧ Hp S w0 w (ow) | (Sum.inr q) => e = .ret ∧ Fr 26 a [(4, .bool q)] ∧ Hp S w0 w (ow)) ?_ hl ⟨hf.sub ⟨rfl, rfl, rfl, trivial⟩, hp⟩ ?_
  · clear hl hf hp
    intro s x a w h hI
    obtain ⟨i5, hs⟩ : ∃ z, z = s := ⟨s, rfl⟩; subst hs
    obtain ⟨hf, hp⟩ : Fr 26 a [(0, va0), (1, vb1), (5, .int .i64 i5)] ∧ Hp S w0 w (ow) := hI
    replace h : f_foghornlaw22_sameBits.s1c a0 b1 i5 = some x := h
    unfold f_foghornlaw22_sameBits.s1c at h
    refine wp_seq ?_
    refine wp_seq ?_
    refine wp_reg ?_
    refine st_move hf rfl rfl (by decide) ?_
    clear hf; intro a ha hf; clear ha
    refine st_move hf rfl rfl (by decide) ?_
    clear hf; intro a ha hf; clear ha
    refine st_len (E := Ek.bool) hf (by decide) Try.underlying22 rfl rfl (ha0.sl hp) ?_
    clear hf; intro a ha hf; clear ha
    refine st_ilss hf (by decide) rfl rfl rfl ?_
    clear hf; intro a ha hf; clear ha
    refine st_nil hf ?_
    refine th_n ?_
    refine wp_if hf rfl (fun hb => ?_) (fun hb => ?_)
    · replace h := ifT h hb
      refine wp_skip ?_
      refine th_n ?_
      refine wp_seq ?_
      refine wp_block ?_
      refine wp_seq ?_
      obtain ⟨hc1, h⟩ := chk h
      obtain ⟨hc2, h⟩ := chk h
      refine wp_cutN (fun a w => Fr 26 a [(0, va0), (1, vb1), (5, .int .i64 i5), (25, .bool ((gt a0 i5) != (gt b1 i5)))] ∧ Hp S w0 w (ow)) ?_ ?_
      · have hp := hp.same (Same.drew w)
        refine dr_begin' (fun a w => Fr 26 a [(0, va0), (1, vb1), (5, .int .i64 i5), (25, .bool ((gt a0 i5) != (gt b1 i5)))] ∧ Hp S w0 w (ow)) (fun w' => ∃ l, Hp S w0 w' l) [] (by kernel_rfl) ?_
        refine dr_take 0 (va0) rfl (by kernel_rfl) (by kernel_rfl) (by kernel_rfl) (by kernel_rfl) rfl rfl hf (by decide) rfl (fun w hp => ?_) ⟨_, hp⟩ ?_
        · obtain ⟨_, hp⟩ := hp
          refine st_move hf rfl rfl (by decide) ?_
          clear hf; intro a ha hf
          exact st_nil hf (th_n ⟨ha, rfl⟩)
        clear hf; intro a hf
        refine dr_take 1 (.int .i64 i5) rfl (by kernel_rfl) (by kernel_rfl) (by kernel_rfl) (by kernel_rfl) rfl rfl hf (by decide) rfl (fun w hp => ?_) ⟨_, hp⟩ ?_
        · obtain ⟨_, hp⟩ := hp
          refine st_move hf rfl rfl (by decide) ?_
          clear hf; intro a ha hf
          exact st_nil hf (th_n ⟨ha, rfl⟩)
        clear hf; intro a hf
        refine dr_take 2 (eptr va0 i5 1) rfl (by kernel_rfl) (by kernel_rfl) (by kernel_rfl) (by kernel_rfl) rfl rfl hf (by decide) rfl (fun w hp => ?_) ⟨_, hp⟩ ?_
        · obtain ⟨_, hp⟩ := hp
          refine st_index (E := Ek.bool) hf (by decide) Try.underlying22 elt4 rfl rfl rfl (ha0.sl hp) hc1.1 hc1.2 ?_
          clear hf; intro a ha hf
          exact st_nil hf (th_n ⟨ha, rfl⟩)
        clear hf; intro a hf
        refine dr_take 3 (.bool (gt a0 i5)) rfl (by kernel_rfl) (by kernel_rfl) (by kernel_rfl) (by kernel_rfl) rfl rfl hf (by decide) rfl (fun w hp => ?_) ⟨_, hp⟩ ?_
        · obtain ⟨_, hp⟩ := hp
          refine st_ldB hf (by decide) pl4 rfl rfl (ha0.sl hp) hc1.1 hc1.2 ?_
          clear hf; intro a ha hf
          exact st_nil hf (th_n ⟨ha, rfl⟩)
        clear hf; intro a hf
        refine dr_take 4 (vb1) rfl (by kernel_rfl) (by kernel_rfl) (by kernel_rfl) (by kernel_rfl) rfl rfl hf (by decide) rfl (fun w hp => ?_) ⟨_, hp⟩ ?_
        · obtain ⟨_, hp⟩ := hp
          refine st_move hf rfl rfl (by decide) ?_
          clear hf; intro a ha hf
          exact st_nil hf (th_n ⟨ha, rfl⟩)
        clear hf; intro a hf
        refine dr_take 5 (.int .i64 i5) rfl (by kernel_rfl) (by kernel_rfl) (by kernel_rfl) (by kernel_rfl) rfl rfl hf (by decide) rfl (fun w hp => ?_) ⟨_, hp⟩ ?_
        · obtain ⟨_, hp⟩ := hp
          refine st_move hf rfl rfl (by decide) ?_
          clear hf; intro a ha hf
          exact st_nil hf (th_n ⟨ha, rfl⟩)
        clear hf; intro a hf
        refine dr_take 6 (eptr vb1 i5 1) rfl (by kernel_rfl) (by kernel_rfl) (by kernel_rfl) (by kernel_rfl) rfl rfl hf (by decide) rfl (fun w hp => ?_) ⟨_, hp⟩ ?_
        · obtain ⟨_, hp⟩ := hp
          refine st_index (E := Ek.bool) hf (by decide) Try.underlying22 elt4 rfl rfl rfl (hb1.sl hp) hc2.1 hc2.2 ?_
          clear hf; intro a ha hf
          exact st_nil hf (th_n ⟨ha, rfl⟩)
        clear hf; intro a hf
        refine dr_take 7 (.bool (gt b1 i5)) rfl (by kernel_rfl) (by kernel_rfl) (by kernel_rfl) (by kernel_rfl) rfl rfl hf (by decide) rfl (fun w hp => ?_) ⟨_, hp⟩ ?_
        · obtain ⟨_, hp⟩ := hp
          refine st_ldB hf (by decide) pl4 rfl rfl (hb1.sl hp) hc2.1 hc2.2 ?_
          clear hf; intro a ha hf
          exact st_nil hf (th_n ⟨ha, rfl⟩)
        clear hf; intro a hf
        refine dr_take 8 (.bool ((gt a0 i5) != (gt b1 i5))) rfl (by kernel_rfl) (by kernel_rfl) (by kernel_rfl) (by kernel_rfl) rfl rfl hf (by decide) rfl (fun w hp => ?_) ⟨_, hp⟩ ?_
        · obtain ⟨_, hp⟩ := hp
          refine st_bneq hf (by decide) Try.underlying4 rfl rfl rfl ?_
          clear hf; intro a ha hf
          exact st_nil hf (th_n ⟨ha, rfl⟩)
        clear hf; intro a hf
        refine dr_end (by kernel_rfl) ?_ _
        exact ⟨hf.sub ⟨rfl, rfl, rfl, rfl, trivial⟩, hp⟩
      rintro a w ⟨hf, hp⟩
      refine th_n ?_
      refine wp_if hf rfl (fun hb => ?_) (fun hb => ?_)
      · replace h := ifT h hb
        refine wp_seq ?_
        refine wp_reg ?_
        refine st_assign hf rfl rfl (by decide) ?_
        clear hf; intro a ha hf; clear ha
        refine st_nil hf ?_
        refine th_n ?_
        refine wp_ret ?_
        refine ib_r ?_
        refine th_r ?_
        obtain rfl := Option.some.inj h
        exact rnd_r (by simp) ⟨rfl, ⟨hf.sub ⟨rfl, trivial⟩, hp⟩⟩
      replace h := ifF h hb
      refine wp_skip ?_
      refine ib_n ?_
      refine th_n ?_
      refine wp_reg ?_
      refine st_move hf rfl rfl (by decide) ?_
      clear hf; intro a ha hf; clear ha
      refine st_iadd hf (by decide) rfl rfl rfl ?_
      clear hf; intro a ha hf; clear ha
      refine st_assign hf rfl rfl (by decide) ?_
      clear hf; intro a ha hf; clear ha
      refine st_nil hf ?_
      obtain rfl := Option.some.inj h
      exact rnd_l ⟨hf.sub ⟨rfl, rfl, rfl, trivial⟩, hp⟩
    replace h := ifF h hb
    refine wp_exit ?_
    refine th_e ?_
    obtain rfl := Option.some.inj h
    exact rnd_r (by simp) ⟨rfl, hf.sub trivial, hp⟩
  clear hl hf hp
  intro e a w hne hO
  rcases q3 with q4 | q5
  · replace h := smL h
    obtain ⟨rfl, hf, hp⟩ := hO
    refine ib_same ?_
    refine th_n ?_
    refine wp_seq ?_
    refine wp_reg ?_
    refine st_assign hf rfl rfl (by decide) ?_
    clear hf; intro a ha hf; clear ha
    refine st_nil hf ?_
    refine th_n ?_
    refine wp_ret ?_
    obtain rfl := Option.some.inj h
    exact ⟨rfl, ⟨hf.sub ⟨rfl, trivial⟩, hp⟩⟩
  replace h := smR h
  obtain ⟨rfl, hf, hp⟩ := hO
  refine ib_r ?_
  refine th_r ?_
  obtain rfl := Option.some.inj h
  exact ⟨rfl, ⟨hf.sub ⟨rfl, trivial⟩, hp⟩⟩

noncomputable def f_foghornlaw22_sameMarks.s1c (a0 : (List Int)) (b1 : (List Int)) (i5 : Int) : Option (Int ⊕ (Unit ⊕ Bool)) := (if (decide (i5 < (a0.length : Int))) = true then (if 0 ≤ i5 ∧ i5 < (a0.length : Int) then (if 0 ≤ i5 ∧ i5 < (b1.length : Int) then (if ((gt a0 i5) != (gt b1 i5)) = true then (some (Sum.inr (Sum.inr false))) else (some (Sum.inl (IntKind.i64.wrap (i5 + (1 : Int)))))) else none) else none) else (some (Sum.inr (Sum.inl ()))))
noncomputable def f_foghornlaw22_sameMarks.s1 (a0 : (List Int)) (b1 : (List Int)) (s : Int) : Option (Int ⊕ (Unit ⊕ Bool)) := f_foghornlaw22_sameMarks.s1c a0 b1 s
noncomputable def f_foghornlaw22_sameMarks (a0 : (List Int)) (b1 : (List Int)) : Option Bool := (if ((a0.length : Int) != (b1.length : Int)) = true then (some false) else ((loop (f_foghornlaw22_sameMarks.s1 a0 b1) (0 : Int)).bind (fun q3 => sm q3 (fun q4 => (some true)) (fun q5 => (some q5)))))
theorem f_foghornlaw22_sameMarks_c {S : Nat → Prop} {w0 w : World} {ow : List Res} (hp : Hp S w0 w ow) (va0 : Value) (a0 : (List Int)) (ha0 : RdS (Ek.int .u8) S w0 va0 a0) (vb1 : Value) (b1 : (List Int)) (hb1 : RdS (Ek.int .u8) S w0 vb1 b1) {r : Bool} (h : f_foghornlaw22_sameMarks a0 b1 = some r) :
    Calls Try.prog 14 #[va0, vb1] w (fun e w' => e = .returned (.bool r) ∧ Hp S w0 w' (ow)) := by
  unfold f_foghornlaw22_sameMarks at h
  refine enter (n := 26) (args := [va0, vb1]) Try.func14 rfl rfl (Nat.le_of_ble_eq_true rfl) fun a hf => ?_
  replace hf : Fr 26 a [(0, va0), (1, vb1)] := hf
  refine wp_mono (Q := fun e a w => e = .ret ∧ Fr 26 a [(4, .bool r)] ∧ Hp S w0 w (ow)) ?_ ?_
  rotate_left
  · rintro e a w ⟨rfl, hf, hp⟩
    exact ret1 hf rfl rfl ⟨rfl, hp⟩
  refine wp_seq ?_
  refine wp_reg ?_
  refine st_assign hf rfl rfl (by decide) ?_
  clear hf; intro a ha hf; clear ha
  refine st_nil hf ?_
  refine th_n ?_
  refine wp_seq ?_
  refine wp_seq ?_
  refine wp_reg ?_
  refine st_move hf rfl rfl (by decide) ?_
  clear hf; intro a ha hf; clear ha
  refine st_len (E := (Ek.int .u8)) hf (by decide) Try.underlying26 rfl rfl (ha0.sl hp) ?_
  clear hf; intro a ha hf; clear ha
  refine st_move hf rfl rfl (by decide) ?_
  clear hf; intro a ha hf; clear ha
  refine st_len (E := (Ek.int .u8)) hf (by decide) Try.underlying29 rfl rfl (hb1.sl hp) ?_
  clear hf; intro a ha hf; clear ha
  refine st_ineq hf (by decide) rfl rfl rfl ?_
  clear hf; intro a ha hf; clear ha
  refine st_nil hf ?_
  refine th_n ?_
  refine wp_if hf rfl (fun hb => ?_) (fun hb => ?_)
  · replace h := ifT h hb
    refine wp_seq ?_
    refine wp_reg ?_
    refine st_assign hf rfl rfl (by decide) ?_
    clear hf; intro a ha hf; clear ha
    refine st_nil hf ?_
    refine th_n ?_
    refine wp_ret ?_
    refine th_r ?_
    obtain rfl := Option.some.inj h
    exact ⟨rfl, ⟨hf.sub ⟨rfl, trivial⟩, hp⟩⟩
  replace h := ifF h hb
  refine wp_skip ?_
  refine th_n ?_
  refine wp_seq ?_
  refine wp_seq ?_
  refine wp_reg ?_
  refine st_assign hf rfl rfl (by decide) ?_
  clear hf; intro a ha hf; clear ha
  refine st_nil hf ?_
  refine th_n ?_
  refine wp_block ?_
  obtain ⟨q3, hl, h⟩ := bnd h
  refine wp_loop_pure (f := (f_foghornlaw22_sameMarks.s1 a0 b1)) (s := (0 : Int)) (fun s a w => Fr 26 a [(0, va0), (1, vb1), (5, .int .i64 s)] ∧ Hp S w0 w (ow)) (fun q e a w => match q with | (Sum.inl q) => e = .exit 0 ∧ Fr 26 a [] ∧ Hp S w0 w (ow) | (Sum.inr q) => e = .ret ∧ Fr 26 a [(4, .bool q)] ∧ Hp S w0 w (ow)) ?_ hl ⟨hf.sub ⟨rfl, rfl, rfl, trivial⟩, hp⟩ ?_
  · clear hl hf hp
    intro s x a w h hI
    obtain ⟨i5, hs⟩ : ∃ z, z = s := ⟨s, rfl⟩; subst hs
    obtain ⟨hf, hp⟩ : Fr 26 a [(0, va0), (1, vb1), (5, .int .i64 i5)] ∧ Hp S w0 w (ow) := hI
    replace h : f_foghornlaw22_sameMarks.s1c a0 b1 i5 = some x := h
    unfold f_foghornlaw22_sameMarks.s1c at h
    refine wp_seq ?_
    refine wp_seq ?_
    refine wp_reg ?_
    refine st_move hf rfl rfl (by decide) ?_
    clear hf; intro a ha hf; clear ha
    refine st_move hf rfl rfl (by decide) ?_
    clear hf; intro a ha hf; clear ha
    refine st_len (E := (Ek.int .u8)) hf (by decide) Try.underlying26 rfl rfl (ha0.sl hp) ?_
    clear hf; intro a ha hf; clear ha
    refine st_ilss hf (by decide) rfl rfl rfl ?_
    clear hf; intro a ha hf; clear ha
    refine st_nil hf ?_
    refine th_n ?_
    refine wp_if hf rfl (fun hb => ?_) (fun hb => ?_)
    · replace h := ifT h hb
      refine wp_skip ?_
      refine th_n ?_
      refine wp_seq ?_
      refine wp_block ?_
      refine wp_seq ?_
      obtain ⟨hc1, h⟩ := chk h
      obtain ⟨hc2, h⟩ := chk h
      refine wp_cutN (fun a w => Fr 26 a [(0, va0), (1, vb1), (5, .int .i64 i5), (25, .bool ((gt a0 i5) != (gt b1 i5)))] ∧ Hp S w0 w (ow)) ?_ ?_
      · have hp := hp.same (Same.drew w)
        refine dr_begin' (fun a w => Fr 26 a [(0, va0), (1, vb1), (5, .int .i64 i5), (25, .bool ((gt a0 i5) != (gt b1 i5)))] ∧ Hp S w0 w (ow)) (fun w' => ∃ l, Hp S w0 w' l) [] (by kernel_rfl) ?_
        refine dr_take 0 (va0) rfl (by kernel_rfl) (by kernel_rfl) (by kernel_rfl) (by kernel_rfl) rfl rfl hf (by decide) rfl (fun w hp => ?_) ⟨_, hp⟩ ?_
        · obtain ⟨_, hp⟩ := hp
          refine st_move hf rfl rfl (by decide) ?_
          clear hf; intro a ha hf
          exact st_nil hf (th_n ⟨ha, rfl⟩)
        clear hf; intro a hf
        refine dr_take 1 (.int .i64 i5) rfl (by kernel_rfl) (by kernel_rfl) (by kernel_rfl) (by kernel_rfl) rfl rfl hf (by decide) rfl (fun w hp => ?_) ⟨_, hp⟩ ?_
        · obtain ⟨_, hp⟩ := hp
          refine st_move hf rfl rfl (by decide) ?_
          clear hf; intro a ha hf
          exact st_nil hf (th_n ⟨ha, rfl⟩)
        clear hf; intro a hf
        refine dr_take 2 (eptr va0 i5 1) rfl (by kernel_rfl) (by kernel_rfl) (by kernel_rfl) (by kernel_rfl) rfl rfl hf (by decide) rfl (fun w hp => ?_) ⟨_, hp⟩ ?_
        · obtain ⟨_, hp⟩ := hp
          refine st_index (E := (Ek.int .u8)) hf (by decide) Try.underlying26 elt51 rfl rfl rfl (ha0.sl hp) hc1.1 hc1.2 ?_
          clear hf; intro a ha hf
          exact st_nil hf (th_n ⟨ha, rfl⟩)
        clear hf; intro a hf
        refine dr_take 3 (.int .u8 (gt a0 i5)) rfl (by kernel_rfl) (by kernel_rfl) (by kernel_rfl) (by kernel_rfl) rfl rfl hf (by decide) rfl (fun w hp => ?_) ⟨_, hp⟩ ?_
        · obtain ⟨_, hp⟩ := hp
          refine st_ldI hf (by decide) pl51 rfl rfl (ha0.sl hp) hc1.1 hc1.2 ?_
          clear hf; intro a ha hf
          exact st_nil hf (th_n ⟨ha, rfl⟩)
        clear hf; intro a hf
        refine dr_take 4 (vb1) rfl (by kernel_rfl) (by kernel_rfl) (by kernel_rfl) (by kernel_rfl) rfl rfl hf (by decide) rfl (fun w hp => ?_) ⟨_, hp⟩ ?_
        · obtain ⟨_, hp⟩ := hp
          refine st_move hf rfl rfl (by decide) ?_
          clear hf; intro a ha hf
          exact st_nil hf (th_n ⟨ha, rfl⟩)
        clear hf; intro a hf
        refine dr_take 5 (.int .i64 i5) rfl (by kernel_rfl) (by kernel_rfl) (by kernel_rfl) (by kernel_rfl) rfl rfl hf (by decide) rfl (fun w hp => ?_) ⟨_, hp⟩ ?_
        · obtain ⟨_, hp⟩ := hp
          refine st_move hf rfl rfl (by decide) ?_
          clear hf; intro a ha hf
          exact st_nil hf (th_n ⟨ha, rfl⟩)
        clear hf; intro a hf
        refine dr_take 6 (eptr vb1 i5 1) rfl (by kernel_rfl) (by kernel_rfl) (by kernel_rfl) (by kernel_rfl) rfl rfl hf (by decide) rfl (fun w hp => ?_) ⟨_, hp⟩ ?_
        · obtain ⟨_, hp⟩ := hp
          refine st_index (E := (Ek.int .u8)) hf (by decide) Try.underlying29 elt5 rfl rfl rfl (hb1.sl hp) hc2.1 hc2.2 ?_
          clear hf; intro a ha hf
          exact st_nil hf (th_n ⟨ha, rfl⟩)
        clear hf; intro a hf
        refine dr_take 7 (.int .u8 (gt b1 i5)) rfl (by kernel_rfl) (by kernel_rfl) (by kernel_rfl) (by kernel_rfl) rfl rfl hf (by decide) rfl (fun w hp => ?_) ⟨_, hp⟩ ?_
        · obtain ⟨_, hp⟩ := hp
          refine st_ldI hf (by decide) pl5 rfl rfl (hb1.sl hp) hc2.1 hc2.2 ?_
          clear hf; intro a ha hf
          exact st_nil hf (th_n ⟨ha, rfl⟩)
        clear hf; intro a hf
        refine dr_take 8 (.bool ((gt a0 i5) != (gt b1 i5))) rfl (by kernel_rfl) (by kernel_rfl) (by kernel_rfl) (by kernel_rfl) rfl rfl hf (by decide) rfl (fun w hp => ?_) ⟨_, hp⟩ ?_
        · obtain ⟨_, hp⟩ := hp
          refine st_ineq hf (by decide) rfl rfl rfl ?_
          clear hf; intro a ha hf
          exact st_nil hf (th_n ⟨ha, rfl⟩)
        clear hf; intro a hf
        refine dr_end (by kernel_rfl) ?_ _
        exact ⟨hf.sub ⟨rfl, rfl, rfl, rfl, trivial⟩, hp⟩
      rintro a w ⟨hf, hp⟩
      refine th_n ?_
      refine wp_if hf rfl (fun hb => ?_) (fun hb => ?_)
      · replace h := ifT h hb
        refine wp_seq ?_
        refine wp_reg ?_
        refine st_assign hf rfl rfl (by decide) ?_
        clear hf; intro a ha hf; clear ha
        refine st_nil hf ?_
        refine th_n ?_
        refine wp_ret ?_
        refine ib_r ?_
        refine th_r ?_
        obtain rfl := Option.some.inj h
        exact rnd_r (by simp) ⟨rfl, ⟨hf.sub ⟨rfl, trivial⟩, hp⟩⟩
      replace h := ifF h hb
      refine wp_skip ?_
      refine ib_n ?_
      refine th_n ?_
      refine wp_reg ?_
      refine st_move hf rfl rfl (by decide) ?_
      clear hf; intro a ha hf; clear ha
      refine st_iadd hf (by decide) rfl rfl rfl ?_
      clear hf; intro a ha hf; clear ha
      refine st_assign hf rfl rfl (by decide) ?_
      clear hf; intro a ha hf; clear ha
      refine st_nil hf ?_
      obtain rfl := Option.some.inj h
      exact rnd_l ⟨hf.sub ⟨rfl, rfl, rfl, trivial⟩, hp⟩
    replace h := ifF h hb
    refine wp_exit ?_
    refine th_e ?_
    obtain rfl := Option.some.inj h
    exact rnd_r (by simp) ⟨rfl, hf.sub trivial, hp⟩
  clear hl hf hp
  intro e a w hne hO
  rcases q3 with q4 | q5
  · replace h := smL h
    obtain ⟨rfl, hf, hp⟩ := hO
    refine ib_same ?_
    refine th_n ?_
    refine wp_seq ?_
    refine wp_reg ?_
    refine st_assign hf rfl rfl (by decide) ?_
    clear hf; intro a ha hf; clear ha
    refine st_nil hf ?_
    refine th_n ?_
    refine wp_ret ?_
    obtain rfl := Option.some.inj h
    exact ⟨rfl, ⟨hf.sub ⟨rfl, trivial⟩, hp⟩⟩
  replace h := smR h
  obtain ⟨rfl, hf, hp⟩ := hO
  refine ib_r ?_
  refine th_r ?_
  obtain rfl := Option.some.inj h
  exact ⟨rfl, ⟨hf.sub ⟨rfl, trivial⟩, hp⟩⟩

noncomputable def f_foghornlaw22_HardPaths.s2c (a12 : (List Bool)) (k25 : Int) : Option (((List Bool) × Int) ⊕ Unit) := (if (decide (k25 < (a12.length : Int))) = true then (if 0 ≤ k25 ∧ k25 < (a12.length : Int) then (if 0 ≤ k25 ∧ k25 < (a12.length : Int) then (some (Sum.inl ((a12.set (k25).toNat (!(gt a12 k25))), (IntKind.i64.wrap (k25 + (1 : Int)))))) else none) else none) else (some (Sum.inr ())))
noncomputable def f_foghornlaw22_HardPaths.s2  (s : ((List Bool) × Int)) : Option (((List Bool) × Int) ⊕ Unit) := f_foghornlaw22_HardPaths.s2c s.1 s.2
noncomputable def f_foghornlaw22_HardPaths.s3c (in9 : (List Int)) (now10 : (List Int)) (k26 : Int) : Option (((List Int) × (List Int) × Int) ⊕ ((List Int) × (List Int))) := (if (decide (k26 < (in9.length : Int))) = true then (if 0 ≤ k26 ∧ k26 < (now10.length : Int) then (if 0 ≤ k26 ∧ k26 < (now10.length : Int) then (if 0 ≤ k26 ∧ k26 < ((now10.set (k26).toNat (((IntKind.u8.wrap ((gt now10 k26) + (1 : Int)))).tmod (3 : Int))).length : Int) then (if 0 ≤ k26 ∧ k26 < (in9.length : Int) then (some (Sum.inl ((in9.set (k26).toNat (gt (now10.set (k26).toNat (((IntKind.u8.wrap ((gt now10 k26) + (1 : Int)))).tmod (3 : Int))) k26)), (now10.set (k26).toNat (((IntKind.u8.wrap ((gt now10 k26) + (1 : Int)))).tmod (3 : Int))), (IntKind.i64.wrap (k26 + (1 : Int)))))) else none) else none) else none) else none) else (some (Sum.inr (in9, now10))))
noncomputable def f_foghornlaw22_HardPaths.s3  (s : ((List Int) × (List Int) × Int)) : Option (((List Int) × (List Int) × Int) ⊕ ((List Int) × (List Int))) := f_foghornlaw22_HardPaths.s3c s.1 s.2.1 s.2.2
noncomputable def f_foghornlaw22_HardPaths.s1c (message2 : (List Bool)) (q3 : ((Int × Int × Int) × (Int × Int × Int))) (in9 : (List Int)) (now10 : (List Int)) (round11 : Int) : Option (((List Int) × (List Int) × Int) ⊕ (Unit ⊕ Bool)) := (if (decide (round11 < (2 : Int))) = true then ((f_hard_Path q3.1.1 q3.1.2.1 q3.1.2.2 in9).bind fun q21 => ((f_hard_Path q3.1.1 q3.1.2.1 q3.1.2.2 in9).bind fun q30 => ((f_foghornref22_Path q3.2.1 q3.2.2.1 q3.2.2.2 now10).bind fun q39 => ((f_hard_Cost q3.1.1 q3.1.2.1 q3.1.2.2 message2 in9).bind fun q48 => ((f_foghornref22_Cost q3.2.1 q3.2.2.1 q3.2.2.2 message2 now10).bind fun q55 => ((f_foghornlaw22_sameBits q21.1 q39.1).bind fun q62 => ((if (((((!q62) || (q21.2.1 != q39.2.1)) || (q21.2.2 != q39.2.2)) || (q48.1 != q55.1)) || (q48.2 != q55.2)) = true then (some true) else ((f_foghornlaw22_sameMarks in9 now10).bind fun q85 => (some (!q85)))).bind fun z84 => (if z84 = true then (some (Sum.inr (Sum.inr false))) else ((loop f_foghornlaw22_HardPaths.s2 (q21.1, (0 : Int))).bind (fun q101 => ((f_foghornlaw22_sameBits q30.1 q39.1).bind fun q102 => ((if (!q102) = true then (some true) else ((f_foghornlaw22_sameMarks in9 now10).bind fun q117 => (some (!q117)))).bind fun z116 => (if z116 = true then (some (Sum.inr (Sum.inr false))) else ((loop f_foghornlaw22_HardPaths.s3 (in9, now10, (0 : Int))).bind (fun q141 => (some (Sum.inl (q141.1, q141.2, (IntKind.i64.wrap (round11 + (1 : Int))))))))))))))))))))) else (some (Sum.inr (Sum.inl ()))))
noncomputable def f_foghornlaw22_HardPaths.s1 (message2 : (List Bool)) (q3 : ((Int × Int × Int) × (Int × Int × Int))) (s : ((List Int) × (List Int) × Int)) : Option (((List Int) × (List Int) × Int) ⊕ (Unit ⊕ Bool)) := f_foghornlaw22_HardPaths.s1c message2 q3 s.1 s.2.1 s.2.2
noncomputable def f_foghornlaw22_HardPaths (x0_Length : Int) (x0_One : Int) (x0_Two : Int) (l1 : (List Int)) (message2 : (List Bool)) : Option Bool := ((f_foghornlaw22_made x0_Length x0_One x0_Two).bind fun q3 => ((f_foghornlaw22_marks l1).bind fun q9 => (if (([] : List Int).length + l1.length) * 1 ≤ 140737488355328 then ((loop (f_foghornlaw22_HardPaths.s1 message2 q3) (q9, (([] : List Int) ++ l1), (0 : Int))).bind (fun q142 => sm q142 (fun q143 => (some true)) (fun q144 => (some q144)))) else none)))
theorem f_foghornlaw22_HardPaths_c {S : Nat → Prop} {w0 w : World} {ow : List Res} (hp : Hp S w0 w ow) (x0_Length : Int) (x0_One : Int) (x0_Two : Int) (vl1 : Value) (l1 : (List Int)) (hl1 : RdS (Ek.int .u8) S w0 vl1 l1) (vmessage2 : Value) (message2 : (List Bool)) (hmessage2 : RdS Ek.bool S w0 vmessage2 message2) {r : Bool} (h : f_foghornlaw22_HardPaths x0_Length x0_One x0_Two l1 message2 = some r) :
    Calls Try.prog 4 #[.agg #[.int .i64 x0_Length, .int .u32 x0_One, .int .u32 x0_Two], vl1, vmessage2] w (fun e w' => e = .returned (.bool r) ∧ Hp S w0 w' (ow)) := by
  unfold f_foghornlaw22_HardPaths at h
  refine enter (n := 152) (args := [.agg #[.int .i64 x0_Length, .int .u32 x0_One, .int .u32 x0_Two], vl1, vmessage2]) Try.func4 rfl rfl (Nat.le_of_ble_eq_true rfl) fun a hf => ?_
  replace hf : Fr 152 a [(0, .agg #[.int .i64 x0_Length, .int .u32 x0_One, .int .u32 x0_Two]), (1, vl1), (2, vmessage2)] := hf
  refine wp_mono (Q := fun e a w => e = .ret ∧ Fr 152 a [(6, .bool r)] ∧ Hp S w0 w (ow)) ?_ ?_
  rotate_left
  · rintro e a w ⟨rfl, hf, hp⟩
    exact ret1 hf rfl rfl ⟨rfl, hp⟩
  refine wp_seq ?_
  refine wp_reg ?_
  refine st_boxO (cs := [.int .i64 x0_Length, .int .u32 x0_One, .int .u32 x0_Two]) hf (by decide) hp rfl rfl rfl ?_
  clear hf; intro a w v1 hf hp0; clear hp; have hp := hp0; clear hp0
  replace hp : Hp _ _ _ (Res.obj 39 v1 [.int .i64 x0_Length, .int .u32 x0_One, .int .u32 x0_Two] :: ow) := hp
  refine st_assign hf rfl rfl (by decide) ?_
  clear hf; intro a ha hf; clear ha
  refine st_nil hf ?_
  refine th_n ?_
  refine wp_seq ?_
  refine wp_reg ?_
  refine st_ldOA (m := 3) (us := [.int .i64 x0_Length, .int .u32 x0_One, .int .u32 x0_Two]) hf (by decide) (by kernel_rfl) rfl rfl (hp.ob (i := 0) rfl) rfl rfl ?_
  clear hf; intro a ha hf; clear ha
  obtain ⟨q3, hcall4, h⟩ := bnd h
  refine st_call hf (by decide) Try.func17 rfl rfl rfl rfl rfl (f_foghornlaw22_made_c hp _ _ _ hcall4) ?_
  rintro _ w ⟨rfl, hp0⟩
  clear hp; have hp := hp0; clear hp0
  replace hp : Hp _ _ _ (Res.obj 39 v1 [.int .i64 x0_Length, .int .u32 x0_One, .int .u32 x0_Two] :: ow) := hp
  refine ⟨_, rfl, ?_⟩
  clear hf; intro a hf
  refine st_move hf rfl rfl (by decide) ?_
  clear hf; intro a ha hf; clear ha
  refine st_extract hf (by decide) rfl rfl rfl ?_
  clear hf; intro a ha hf; clear ha
  refine st_extract hf (by decide) rfl rfl rfl ?_
  clear hf; intro a ha hf; clear ha
  refine st_alloc (cs := [.int .i64 (0 : Int), .int .u32 (0 : Int), .int .u32 (0 : Int)]) (zv := .agg #[.int .i64 (0 : Int), .int .u32 (0 : Int), .int .u32 (0 : Int)]) hf (by decide) (by kernel_rfl) rfl hp rfl ?_
  clear hf; intro a w v5 hf hp0; clear hp; have hp := hp0; clear hp0
  replace hp : Hp _ _ _ (Res.obj 40 v5 [.int .i64 (0 : Int), .int .u32 (0 : Int), .int .u32 (0 : Int)] :: Res.obj 39 v1 [.int .i64 x0_Length, .int .u32 x0_One, .int .u32 x0_Two] :: ow) := hp
  refine st_alloc (cs := [.int .i64 (0 : Int), .int .u32 (0 : Int), .int .u32 (0 : Int)]) (zv := .agg #[.int .i64 (0 : Int), .int .u32 (0 : Int), .int .u32 (0 : Int)]) hf (by decide) (by kernel_rfl) rfl hp rfl ?_
  clear hf; intro a w v7 hf hp0; clear hp; have hp := hp0; clear hp0
  replace hp : Hp _ _ _ (Res.obj 41 v7 [.int .i64 (0 : Int), .int .u32 (0 : Int), .int .u32 (0 : Int)] :: Res.obj 40 v5 [.int .i64 (0 : Int), .int .u32 (0 : Int), .int .u32 (0 : Int)] :: Res.obj 39 v1 [.int .i64 x0_Length, .int .u32 x0_One, .int .u32 x0_Two] :: ow) := hp
  refine st_stO (us := [.int .i64 q3.1.1, .int .u32 q3.1.2.1, .int .u32 q3.1.2.2]) hf hp (i := 1) rfl rfl rfl rfl rfl (by rfl) (by kernel_rfl) (Nat.le_of_ble_eq_true rfl) ?_
  clear hf; intro a w hf hp0; clear hp; have hp := hp0; clear hp0
  replace hp : Hp _ _ _ (Res.obj 41 v7 [.int .i64 (0 : Int), .int .u32 (0 : Int), .int .u32 (0 : Int)] :: Res.obj 40 v5 [.int .i64 q3.1.1, .int .u32 q3.1.2.1, .int .u32 q3.1.2.2] :: Res.obj 39 v1 [.int .i64 x0_Length, .int .u32 x0_One, .int .u32 x0_Two] :: ow) := hp
  refine st_stO (us := [.int .i64 q3.2.1, .int .u32 q3.2.2.1, .int .u32 q3.2.2.2]) hf hp (i := 0) rfl rfl rfl rfl rfl (by rfl) (by kernel_rfl) (Nat.le_of_ble_eq_true rfl) ?_
  clear hf; intro a w hf hp0; clear hp; have hp := hp0; clear hp0
  replace hp : Hp _ _ _ (Res.obj 41 v7 [.int .i64 q3.2.1, .int .u32 q3.2.2.1, .int .u32 q3.2.2.2] :: Res.obj 40 v5 [.int .i64 q3.1.1, .int .u32 q3.1.2.1, .int .u32 q3.1.2.2] :: Res.obj 39 v1 [.int .i64 x0_Length, .int .u32 x0_One, .int .u32 x0_Two] :: ow) := hp
  refine st_nil hf ?_
  refine th_n ?_
  refine wp_seq ?_
  refine wp_reg ?_
  refine st_move hf rfl rfl (by decide) ?_
  clear hf; intro a ha hf; clear ha
  obtain ⟨q9, hcall10, h⟩ := bnd h
  refine st_call hf (by decide) Try.func18 rfl rfl rfl rfl rfl (f_foghornlaw22_marks_c hp _ _ hl1 hcall10) ?_
  rintro _ w ⟨v11, rfl, hp0⟩
  clear hp; have hp := hp0; clear hp0
  replace hp : Hp _ _ _ (Res.sl (Ek.int .u8) 51 v11 q9 :: Res.obj 41 v7 [.int .i64 q3.2.1, .int .u32 q3.2.2.1, .int .u32 q3.2.2.2] :: Res.obj 40 v5 [.int .i64 q3.1.1, .int .u32 q3.1.2.1, .int .u32 q3.1.2.2] :: Res.obj 39 v1 [.int .i64 x0_Length, .int .u32 x0_One, .int .u32 x0_Two] :: ow) := hp
  refine ⟨_, rfl, ?_⟩
  clear hf; intro a hf
  refine st_assign hf rfl rfl (by decide) ?_
  clear hf; intro a ha hf; clear ha
  refine st_nil hf ?_
  refine th_n ?_
  refine wp_seq ?_
  refine wp_reg ?_
  refine st_build0 (E := (Ek.int .u8)) hf (by decide) elt5 Try.underlying29 hp rfl ?_
  clear hf; intro a w v13 hf hp0; clear hp; have hp := hp0; clear hp0
  replace hp : Hp _ _ _ (Res.sl (Ek.int .u8) 5 v13 ([] : List Int) :: Res.sl (Ek.int .u8) 51 v11 q9 :: Res.obj 41 v7 [.int .i64 q3.2.1, .int .u32 q3.2.2.1, .int .u32 q3.2.2.2] :: Res.obj 40 v5 [.int .i64 q3.1.1, .int .u32 q3.1.2.1, .int .u32 q3.1.2.2] :: Res.obj 39 v1 [.int .i64 x0_Length, .int .u32 x0_One, .int .u32 x0_Two] :: ow) := hp
  refine st_move hf rfl rfl (by decide) ?_
  clear hf; intro a ha hf; clear ha
  obtain ⟨hc15, h⟩ := chk h
  refine st_append (E := (Ek.int .u8)) hf (by decide) elt5 Try.underlying29 (by decide) hp (i := 0) rfl rfl rfl rfl (hl1.sl hp) hc15 ?_
  clear hf; intro a w v16 hf hp0; clear hp; have hp := hp0; clear hp0
  replace hp : Hp _ _ _ (Res.sl (Ek.int .u8) 5 v16 (([] : List Int) ++ l1) :: Res.sl (Ek.int .u8) 51 v11 q9 :: Res.obj 41 v7 [.int .i64 q3.2.1, .int .u32 q3.2.2.1, .int .u32 q3.2.2.2] :: Res.obj 40 v5 [.int .i64 q3.1.1, .int .u32 q3.1.2.1, .int .u32 q3.1.2.2] :: Res.obj 39 v1 [.int .i64 x0_Length, .int .u32 x0_One, .int .u32 x0_Two] :: ow) := hp
  refine st_assign hf rfl rfl (by decide) ?_
  clear hf; intro a ha hf; clear ha
  refine st_nil hf ?_
  refine th_n ?_
  refine wp_seq ?_
  refine wp_seq ?_
  refine wp_reg ?_
  refine st_assign hf rfl rfl (by decide) ?_
  clear hf; intro a ha hf; clear ha
  refine st_nil hf ?_
  refine th_n ?_
  refine wp_block ?_
  obtain ⟨q142, hl, h⟩ := bnd h
  have hp : Hp _ _ _ (Res.sl (Ek.int .u8) 51 v11 q9 :: Res.sl (Ek.int .u8) 5 v16 (([] : List Int) ++ l1) :: Res.obj 40 v5 [.int .i64 q3.1.1, .int .u32 q3.1.2.1, .int .u32 q3.1.2.2] :: Res.obj 41 v7 [.int .i64 q3.2.1, .int .u32 q3.2.2.1, .int .u32 q3.2.2.2] :: ow) := Hp.sel (pre := [Res.sl (Ek.int .u8) 5 v16 (([] : List Int) ++ l1), Res.sl (Ek.int .u8) 51 v11 q9, Res.obj 41 v7 [.int .i64 q3.2.1, .int .u32 q3.2.2.1, .int .u32 q3.2.2.2], Res.obj 40 v5 [.int .i64 q3.1.1, .int .u32 q3.1.2.1, .int .u32 q3.1.2.2], Res.obj 39 v1 [.int .i64 x0_Length, .int .u32 x0_One, .int .u32 x0_Two]]) (tail := ow) (rs' := [Res.sl (Ek.int .u8) 51 v11 q9, Res.sl (Ek.int .u8) 5 v16 (([] : List Int) ++ l1), Res.obj 40 v5 [.int .i64 q3.1.1, .int .u32 q3.1.2.1, .int .u32 q3.1.2.2], Res.obj 41 v7 [.int .i64 q3.2.1, .int .u32 q3.2.2.1, .int .u32 q3.2.2.2]]) hp [1, 0, 3, 2] (by decide) (by simp) rfl
  refine wp_loop_pure (f := (f_foghornlaw22_HardPaths.s1 message2 q3)) (s := (q9, (([] : List Int) ++ l1), (0 : Int))) (fun s a w => ∃ (v17 : Value) (v19 : Value), Fr 152 a [(2, vmessage2), (7, optr v5 0), (8, optr v7 0), (9, v17), (10, v19), (11, .int .i64 s.2.2)] ∧ Hp S w0 w (Res.sl (Ek.int .u8) 51 v17 s.1 :: Res.sl (Ek.int .u8) 5 v19 s.2.1 :: Res.obj 40 v5 [.int .i64 q3.1.1, .int .u32 q3.1.2.1, .int .u32 q3.1.2.2] :: Res.obj 41 v7 [.int .i64 q3.2.1, .int .u32 q3.2.2.1, .int .u32 q3.2.2.2] :: ow)) (fun q e a w => match q with | (Sum.inl q) => e = .exit 0 ∧ Fr 152 a [] ∧ Hp S w0 w (ow) | (Sum.inr q) => e = .ret ∧ Fr 152 a [(6, .bool q)] ∧ Hp S w0 w (ow)) ?_ hl ⟨_, _, hf.sub ⟨rfl, rfl, rfl, rfl, rfl, rfl, trivial⟩, hp⟩ ?_
  · clear hl hf hp
    intro s x a w h hI
    obtain ⟨in9, now10, round11⟩ := s
    obtain ⟨v17, v19, hf, hp⟩ : ∃ (v17 : Value) (v19 : Value), Fr 152 a [(2, vmessage2), (7, optr v5 0), (8, optr v7 0), (9, v17), (10, v19), (11, .int .i64 round11)] ∧ Hp S w0 w (Res.sl (Ek.int .u8) 51 v17 in9 :: Res.sl (Ek.int .u8) 5 v19 now10 :: Res.obj 40 v5 [.int .i64 q3.1.1, .int .u32 q3.1.2.1, .int .u32 q3.1.2.2] :: Res.obj 41 v7 [.int .i64 q3.2.1, .int .u32 q3.2.2.1, .int .u32 q3.2.2.2] :: ow) := hI
    replace h : f_foghornlaw22_HardPaths.s1c message2 q3 in9 now10 round11 = some x := h
    unfold f_foghornlaw22_HardPaths.s1c at h
    refine wp_seq ?_
    refine wp_seq ?_
    refine wp_reg ?_
    refine st_move hf rfl rfl (by decide) ?_
    clear hf; intro a ha hf; clear ha
    refine st_ilss hf (by decide) rfl rfl rfl ?_
    clear hf; intro a ha hf; clear ha
    refine st_nil hf ?_
    refine th_n ?_
    refine wp_if hf rfl (fun hb => ?_) (fun hb => ?_)
    · replace h := ifT h hb
      refine wp_skip ?_
      refine th_n ?_
      refine wp_seq ?_
      refine wp_block ?_
      refine wp_seq ?_
      refine wp_reg ?_
      refine st_ldOA (m := 3) (us := [.int .i64 q3.1.1, .int .u32 q3.1.2.1, .int .u32 q3.1.2.2]) hf (by decide) (by kernel_rfl) rfl rfl (hp.ob (i := 2) rfl) rfl rfl ?_
      clear hf; intro a ha hf; clear ha
      refine st_move hf rfl rfl (by decide) ?_
      clear hf; intro a ha hf; clear ha
      obtain ⟨q21, hcall22, h⟩ := bnd h
      obtain ⟨S23, hp24, rd25, up26, bk27⟩ := Hp.lendS hp (i := 0) rfl
      refine st_call hf (by decide) Try.func19 rfl rfl rfl rfl rfl (f_hard_Path_c hp24 _ _ _ _ _ rd25 hcall22) ?_
      rintro _ w ⟨v28, rfl, hp0⟩
      have hp0 := bk27 _ _ hp0
      clear hp; have hp := hp0; clear hp0
      replace hp : Hp _ _ _ (Res.sl (Ek.int .u8) 51 v17 in9 :: Res.sl Ek.bool 4 v28 q21.1 :: Res.sl (Ek.int .u8) 5 v19 now10 :: Res.obj 40 v5 [.int .i64 q3.1.1, .int .u32 q3.1.2.1, .int .u32 q3.1.2.2] :: Res.obj 41 v7 [.int .i64 q3.2.1, .int .u32 q3.2.2.1, .int .u32 q3.2.2.2] :: ow) := hp
      refine ⟨_, rfl, ?_⟩
      clear hf; intro a hf
      refine st_move hf rfl rfl (by decide) ?_
      clear hf; intro a ha hf; clear ha
      refine st_extract hf (by decide) rfl rfl rfl ?_
      clear hf; intro a ha hf; clear ha
      refine st_extract hf (by decide) rfl rfl rfl ?_
      clear hf; intro a ha hf; clear ha
      refine st_extract hf (by decide) rfl rfl rfl ?_
      clear hf; intro a ha hf; clear ha
      refine st_assign hf rfl rfl (by decide) ?_
      clear hf; intro a ha hf; clear ha
      refine st_assign hf rfl rfl (by decide) ?_
      clear hf; intro a ha hf; clear ha
      refine st_assign hf rfl rfl (by decide) ?_
      clear hf; intro a ha hf; clear ha
      refine st_nil hf ?_
      refine th_n ?_
      refine wp_seq ?_
      refine wp_reg ?_
      refine st_ldOA (m := 3) (us := [.int .i64 q3.1.1, .int .u32 q3.1.2.1, .int .u32 q3.1.2.2]) hf (by decide) (by kernel_rfl) rfl rfl (hp.ob (i := 3) rfl) rfl rfl ?_
      clear hf; intro a ha hf; clear ha
      refine st_move hf rfl rfl (by decide) ?_
      clear hf; intro a ha hf; clear ha
      obtain ⟨q30, hcall31, h⟩ := bnd h
      obtain ⟨S32, hp33, rd34, up35, bk36⟩ := Hp.lendS hp (i := 0) rfl
      refine st_call hf (by decide) Try.func19 rfl rfl rfl rfl rfl (f_hard_Path_c hp33 _ _ _ _ _ rd34 hcall31) ?_
      rintro _ w ⟨v37, rfl, hp0⟩
      have hp0 := bk36 _ _ hp0
      clear hp; have hp := hp0; clear hp0
      replace hp : Hp _ _ _ (Res.sl (Ek.int .u8) 51 v17 in9 :: Res.sl Ek.bool 4 v37 q30.1 :: Res.sl Ek.bool 4 v28 q21.1 :: Res.sl (Ek.int .u8) 5 v19 now10 :: Res.obj 40 v5 [.int .i64 q3.1.1, .int .u32 q3.1.2.1, .int .u32 q3.1.2.2] :: Res.obj 41 v7 [.int .i64 q3.2.1, .int .u32 q3.2.2.1, .int .u32 q3.2.2.2] :: ow) := hp
      refine ⟨_, rfl, ?_⟩
      clear hf; intro a hf
      refine st_move hf rfl rfl (by decide) ?_
      clear hf; intro a ha hf; clear ha
      refine st_extract hf (by decide) rfl rfl rfl ?_
      clear hf; intro a ha hf; clear ha
      refine st_extract hf (by decide) rfl rfl rfl ?_
      clear hf; intro a ha hf; clear ha
      refine st_extract hf (by decide) rfl rfl rfl ?_
      clear hf; intro a ha hf; clear ha
      refine st_assign hf rfl rfl (by decide) ?_
      clear hf; intro a ha hf; clear ha
      refine st_assign hf rfl rfl (by decide) ?_
      clear hf; intro a ha hf; clear ha
      refine st_assign hf rfl rfl (by decide) ?_
      clear hf; intro a ha hf; clear ha
      refine st_nil hf ?_
      refine th_n ?_
      refine wp_seq ?_
      refine wp_reg ?_
      refine st_ldOA (m := 3) (us := [.int .i64 q3.2.1, .int .u32 q3.2.2.1, .int .u32 q3.2.2.2]) hf (by decide) (by kernel_rfl) rfl rfl (hp.ob (i := 5) rfl) rfl rfl ?_
      clear hf; intro a ha hf; clear ha
      refine st_move hf rfl rfl (by decide) ?_
      clear hf; intro a ha hf; clear ha
      obtain ⟨q39, hcall40, h⟩ := bnd h
      obtain ⟨S41, hp42, rd43, up44, bk45⟩ := Hp.lendS hp (i := 3) rfl
      refine st_call hf (by decide) Try.func20 rfl rfl rfl rfl rfl (f_foghornref22_Path_c hp42 _ _ _ _ _ rd43 hcall40) ?_
      rintro _ w ⟨v46, rfl, hp0⟩
      have hp0 := bk45 _ _ hp0
      clear hp; have hp := hp0; clear hp0
      replace hp : Hp _ _ _ (Res.sl (Ek.int .u8) 5 v19 now10 :: Res.sl Ek.bool 4 v46 q39.1 :: Res.sl (Ek.int .u8) 51 v17 in9 :: Res.sl Ek.bool 4 v37 q30.1 :: Res.sl Ek.bool 4 v28 q21.1 :: Res.obj 40 v5 [.int .i64 q3.1.1, .int .u32 q3.1.2.1, .int .u32 q3.1.2.2] :: Res.obj 41 v7 [.int .i64 q3.2.1, .int .u32 q3.2.2.1, .int .u32 q3.2.2.2] :: ow) := hp
      refine ⟨_, rfl, ?_⟩
      clear hf; intro a hf
      refine st_move hf rfl rfl (by decide) ?_
      clear hf; intro a ha hf; clear ha
      refine st_extract hf (by decide) rfl rfl rfl ?_
      clear hf; intro a ha hf; clear ha
      refine st_extract hf (by decide) rfl rfl rfl ?_
      clear hf; intro a ha hf; clear ha
      refine st_extract hf (by decide) rfl rfl rfl ?_
      clear hf; intro a ha hf; clear ha
      refine st_assign hf rfl rfl (by decide) ?_
      clear hf; intro a ha hf; clear ha
      refine st_assign hf rfl rfl (by decide) ?_
      clear hf; intro a ha hf; clear ha
      refine st_assign hf rfl rfl (by decide) ?_
      clear hf; intro a ha hf; clear ha
      refine st_nil hf ?_
      refine th_n ?_
      refine wp_seq ?_
      refine wp_reg ?_
      refine st_ldOA (m := 3) (us := [.int .i64 q3.1.1, .int .u32 q3.1.2.1, .int .u32 q3.1.2.2]) hf (by decide) (by kernel_rfl) rfl rfl (hp.ob (i := 5) rfl) rfl rfl ?_
      clear hf; intro a ha hf; clear ha
      refine st_move hf rfl rfl (by decide) ?_
      clear hf; intro a ha hf; clear ha
      refine st_move hf rfl rfl (by decide) ?_
      clear hf; intro a ha hf; clear ha
      obtain ⟨q48, hcall49, h⟩ := bnd h
      obtain ⟨S50, hp51, rd52, up53, bk54⟩ := Hp.lendS hp (i := 2) rfl
      refine st_call hf (by decide) Try.func21 rfl rfl rfl rfl rfl (f_hard_Cost_c hp51 _ _ _ _ _ ((hmessage2.now hp).mono up53) _ _ rd52 hcall49) ?_
      rintro _ w ⟨rfl, hp0⟩
      have hp0 := bk54 _ _ hp0
      clear hp; have hp := hp0; clear hp0
      replace hp : Hp _ _ _ (Res.sl (Ek.int .u8) 51 v17 in9 :: Res.sl (Ek.int .u8) 5 v19 now10 :: Res.sl Ek.bool 4 v46 q39.1 :: Res.sl Ek.bool 4 v37 q30.1 :: Res.sl Ek.bool 4 v28 q21.1 :: Res.obj 40 v5 [.int .i64 q3.1.1, .int .u32 q3.1.2.1, .int .u32 q3.1.2.2] :: Res.obj 41 v7 [.int .i64 q3.2.1, .int .u32 q3.2.2.1, .int .u32 q3.2.2.2] :: ow) := hp
      refine ⟨_, rfl, ?_⟩
      clear hf; intro a hf
      refine st_move hf rfl rfl (by decide) ?_
      clear hf; intro a ha hf; clear ha
      refine st_extract hf (by decide) rfl rfl rfl ?_
      clear hf; intro a ha hf; clear ha
      refine st_extract hf (by decide) rfl rfl rfl ?_
      clear hf; intro a ha hf; clear ha
      refine st_assign hf rfl rfl (by decide) ?_
      clear hf; intro a ha hf; clear ha
      refine st_assign hf rfl rfl (by decide) ?_
      clear hf; intro a ha hf; clear ha
      refine st_nil hf ?_
      refine th_n ?_
      refine wp_seq ?_
      refine wp_reg ?_
      refine st_ldOA (m := 3) (us := [.int .i64 q3.2.1, .int .u32 q3.2.2.1, .int .u32 q3.2.2.2]) hf (by decide) (by kernel_rfl) rfl rfl (hp.ob (i := 6) rfl) rfl rfl ?_
      clear hf; intro a ha hf; clear ha
      refine st_move hf rfl rfl (by decide) ?_
      clear hf; intro a ha hf; clear ha
      refine st_move hf rfl rfl (by decide) ?_
      clear hf; intro a ha hf; clear ha
      obtain ⟨q55, hcall56, h⟩ := bnd h
      obtain ⟨S57, hp58, rd59, up60, bk61⟩ := Hp.lendS hp (i := 1) rfl
      refine st_call hf (by decide) Try.func22 rfl rfl rfl rfl rfl (f_foghornref22_Cost_c hp58 _ _ _ _ _ ((hmessage2.now hp).mono up60) _ _ rd59 hcall56) ?_
      rintro _ w ⟨rfl, hp0⟩
      have hp0 := bk61 _ _ hp0
      clear hp; have hp := hp0; clear hp0
      replace hp : Hp _ _ _ (Res.sl (Ek.int .u8) 5 v19 now10 :: Res.sl (Ek.int .u8) 51 v17 in9 :: Res.sl Ek.bool 4 v46 q39.1 :: Res.sl Ek.bool 4 v37 q30.1 :: Res.sl Ek.bool 4 v28 q21.1 :: Res.obj 40 v5 [.int .i64 q3.1.1, .int .u32 q3.1.2.1, .int .u32 q3.1.2.2] :: Res.obj 41 v7 [.int .i64 q3.2.1, .int .u32 q3.2.2.1, .int .u32 q3.2.2.2] :: ow) := hp
      refine ⟨_, rfl, ?_⟩
      clear hf; intro a hf
      refine st_move hf rfl rfl (by decide) ?_
      clear hf; intro a ha hf; clear ha
      refine st_extract hf (by decide) rfl rfl rfl ?_
      clear hf; intro a ha hf; clear ha
      refine st_extract hf (by decide) rfl rfl rfl ?_
      clear hf; intro a ha hf; clear ha
      refine st_assign hf rfl rfl (by decide) ?_
      clear hf; intro a ha hf; clear ha
      refine st_assign hf rfl rfl (by decide) ?_
      clear hf; intro a ha hf; clear ha
      refine st_nil hf ?_
      refine th_n ?_
      refine wp_seq ?_
      refine wp_seq ?_
      refine wp_reg ?_
      refine st_move hf rfl rfl (by decide) ?_
      clear hf; intro a ha hf; clear ha
      refine st_move hf rfl rfl (by decide) ?_
      clear hf; intro a ha hf; clear ha
      obtain ⟨q62, hcall63, h⟩ := bnd h
      obtain ⟨S64, hp65, rd66, up67, bk68⟩ := Hp.lendS hp (i := 4) rfl
      obtain ⟨S69, hp70, rd71, up72, bk73⟩ := Hp.lendS hp65 (i := 2) rfl
      refine st_call hf (by decide) Try.func13 rfl rfl rfl rfl rfl (f_foghornlaw22_sameBits_c hp70 _ _ ((rd66.now hp65).mono up72) _ _ rd71 hcall63) ?_
      rintro _ w ⟨rfl, hp0⟩
      have hp0 := bk73 _ _ hp0
      have hp0 := bk68 _ _ hp0
      clear hp; have hp := hp0; clear hp0
      replace hp : Hp _ _ _ (Res.sl Ek.bool 4 v28 q21.1 :: Res.sl Ek.bool 4 v46 q39.1 :: Res.sl (Ek.int .u8) 5 v19 now10 :: Res.sl (Ek.int .u8) 51 v17 in9 :: Res.sl Ek.bool 4 v37 q30.1 :: Res.obj 40 v5 [.int .i64 q3.1.1, .int .u32 q3.1.2.1, .int .u32 q3.1.2.2] :: Res.obj 41 v7 [.int .i64 q3.2.1, .int .u32 q3.2.2.1, .int .u32 q3.2.2.2] :: ow) := hp
      refine ⟨_, rfl, ?_⟩
      clear hf; intro a hf
      refine st_not hf (by decide) rfl rfl ?_
      clear hf; intro a ha hf; clear ha
      refine st_move hf rfl rfl (by decide) ?_
      clear hf; intro a ha hf; clear ha
      refine wpList_cut 4 (fun a w => Fr 152 a [(2, vmessage2), (7, optr v5 0), (8, optr v7 0), (9, v17), (10, v19), (11, .int .i64 round11), (12, v28), (14, .int .i64 q21.2.2), (15, v37), (18, v46), (20, .int .i64 q39.2.2), (21, .int .i64 q48.1), (22, .int .i64 q48.2), (23, .int .i64 q55.1), (24, .int .i64 q55.2), (84, .bool ((!q62) || (q21.2.1 != q39.2.1)))] ∧ Hp S w0 w (Res.sl Ek.bool 4 v28 q21.1 :: Res.sl Ek.bool 4 v46 q39.1 :: Res.sl (Ek.int .u8) 5 v19 now10 :: Res.sl (Ek.int .u8) 51 v17 in9 :: Res.sl Ek.bool 4 v37 q30.1 :: Res.obj 40 v5 [.int .i64 q3.1.1, .int .u32 q3.1.2.1, .int .u32 q3.1.2.2] :: Res.obj 41 v7 [.int .i64 q3.2.1, .int .u32 q3.2.2.1, .int .u32 q3.2.2.2] :: ow)) ?_ ?_
      · rcases Bool.eq_false_or_eq_true (!q62) with hb75 | hb75
        · skip
          refine st_skip hf (wantN hf rfl rfl hb75) rfl (by decide) ?_ rfl
          clear hf; intro a hf
          refine st_skip hf (wantN hf rfl rfl hb75) rfl (by decide) ?_ rfl
          clear hf; intro a hf
          refine st_skip hf (wantN hf rfl rfl hb75) rfl (by decide) ?_ rfl
          clear hf; intro a hf
          refine st_pick (v := .bool true) hf rfl rfl (fun hb' => ?_) (fun hb' => ?_) (by decide) ?_
          · rfl
          · exact absurd (hb75.symm.trans hb') (by decide)
          clear hf; intro a ha hf; clear ha
          refine st_nil hf (th_n ?_)
          exact ⟨hf.sub ⟨rfl, rfl, rfl, rfl, rfl, rfl, rfl, rfl, rfl, rfl, rfl, rfl, rfl, rfl, rfl, (by rw [hb75]; rfl), trivial⟩, hp⟩
        refine st_move hf (wantY hf rfl rfl hb75) rfl (by decide) ?_
        clear hf; intro a ha hf; clear ha
        refine st_move hf (wantY hf rfl rfl hb75) rfl (by decide) ?_
        clear hf; intro a ha hf; clear ha
        refine st_ineq hf (by decide) (wantY hf rfl rfl hb75) rfl rfl ?_
        clear hf; intro a ha hf; clear ha
        refine st_pick (v := .bool (q21.2.1 != q39.2.1)) hf rfl rfl (fun hb' => ?_) (fun hb' => ?_) (by decide) ?_
        · exact absurd (hb75.symm.trans hb') (by decide)
        · rfl
        clear hf; intro a ha hf; clear ha
        refine st_nil hf (th_n ?_)
        exact ⟨hf.sub ⟨rfl, rfl, rfl, rfl, rfl, rfl, rfl, rfl, rfl, rfl, rfl, rfl, rfl, rfl, rfl, (by rw [hb75]; rfl), trivial⟩, hp⟩
      rintro a w ⟨hf, hp⟩
      refine st_move hf rfl rfl (by decide) ?_
      clear hf; intro a ha hf; clear ha
      refine wpList_cut 4 (fun a w => Fr 152 a [(2, vmessage2), (7, optr v5 0), (8, optr v7 0), (9, v17), (10, v19), (11, .int .i64 round11), (12, v28), (15, v37), (18, v46), (21, .int .i64 q48.1), (22, .int .i64 q48.2), (23, .int .i64 q55.1), (24, .int .i64 q55.2), (89, .bool (((!q62) || (q21.2.1 != q39.2.1)) || (q21.2.2 != q39.2.2)))] ∧ Hp S w0 w (Res.sl Ek.bool 4 v28 q21.1 :: Res.sl Ek.bool 4 v46 q39.1 :: Res.sl (Ek.int .u8) 5 v19 now10 :: Res.sl (Ek.int .u8) 51 v17 in9 :: Res.sl Ek.bool 4 v37 q30.1 :: Res.obj 40 v5 [.int .i64 q3.1.1, .int .u32 q3.1.2.1, .int .u32 q3.1.2.2] :: Res.obj 41 v7 [.int .i64 q3.2.1, .int .u32 q3.2.2.1, .int .u32 q3.2.2.2] :: ow)) ?_ ?_
      · rcases Bool.eq_false_or_eq_true ((!q62) || (q21.2.1 != q39.2.1)) with hb77 | hb77
        · skip
          refine st_skip hf (wantN hf rfl rfl hb77) rfl (by decide) ?_ rfl
          clear hf; intro a hf
          refine st_skip hf (wantN hf rfl rfl hb77) rfl (by decide) ?_ rfl
          clear hf; intro a hf
          refine st_skip hf (wantN hf rfl rfl hb77) rfl (by decide) ?_ rfl
          clear hf; intro a hf
          refine st_pick (v := .bool true) hf rfl rfl (fun hb' => ?_) (fun hb' => ?_) (by decide) ?_
          · rfl
          · exact absurd (hb77.symm.trans hb') (by decide)
          clear hf; intro a ha hf; clear ha
          refine st_nil hf (th_n ?_)
          exact ⟨hf.sub ⟨rfl, rfl, rfl, rfl, rfl, rfl, rfl, rfl, rfl, rfl, rfl, rfl, rfl, (by rw [hb77]; rfl), trivial⟩, hp⟩
        refine st_move hf (wantY hf rfl rfl hb77) rfl (by decide) ?_
        clear hf; intro a ha hf; clear ha
        refine st_move hf (wantY hf rfl rfl hb77) rfl (by decide) ?_
        clear hf; intro a ha hf; clear ha
        refine st_ineq hf (by decide) (wantY hf rfl rfl hb77) rfl rfl ?_
        clear hf; intro a ha hf; clear ha
        refine st_pick (v := .bool (q21.2.2 != q39.2.2)) hf rfl rfl (fun hb' => ?_) (fun hb' => ?_) (by decide) ?_
        · exact absurd (hb77.symm.trans hb') (by decide)
        · rfl
        clear hf; intro a ha hf; clear ha
        refine st_nil hf (th_n ?_)
        exact ⟨hf.sub ⟨rfl, rfl, rfl, rfl, rfl, rfl, rfl, rfl, rfl, rfl, rfl, rfl, rfl, (by rw [hb77]; rfl), trivial⟩, hp⟩
      rintro a w ⟨hf, hp⟩
      refine st_move hf rfl rfl (by decide) ?_
      clear hf; intro a ha hf; clear ha
      refine wpList_cut 4 (fun a w => Fr 152 a [(2, vmessage2), (7, optr v5 0), (8, optr v7 0), (9, v17), (10, v19), (11, .int .i64 round11), (12, v28), (15, v37), (18, v46), (22, .int .i64 q48.2), (24, .int .i64 q55.2), (94, .bool ((((!q62) || (q21.2.1 != q39.2.1)) || (q21.2.2 != q39.2.2)) || (q48.1 != q55.1)))] ∧ Hp S w0 w (Res.sl Ek.bool 4 v28 q21.1 :: Res.sl Ek.bool 4 v46 q39.1 :: Res.sl (Ek.int .u8) 5 v19 now10 :: Res.sl (Ek.int .u8) 51 v17 in9 :: Res.sl Ek.bool 4 v37 q30.1 :: Res.obj 40 v5 [.int .i64 q3.1.1, .int .u32 q3.1.2.1, .int .u32 q3.1.2.2] :: Res.obj 41 v7 [.int .i64 q3.2.1, .int .u32 q3.2.2.1, .int .u32 q3.2.2.2] :: ow)) ?_ ?_
      · rcases Bool.eq_false_or_eq_true (((!q62) || (q21.2.1 != q39.2.1)) || (q21.2.2 != q39.2.2)) with hb79 | hb79
        · skip
          refine st_skip hf (wantN hf rfl rfl hb79) rfl (by decide) ?_ rfl
          clear hf; intro a hf
          refine st_skip hf (wantN hf rfl rfl hb79) rfl (by decide) ?_ rfl
          clear hf; intro a hf
          refine st_skip hf (wantN hf rfl rfl hb79) rfl (by decide) ?_ rfl
          clear hf; intro a hf
          refine st_pick (v := .bool true) hf rfl rfl (fun hb' => ?_) (fun hb' => ?_) (by decide) ?_
          · rfl
          · exact absurd (hb79.symm.trans hb') (by decide)
          clear hf; intro a ha hf; clear ha
          refine st_nil hf (th_n ?_)
          exact ⟨hf.sub ⟨rfl, rfl, rfl, rfl, rfl, rfl, rfl, rfl, rfl, rfl, rfl, (by rw [hb79]; rfl), trivial⟩, hp⟩
        refine st_move hf (wantY hf rfl rfl hb79) rfl (by decide) ?_
        clear hf; intro a ha hf; clear ha
        refine st_move hf (wantY hf rfl rfl hb79) rfl (by decide) ?_
        clear hf; intro a ha hf; clear ha
        refine st_ineq hf (by decide) (wantY hf rfl rfl hb79) rfl rfl ?_
        clear hf; intro a ha hf; clear ha
        refine st_pick (v := .bool (q48.1 != q55.1)) hf rfl rfl (fun hb' => ?_) (fun hb' => ?_) (by decide) ?_
        · exact absurd (hb79.symm.trans hb') (by decide)
        · rfl
        clear hf; intro a ha hf; clear ha
        refine st_nil hf (th_n ?_)
        exact ⟨hf.sub ⟨rfl, rfl, rfl, rfl, rfl, rfl, rfl, rfl, rfl, rfl, rfl, (by rw [hb79]; rfl), trivial⟩, hp⟩
      rintro a w ⟨hf, hp⟩
      refine st_move hf rfl rfl (by decide) ?_
      clear hf; intro a ha hf; clear ha
      refine wpList_cut 4 (fun a w => Fr 152 a [(2, vmessage2), (7, optr v5 0), (8, optr v7 0), (9, v17), (10, v19), (11, .int .i64 round11), (12, v28), (15, v37), (18, v46), (99, .bool (((((!q62) || (q21.2.1 != q39.2.1)) || (q21.2.2 != q39.2.2)) || (q48.1 != q55.1)) || (q48.2 != q55.2)))] ∧ Hp S w0 w (Res.sl Ek.bool 4 v28 q21.1 :: Res.sl Ek.bool 4 v46 q39.1 :: Res.sl (Ek.int .u8) 5 v19 now10 :: Res.sl (Ek.int .u8) 51 v17 in9 :: Res.sl Ek.bool 4 v37 q30.1 :: Res.obj 40 v5 [.int .i64 q3.1.1, .int .u32 q3.1.2.1, .int .u32 q3.1.2.2] :: Res.obj 41 v7 [.int .i64 q3.2.1, .int .u32 q3.2.2.1, .int .u32 q3.2.2.2] :: ow)) ?_ ?_
      · rcases Bool.eq_false_or_eq_true ((((!q62) || (q21.2.1 != q39.2.1)) || (q21.2.2 != q39.2.2)) || (q48.1 != q55.1)) with hb81 | hb81
        · skip
          refine st_skip hf (wantN hf rfl rfl hb81) rfl (by decide) ?_ rfl
          clear hf; intro a hf
          refine st_skip hf (wantN hf rfl rfl hb81) rfl (by decide) ?_ rfl
          clear hf; intro a hf
          refine st_skip hf (wantN hf rfl rfl hb81) rfl (by decide) ?_ rfl
          clear hf; intro a hf
          refine st_pick (v := .bool true) hf rfl rfl (fun hb' => ?_) (fun hb' => ?_) (by decide) ?_
          · rfl
          · exact absurd (hb81.symm.trans hb') (by decide)
          clear hf; intro a ha hf; clear ha
          refine st_nil hf (th_n ?_)
          exact ⟨hf.sub ⟨rfl, rfl, rfl, rfl, rfl, rfl, rfl, rfl, rfl, (by rw [hb81]; rfl), trivial⟩, hp⟩
        refine st_move hf (wantY hf rfl rfl hb81) rfl (by decide) ?_
        clear hf; intro a ha hf; clear ha
        refine st_move hf (wantY hf rfl rfl hb81) rfl (by decide) ?_
        clear hf; intro a ha hf; clear ha
        refine st_ineq hf (by decide) (wantY hf rfl rfl hb81) rfl rfl ?_
        clear hf; intro a ha hf; clear ha
        refine st_pick (v := .bool (q48.2 != q55.2)) hf rfl rfl (fun hb' => ?_) (fun hb' => ?_) (by decide) ?_
        · exact absurd (hb81.symm.trans hb') (by decide)
        · rfl
        clear hf; intro a ha hf; clear ha
        refine st_nil hf (th_n ?_)
        exact ⟨hf.sub ⟨rfl, rfl, rfl, rfl, rfl, rfl, rfl, rfl, rfl, (by rw [hb81]; rfl), trivial⟩, hp⟩
      rintro a w ⟨hf, hp⟩
      refine st_move hf rfl rfl (by decide) ?_
      clear hf; intro a ha hf; clear ha
      obtain ⟨z84, hz82, h⟩ := bnd h
      refine wpList_cut 5 (fun a w => Fr 152 a [(2, vmessage2), (7, optr v5 0), (8, optr v7 0), (9, v17), (10, v19), (11, .int .i64 round11), (12, v28), (15, v37), (18, v46), (105, .bool z84)] ∧ Hp S w0 w (Res.sl Ek.bool 4 v28 q21.1 :: Res.sl Ek.bool 4 v46 q39.1 :: Res.sl (Ek.int .u8) 5 v19 now10 :: Res.sl (Ek.int .u8) 51 v17 in9 :: Res.sl Ek.bool 4 v37 q30.1 :: Res.obj 40 v5 [.int .i64 q3.1.1, .int .u32 q3.1.2.1, .int .u32 q3.1.2.2] :: Res.obj 41 v7 [.int .i64 q3.2.1, .int .u32 q3.2.2.1, .int .u32 q3.2.2.2] :: ow)) ?_ ?_
      · rcases Bool.eq_false_or_eq_true (((((!q62) || (q21.2.1 != q39.2.1)) || (q21.2.2 != q39.2.2)) || (q48.1 != q55.1)) || (q48.2 != q55.2)) with hb83 | hb83
        · skip
          replace hz82 := ifT hz82 hb83
          refine st_skip hf (wantN hf rfl rfl hb83) rfl (by decide) ?_ rfl
          clear hf; intro a hf
          refine st_skip hf (wantN hf rfl rfl hb83) rfl (by decide) ?_ rfl
          clear hf; intro a hf
          refine st_skip hf (wantN hf rfl rfl hb83) rfl (by decide) ?_ rfl
          clear hf; intro a hf
          refine st_skip hf (wantN hf rfl rfl hb83) rfl (by decide) ?_ rfl
          clear hf; intro a hf
          obtain rfl := Option.some.inj hz82
          refine st_pick (v := .bool true) hf rfl rfl (fun hb' => ?_) (fun hb' => ?_) (by decide) ?_
          · rfl
          · exact absurd (hb83.symm.trans hb') (by decide)
          clear hf; intro a ha hf; clear ha
          refine st_nil hf (th_n ?_)
          exact ⟨hf.sub ⟨rfl, rfl, rfl, rfl, rfl, rfl, rfl, rfl, rfl, rfl, trivial⟩, hp⟩
        replace hz82 := ifF hz82 hb83
        refine st_move hf (wantY hf rfl rfl hb83) rfl (by decide) ?_
        clear hf; intro a ha hf; clear ha
        refine st_move hf (wantY hf rfl rfl hb83) rfl (by decide) ?_
        clear hf; intro a ha hf; clear ha
        obtain ⟨q85, hcall86, hz82⟩ := bnd hz82
        obtain ⟨S87, hp88, rd89, up90, bk91⟩ := Hp.lendS hp (i := 3) rfl
        obtain ⟨S92, hp93, rd94, up95, bk96⟩ := Hp.lendS hp88 (i := 2) rfl
        refine st_call hf (by decide) Try.func14 rfl rfl (wantY hf rfl rfl hb83) rfl rfl (f_foghornlaw22_sameMarks_c hp93 _ _ ((rd89.now hp88).mono up95) _ _ rd94 hcall86) ?_
        rintro _ w ⟨rfl, hp0⟩
        have hp0 := bk96 _ _ hp0
        have hp0 := bk91 _ _ hp0
        clear hp; have hp := hp0; clear hp0
        replace hp : Hp _ _ _ (Res.sl (Ek.int .u8) 51 v17 in9 :: Res.sl (Ek.int .u8) 5 v19 now10 :: Res.sl Ek.bool 4 v28 q21.1 :: Res.sl Ek.bool 4 v46 q39.1 :: Res.sl Ek.bool 4 v37 q30.1 :: Res.obj 40 v5 [.int .i64 q3.1.1, .int .u32 q3.1.2.1, .int .u32 q3.1.2.2] :: Res.obj 41 v7 [.int .i64 q3.2.1, .int .u32 q3.2.2.1, .int .u32 q3.2.2.2] :: ow) := hp
        refine ⟨_, rfl, ?_⟩
        clear hf; intro a hf
        refine st_not hf (by decide) (wantY hf rfl rfl hb83) rfl ?_
        clear hf; intro a ha hf; clear ha
        obtain rfl := Option.some.inj hz82
        refine st_pick (v := .bool (!q85)) hf rfl rfl (fun hb' => ?_) (fun hb' => ?_) (by decide) ?_
        · exact absurd (hb83.symm.trans hb') (by decide)
        · rfl
        clear hf; intro a ha hf; clear ha
        refine st_nil hf (th_n ?_)
        have hp : Hp _ _ _ (Res.sl Ek.bool 4 v28 q21.1 :: Res.sl Ek.bool 4 v46 q39.1 :: Res.sl (Ek.int .u8) 5 v19 now10 :: Res.sl (Ek.int .u8) 51 v17 in9 :: Res.sl Ek.bool 4 v37 q30.1 :: Res.obj 40 v5 [.int .i64 q3.1.1, .int .u32 q3.1.2.1, .int .u32 q3.1.2.2] :: Res.obj 41 v7 [.int .i64 q3.2.1, .int .u32 q3.2.2.1, .int .u32 q3.2.2.2] :: ow) := Hp.sel (pre := [Res.sl (Ek.int .u8) 51 v17 in9, Res.sl (Ek.int .u8) 5 v19 now10, Res.sl Ek.bool 4 v28 q21.1, Res.sl Ek.bool 4 v46 q39.1, Res.sl Ek.bool 4 v37 q30.1, Res.obj 40 v5 [.int .i64 q3.1.1, .int .u32 q3.1.2.1, .int .u32 q3.1.2.2], Res.obj 41 v7 [.int .i64 q3.2.1, .int .u32 q3.2.2.1, .int .u32 q3.2.2.2]]) (tail := ow) (rs' := [Res.sl Ek.bool 4 v28 q21.1, Res.sl Ek.bool 4 v46 q39.1, Res.sl (Ek.int .u8) 5 v19 now10, Res.sl (Ek.int .u8) 51 v17 in9, Res.sl Ek.bool 4 v37 q30.1, Res.obj 40 v5 [.int .i64 q3.1.1, .int .u32 q3.1.2.1, .int .u32 q3.1.2.2], Res.obj 41 v7 [.int .i64 q3.2.1, .int .u32 q3.2.2.1, .int .u32 q3.2.2.2]]) hp [2, 3, 1, 0, 4, 5, 6] (by decide) (by simp) rfl
        exact ⟨hf.sub ⟨rfl, rfl, rfl, rfl, rfl, rfl, rfl, rfl, rfl, rfl, trivial⟩, hp⟩
      rintro a w ⟨hf, hp⟩
      refine st_nil hf ?_
      refine th_n ?_
      refine wp_if hf rfl (fun hb => ?_) (fun hb => ?_)
      · replace h := ifT h hb
        refine wp_seq ?_
        refine wp_reg ?_
        refine st_assign hf rfl rfl (by decide) ?_
        clear hf; intro a ha hf; clear ha
        refine st_nil hf ?_
        refine th_n ?_
        refine wp_ret ?_
        refine th_r ?_
        refine ib_r ?_
        refine th_r ?_
        obtain rfl := Option.some.inj h
        have hp : Hp _ _ _ (ow) := Hp.sel (pre := [Res.sl Ek.bool 4 v28 q21.1, Res.sl Ek.bool 4 v46 q39.1, Res.sl (Ek.int .u8) 5 v19 now10, Res.sl (Ek.int .u8) 51 v17 in9, Res.sl Ek.bool 4 v37 q30.1, Res.obj 40 v5 [.int .i64 q3.1.1, .int .u32 q3.1.2.1, .int .u32 q3.1.2.2], Res.obj 41 v7 [.int .i64 q3.2.1, .int .u32 q3.2.2.1, .int .u32 q3.2.2.2]]) (tail := ow) (rs' := []) hp [] (by decide) (by simp) rfl
        exact rnd_r (by simp) ⟨rfl, ⟨hf.sub ⟨rfl, trivial⟩, hp⟩⟩
      replace h := ifF h hb
      refine wp_skip ?_
      refine th_n ?_
      refine wp_seq ?_
      refine wp_seq ?_
      refine wp_reg ?_
      refine st_assign hf rfl rfl (by decide) ?_
      clear hf; intro a ha hf; clear ha
      refine st_nil hf ?_
      refine th_n ?_
      refine wp_block ?_
      obtain ⟨q101, hl, h⟩ := bnd h
      have hp : Hp _ _ _ (Res.sl Ek.bool 4 v28 q21.1 :: Res.obj 40 v5 [.int .i64 q3.1.1, .int .u32 q3.1.2.1, .int .u32 q3.1.2.2] :: Res.obj 41 v7 [.int .i64 q3.2.1, .int .u32 q3.2.2.1, .int .u32 q3.2.2.2] :: Res.sl (Ek.int .u8) 51 v17 in9 :: Res.sl (Ek.int .u8) 5 v19 now10 :: Res.sl Ek.bool 4 v37 q30.1 :: Res.sl Ek.bool 4 v46 q39.1 :: ow) := Hp.sel (pre := [Res.sl Ek.bool 4 v28 q21.1, Res.sl Ek.bool 4 v46 q39.1, Res.sl (Ek.int .u8) 5 v19 now10, Res.sl (Ek.int .u8) 51 v17 in9, Res.sl Ek.bool 4 v37 q30.1, Res.obj 40 v5 [.int .i64 q3.1.1, .int .u32 q3.1.2.1, .int .u32 q3.1.2.2], Res.obj 41 v7 [.int .i64 q3.2.1, .int .u32 q3.2.2.1, .int .u32 q3.2.2.2]]) (tail := ow) (rs' := [Res.sl Ek.bool 4 v28 q21.1, Res.obj 40 v5 [.int .i64 q3.1.1, .int .u32 q3.1.2.1, .int .u32 q3.1.2.2], Res.obj 41 v7 [.int .i64 q3.2.1, .int .u32 q3.2.2.1, .int .u32 q3.2.2.2], Res.sl (Ek.int .u8) 51 v17 in9, Res.sl (Ek.int .u8) 5 v19 now10, Res.sl Ek.bool 4 v37 q30.1, Res.sl Ek.bool 4 v46 q39.1]) hp [0, 5, 6, 3, 2, 4, 1] (by decide) (by simp) rfl
      refine wp_loop_pure (f := f_foghornlaw22_HardPaths.s2) (s := (q21.1, (0 : Int))) (fun s a w => ∃ (v97 : Value), Fr 152 a [(2, vmessage2), (7, optr v5 0), (8, optr v7 0), (9, v17), (10, v19), (11, .int .i64 round11), (12, v97), (15, v37), (18, v46), (25, .int .i64 s.2)] ∧ Hp S w0 w (Res.sl Ek.bool 4 v97 s.1 :: Res.obj 40 v5 [.int .i64 q3.1.1, .int .u32 q3.1.2.1, .int .u32 q3.1.2.2] :: Res.obj 41 v7 [.int .i64 q3.2.1, .int .u32 q3.2.2.1, .int .u32 q3.2.2.2] :: Res.sl (Ek.int .u8) 51 v17 in9 :: Res.sl (Ek.int .u8) 5 v19 now10 :: Res.sl Ek.bool 4 v37 q30.1 :: Res.sl Ek.bool 4 v46 q39.1 :: ow)) (fun q e a w => e = .exit 2 ∧ Fr 152 a [(2, vmessage2), (7, optr v5 0), (8, optr v7 0), (9, v17), (10, v19), (11, .int .i64 round11), (15, v37), (18, v46)] ∧ Hp S w0 w (Res.obj 40 v5 [.int .i64 q3.1.1, .int .u32 q3.1.2.1, .int .u32 q3.1.2.2] :: Res.obj 41 v7 [.int .i64 q3.2.1, .int .u32 q3.2.2.1, .int .u32 q3.2.2.2] :: Res.sl (Ek.int .u8) 51 v17 in9 :: Res.sl (Ek.int .u8) 5 v19 now10 :: Res.sl Ek.bool 4 v37 q30.1 :: Res.sl Ek.bool 4 v46 q39.1 :: ow)) ?_ hl ⟨_, hf.sub ⟨rfl, rfl, rfl, rfl, rfl, rfl, rfl, rfl, rfl, rfl, trivial⟩, hp⟩ ?_
      · clear hl hf hp
        intro s x a w h hI
        obtain ⟨a12, k25⟩ := s
        obtain ⟨v97, hf, hp⟩ : ∃ (v97 : Value), Fr 152 a [(2, vmessage2), (7, optr v5 0), (8, optr v7 0), (9, v17), (10, v19), (11, .int .i64 round11), (12, v97), (15, v37), (18, v46), (25, .int .i64 k25)] ∧ Hp S w0 w (Res.sl Ek.bool 4 v97 a12 :: Res.obj 40 v5 [.int .i64 q3.1.1, .int .u32 q3.1.2.1, .int .u32 q3.1.2.2] :: Res.obj 41 v7 [.int .i64 q3.2.1, .int .u32 q3.2.2.1, .int .u32 q3.2.2.2] :: Res.sl (Ek.int .u8) 51 v17 in9 :: Res.sl (Ek.int .u8) 5 v19 now10 :: Res.sl Ek.bool 4 v37 q30.1 :: Res.sl Ek.bool 4 v46 q39.1 :: ow) := hI
        replace h : f_foghornlaw22_HardPaths.s2c a12 k25 = some x := h
        unfold f_foghornlaw22_HardPaths.s2c at h
        refine wp_seq ?_
        refine wp_seq ?_
        refine wp_reg ?_
        refine st_move hf rfl rfl (by decide) ?_
        clear hf; intro a ha hf; clear ha
        refine st_move hf rfl rfl (by decide) ?_
        clear hf; intro a ha hf; clear ha
        refine st_len (E := Ek.bool) hf (by decide) Try.underlying22 rfl rfl (hp.sl (i := 0) rfl) ?_
        clear hf; intro a ha hf; clear ha
        refine st_ilss hf (by decide) rfl rfl rfl ?_
        clear hf; intro a ha hf; clear ha
        refine st_nil hf ?_
        refine th_n ?_
        refine wp_if hf rfl (fun hb => ?_) (fun hb => ?_)
        · replace h := ifT h hb
          refine wp_skip ?_
          refine th_n ?_
          refine wp_seq ?_
          refine wp_block ?_
          refine wp_reg ?_
          refine st_move hf rfl rfl (by decide) ?_
          clear hf; intro a ha hf; clear ha
          refine st_move hf rfl rfl (by decide) ?_
          clear hf; intro a ha hf; clear ha
          refine st_move hf rfl rfl (by decide) ?_
          clear hf; intro a ha hf; clear ha
          refine st_move hf rfl rfl (by decide) ?_
          clear hf; intro a ha hf; clear ha
          obtain ⟨hc99, h⟩ := chk h
          refine st_index (E := Ek.bool) hf (by decide) Try.underlying22 elt4 rfl rfl rfl (hp.sl (i := 0) rfl) hc99.1 hc99.2 ?_
          clear hf; intro a ha hf; clear ha
          refine st_ldB hf (by decide) pl4 rfl rfl (hp.sl (i := 0) rfl) hc99.1 hc99.2 ?_
          clear hf; intro a ha hf; clear ha
          refine st_not hf (by decide) rfl rfl ?_
          clear hf; intro a ha hf; clear ha
          obtain ⟨hc100, h⟩ := chk h
          refine st_index (E := Ek.bool) hf (by decide) Try.underlying22 elt4 rfl rfl rfl (hp.sl (i := 0) rfl) hc100.1 hc100.2 ?_
          clear hf; intro a ha hf; clear ha
          refine st_store (E := Ek.bool) hf elt4 hp (i := 0) rfl rfl rfl rfl rfl hc100.1 hc100.2 ?_
          clear hf; intro a w hf hp0; clear hp; have hp := hp0; clear hp0
          replace hp : Hp _ _ _ (Res.sl Ek.bool 4 v97 (a12.set (k25).toNat (!(gt a12 k25))) :: Res.obj 40 v5 [.int .i64 q3.1.1, .int .u32 q3.1.2.1, .int .u32 q3.1.2.2] :: Res.obj 41 v7 [.int .i64 q3.2.1, .int .u32 q3.2.2.1, .int .u32 q3.2.2.2] :: Res.sl (Ek.int .u8) 51 v17 in9 :: Res.sl (Ek.int .u8) 5 v19 now10 :: Res.sl Ek.bool 4 v37 q30.1 :: Res.sl Ek.bool 4 v46 q39.1 :: ow) := hp
          refine st_nil hf ?_
          refine ib_n ?_
          refine th_n ?_
          refine wp_reg ?_
          refine st_move hf rfl rfl (by decide) ?_
          clear hf; intro a ha hf; clear ha
          refine st_iadd hf (by decide) rfl rfl rfl ?_
          clear hf; intro a ha hf; clear ha
          refine st_assign hf rfl rfl (by decide) ?_
          clear hf; intro a ha hf; clear ha
          refine st_nil hf ?_
          obtain rfl := Option.some.inj h
          exact rnd_l ⟨_, hf.sub ⟨rfl, rfl, rfl, rfl, rfl, rfl, rfl, rfl, rfl, rfl, trivial⟩, hp⟩
        replace h := ifF h hb
        refine wp_exit ?_
        refine th_e ?_
        obtain rfl := Option.some.inj h
        have hp : Hp _ _ _ (Res.obj 40 v5 [.int .i64 q3.1.1, .int .u32 q3.1.2.1, .int .u32 q3.1.2.2] :: Res.obj 41 v7 [.int .i64 q3.2.1, .int .u32 q3.2.2.1, .int .u32 q3.2.2.2] :: Res.sl (Ek.int .u8) 51 v17 in9 :: Res.sl (Ek.int .u8) 5 v19 now10 :: Res.sl Ek.bool 4 v37 q30.1 :: Res.sl Ek.bool 4 v46 q39.1 :: ow) := Hp.sel (pre := [Res.sl Ek.bool 4 v97 a12, Res.obj 40 v5 [.int .i64 q3.1.1, .int .u32 q3.1.2.1, .int .u32 q3.1.2.2], Res.obj 41 v7 [.int .i64 q3.2.1, .int .u32 q3.2.2.1, .int .u32 q3.2.2.2], Res.sl (Ek.int .u8) 51 v17 in9, Res.sl (Ek.int .u8) 5 v19 now10, Res.sl Ek.bool 4 v37 q30.1, Res.sl Ek.bool 4 v46 q39.1]) (tail := ow) (rs' := [Res.obj 40 v5 [.int .i64 q3.1.1, .int .u32 q3.1.2.1, .int .u32 q3.1.2.2], Res.obj 41 v7 [.int .i64 q3.2.1, .int .u32 q3.2.2.1, .int .u32 q3.2.2.2], Res.sl (Ek.int .u8) 51 v17 in9, Res.sl (Ek.int .u8) 5 v19 now10, Res.sl Ek.bool 4 v37 q30.1, Res.sl Ek.bool 4 v46 q39.1]) hp [1, 2, 3, 4, 5, 6] (by decide) (by simp) rfl
        exact rnd_r (by simp) ⟨rfl, hf.sub ⟨rfl, rfl, rfl, rfl, rfl, rfl, rfl, rfl, trivial⟩, hp⟩
      clear hl hf hp
      intro e a w hne hO
      obtain ⟨rfl, hf, hp⟩ := hO
      refine ib_same ?_
      refine th_n ?_
      refine wp_seq ?_
      refine wp_seq ?_
      refine wp_reg ?_
      refine st_move hf rfl rfl (by decide) ?_
      clear hf; intro a ha hf; clear ha
      refine st_move hf rfl rfl (by decide) ?_
      clear hf; intro a ha hf; clear ha
      obtain ⟨q102, hcall103, h⟩ := bnd h
      obtain ⟨S104, hp105, rd106, up107, bk108⟩ := Hp.lendS hp (i := 4) rfl
      obtain ⟨S109, hp110, rd111, up112, bk113⟩ := Hp.lendS hp105 (i := 4) rfl
      refine st_call hf (by decide) Try.func13 rfl rfl rfl rfl rfl (f_foghornlaw22_sameBits_c hp110 _ _ ((rd106.now hp105).mono up112) _ _ rd111 hcall103) ?_
      rintro _ w ⟨rfl, hp0⟩
      have hp0 := bk113 _ _ hp0
      have hp0 := bk108 _ _ hp0
      clear hp; have hp := hp0; clear hp0
      replace hp : Hp _ _ _ (Res.sl Ek.bool 4 v37 q30.1 :: Res.sl Ek.bool 4 v46 q39.1 :: Res.obj 40 v5 [.int .i64 q3.1.1, .int .u32 q3.1.2.1, .int .u32 q3.1.2.2] :: Res.obj 41 v7 [.int .i64 q3.2.1, .int .u32 q3.2.2.1, .int .u32 q3.2.2.2] :: Res.sl (Ek.int .u8) 51 v17 in9 :: Res.sl (Ek.int .u8) 5 v19 now10 :: ow) := hp
      refine ⟨_, rfl, ?_⟩
      clear hf; intro a hf
      refine st_not hf (by decide) rfl rfl ?_
      clear hf; intro a ha hf; clear ha
      refine st_move hf rfl rfl (by decide) ?_
      clear hf; intro a ha hf; clear ha
      obtain ⟨z116, hz114, h⟩ := bnd h
      refine wpList_cut 5 (fun a w => Fr 152 a [(2, vmessage2), (7, optr v5 0), (8, optr v7 0), (9, v17), (10, v19), (11, .int .i64 round11), (129, .bool z116)] ∧ Hp S w0 w (Res.sl Ek.bool 4 v37 q30.1 :: Res.sl Ek.bool 4 v46 q39.1 :: Res.obj 40 v5 [.int .i64 q3.1.1, .int .u32 q3.1.2.1, .int .u32 q3.1.2.2] :: Res.obj 41 v7 [.int .i64 q3.2.1, .int .u32 q3.2.2.1, .int .u32 q3.2.2.2] :: Res.sl (Ek.int .u8) 51 v17 in9 :: Res.sl (Ek.int .u8) 5 v19 now10 :: ow)) ?_ ?_
      · rcases Bool.eq_false_or_eq_true (!q102) with hb115 | hb115
        · skip
          replace hz114 := ifT hz114 hb115
          refine st_skip hf (wantN hf rfl rfl hb115) rfl (by decide) ?_ rfl
          clear hf; intro a hf
          refine st_skip hf (wantN hf rfl rfl hb115) rfl (by decide) ?_ rfl
          clear hf; intro a hf
          refine st_skip hf (wantN hf rfl rfl hb115) rfl (by decide) ?_ rfl
          clear hf; intro a hf
          refine st_skip hf (wantN hf rfl rfl hb115) rfl (by decide) ?_ rfl
          clear hf; intro a hf
          obtain rfl := Option.some.inj hz114
          refine st_pick (v := .bool true) hf rfl rfl (fun hb' => ?_) (fun hb' => ?_) (by decide) ?_
          · rfl
          · exact absurd (hb115.symm.trans hb') (by decide)
          clear hf; intro a ha hf; clear ha
          refine st_nil hf (th_n ?_)
          exact ⟨hf.sub ⟨rfl, rfl, rfl, rfl, rfl, rfl, rfl, trivial⟩, hp⟩
        replace hz114 := ifF hz114 hb115
        refine st_move hf (wantY hf rfl rfl hb115) rfl (by decide) ?_
        clear hf; intro a ha hf; clear ha
        refine st_move hf (wantY hf rfl rfl hb115) rfl (by decide) ?_
        clear hf; intro a ha hf; clear ha
        obtain ⟨q117, hcall118, hz114⟩ := bnd hz114
        obtain ⟨S119, hp120, rd121, up122, bk123⟩ := Hp.lendS hp (i := 4) rfl
        obtain ⟨S124, hp125, rd126, up127, bk128⟩ := Hp.lendS hp120 (i := 4) rfl
        refine st_call hf (by decide) Try.func14 rfl rfl (wantY hf rfl rfl hb115) rfl rfl (f_foghornlaw22_sameMarks_c hp125 _ _ ((rd121.now hp120).mono up127) _ _ rd126 hcall118) ?_
        rintro _ w ⟨rfl, hp0⟩
        have hp0 := bk128 _ _ hp0
        have hp0 := bk123 _ _ hp0
        clear hp; have hp := hp0; clear hp0
        replace hp : Hp _ _ _ (Res.sl (Ek.int .u8) 51 v17 in9 :: Res.sl (Ek.int .u8) 5 v19 now10 :: Res.sl Ek.bool 4 v37 q30.1 :: Res.sl Ek.bool 4 v46 q39.1 :: Res.obj 40 v5 [.int .i64 q3.1.1, .int .u32 q3.1.2.1, .int .u32 q3.1.2.2] :: Res.obj 41 v7 [.int .i64 q3.2.1, .int .u32 q3.2.2.1, .int .u32 q3.2.2.2] :: ow) := hp
        refine ⟨_, rfl, ?_⟩
        clear hf; intro a hf
        refine st_not hf (by decide) (wantY hf rfl rfl hb115) rfl ?_
        clear hf; intro a ha hf; clear ha
        obtain rfl := Option.some.inj hz114
        refine st_pick (v := .bool (!q117)) hf rfl rfl (fun hb' => ?_) (fun hb' => ?_) (by decide) ?_
        · exact absurd (hb115.symm.trans hb') (by decide)
        · rfl
        clear hf; intro a ha hf; clear ha
        refine st_nil hf (th_n ?_)
        have hp : Hp _ _ _ (Res.sl Ek.bool 4 v37 q30.1 :: Res.sl Ek.bool 4 v46 q39.1 :: Res.obj 40 v5 [.int .i64 q3.1.1, .int .u32 q3.1.2.1, .int .u32 q3.1.2.2] :: Res.obj 41 v7 [.int .i64 q3.2.1, .int .u32 q3.2.2.1, .int .u32 q3.2.2.2] :: Res.sl (Ek.int .u8) 51 v17 in9 :: Res.sl (Ek.int .u8) 5 v19 now10 :: ow) := Hp.sel (pre := [Res.sl (Ek.int .u8) 51 v17 in9, Res.sl (Ek.int .u8) 5 v19 now10, Res.sl Ek.bool 4 v37 q30.1, Res.sl Ek.bool 4 v46 q39.1, Res.obj 40 v5 [.int .i64 q3.1.1, .int .u32 q3.1.2.1, .int .u32 q3.1.2.2], Res.obj 41 v7 [.int .i64 q3.2.1, .int .u32 q3.2.2.1, .int .u32 q3.2.2.2]]) (tail := ow) (rs' := [Res.sl Ek.bool 4 v37 q30.1, Res.sl Ek.bool 4 v46 q39.1, Res.obj 40 v5 [.int .i64 q3.1.1, .int .u32 q3.1.2.1, .int .u32 q3.1.2.2], Res.obj 41 v7 [.int .i64 q3.2.1, .int .u32 q3.2.2.1, .int .u32 q3.2.2.2], Res.sl (Ek.int .u8) 51 v17 in9, Res.sl (Ek.int .u8) 5 v19 now10]) hp [2, 3, 4, 5, 0, 1] (by decide) (by simp) rfl
        exact ⟨hf.sub ⟨rfl, rfl, rfl, rfl, rfl, rfl, rfl, trivial⟩, hp⟩
      rintro a w ⟨hf, hp⟩
      refine st_nil hf ?_
      refine th_n ?_
      refine wp_if hf rfl (fun hb => ?_) (fun hb => ?_)
      · replace h := ifT h hb
        refine wp_seq ?_
        refine wp_reg ?_
        refine st_assign hf rfl rfl (by decide) ?_
        clear hf; intro a ha hf; clear ha
        refine st_nil hf ?_
        refine th_n ?_
        refine wp_ret ?_
        refine th_r ?_
        refine ib_r ?_
        refine th_r ?_
        obtain rfl := Option.some.inj h
        have hp : Hp _ _ _ (ow) := Hp.sel (pre := [Res.sl Ek.bool 4 v37 q30.1, Res.sl Ek.bool 4 v46 q39.1, Res.obj 40 v5 [.int .i64 q3.1.1, .int .u32 q3.1.2.1, .int .u32 q3.1.2.2], Res.obj 41 v7 [.int .i64 q3.2.1, .int .u32 q3.2.2.1, .int .u32 q3.2.2.2], Res.sl (Ek.int .u8) 51 v17 in9, Res.sl (Ek.int .u8) 5 v19 now10]) (tail := ow) (rs' := []) hp [] (by decide) (by simp) rfl
        exact rnd_r (by simp) ⟨rfl, ⟨hf.sub ⟨rfl, trivial⟩, hp⟩⟩
      replace h := ifF h hb
      refine wp_skip ?_
      refine th_n ?_
      refine wp_seq ?_
      refine wp_reg ?_
      refine st_assign hf rfl rfl (by decide) ?_
      clear hf; intro a ha hf; clear ha
      refine st_nil hf ?_
      refine th_n ?_
      refine wp_block ?_
      obtain ⟨q141, hl, h⟩ := bnd h
      have hp : Hp _ _ _ (Res.sl (Ek.int .u8) 51 v17 in9 :: Res.sl (Ek.int .u8) 5 v19 now10 :: Res.obj 40 v5 [.int .i64 q3.1.1, .int .u32 q3.1.2.1, .int .u32 q3.1.2.2] :: Res.obj 41 v7 [.int .i64 q3.2.1, .int .u32 q3.2.2.1, .int .u32 q3.2.2.2] :: ow) := Hp.sel (pre := [Res.sl Ek.bool 4 v37 q30.1, Res.sl Ek.bool 4 v46 q39.1, Res.obj 40 v5 [.int .i64 q3.1.1, .int .u32 q3.1.2.1, .int .u32 q3.1.2.2], Res.obj 41 v7 [.int .i64 q3.2.1, .int .u32 q3.2.2.1, .int .u32 q3.2.2.2], Res.sl (Ek.int .u8) 51 v17 in9, Res.sl (Ek.int .u8) 5 v19 now10]) (tail := ow) (rs' := [Res.sl (Ek.int .u8) 51 v17 in9, Res.sl (Ek.int .u8) 5 v19 now10, Res.obj 40 v5 [.int .i64 q3.1.1, .int .u32 q3.1.2.1, .int .u32 q3.1.2.2], Res.obj 41 v7 [.int .i64 q3.2.1, .int .u32 q3.2.2.1, .int .u32 q3.2.2.2]]) hp [4, 5, 2, 3] (by decide) (by simp) rfl
      refine wp_loop_pure (f := f_foghornlaw22_HardPaths.s3) (s := (in9, now10, (0 : Int))) (fun s a w => ∃ (v129 : Value) (v131 : Value), Fr 152 a [(2, vmessage2), (7, optr v5 0), (8, optr v7 0), (9, v129), (10, v131), (11, .int .i64 round11), (26, .int .i64 s.2.2)] ∧ Hp S w0 w (Res.sl (Ek.int .u8) 51 v129 s.1 :: Res.sl (Ek.int .u8) 5 v131 s.2.1 :: Res.obj 40 v5 [.int .i64 q3.1.1, .int .u32 q3.1.2.1, .int .u32 q3.1.2.2] :: Res.obj 41 v7 [.int .i64 q3.2.1, .int .u32 q3.2.2.1, .int .u32 q3.2.2.2] :: ow)) (fun q e a w => e = .exit 4 ∧ ∃ (v133 : Value) (v135 : Value), Fr 152 a [(2, vmessage2), (7, optr v5 0), (8, optr v7 0), (9, v133), (10, v135), (11, .int .i64 round11)] ∧ Hp S w0 w (Res.sl (Ek.int .u8) 51 v133 q.1 :: Res.sl (Ek.int .u8) 5 v135 q.2 :: Res.obj 40 v5 [.int .i64 q3.1.1, .int .u32 q3.1.2.1, .int .u32 q3.1.2.2] :: Res.obj 41 v7 [.int .i64 q3.2.1, .int .u32 q3.2.2.1, .int .u32 q3.2.2.2] :: ow)) ?_ hl ⟨_, _, hf.sub ⟨rfl, rfl, rfl, rfl, rfl, rfl, rfl, trivial⟩, hp⟩ ?_
      · clear hl hf hp
        intro s x a w h hI
        obtain ⟨in9, now10, k26⟩ := s
        obtain ⟨v129, v131, hf, hp⟩ : ∃ (v129 : Value) (v131 : Value), Fr 152 a [(2, vmessage2), (7, optr v5 0), (8, optr v7 0), (9, v129), (10, v131), (11, .int .i64 round11), (26, .int .i64 k26)] ∧ Hp S w0 w (Res.sl (Ek.int .u8) 51 v129 in9 :: Res.sl (Ek.int .u8) 5 v131 now10 :: Res.obj 40 v5 [.int .i64 q3.1.1, .int .u32 q3.1.2.1, .int .u32 q3.1.2.2] :: Res.obj 41 v7 [.int .i64 q3.2.1, .int .u32 q3.2.2.1, .int .u32 q3.2.2.2] :: ow) := hI
        replace h : f_foghornlaw22_HardPaths.s3c in9 now10 k26 = some x := h
        unfold f_foghornlaw22_HardPaths.s3c at h
        refine wp_seq ?_
        refine wp_seq ?_
        refine wp_reg ?_
        refine st_move hf rfl rfl (by decide) ?_
        clear hf; intro a ha hf; clear ha
        refine st_move hf rfl rfl (by decide) ?_
        clear hf; intro a ha hf; clear ha
        refine st_len (E := (Ek.int .u8)) hf (by decide) Try.underlying26 rfl rfl (hp.sl (i := 0) rfl) ?_
        clear hf; intro a ha hf; clear ha
        refine st_ilss hf (by decide) rfl rfl rfl ?_
        clear hf; intro a ha hf; clear ha
        refine st_nil hf ?_
        refine th_n ?_
        refine wp_if hf rfl (fun hb => ?_) (fun hb => ?_)
        · replace h := ifT h hb
          refine wp_skip ?_
          refine th_n ?_
          refine wp_seq ?_
          refine wp_block ?_
          refine wp_seq ?_
          refine wp_reg ?_
          refine st_move hf rfl rfl (by decide) ?_
          clear hf; intro a ha hf; clear ha
          refine st_move hf rfl rfl (by decide) ?_
          clear hf; intro a ha hf; clear ha
          refine st_move hf rfl rfl (by decide) ?_
          clear hf; intro a ha hf; clear ha
          refine st_move hf rfl rfl (by decide) ?_
          clear hf; intro a ha hf; clear ha
          obtain ⟨hc137, h⟩ := chk h
          refine st_index (E := (Ek.int .u8)) hf (by decide) Try.underlying29 elt5 rfl rfl rfl (hp.sl (i := 1) rfl) hc137.1 hc137.2 ?_
          clear hf; intro a ha hf; clear ha
          refine st_ldI hf (by decide) pl5 rfl rfl (hp.sl (i := 1) rfl) hc137.1 hc137.2 ?_
          clear hf; intro a ha hf; clear ha
          refine st_iadd hf (by decide) rfl rfl rfl ?_
          clear hf; intro a ha hf; clear ha
          refine st_irem hf (by decide) rfl rfl rfl (by decide) ?_
          clear hf; intro a ha hf; clear ha
          obtain ⟨hc138, h⟩ := chk h
          refine st_index (E := (Ek.int .u8)) hf (by decide) Try.underlying29 elt5 rfl rfl rfl (hp.sl (i := 1) rfl) hc138.1 hc138.2 ?_
          clear hf; intro a ha hf; clear ha
          refine st_store (E := (Ek.int .u8)) hf elt5 hp (i := 1) rfl rfl rfl rfl rfl hc138.1 hc138.2 ?_
          clear hf; intro a w hf hp0; clear hp; have hp := hp0; clear hp0
          replace hp : Hp _ _ _ (Res.sl (Ek.int .u8) 51 v129 in9 :: Res.sl (Ek.int .u8) 5 v131 (now10.set (k26).toNat (((IntKind.u8.wrap ((gt now10 k26) + (1 : Int)))).tmod (3 : Int))) :: Res.obj 40 v5 [.int .i64 q3.1.1, .int .u32 q3.1.2.1, .int .u32 q3.1.2.2] :: Res.obj 41 v7 [.int .i64 q3.2.1, .int .u32 q3.2.2.1, .int .u32 q3.2.2.2] :: ow) := hp
          refine st_nil hf ?_
          refine th_n ?_
          refine wp_reg ?_
          refine st_move hf rfl rfl (by decide) ?_
          clear hf; intro a ha hf; clear ha
          refine st_move hf rfl rfl (by decide) ?_
          clear hf; intro a ha hf; clear ha
          refine st_move hf rfl rfl (by decide) ?_
          clear hf; intro a ha hf; clear ha
          refine st_move hf rfl rfl (by decide) ?_
          clear hf; intro a ha hf; clear ha
          obtain ⟨hc139, h⟩ := chk h
          refine st_index (E := (Ek.int .u8)) hf (by decide) Try.underlying29 elt5 rfl rfl rfl (hp.sl (i := 1) rfl) hc139.1 hc139.2 ?_
          clear hf; intro a ha hf; clear ha
          refine st_ldI hf (by decide) pl5 rfl rfl (hp.sl (i := 1) rfl) hc139.1 hc139.2 ?_
          clear hf; intro a ha hf; clear ha
          obtain ⟨hc140, h⟩ := chk h
          refine st_index (E := (Ek.int .u8)) hf (by decide) Try.underlying26 elt51 rfl rfl rfl (hp.sl (i := 0) rfl) hc140.1 hc140.2 ?_
          clear hf; intro a ha hf; clear ha
          refine st_store (E := (Ek.int .u8)) hf elt51 hp (i := 0) rfl rfl rfl rfl rfl hc140.1 hc140.2 ?_
          clear hf; intro a w hf hp0; clear hp; have hp := hp0; clear hp0
          replace hp : Hp _ _ _ (Res.sl (Ek.int .u8) 51 v129 (in9.set (k26).toNat (gt (now10.set (k26).toNat (((IntKind.u8.wrap ((gt now10 k26) + (1 : Int)))).tmod (3 : Int))) k26)) :: Res.sl (Ek.int .u8) 5 v131 (now10.set (k26).toNat (((IntKind.u8.wrap ((gt now10 k26) + (1 : Int)))).tmod (3 : Int))) :: Res.obj 40 v5 [.int .i64 q3.1.1, .int .u32 q3.1.2.1, .int .u32 q3.1.2.2] :: Res.obj 41 v7 [.int .i64 q3.2.1, .int .u32 q3.2.2.1, .int .u32 q3.2.2.2] :: ow) := hp
          refine st_nil hf ?_
          refine ib_n ?_
          refine th_n ?_
          refine wp_reg ?_
          refine st_move hf rfl rfl (by decide) ?_
          clear hf; intro a ha hf; clear ha
          refine st_iadd hf (by decide) rfl rfl rfl ?_
          clear hf; intro a ha hf; clear ha
          refine st_assign hf rfl rfl (by decide) ?_
          clear hf; intro a ha hf; clear ha
          refine st_nil hf ?_
          obtain rfl := Option.some.inj h
          exact rnd_l ⟨_, _, hf.sub ⟨rfl, rfl, rfl, rfl, rfl, rfl, rfl, trivial⟩, hp⟩
        replace h := ifF h hb
        refine wp_exit ?_
        refine th_e ?_
        obtain rfl := Option.some.inj h
        exact rnd_r (by simp) ⟨rfl, _, _, hf.sub ⟨rfl, rfl, rfl, rfl, rfl, rfl, trivial⟩, hp⟩
      clear hl hf hp
      intro e a w hne hO
      obtain ⟨rfl, v133, v135, hf, hp⟩ := hO
      refine ib_same ?_
      refine ib_n ?_
      refine th_n ?_
      refine wp_reg ?_
      refine st_move hf rfl rfl (by decide) ?_
      clear hf; intro a ha hf; clear ha
      refine st_iadd hf (by decide) rfl rfl rfl ?_
      clear hf; intro a ha hf; clear ha
      refine st_assign hf rfl rfl (by decide) ?_
      clear hf; intro a ha hf; clear ha
      refine st_nil hf ?_
      obtain rfl := Option.some.inj h
      exact rnd_l ⟨_, _, hf.sub ⟨rfl, rfl, rfl, rfl, rfl, rfl, trivial⟩, hp⟩
    replace h := ifF h hb
    refine wp_exit ?_
    refine th_e ?_
    obtain rfl := Option.some.inj h
    have hp : Hp _ _ _ (ow) := Hp.sel (pre := [Res.sl (Ek.int .u8) 51 v17 in9, Res.sl (Ek.int .u8) 5 v19 now10, Res.obj 40 v5 [.int .i64 q3.1.1, .int .u32 q3.1.2.1, .int .u32 q3.1.2.2], Res.obj 41 v7 [.int .i64 q3.2.1, .int .u32 q3.2.2.1, .int .u32 q3.2.2.2]]) (tail := ow) (rs' := []) hp [] (by decide) (by simp) rfl
    exact rnd_r (by simp) ⟨rfl, hf.sub trivial, hp⟩
  clear hl hf hp
  intro e a w hne hO
  rcases q142 with q143 | q144
  · replace h := smL h
    obtain ⟨rfl, hf, hp⟩ := hO
    refine ib_same ?_
    refine th_n ?_
    refine wp_seq ?_
    refine wp_reg ?_
    refine st_assign hf rfl rfl (by decide) ?_
    clear hf; intro a ha hf; clear ha
    refine st_nil hf ?_
    refine th_n ?_
    refine wp_ret ?_
    obtain rfl := Option.some.inj h
    exact ⟨rfl, ⟨hf.sub ⟨rfl, trivial⟩, hp⟩⟩
  replace h := smR h
  obtain ⟨rfl, hf, hp⟩ := hO
  refine ib_r ?_
  refine th_r ?_
  obtain rfl := Option.some.inj h
  exact ⟨rfl, ⟨hf.sub ⟨rfl, trivial⟩, hp⟩⟩

end Go.Proofs.Ythajdlihjobcoaa
