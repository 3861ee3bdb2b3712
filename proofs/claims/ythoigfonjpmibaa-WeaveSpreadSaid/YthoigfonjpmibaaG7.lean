/- The functions 11: what each answers, as a plain function, and that its call answers it; printed by gen.py. -/
import Derived.Test.YthoigfonjpmibaaProg
import Derived.Test.YthoigfonjpmibaaGlS
import Derived.KernelRfl
import Derived.Test.YthoigfonjpmibaaG7p1
set_option linter.unusedVariables false
set_option maxRecDepth 100000
set_option maxHeartbeats 4000000
namespace Go.Proofs.Ythoigfonjpmibaa
open GL
noncomputable def f_foghornlaw17_WeaveSpread.s1c (from0 : Int) (lost12 : (List Int)) (p13 : Int) : Option (((List Int) × Int) ⊕ (List Int)) := (if (decide (from0 ≤ p13)) = true then (if (lost12.length + ([p13]).length) * 8 ≤ 140737488355328 then (some (Sum.inl ((lost12 ++ [p13]), (IntKind.i64.wrap (p13 - (1 : Int)))))) else none) else (some (Sum.inr lost12)))
noncomputable def f_foghornlaw17_WeaveSpread.s1 (from0 : Int) (s : ((List Int) × Int)) : Option (((List Int) × Int) ⊕ (List Int)) := f_foghornlaw17_WeaveSpread.s1c from0 s.1 s.2
noncomputable def f_foghornlaw17_WeaveSpread.s3c (from0 : Int) (to1 : Int) (count2 : Int) (length3 : Int) (m14 : (List (List Int))) (w18 : Int) (k19 : Int) : Option (Int ⊕ (Unit ⊕ Bool)) := (if 0 ≤ w18 ∧ w18 < (m14.length : Int) then (if (decide (k19 < ((gt m14 w18).length : Int))) = true then (if 0 ≤ w18 ∧ w18 < (m14.length : Int) then (if 0 ≤ k19 ∧ k19 < ((gt m14 w18).length : Int) then ((f_weave_Place w18 (gt (gt m14 w18) k19) (IntKind.i64.wrap ((1 : Int) + (((IntKind.i64.wrap (((count2).tmod (60 : Int)) + (60 : Int)))).tmod (60 : Int)))) (IntKind.i64.wrap ((1 : Int) + (((IntKind.i64.wrap (((length3).tmod (60 : Int)) + (60 : Int)))).tmod (60 : Int))))).bind fun q70 => ((if (((q70.2 != (0 : Int)) || (decide (q70.1 < from0))) || (decide (to1 ≤ q70.1))) = true then (some true) else ((if (decide ((0 : Int) < k19)) = true then (if 0 ≤ w18 ∧ w18 < (m14.length : Int) then (if 0 ≤ k19 ∧ k19 < ((gt m14 w18).length : Int) then (if 0 ≤ w18 ∧ w18 < (m14.length : Int) then (if 0 ≤ (IntKind.i64.wrap (k19 - (1 : Int))) ∧ (IntKind.i64.wrap (k19 - (1 : Int))) < ((gt m14 w18).length : Int) then (some (decide ((gt (gt m14 w18) k19) ≤ (gt (gt m14 w18) (IntKind.i64.wrap (k19 - (1 : Int))))))) else none) else none) else none) else none) else (some false)).bind fun z92 => (some z92))).bind fun z93 => (if z93 = true then (some (Sum.inr (Sum.inr false))) else (some (Sum.inl (IntKind.i64.wrap (k19 + (1 : Int)))))))) else none) else none) else (some (Sum.inr (Sum.inl ())))) else none)
noncomputable def f_foghornlaw17_WeaveSpread.s3 (from0 : Int) (to1 : Int) (count2 : Int) (length3 : Int) (m14 : (List (List Int))) (w18 : Int) (s : Int) : Option (Int ⊕ (Unit ⊕ Bool)) := f_foghornlaw17_WeaveSpread.s3c from0 to1 count2 length3 m14 w18 s
noncomputable def f_foghornlaw17_WeaveSpread.s2c (from0 : Int) (to1 : Int) (count2 : Int) (length3 : Int) (l10 : (List Int)) (m14 : (List (List Int))) (sum17 : Int) (w18 : Int) : Option (((List Int) × (List (List Int)) × Int × Int) ⊕ (Int ⊕ Bool)) := (if (decide (w18 < (IntKind.i64.wrap ((1 : Int) + (((IntKind.i64.wrap (((count2).tmod (60 : Int)) + (60 : Int)))).tmod (60 : Int)))))) = true then (if 0 ≤ w18 ∧ w18 < (l10.length : Int) then (if (IntKind.i64.wrap ((1 : Int) + (((IntKind.i64.wrap (((count2).tmod (60 : Int)) + (60 : Int)))).tmod (60 : Int)))) ≠ 0 then ((if (decide ((gt l10 w18) < (IntKind.i64.wrap (((IntKind.i64.wrap (to1 - from0))).tdiv (IntKind.i64.wrap ((1 : Int) + (((IntKind.i64.wrap (((count2).tmod (60 : Int)) + (60 : Int)))).tmod (60 : Int)))))))) = true then (some true) else (if 0 ≤ w18 ∧ w18 < (l10.length : Int) then (if (IntKind.i64.wrap ((1 : Int) + (((IntKind.i64.wrap (((count2).tmod (60 : Int)) + (60 : Int)))).tmod (60 : Int)))) ≠ 0 then (some (decide ((IntKind.i64.wrap (((IntKind.i64.wrap ((IntKind.i64.wrap ((IntKind.i64.wrap (to1 - from0)) + (IntKind.i64.wrap ((1 : Int) + (((IntKind.i64.wrap (((count2).tmod (60 : Int)) + (60 : Int)))).tmod (60 : Int)))))) - (1 : Int)))).tdiv (IntKind.i64.wrap ((1 : Int) + (((IntKind.i64.wrap (((count2).tmod (60 : Int)) + (60 : Int)))).tmod (60 : Int)))))) < (gt l10 w18)))) else none) else none)).bind fun z60 => ((if z60 = true then (some true) else (if 0 ≤ w18 ∧ w18 < (m14.length : Int) then (if 0 ≤ w18 ∧ w18 < (l10.length : Int) then (some (((gt m14 w18).length : Int) != (gt l10 w18))) else none) else none)).bind fun z65 => (if z65 = true then (some (Sum.inr (Sum.inr false))) else (if 0 ≤ w18 ∧ w18 < (l10.length : Int) then ((loop (f_foghornlaw17_WeaveSpread.s3 from0 to1 count2 length3 m14 w18) (0 : Int)).bind (fun q94 => sm q94 (fun q95 => (some (Sum.inl (l10, m14, (IntKind.i64.wrap (sum17 + (gt l10 w18))), (IntKind.i64.wrap (w18 + (1 : Int))))))) (fun q96 => (some (Sum.inr (Sum.inr q96)))))) else none)))) else none) else none) else (some (Sum.inr (Sum.inl sum17))))
noncomputable def f_foghornlaw17_WeaveSpread.s2 (from0 : Int) (to1 : Int) (count2 : Int) (length3 : Int) (s : ((List Int) × (List (List Int)) × Int × Int)) : Option (((List Int) × (List (List Int)) × Int × Int) ⊕ (Int ⊕ Bool)) := f_foghornlaw17_WeaveSpread.s2c from0 to1 count2 length3 s.1 s.2.1 s.2.2.1 s.2.2.2
noncomputable def f_foghornlaw17_WeaveSpread.j1 (count2 : Int) (length3 : Int) (from0 : Int) (to1 : Int) : Option Bool := ((f_weave_Hit from0 to1 (IntKind.i64.wrap ((1 : Int) + (((IntKind.i64.wrap (((count2).tmod (60 : Int)) + (60 : Int)))).tmod (60 : Int)))) (IntKind.i64.wrap ((1 : Int) + (((IntKind.i64.wrap (((length3).tmod (60 : Int)) + (60 : Int)))).tmod (60 : Int))))).bind fun q7 => ((loop (f_foghornlaw17_WeaveSpread.s1 from0) ([], (IntKind.i64.wrap (to1 - (1 : Int))))).bind (fun q19 => ((f_weave_Marks q19 (IntKind.i64.wrap ((1 : Int) + (((IntKind.i64.wrap (((count2).tmod (60 : Int)) + (60 : Int)))).tmod (60 : Int)))) (IntKind.i64.wrap ((1 : Int) + (((IntKind.i64.wrap (((length3).tmod (60 : Int)) + (60 : Int)))).tmod (60 : Int))))).bind fun q21 => (if ((((q7.2 != (0 : Int)) || (q21.2 != (0 : Int))) || ((q7.1.length : Int) != (IntKind.i64.wrap ((1 : Int) + (((IntKind.i64.wrap (((count2).tmod (60 : Int)) + (60 : Int)))).tmod (60 : Int)))))) || ((q21.1.length : Int) != (IntKind.i64.wrap ((1 : Int) + (((IntKind.i64.wrap (((count2).tmod (60 : Int)) + (60 : Int)))).tmod (60 : Int)))))) = true then (some false) else ((loop (f_foghornlaw17_WeaveSpread.s2 from0 to1 count2 length3) (q7.1, q21.1, (0 : Int), (0 : Int))).bind (fun q97 => sm q97 (fun q98 => (some (q98 == (IntKind.i64.wrap (to1 - from0))))) (fun q99 => (some q99)))))))))
noncomputable def f_foghornlaw17_WeaveSpread (from0 : Int) (to1 : Int) (count2 : Int) (length3 : Int) : Option Bool := ((f_foghornlaw17_awake).bind fun q1 => (if (!q1) = true then (some false) else (if (IntKind.i64.wrap ((IntKind.i64.wrap ((IntKind.i64.wrap ((1 : Int) + (((IntKind.i64.wrap (((count2).tmod (60 : Int)) + (60 : Int)))).tmod (60 : Int)))) * (IntKind.i64.wrap ((1 : Int) + (((IntKind.i64.wrap (((length3).tmod (60 : Int)) + (60 : Int)))).tmod (60 : Int)))))) + (1 : Int))) ≠ 0 then (if (IntKind.i64.wrap ((IntKind.i64.wrap ((IntKind.i64.wrap ((1 : Int) + (((IntKind.i64.wrap (((count2).tmod (60 : Int)) + (60 : Int)))).tmod (60 : Int)))) * (IntKind.i64.wrap ((1 : Int) + (((IntKind.i64.wrap (((length3).tmod (60 : Int)) + (60 : Int)))).tmod (60 : Int)))))) + (1 : Int))) ≠ 0 then (if (IntKind.i64.wrap ((IntKind.i64.wrap ((IntKind.i64.wrap ((1 : Int) + (((IntKind.i64.wrap (((count2).tmod (60 : Int)) + (60 : Int)))).tmod (60 : Int)))) * (IntKind.i64.wrap ((1 : Int) + (((IntKind.i64.wrap (((length3).tmod (60 : Int)) + (60 : Int)))).tmod (60 : Int)))))) + (1 : Int))) ≠ 0 then (if (IntKind.i64.wrap ((IntKind.i64.wrap ((IntKind.i64.wrap ((1 : Int) + (((IntKind.i64.wrap (((count2).tmod (60 : Int)) + (60 : Int)))).tmod (60 : Int)))) * (IntKind.i64.wrap ((1 : Int) + (((IntKind.i64.wrap (((length3).tmod (60 : Int)) + (60 : Int)))).tmod (60 : Int)))))) + (1 : Int))) ≠ 0 then (if (decide ((((IntKind.i64.wrap ((IntKind.i64.wrap (((to1).tmod (IntKind.i64.wrap ((IntKind.i64.wrap ((IntKind.i64.wrap ((1 : Int) + (((IntKind.i64.wrap (((count2).tmod (60 : Int)) + (60 : Int)))).tmod (60 : Int)))) * (IntKind.i64.wrap ((1 : Int) + (((IntKind.i64.wrap (((length3).tmod (60 : Int)) + (60 : Int)))).tmod (60 : Int)))))) + (1 : Int)))) + (IntKind.i64.wrap ((IntKind.i64.wrap ((1 : Int) + (((IntKind.i64.wrap (((count2).tmod (60 : Int)) + (60 : Int)))).tmod (60 : Int)))) * (IntKind.i64.wrap ((1 : Int) + (((IntKind.i64.wrap (((length3).tmod (60 : Int)) + (60 : Int)))).tmod (60 : Int)))))))) + (1 : Int)))).tmod (IntKind.i64.wrap ((IntKind.i64.wrap ((IntKind.i64.wrap ((1 : Int) + (((IntKind.i64.wrap (((count2).tmod (60 : Int)) + (60 : Int)))).tmod (60 : Int)))) * (IntKind.i64.wrap ((1 : Int) + (((IntKind.i64.wrap (((length3).tmod (60 : Int)) + (60 : Int)))).tmod (60 : Int)))))) + (1 : Int)))) < (((IntKind.i64.wrap ((IntKind.i64.wrap (((from0).tmod (IntKind.i64.wrap ((IntKind.i64.wrap ((IntKind.i64.wrap ((1 : Int) + (((IntKind.i64.wrap (((count2).tmod (60 : Int)) + (60 : Int)))).tmod (60 : Int)))) * (IntKind.i64.wrap ((1 : Int) + (((IntKind.i64.wrap (((length3).tmod (60 : Int)) + (60 : Int)))).tmod (60 : Int)))))) + (1 : Int)))) + (IntKind.i64.wrap ((IntKind.i64.wrap ((1 : Int) + (((IntKind.i64.wrap (((count2).tmod (60 : Int)) + (60 : Int)))).tmod (60 : Int)))) * (IntKind.i64.wrap ((1 : Int) + (((IntKind.i64.wrap (((length3).tmod (60 : Int)) + (60 : Int)))).tmod (60 : Int)))))))) + (1 : Int)))).tmod (IntKind.i64.wrap ((IntKind.i64.wrap ((IntKind.i64.wrap ((1 : Int) + (((IntKind.i64.wrap (((count2).tmod (60 : Int)) + (60 : Int)))).tmod (60 : Int)))) * (IntKind.i64.wrap ((1 : Int) + (((IntKind.i64.wrap (((length3).tmod (60 : Int)) + (60 : Int)))).tmod (60 : Int)))))) + (1 : Int)))))) = true then (f_foghornlaw17_WeaveSpread.j1 count2 length3 (((IntKind.i64.wrap ((IntKind.i64.wrap (((to1).tmod (IntKind.i64.wrap ((IntKind.i64.wrap ((IntKind.i64.wrap ((1 : Int) + (((IntKind.i64.wrap (((count2).tmod (60 : Int)) + (60 : Int)))).tmod (60 : Int)))) * (IntKind.i64.wrap ((1 : Int) + (((IntKind.i64.wrap (((length3).tmod (60 : Int)) + (60 : Int)))).tmod (60 : Int)))))) + (1 : Int)))) + (IntKind.i64.wrap ((IntKind.i64.wrap ((1 : Int) + (((IntKind.i64.wrap (((count2).tmod (60 : Int)) + (60 : Int)))).tmod (60 : Int)))) * (IntKind.i64.wrap ((1 : Int) + (((IntKind.i64.wrap (((length3).tmod (60 : Int)) + (60 : Int)))).tmod (60 : Int)))))))) + (1 : Int)))).tmod (IntKind.i64.wrap ((IntKind.i64.wrap ((IntKind.i64.wrap ((1 : Int) + (((IntKind.i64.wrap (((count2).tmod (60 : Int)) + (60 : Int)))).tmod (60 : Int)))) * (IntKind.i64.wrap ((1 : Int) + (((IntKind.i64.wrap (((length3).tmod (60 : Int)) + (60 : Int)))).tmod (60 : Int)))))) + (1 : Int)))) (((IntKind.i64.wrap ((IntKind.i64.wrap (((from0).tmod (IntKind.i64.wrap ((IntKind.i64.wrap ((IntKind.i64.wrap ((1 : Int) + (((IntKind.i64.wrap (((count2).tmod (60 : Int)) + (60 : Int)))).tmod (60 : Int)))) * (IntKind.i64.wrap ((1 : Int) + (((IntKind.i64.wrap (((length3).tmod (60 : Int)) + (60 : Int)))).tmod (60 : Int)))))) + (1 : Int)))) + (IntKind.i64.wrap ((IntKind.i64.wrap ((1 : Int) + (((IntKind.i64.wrap (((count2).tmod (60 : Int)) + (60 : Int)))).tmod (60 : Int)))) * (IntKind.i64.wrap ((1 : Int) + (((IntKind.i64.wrap (((length3).tmod (60 : Int)) + (60 : Int)))).tmod (60 : Int)))))))) + (1 : Int)))).tmod (IntKind.i64.wrap ((IntKind.i64.wrap ((IntKind.i64.wrap ((1 : Int) + (((IntKind.i64.wrap (((count2).tmod (60 : Int)) + (60 : Int)))).tmod (60 : Int)))) * (IntKind.i64.wrap ((1 : Int) + (((IntKind.i64.wrap (((length3).tmod (60 : Int)) + (60 : Int)))).tmod (60 : Int)))))) + (1 : Int))))) else (f_foghornlaw17_WeaveSpread.j1 count2 length3 (((IntKind.i64.wrap ((IntKind.i64.wrap (((from0).tmod (IntKind.i64.wrap ((IntKind.i64.wrap ((IntKind.i64.wrap ((1 : Int) + (((IntKind.i64.wrap (((count2).tmod (60 : Int)) + (60 : Int)))).tmod (60 : Int)))) * (IntKind.i64.wrap ((1 : Int) + (((IntKind.i64.wrap (((length3).tmod (60 : Int)) + (60 : Int)))).tmod (60 : Int)))))) + (1 : Int)))) + (IntKind.i64.wrap ((IntKind.i64.wrap ((1 : Int) + (((IntKind.i64.wrap (((count2).tmod (60 : Int)) + (60 : Int)))).tmod (60 : Int)))) * (IntKind.i64.wrap ((1 : Int) + (((IntKind.i64.wrap (((length3).tmod (60 : Int)) + (60 : Int)))).tmod (60 : Int)))))))) + (1 : Int)))).tmod (IntKind.i64.wrap ((IntKind.i64.wrap ((IntKind.i64.wrap ((1 : Int) + (((IntKind.i64.wrap (((count2).tmod (60 : Int)) + (60 : Int)))).tmod (60 : Int)))) * (IntKind.i64.wrap ((1 : Int) + (((IntKind.i64.wrap (((length3).tmod (60 : Int)) + (60 : Int)))).tmod (60 : Int)))))) + (1 : Int)))) (((IntKind.i64.wrap ((IntKind.i64.wrap (((to1).tmod (IntKind.i64.wrap ((IntKind.i64.wrap ((IntKind.i64.wrap ((1 : Int) + (((IntKind.i64.wrap (((count2).tmod (60 : Int)) + (60 : Int)))).tmod (60 : Int)))) * (IntKind.i64.wrap ((1 : Int) + (((IntKind.i64.wrap (((length3).tmod (60 : Int)) + (60 : Int)))).tmod (60 : Int)))))) + (1 : Int)))) + (IntKind.i64.wrap ((IntKind.i64.wrap ((1 : Int) + (((IntKind.i64.wrap (((count2).tmod (60 : Int)) + (60 : Int)))).tmod (60 : Int)))) * (IntKind.i64.wrap ((1 : Int) + (((IntKind.i64.wrap (((length3).tmod (60 : Int)) + (60 : Int)))).tmod (60 : Int)))))))) + (1 : Int)))).tmod (IntKind.i64.wrap ((IntKind.i64.wrap ((IntKind.i64.wrap ((1 : Int) + (((IntKind.i64.wrap (((count2).tmod (60 : Int)) + (60 : Int)))).tmod (60 : Int)))) * (IntKind.i64.wrap ((1 : Int) + (((IntKind.i64.wrap (((length3).tmod (60 : Int)) + (60 : Int)))).tmod (60 : Int)))))) + (1 : Int)))))) else none) else none) else none) else none)))
theorem f_foghornlaw17_WeaveSpread_c {S : Nat → Prop} {w0 w : World} {ow : List Res} (hp : Hp S w0 w ow) (from0 : Int) (to1 : Int) (count2 : Int) (length3 : Int) {r : Bool} (h : f_foghornlaw17_WeaveSpread from0 to1 count2 length3 = some r) :
    Calls Try.prog 11 #[.int .i64 from0, .int .i64 to1, .int .i64 count2, .int .i64 length3] w (fun e w' => e = .returned (.bool r) ∧ Hp S w0 w' (ow)) := by
  unfold f_foghornlaw17_WeaveSpread at h
  refine enter (n := 213) (args := [.int .i64 from0, .int .i64 to1, .int .i64 count2, .int .i64 length3]) Try.func11 rfl rfl (Nat.le_of_ble_eq_true rfl) fun a hf => ?_
  replace hf : Fr 213 a [(0, .int .i64 from0), (1, .int .i64 to1), (2, .int .i64 count2), (3, .int .i64 length3)] := hf
  refine wp_mono (Q := fun e a w => e = .ret ∧ Fr 213 a [(8, .bool r)] ∧ Hp S w0 w (ow)) ?_ ?_
  rotate_left
  · rintro e a w ⟨rfl, hf, hp⟩
    exact ret1 hf rfl rfl ⟨rfl, hp⟩
  refine wp_seq ?_
  refine wp_reg ?_
  refine st_assign hf rfl rfl (by decide) ?_
  clear hf; intro a ha hf; clear ha
  refine st_nil hf ?_
  refine th_n ?_
  refine wp_seq ?_
  refine wp_seq ?_
  refine wp_reg ?_
  obtain ⟨q1, hcall2, h⟩ := bnd h
  refine st_call hf (by decide) Try.func36 rfl rfl rfl rfl rfl (f_foghornlaw17_awake_c hp  hcall2) ?_
  rintro _ w ⟨rfl, hp0⟩
  clear hp; have hp := hp0; clear hp0
  replace hp : Hp _ _ _ (ow) := hp
  refine ⟨_, rfl, ?_⟩
  clear hf; intro a hf
  refine st_not hf (by decide) rfl rfl ?_
  clear hf; intro a ha hf; clear ha
  refine st_nil hf ?_
  refine th_n ?_
  refine wp_if hf rfl (fun hb => ?_) (fun hb => ?_)
  · replace h := ifT h hb
    refine wp_seq ?_
    refine wp_reg ?_
    refine st_assign hf rfl rfl (by decide) ?_
    clear hf; intro a ha hf; clear ha
    refine st_nil hf ?_
    refine th_n ?_
    refine wp_ret ?_
    refine th_r ?_
    obtain rfl := Option.some.inj h
    exact ⟨rfl, ⟨hf.sub ⟨rfl, trivial⟩, hp⟩⟩
  · replace h := ifF h hb
    refine wp_skip ?_
    refine th_n ?_
    refine wp_seq ?_
    refine wp_reg ?_
    refine st_move hf rfl rfl (by decide) ?_
    clear hf; intro a ha hf; clear ha
    refine st_irem hf (by decide) rfl rfl rfl (by decide) ?_
    clear hf; intro a ha hf; clear ha
    refine st_iadd hf (by decide) rfl rfl rfl ?_
    clear hf; intro a ha hf; clear ha
    refine st_irem hf (by decide) rfl rfl rfl (by decide) ?_
    clear hf; intro a ha hf; clear ha
    refine st_iadd hf (by decide) rfl rfl rfl ?_
    clear hf; intro a ha hf; clear ha
    refine st_assign hf rfl rfl (by decide) ?_
    clear hf; intro a ha hf; clear ha
    refine st_nil hf ?_
    refine th_n ?_
    refine wp_seq ?_
    refine wp_reg ?_
    refine st_move hf rfl rfl (by decide) ?_
    clear hf; intro a ha hf; clear ha
    refine st_irem hf (by decide) rfl rfl rfl (by decide) ?_
    clear hf; intro a ha hf; clear ha
    refine st_iadd hf (by decide) rfl rfl rfl ?_
    clear hf; intro a ha hf; clear ha
    refine st_irem hf (by decide) rfl rfl rfl (by decide) ?_
    clear hf; intro a ha hf; clear ha
    refine st_iadd hf (by decide) rfl rfl rfl ?_
    clear hf; intro a ha hf; clear ha
    refine st_assign hf rfl rfl (by decide) ?_
    clear hf; intro a ha hf; clear ha
    refine st_nil hf ?_
    refine th_n ?_
    refine wp_seq ?_
    refine wp_reg ?_
    refine st_move hf rfl rfl (by decide) ?_
    clear hf; intro a ha hf; clear ha
    refine st_move hf rfl rfl (by decide) ?_
    clear hf; intro a ha hf; clear ha
    refine st_imul hf (by decide) rfl rfl rfl ?_
    clear hf; intro a ha hf; clear ha
    refine st_assign hf rfl rfl (by decide) ?_
    clear hf; intro a ha hf; clear ha
    refine st_nil hf ?_
    refine th_n ?_
    refine wp_seq ?_
    refine wp_reg ?_
    refine st_move hf rfl rfl (by decide) ?_
    clear hf; intro a ha hf; clear ha
    refine st_move hf rfl rfl (by decide) ?_
    clear hf; intro a ha hf; clear ha
    refine st_iadd hf (by decide) rfl rfl rfl ?_
    clear hf; intro a ha hf; clear ha
    obtain ⟨hc3, h⟩ := chk h
    refine st_irem hf (by decide) rfl rfl rfl hc3 ?_
    clear hf; intro a ha hf; clear ha
    refine st_move hf rfl rfl (by decide) ?_
    clear hf; intro a ha hf; clear ha
    refine st_iadd hf (by decide) rfl rfl rfl ?_
    clear hf; intro a ha hf; clear ha
    refine st_iadd hf (by decide) rfl rfl rfl ?_
    clear hf; intro a ha hf; clear ha
    refine st_move hf rfl rfl (by decide) ?_
    clear hf; intro a ha hf; clear ha
    refine st_iadd hf (by decide) rfl rfl rfl ?_
    clear hf; intro a ha hf; clear ha
    obtain ⟨hc4, h⟩ := chk h
    refine st_irem hf (by decide) rfl rfl rfl hc4 ?_
    clear hf; intro a ha hf; clear ha
    refine st_assign hf rfl rfl (by decide) ?_
    clear hf; intro a ha hf; clear ha
    refine st_nil hf ?_
    refine th_n ?_
    refine wp_seq ?_
    refine wp_reg ?_
    refine st_move hf rfl rfl (by decide) ?_
    clear hf; intro a ha hf; clear ha
    refine st_move hf rfl rfl (by decide) ?_
    clear hf; intro a ha hf; clear ha
    refine st_iadd hf (by decide) rfl rfl rfl ?_
    clear hf; intro a ha hf; clear ha
    obtain ⟨hc5, h⟩ := chk h
    refine st_irem hf (by decide) rfl rfl rfl hc5 ?_
    clear hf; intro a ha hf; clear ha
    refine st_move hf rfl rfl (by decide) ?_
    clear hf; intro a ha hf; clear ha
    refine st_iadd hf (by decide) rfl rfl rfl ?_
    clear hf; intro a ha hf; clear ha
    refine st_iadd hf (by decide) rfl rfl rfl ?_
    clear hf; intro a ha hf; clear ha
    refine st_move hf rfl rfl (by decide) ?_
    clear hf; intro a ha hf; clear ha
    refine st_iadd hf (by decide) rfl rfl rfl ?_
    clear hf; intro a ha hf; clear ha
    obtain ⟨hc6, h⟩ := chk h
    refine st_irem hf (by decide) rfl rfl rfl hc6 ?_
    clear hf; intro a ha hf; clear ha
    refine st_assign hf rfl rfl (by decide) ?_
    clear hf; intro a ha hf; clear ha
    refine st_nil hf ?_
    refine th_n ?_
    refine wp_seq_cut (fun a w => ∃ (from0 : Int) (to1 : Int), f_foghornlaw17_WeaveSpread.j1 count2 length3 from0 to1 = some r ∧ Fr 213 a [(0, .int .i64 from0), (1, .int .i64 to1), (2, .int .i64 (IntKind.i64.wrap ((1 : Int) + (((IntKind.i64.wrap (((count2).tmod (60 : Int)) + (60 : Int)))).tmod (60 : Int))))), (3, .int .i64 (IntKind.i64.wrap ((1 : Int) + (((IntKind.i64.wrap (((length3).tmod (60 : Int)) + (60 : Int)))).tmod (60 : Int)))))] ∧ Hp S w0 w (ow)) ?_ ?_
    · skip
      refine wp_seq ?_
      refine wp_reg ?_
      refine st_move hf rfl rfl (by decide) ?_
      clear hf; intro a ha hf; clear ha
      refine st_move hf rfl rfl (by decide) ?_
      clear hf; intro a ha hf; clear ha
      refine st_igtr hf (by decide) rfl rfl rfl ?_
      clear hf; intro a ha hf; clear ha
      refine st_nil hf ?_
      refine th_n ?_
      refine wp_if hf rfl (fun hb => ?_) (fun hb => ?_)
      · replace h := ifT h hb
        refine wp_reg ?_
        refine st_move hf rfl rfl (by decide) ?_
        clear hf; intro a ha hf; clear ha
        refine st_move hf rfl rfl (by decide) ?_
        clear hf; intro a ha hf; clear ha
        refine st_assign hf rfl rfl (by decide) ?_
        clear hf; intro a ha hf; clear ha
        refine st_assign hf rfl rfl (by decide) ?_
        clear hf; intro a ha hf; clear ha
        refine st_nil hf ?_
        refine th_n ?_
        exact ⟨_, _, h, hf.sub ⟨rfl, rfl, rfl, rfl, trivial⟩, hp⟩
      · replace h := ifF h hb
        refine wp_skip ?_
        refine th_n ?_
        exact ⟨_, _, h, hf.sub ⟨rfl, rfl, rfl, rfl, trivial⟩, hp⟩
    · rintro a w ⟨from0, to1, h, hf, hp⟩
      unfold f_foghornlaw17_WeaveSpread.j1 at h
      refine wp_seq ?_
      refine wp_reg ?_
      refine st_move hf rfl rfl (by decide) ?_
      clear hf; intro a ha hf; clear ha
      refine st_move hf rfl rfl (by decide) ?_
      clear hf; intro a ha hf; clear ha
      refine st_move hf rfl rfl (by decide) ?_
      clear hf; intro a ha hf; clear ha
      refine st_move hf rfl rfl (by decide) ?_
      clear hf; intro a ha hf; clear ha
      obtain ⟨q7, hcall8, h⟩ := bnd h
      refine st_call hf (by decide) Try.func21 rfl rfl rfl rfl rfl (f_weave_Hit_c hp _ _ _ _ hcall8) ?_
      rintro _ w ⟨v9, rfl, hp0⟩
      clear hp; have hp := hp0; clear hp0
      replace hp : Hp _ _ _ (Res.sl (Ek.int .i64) 3 v9 q7.1 :: ow) := hp
      refine ⟨_, rfl, ?_⟩
      clear hf; intro a hf
      refine st_move hf rfl rfl (by decide) ?_
      clear hf; intro a ha hf; clear ha
      refine st_extract hf (by decide) rfl rfl rfl ?_
      clear hf; intro a ha hf; clear ha
      refine st_extract hf (by decide) rfl rfl rfl ?_
      clear hf; intro a ha hf; clear ha
      refine st_assign hf rfl rfl (by decide) ?_
      clear hf; intro a ha hf; clear ha
      refine st_assign hf rfl rfl (by decide) ?_
      clear hf; intro a ha hf; clear ha
      refine st_nil hf ?_
      refine th_n ?_
      refine wp_seq ?_
      refine wp_reg ?_
      refine st_assign hf rfl rfl (by decide) ?_
      clear hf; intro a ha hf; clear ha
      refine st_nil hf ?_
      refine th_n ?_
      refine wp_seq ?_
      refine wp_seq ?_
      refine wp_reg ?_
      refine st_move hf rfl rfl (by decide) ?_
      clear hf; intro a ha hf; clear ha
      refine st_isub hf (by decide) rfl rfl rfl ?_
      clear hf; intro a ha hf; clear ha
      refine st_assign hf rfl rfl (by decide) ?_
      clear hf; intro a ha hf; clear ha
      refine st_nil hf ?_
      refine th_n ?_
      refine wp_block ?_
      obtain ⟨q19, hl, h⟩ := bnd h
      have hp := hp.nil (Ek.int .i64) 3
      refine wp_loop_pure (f := (f_foghornlaw17_WeaveSpread.s1 from0)) (s := ([], (IntKind.i64.wrap (to1 - (1 : Int))))) (fun s a w => ∃ (v11 : Value), Fr 213 a [(0, .int .i64 from0), (1, .int .i64 to1), (2, .int .i64 (IntKind.i64.wrap ((1 : Int) + (((IntKind.i64.wrap (((count2).tmod (60 : Int)) + (60 : Int)))).tmod (60 : Int))))), (3, .int .i64 (IntKind.i64.wrap ((1 : Int) + (((IntKind.i64.wrap (((length3).tmod (60 : Int)) + (60 : Int)))).tmod (60 : Int))))), (10, v9), (11, .int .i64 q7.2), (12, v11), (13, .int .i64 s.2)] ∧ Hp S w0 w (Res.sl (Ek.int .i64) 3 v11 s.1 :: Res.sl (Ek.int .i64) 3 v9 q7.1 :: ow)) (fun q e a w => e = .exit 0 ∧ ∃ (v13 : Value), Fr 213 a [(0, .int .i64 from0), (1, .int .i64 to1), (2, .int .i64 (IntKind.i64.wrap ((1 : Int) + (((IntKind.i64.wrap (((count2).tmod (60 : Int)) + (60 : Int)))).tmod (60 : Int))))), (3, .int .i64 (IntKind.i64.wrap ((1 : Int) + (((IntKind.i64.wrap (((length3).tmod (60 : Int)) + (60 : Int)))).tmod (60 : Int))))), (10, v9), (11, .int .i64 q7.2), (12, v13)] ∧ Hp S w0 w (Res.sl (Ek.int .i64) 3 v13 q :: Res.sl (Ek.int .i64) 3 v9 q7.1 :: ow)) ?_ hl ⟨_, hf.sub ⟨rfl, rfl, rfl, rfl, rfl, rfl, rfl, rfl, trivial⟩, hp⟩ ?_
      · clear hl hf hp
        intro s x a w h hI
        obtain ⟨lost12, p13⟩ := s
        obtain ⟨v11, hf, hp⟩ : ∃ (v11 : Value), Fr 213 a [(0, .int .i64 from0), (1, .int .i64 to1), (2, .int .i64 (IntKind.i64.wrap ((1 : Int) + (((IntKind.i64.wrap (((count2).tmod (60 : Int)) + (60 : Int)))).tmod (60 : Int))))), (3, .int .i64 (IntKind.i64.wrap ((1 : Int) + (((IntKind.i64.wrap (((length3).tmod (60 : Int)) + (60 : Int)))).tmod (60 : Int))))), (10, v9), (11, .int .i64 q7.2), (12, v11), (13, .int .i64 p13)] ∧ Hp S w0 w (Res.sl (Ek.int .i64) 3 v11 lost12 :: Res.sl (Ek.int .i64) 3 v9 q7.1 :: ow) := hI
        replace h : f_foghornlaw17_WeaveSpread.s1c from0 lost12 p13 = some x := h
        unfold f_foghornlaw17_WeaveSpread.s1c at h
        refine wp_seq ?_
        refine wp_seq ?_
        refine wp_reg ?_
        refine st_move hf rfl rfl (by decide) ?_
        clear hf; intro a ha hf; clear ha
        refine st_move hf rfl rfl (by decide) ?_
        clear hf; intro a ha hf; clear ha
        refine st_igeq hf (by decide) rfl rfl rfl ?_
        clear hf; intro a ha hf; clear ha
        refine st_nil hf ?_
        refine th_n ?_
        refine wp_if hf rfl (fun hb => ?_) (fun hb => ?_)
        · replace h := ifT h hb
          refine wp_skip ?_
          refine th_n ?_
          refine wp_seq ?_
          refine wp_block ?_
          refine wp_reg ?_
          refine st_move hf rfl rfl (by decide) ?_
          clear hf; intro a ha hf; clear ha
          refine st_move hf rfl rfl (by decide) ?_
          clear hf; intro a ha hf; clear ha
          refine st_build (E := (Ek.int .i64)) (xs := [p13]) hf (by decide) elt3 Try.underlying22 hp (vals := #[(0, .int .i64 p13)]) (cells := #[.int .i64 p13]) rfl (by simp [hf.ev (x := (Operand.tmp 78)) rfl]) (by decide) (by decide) (z := .int .i64 0) (by kernel_rfl) (by kernel_rfl) rfl (reps_cons (cs := [.int .i64 p13]) rfl (reps_nil _)) ?_
          clear hf; intro a w v15 hf hp0; clear hp; have hp := hp0; clear hp0
          replace hp : Hp _ _ _ (Res.sl (Ek.int .i64) 3 v15 ([p13]) :: Res.sl (Ek.int .i64) 3 v11 lost12 :: Res.sl (Ek.int .i64) 3 v9 q7.1 :: ow) := hp
          obtain ⟨hc17, h⟩ := chk h
          refine st_append (E := (Ek.int .i64)) hf (by decide) elt3 Try.underlying22 (by decide) hp (i := 1) rfl rfl rfl rfl (hp.sl (i := 0) rfl) hc17 ?_
          clear hf; intro a w v18 hf hp0; clear hp; have hp := hp0; clear hp0
          replace hp : Hp _ _ _ (Res.sl (Ek.int .i64) 3 v15 ([p13]) :: Res.sl (Ek.int .i64) 3 v18 (lost12 ++ [p13]) :: Res.sl (Ek.int .i64) 3 v9 q7.1 :: ow) := hp
          refine st_assign hf rfl rfl (by decide) ?_
          clear hf; intro a ha hf; clear ha
          refine st_nil hf ?_
          refine ib_n ?_
          refine th_n ?_
          refine wp_reg ?_
          refine st_move hf rfl rfl (by decide) ?_
          clear hf; intro a ha hf; clear ha
          refine st_isub hf (by decide) rfl rfl rfl ?_
          clear hf; intro a ha hf; clear ha
          refine st_assign hf rfl rfl (by decide) ?_
          clear hf; intro a ha hf; clear ha
          refine st_nil hf ?_
          obtain rfl := Option.some.inj h
          have hp : Hp _ _ _ (Res.sl (Ek.int .i64) 3 v18 (lost12 ++ [p13]) :: Res.sl (Ek.int .i64) 3 v9 q7.1 :: ow) := Hp.sel (pre := [Res.sl (Ek.int .i64) 3 v15 ([p13]), Res.sl (Ek.int .i64) 3 v18 (lost12 ++ [p13]), Res.sl (Ek.int .i64) 3 v9 q7.1]) (tail := ow) (rs' := [Res.sl (Ek.int .i64) 3 v18 (lost12 ++ [p13]), Res.sl (Ek.int .i64) 3 v9 q7.1]) hp [1, 2] (by decide) (by simp) rfl
          exact rnd_l ⟨_, hf.sub ⟨rfl, rfl, rfl, rfl, rfl, rfl, rfl, rfl, trivial⟩, hp⟩
        · replace h := ifF h hb
          refine wp_exit ?_
          refine th_e ?_
          obtain rfl := Option.some.inj h
          exact rnd_r (by simp) ⟨rfl, _, hf.sub ⟨rfl, rfl, rfl, rfl, rfl, rfl, rfl, trivial⟩, hp⟩
      · clear hl hf hp
        intro e a w hne hO
        obtain ⟨rfl, v13, hf, hp⟩ := hO
        refine ib_same ?_
        refine th_n ?_
        refine wp_seq ?_
        refine wp_reg ?_
        refine st_move hf rfl rfl (by decide) ?_
        clear hf; intro a ha hf; clear ha
        refine st_move hf rfl rfl (by decide) ?_
        clear hf; intro a ha hf; clear ha
        refine st_move hf rfl rfl (by decide) ?_
        clear hf; intro a ha hf; clear ha
        obtain ⟨q21, hcall22, h⟩ := bnd h
        obtain ⟨S23, hp24, rd25, up26, bk27⟩ := Hp.lendS hp (i := 0) rfl
        refine st_call hf (by decide) Try.func13 rfl rfl rfl rfl rfl (f_weave_Marks_c hp24 _ _ rd25 _ _ hcall22) ?_
        rintro _ w ⟨v28, v29, rfl, hp0⟩
        have hp0 := bk27 _ _ hp0
        clear hp; have hp := hp0; clear hp0
        replace hp : Hp _ _ _ (Res.sl (Ek.int .i64) 3 v13 q19 :: Res.rows (RowK.sl (Ek.int .i64) 3) 22 v28 v29 q21.1 :: Res.sl (Ek.int .i64) 3 v9 q7.1 :: ow) := hp
        refine ⟨_, rfl, ?_⟩
        clear hf; intro a hf
        refine st_move hf rfl rfl (by decide) ?_
        clear hf; intro a ha hf; clear ha
        refine st_extract hf (by decide) rfl rfl rfl ?_
        clear hf; intro a ha hf; clear ha
        refine st_extract hf (by decide) rfl rfl rfl ?_
        clear hf; intro a ha hf; clear ha
        refine st_assign hf rfl rfl (by decide) ?_
        clear hf; intro a ha hf; clear ha
        refine st_assign hf rfl rfl (by decide) ?_
        clear hf; intro a ha hf; clear ha
        refine st_nil hf ?_
        refine th_n ?_
        refine wp_seq ?_
        refine wp_seq ?_
        refine wp_reg ?_
        refine st_move hf rfl rfl (by decide) ?_
        clear hf; intro a ha hf; clear ha
        refine st_ineq hf (by decide) rfl rfl rfl ?_
        clear hf; intro a ha hf; clear ha
        refine st_move hf rfl rfl (by decide) ?_
        clear hf; intro a ha hf; clear ha
        refine wpList_cut 3 (fun a w => Fr 213 a [(0, .int .i64 from0), (1, .int .i64 to1), (2, .int .i64 (IntKind.i64.wrap ((1 : Int) + (((IntKind.i64.wrap (((count2).tmod (60 : Int)) + (60 : Int)))).tmod (60 : Int))))), (3, .int .i64 (IntKind.i64.wrap ((1 : Int) + (((IntKind.i64.wrap (((length3).tmod (60 : Int)) + (60 : Int)))).tmod (60 : Int))))), (10, v9), (14, v28), (93, .bool ((q7.2 != (0 : Int)) || (q21.2 != (0 : Int))))] ∧ Hp S w0 w (Res.sl (Ek.int .i64) 3 v13 q19 :: Res.rows (RowK.sl (Ek.int .i64) 3) 22 v28 v29 q21.1 :: Res.sl (Ek.int .i64) 3 v9 q7.1 :: ow)) ?_ ?_
        · rcases Bool.eq_false_or_eq_true (q7.2 != (0 : Int)) with hb32 | hb32
          · skip
            refine st_skip hf (wantN hf rfl rfl hb32) rfl (by decide) ?_ rfl
            clear hf; intro a hf
            refine st_skip hf (wantN hf rfl rfl hb32) rfl (by decide) ?_ rfl
            clear hf; intro a hf
            refine st_pick (v := .bool true) hf rfl rfl (fun hb' => ?_) (fun hb' => ?_) (by decide) ?_
            · rfl
            · exact absurd (hb32.symm.trans hb') (by decide)
            clear hf; intro a ha hf; clear ha
            refine st_nil hf (th_n ?_)
            exact ⟨hf.sub ⟨rfl, rfl, rfl, rfl, rfl, rfl, (by rw [hb32]; rfl), trivial⟩, hp⟩
          · skip
            refine st_move hf (wantY hf rfl rfl hb32) rfl (by decide) ?_
            clear hf; intro a ha hf; clear ha
            refine st_ineq hf (by decide) (wantY hf rfl rfl hb32) rfl rfl ?_
            clear hf; intro a ha hf; clear ha
            refine st_pick (v := .bool (q21.2 != (0 : Int))) hf rfl rfl (fun hb' => ?_) (fun hb' => ?_) (by decide) ?_
            · exact absurd (hb32.symm.trans hb') (by decide)
            · rfl
            clear hf; intro a ha hf; clear ha
            refine st_nil hf (th_n ?_)
            exact ⟨hf.sub ⟨rfl, rfl, rfl, rfl, rfl, rfl, (by rw [hb32]; rfl), trivial⟩, hp⟩
        · rintro a w ⟨hf, hp⟩
          refine st_move hf rfl rfl (by decide) ?_
          clear hf; intro a ha hf; clear ha
          refine wpList_cut 5 (fun a w => Fr 213 a [(0, .int .i64 from0), (1, .int .i64 to1), (2, .int .i64 (IntKind.i64.wrap ((1 : Int) + (((IntKind.i64.wrap (((count2).tmod (60 : Int)) + (60 : Int)))).tmod (60 : Int))))), (3, .int .i64 (IntKind.i64.wrap ((1 : Int) + (((IntKind.i64.wrap (((length3).tmod (60 : Int)) + (60 : Int)))).tmod (60 : Int))))), (10, v9), (14, v28), (99, .bool (((q7.2 != (0 : Int)) || (q21.2 != (0 : Int))) || ((q7.1.length : Int) != (IntKind.i64.wrap ((1 : Int) + (((IntKind.i64.wrap (((count2).tmod (60 : Int)) + (60 : Int)))).tmod (60 : Int)))))))] ∧ Hp S w0 w (Res.sl (Ek.int .i64) 3 v13 q19 :: Res.rows (RowK.sl (Ek.int .i64) 3) 22 v28 v29 q21.1 :: Res.sl (Ek.int .i64) 3 v9 q7.1 :: ow)) ?_ ?_
          · rcases Bool.eq_false_or_eq_true ((q7.2 != (0 : Int)) || (q21.2 != (0 : Int))) with hb34 | hb34
            · skip
              refine st_skip hf (wantN hf rfl rfl hb34) rfl (by decide) ?_ rfl
              clear hf; intro a hf
              refine st_skip hf (wantN hf rfl rfl hb34) rfl (by decide) ?_ rfl
              clear hf; intro a hf
              refine st_skip hf (wantN hf rfl rfl hb34) rfl (by decide) ?_ rfl
              clear hf; intro a hf
              refine st_skip hf (wantN hf rfl rfl hb34) rfl (by decide) ?_ rfl
              clear hf; intro a hf
              refine st_pick (v := .bool true) hf rfl rfl (fun hb' => ?_) (fun hb' => ?_) (by decide) ?_
              · rfl
              · exact absurd (hb34.symm.trans hb') (by decide)
              clear hf; intro a ha hf; clear ha
              refine st_nil hf (th_n ?_)
              exact ⟨hf.sub ⟨rfl, rfl, rfl, rfl, rfl, rfl, (by rw [hb34]; rfl), trivial⟩, hp⟩
            · skip
              refine st_move hf (wantY hf rfl rfl hb34) rfl (by decide) ?_
              clear hf; intro a ha hf; clear ha
              refine st_len (E := (Ek.int .i64)) hf (by decide) Try.underlying22 (wantY hf rfl rfl hb34) rfl (hp.sl (i := 2) rfl) ?_
              clear hf; intro a ha hf; clear ha
              refine st_move hf (wantY hf rfl rfl hb34) rfl (by decide) ?_
              clear hf; intro a ha hf; clear ha
              refine st_ineq hf (by decide) (wantY hf rfl rfl hb34) rfl rfl ?_
              clear hf; intro a ha hf; clear ha
              refine st_pick (v := .bool ((q7.1.length : Int) != (IntKind.i64.wrap ((1 : Int) + (((IntKind.i64.wrap (((count2).tmod (60 : Int)) + (60 : Int)))).tmod (60 : Int)))))) hf rfl rfl (fun hb' => ?_) (fun hb' => ?_) (by decide) ?_
              · exact absurd (hb34.symm.trans hb') (by decide)
              · rfl
              clear hf; intro a ha hf; clear ha
              refine st_nil hf (th_n ?_)
              exact ⟨hf.sub ⟨rfl, rfl, rfl, rfl, rfl, rfl, (by rw [hb34]; rfl), trivial⟩, hp⟩
          · rintro a w ⟨hf, hp⟩
            refine st_move hf rfl rfl (by decide) ?_
            clear hf; intro a ha hf; clear ha
            refine wpList_cut 5 (fun a w => Fr 213 a [(0, .int .i64 from0), (1, .int .i64 to1), (2, .int .i64 (IntKind.i64.wrap ((1 : Int) + (((IntKind.i64.wrap (((count2).tmod (60 : Int)) + (60 : Int)))).tmod (60 : Int))))), (3, .int .i64 (IntKind.i64.wrap ((1 : Int) + (((IntKind.i64.wrap (((length3).tmod (60 : Int)) + (60 : Int)))).tmod (60 : Int))))), (10, v9), (14, v28), (105, .bool ((((q7.2 != (0 : Int)) || (q21.2 != (0 : Int))) || ((q7.1.length : Int) != (IntKind.i64.wrap ((1 : Int) + (((IntKind.i64.wrap (((count2).tmod (60 : Int)) + (60 : Int)))).tmod (60 : Int)))))) || ((q21.1.length : Int) != (IntKind.i64.wrap ((1 : Int) + (((IntKind.i64.wrap (((count2).tmod (60 : Int)) + (60 : Int)))).tmod (60 : Int)))))))] ∧ Hp S w0 w (Res.sl (Ek.int .i64) 3 v13 q19 :: Res.rows (RowK.sl (Ek.int .i64) 3) 22 v28 v29 q21.1 :: Res.sl (Ek.int .i64) 3 v9 q7.1 :: ow)) ?_ ?_
            · rcases Bool.eq_false_or_eq_true (((q7.2 != (0 : Int)) || (q21.2 != (0 : Int))) || ((q7.1.length : Int) != (IntKind.i64.wrap ((1 : Int) + (((IntKind.i64.wrap (((count2).tmod (60 : Int)) + (60 : Int)))).tmod (60 : Int)))))) with hb36 | hb36
              · skip
                refine st_skip hf (wantN hf rfl rfl hb36) rfl (by decide) ?_ rfl
                clear hf; intro a hf
                refine st_skip hf (wantN hf rfl rfl hb36) rfl (by decide) ?_ rfl
                clear hf; intro a hf
                refine st_skip hf (wantN hf rfl rfl hb36) rfl (by decide) ?_ rfl
                clear hf; intro a hf
                refine st_skip hf (wantN hf rfl rfl hb36) rfl (by decide) ?_ rfl
                clear hf; intro a hf
                refine st_pick (v := .bool true) hf rfl rfl (fun hb' => ?_) (fun hb' => ?_) (by decide) ?_
                · rfl
                · exact absurd (hb36.symm.trans hb') (by decide)
                clear hf; intro a ha hf; clear ha
                refine st_nil hf (th_n ?_)
                exact ⟨hf.sub ⟨rfl, rfl, rfl, rfl, rfl, rfl, (by rw [hb36]; rfl), trivial⟩, hp⟩
              · skip
                refine st_move hf (wantY hf rfl rfl hb36) rfl (by decide) ?_
                clear hf; intro a ha hf; clear ha
                refine st_lenV hf (by decide) Try.underlying23 (wantY hf rfl rfl hb36) rfl (hp.rd (i := 1) rfl).shapeVY ?_
                clear hf; intro a ha hf; clear ha
                refine st_move hf (wantY hf rfl rfl hb36) rfl (by decide) ?_
                clear hf; intro a ha hf; clear ha
                refine st_ineq hf (by decide) (wantY hf rfl rfl hb36) rfl rfl ?_
                clear hf; intro a ha hf; clear ha
                refine st_pick (v := .bool ((q21.1.length : Int) != (IntKind.i64.wrap ((1 : Int) + (((IntKind.i64.wrap (((count2).tmod (60 : Int)) + (60 : Int)))).tmod (60 : Int)))))) hf rfl rfl (fun hb' => ?_) (fun hb' => ?_) (by decide) ?_
                · exact absurd (hb36.symm.trans hb') (by decide)
                · rfl
                clear hf; intro a ha hf; clear ha
                refine st_nil hf (th_n ?_)
                exact ⟨hf.sub ⟨rfl, rfl, rfl, rfl, rfl, rfl, (by rw [hb36]; rfl), trivial⟩, hp⟩
            · rintro a w ⟨hf, hp⟩
              refine st_nil hf ?_
              refine th_n ?_
              refine wp_if hf rfl (fun hb => ?_) (fun hb => ?_)
              · replace h := ifT h hb
                refine wp_seq ?_
                refine wp_reg ?_
                refine st_assign hf rfl rfl (by decide) ?_
                clear hf; intro a ha hf; clear ha
                refine st_nil hf ?_
                refine th_n ?_
                refine wp_ret ?_
                refine th_r ?_
                obtain rfl := Option.some.inj h
                have hp : Hp _ _ _ (ow) := Hp.sel (pre := [Res.sl (Ek.int .i64) 3 v13 q19, Res.rows (RowK.sl (Ek.int .i64) 3) 22 v28 v29 q21.1, Res.sl (Ek.int .i64) 3 v9 q7.1]) (tail := ow) (rs' := []) hp [] (by decide) (by simp) rfl
                exact ⟨rfl, ⟨hf.sub ⟨rfl, trivial⟩, hp⟩⟩
              · replace h := ifF h hb
                refine wp_skip ?_
                refine th_n ?_
                refine wp_seq ?_
                refine wp_reg ?_
                refine st_move hf rfl rfl (by decide) ?_
                clear hf; intro a ha hf; clear ha
                refine st_move hf rfl rfl (by decide) ?_
                clear hf; intro a ha hf; clear ha
                refine st_isub hf (by decide) rfl rfl rfl ?_
                clear hf; intro a ha hf; clear ha
                refine st_assign hf rfl rfl (by decide) ?_
                clear hf; intro a ha hf; clear ha
                refine st_nil hf ?_
                refine th_n ?_
                refine wp_seq ?_
                refine wp_reg ?_
                refine st_assign hf rfl rfl (by decide) ?_
                clear hf; intro a ha hf; clear ha
                refine st_nil hf ?_
                refine th_n ?_
                refine wp_seq ?_
                refine wp_seq ?_
                refine wp_reg ?_
                refine st_assign hf rfl rfl (by decide) ?_
                clear hf; intro a ha hf; clear ha
                refine st_nil hf ?_
                refine th_n ?_
                refine wp_block ?_
                obtain ⟨q97, hl, h⟩ := bnd h
                have hp : Hp _ _ _ (Res.sl (Ek.int .i64) 3 v9 q7.1 :: Res.rows (RowK.sl (Ek.int .i64) 3) 22 v28 v29 q21.1 :: ow) := Hp.sel (pre := [Res.sl (Ek.int .i64) 3 v13 q19, Res.rows (RowK.sl (Ek.int .i64) 3) 22 v28 v29 q21.1, Res.sl (Ek.int .i64) 3 v9 q7.1]) (tail := ow) (rs' := [Res.sl (Ek.int .i64) 3 v9 q7.1, Res.rows (RowK.sl (Ek.int .i64) 3) 22 v28 v29 q21.1]) hp [2, 1] (by decide) (by simp) rfl
                refine wp_loop_pure (f := (f_foghornlaw17_WeaveSpread.s2 from0 to1 count2 length3)) (s := (q7.1, q21.1, (0 : Int), (0 : Int))) (fun s a w => ∃ (v37 : Value) (v39 : Value) (vs40 : List Value), Fr 213 a [(0, .int .i64 from0), (1, .int .i64 to1), (2, .int .i64 (IntKind.i64.wrap ((1 : Int) + (((IntKind.i64.wrap (((count2).tmod (60 : Int)) + (60 : Int)))).tmod (60 : Int))))), (3, .int .i64 (IntKind.i64.wrap ((1 : Int) + (((IntKind.i64.wrap (((length3).tmod (60 : Int)) + (60 : Int)))).tmod (60 : Int))))), (10, v37), (14, v39), (16, .int .i64 (IntKind.i64.wrap (to1 - from0))), (17, .int .i64 s.2.2.1), (18, .int .i64 s.2.2.2)] ∧ Hp S w0 w (Res.sl (Ek.int .i64) 3 v37 s.1 :: Res.rows (RowK.sl (Ek.int .i64) 3) 22 v39 vs40 s.2.1 :: ow)) (fun q e a w => match q with | (Sum.inl q) => e = .exit 2 ∧ Fr 213 a [(16, .int .i64 (IntKind.i64.wrap (to1 - from0))), (17, .int .i64 q)] ∧ Hp S w0 w (ow) | (Sum.inr q) => e = .ret ∧ Fr 213 a [(8, .bool q)] ∧ Hp S w0 w (ow)) ?_ hl ⟨_, _, _, hf.sub ⟨rfl, rfl, rfl, rfl, rfl, rfl, rfl, rfl, rfl, trivial⟩, hp⟩ ?_
                · clear hl hf hp
                  intro s x a w h hI
                  obtain ⟨l10, m14, sum17, w18⟩ := s
                  obtain ⟨v37, v39, vs40, hf, hp⟩ : ∃ (v37 : Value) (v39 : Value) (vs40 : List Value), Fr 213 a [(0, .int .i64 from0), (1, .int .i64 to1), (2, .int .i64 (IntKind.i64.wrap ((1 : Int) + (((IntKind.i64.wrap (((count2).tmod (60 : Int)) + (60 : Int)))).tmod (60 : Int))))), (3, .int .i64 (IntKind.i64.wrap ((1 : Int) + (((IntKind.i64.wrap (((length3).tmod (60 : Int)) + (60 : Int)))).tmod (60 : Int))))), (10, v37), (14, v39), (16, .int .i64 (IntKind.i64.wrap (to1 - from0))), (17, .int .i64 sum17), (18, .int .i64 w18)] ∧ Hp S w0 w (Res.sl (Ek.int .i64) 3 v37 l10 :: Res.rows (RowK.sl (Ek.int .i64) 3) 22 v39 vs40 m14 :: ow) := hI
                  replace h : f_foghornlaw17_WeaveSpread.s2c from0 to1 count2 length3 l10 m14 sum17 w18 = some x := h
                  unfold f_foghornlaw17_WeaveSpread.s2c at h
                  refine wp_seq ?_
                  refine wp_seq ?_
                  refine wp_reg ?_
                  refine st_move hf rfl rfl (by decide) ?_
                  clear hf; intro a ha hf; clear ha
                  refine st_move hf rfl rfl (by decide) ?_
                  clear hf; intro a ha hf; clear ha
                  refine st_ilss hf (by decide) rfl rfl rfl ?_
                  clear hf; intro a ha hf; clear ha
                  refine st_nil hf ?_
                  refine th_n ?_
                  refine wp_if hf rfl (fun hb => ?_) (fun hb => ?_)
                  · replace h := ifT h hb
                    refine wp_skip ?_
                    refine th_n ?_
                    refine wp_seq ?_
                    refine wp_block ?_
                    refine wp_seq ?_
                    refine wp_seq ?_
                    obtain ⟨S42, hp43, rd44, up45, bk46⟩ := Hp.lendS hp (i := 0) rfl
                    obtain ⟨S47, hp48, rd49, up50, bk51⟩ := Hp.lendR hp43 (i := 0) rfl
                    have rl52 := ((rd44.now hp43).mono up50)
                    have rl53 := rd49
                    obtain ⟨hc54, h⟩ := chk h
                    obtain ⟨hc55, h⟩ := chk h
                    obtain ⟨z60, hz56, h⟩ := bnd h
                    obtain ⟨z65, hz61, h⟩ := bnd h
                    refine wp_cutN (fun a w => Fr 213 a [(0, .int .i64 from0), (1, .int .i64 to1), (2, .int .i64 (IntKind.i64.wrap ((1 : Int) + (((IntKind.i64.wrap (((count2).tmod (60 : Int)) + (60 : Int)))).tmod (60 : Int))))), (3, .int .i64 (IntKind.i64.wrap ((1 : Int) + (((IntKind.i64.wrap (((length3).tmod (60 : Int)) + (60 : Int)))).tmod (60 : Int))))), (10, v37), (14, v39), (16, .int .i64 (IntKind.i64.wrap (to1 - from0))), (17, .int .i64 sum17), (18, .int .i64 w18), (146, .bool z65)] ∧ Hp S w0 w (Res.sl (Ek.int .i64) 3 v37 l10 :: Res.rows (RowK.sl (Ek.int .i64) 3) 22 v39 vs40 m14 :: ow)) ?_ ?_
                    · have hp := hp48.same (Same.drew w)
                      rcases Bool.eq_false_or_eq_true (decide ((gt l10 w18) < (IntKind.i64.wrap (((IntKind.i64.wrap (to1 - from0))).tdiv (IntKind.i64.wrap ((1 : Int) + (((IntKind.i64.wrap (((count2).tmod (60 : Int)) + (60 : Int)))).tmod (60 : Int)))))))) with hb57 | hb57
                      · skip
                        replace hz56 := ifT hz56 hb57
                        replace hz56 := Option.some.inj hz56
                        have hb62 : z60 = true := hz56.symm
                        skip
                        replace hz61 := ifT hz61 hb62
                        replace hz61 := Option.some.inj hz61
                        refine dr_begin' (fun a w => Fr 213 a [(0, .int .i64 from0), (1, .int .i64 to1), (2, .int .i64 (IntKind.i64.wrap ((1 : Int) + (((IntKind.i64.wrap (((count2).tmod (60 : Int)) + (60 : Int)))).tmod (60 : Int))))), (3, .int .i64 (IntKind.i64.wrap ((1 : Int) + (((IntKind.i64.wrap (((length3).tmod (60 : Int)) + (60 : Int)))).tmod (60 : Int))))), (10, v37), (14, v39), (16, .int .i64 (IntKind.i64.wrap (to1 - from0))), (17, .int .i64 sum17), (18, .int .i64 w18), (146, .bool z65)] ∧ Hp S w0 w (Res.sl (Ek.int .i64) 3 v37 l10 :: Res.rows (RowK.sl (Ek.int .i64) 3) 22 v39 vs40 m14 :: ow)) (fun w' => ∃ l, Hp S47 w w' l) [] (by kernel_rfl) ?_
                        refine dr_take 0 (v37) rfl (by kernel_rfl) (by kernel_rfl) (by kernel_rfl) (by kernel_rfl) rfl rfl hf (by decide) rfl (fun w hp => ?_) ⟨_, hp⟩ ?_
                        · obtain ⟨_, hp⟩ := hp
                          refine st_move hf rfl rfl (by decide) ?_
                          clear hf; intro a ha hf
                          exact st_nil hf (th_n ⟨ha, rfl⟩)
                        clear hf; intro a hf
                        refine dr_take 1 (.int .i64 w18) rfl (by kernel_rfl) (by kernel_rfl) (by kernel_rfl) (by kernel_rfl) rfl rfl hf (by decide) rfl (fun w hp => ?_) ⟨_, hp⟩ ?_
                        · obtain ⟨_, hp⟩ := hp
                          refine st_move hf rfl rfl (by decide) ?_
                          clear hf; intro a ha hf
                          exact st_nil hf (th_n ⟨ha, rfl⟩)
                        clear hf; intro a hf
                        refine dr_take 2 (eptr v37 w18 1) rfl (by kernel_rfl) (by kernel_rfl) (by kernel_rfl) (by kernel_rfl) rfl rfl hf (by decide) rfl (fun w hp => ?_) ⟨_, hp⟩ ?_
                        · obtain ⟨_, hp⟩ := hp
                          refine st_index (E := (Ek.int .i64)) hf (by decide) Try.underlying22 elt3 rfl rfl rfl (rl52.sl hp) hc54.1 hc54.2 ?_
                          clear hf; intro a ha hf
                          exact st_nil hf (th_n ⟨ha, rfl⟩)
                        clear hf; intro a hf
                        refine dr_take 3 (.int .i64 (gt l10 w18)) rfl (by kernel_rfl) (by kernel_rfl) (by kernel_rfl) (by kernel_rfl) rfl rfl hf (by decide) rfl (fun w hp => ?_) ⟨_, hp⟩ ?_
                        · obtain ⟨_, hp⟩ := hp
                          refine st_ldI hf (by decide) pl3 rfl rfl (rl52.sl hp) hc54.1 hc54.2 ?_
                          clear hf; intro a ha hf
                          exact st_nil hf (th_n ⟨ha, rfl⟩)
                        clear hf; intro a hf
                        refine dr_take 4 (.int .i64 (IntKind.i64.wrap (to1 - from0))) rfl (by kernel_rfl) (by kernel_rfl) (by kernel_rfl) (by kernel_rfl) rfl rfl hf (by decide) rfl (fun w hp => ?_) ⟨_, hp⟩ ?_
                        · obtain ⟨_, hp⟩ := hp
                          refine st_move hf rfl rfl (by decide) ?_
                          clear hf; intro a ha hf
                          exact st_nil hf (th_n ⟨ha, rfl⟩)
                        clear hf; intro a hf
                        refine dr_take 5 (.int .i64 (IntKind.i64.wrap ((1 : Int) + (((IntKind.i64.wrap (((count2).tmod (60 : Int)) + (60 : Int)))).tmod (60 : Int))))) rfl (by kernel_rfl) (by kernel_rfl) (by kernel_rfl) (by kernel_rfl) rfl rfl hf (by decide) rfl (fun w hp => ?_) ⟨_, hp⟩ ?_
                        · obtain ⟨_, hp⟩ := hp
                          refine st_move hf rfl rfl (by decide) ?_
                          clear hf; intro a ha hf
                          exact st_nil hf (th_n ⟨ha, rfl⟩)
                        clear hf; intro a hf
                        refine dr_take 6 (.int .i64 (IntKind.i64.wrap (((IntKind.i64.wrap (to1 - from0))).tdiv (IntKind.i64.wrap ((1 : Int) + (((IntKind.i64.wrap (((count2).tmod (60 : Int)) + (60 : Int)))).tmod (60 : Int))))))) rfl (by kernel_rfl) (by kernel_rfl) (by kernel_rfl) (by kernel_rfl) rfl rfl hf (by decide) rfl (fun w hp => ?_) ⟨_, hp⟩ ?_
                        · obtain ⟨_, hp⟩ := hp
                          refine st_iquo hf (by decide) rfl rfl rfl hc55 ?_
                          clear hf; intro a ha hf
                          exact st_nil hf (th_n ⟨ha, rfl⟩)
                        clear hf; intro a hf
                        refine dr_take 7 (.bool (decide ((gt l10 w18) < (IntKind.i64.wrap (((IntKind.i64.wrap (to1 - from0))).tdiv (IntKind.i64.wrap ((1 : Int) + (((IntKind.i64.wrap (((count2).tmod (60 : Int)) + (60 : Int)))).tmod (60 : Int))))))))) rfl (by kernel_rfl) (by kernel_rfl) (by kernel_rfl) (by kernel_rfl) rfl rfl hf (by decide) rfl (fun w hp => ?_) ⟨_, hp⟩ ?_
                        · obtain ⟨_, hp⟩ := hp
                          refine st_ilss hf (by decide) rfl rfl rfl ?_
                          clear hf; intro a ha hf
                          exact st_nil hf (th_n ⟨ha, rfl⟩)
                        clear hf; intro a hf
                        refine dr_take 8 (.bool (decide ((gt l10 w18) < (IntKind.i64.wrap (((IntKind.i64.wrap (to1 - from0))).tdiv (IntKind.i64.wrap ((1 : Int) + (((IntKind.i64.wrap (((count2).tmod (60 : Int)) + (60 : Int)))).tmod (60 : Int))))))))) rfl (by kernel_rfl) (by kernel_rfl) (by kernel_rfl) (by kernel_rfl) rfl rfl hf (by decide) rfl (fun w hp => ?_) ⟨_, hp⟩ ?_
                        · obtain ⟨_, hp⟩ := hp
                          refine st_move hf rfl rfl (by decide) ?_
                          clear hf; intro a ha hf
                          exact st_nil hf (th_n ⟨ha, rfl⟩)
                        clear hf; intro a hf
                        refine dr_out 9 rfl (by kernel_rfl) (by kernel_rfl) (by kernel_rfl) (by kernel_rfl) rfl hf (by decide) rfl (wantN hf rfl rfl hb57) ⟨_, hp⟩ ?_
                        clear hf; intro a hf
                        refine dr_out 10 rfl (by kernel_rfl) (by kernel_rfl) (by kernel_rfl) (by kernel_rfl) rfl hf (by decide) rfl (wantN hf rfl rfl hb57) ⟨_, hp⟩ ?_
                        clear hf; intro a hf
                        refine dr_out 11 rfl (by kernel_rfl) (by kernel_rfl) (by kernel_rfl) (by kernel_rfl) rfl hf (by decide) rfl (wantN hf rfl rfl hb57) ⟨_, hp⟩ ?_
                        clear hf; intro a hf
                        refine dr_out 12 rfl (by kernel_rfl) (by kernel_rfl) (by kernel_rfl) (by kernel_rfl) rfl hf (by decide) rfl (wantN hf rfl rfl hb57) ⟨_, hp⟩ ?_
                        clear hf; intro a hf
                        refine dr_out 13 rfl (by kernel_rfl) (by kernel_rfl) (by kernel_rfl) (by kernel_rfl) rfl hf (by decide) rfl (wantN hf rfl rfl hb57) ⟨_, hp⟩ ?_
                        clear hf; intro a hf
                        refine dr_out 14 rfl (by kernel_rfl) (by kernel_rfl) (by kernel_rfl) (by kernel_rfl) rfl hf (by decide) rfl (wantN hf rfl rfl hb57) ⟨_, hp⟩ ?_
                        clear hf; intro a hf
                        refine dr_out 15 rfl (by kernel_rfl) (by kernel_rfl) (by kernel_rfl) (by kernel_rfl) rfl hf (by decide) rfl (wantN hf rfl rfl hb57) ⟨_, hp⟩ ?_
                        clear hf; intro a hf
                        refine dr_out 16 rfl (by kernel_rfl) (by kernel_rfl) (by kernel_rfl) (by kernel_rfl) rfl hf (by decide) rfl (wantN hf rfl rfl hb57) ⟨_, hp⟩ ?_
                        clear hf; intro a hf
                        refine dr_out 17 rfl (by kernel_rfl) (by kernel_rfl) (by kernel_rfl) (by kernel_rfl) rfl hf (by decide) rfl (wantN hf rfl rfl hb57) ⟨_, hp⟩ ?_
                        clear hf; intro a hf
                        refine dr_out 18 rfl (by kernel_rfl) (by kernel_rfl) (by kernel_rfl) (by kernel_rfl) rfl hf (by decide) rfl (wantN hf rfl rfl hb57) ⟨_, hp⟩ ?_
                        clear hf; intro a hf
                        refine dr_out 19 rfl (by kernel_rfl) (by kernel_rfl) (by kernel_rfl) (by kernel_rfl) rfl hf (by decide) rfl (wantN hf rfl rfl hb57) ⟨_, hp⟩ ?_
                        clear hf; intro a hf
                        refine dr_take 20 (.bool z60) rfl (by kernel_rfl) (by kernel_rfl) (by kernel_rfl) (by kernel_rfl) rfl rfl hf (by decide) rfl (fun w hp => ?_) ⟨_, hp⟩ ?_
                        · obtain ⟨_, hp⟩ := hp
                          refine st_pick (v := .bool z60) hf rfl rfl (fun _ => by rw [← hz56]; rfl) (fun hb' => absurd (hb57.symm.trans hb') (by decide)) (by decide) ?_
                          clear hf; intro a ha hf
                          exact st_nil hf (th_n ⟨ha, rfl⟩)
                        clear hf; intro a hf
                        refine dr_take 21 (.bool z60) rfl (by kernel_rfl) (by kernel_rfl) (by kernel_rfl) (by kernel_rfl) rfl rfl hf (by decide) rfl (fun w hp => ?_) ⟨_, hp⟩ ?_
                        · obtain ⟨_, hp⟩ := hp
                          refine st_move hf rfl rfl (by decide) ?_
                          clear hf; intro a ha hf
                          exact st_nil hf (th_n ⟨ha, rfl⟩)
                        clear hf; intro a hf
                        refine dr_out 22 rfl (by kernel_rfl) (by kernel_rfl) (by kernel_rfl) (by kernel_rfl) rfl hf (by decide) rfl (wantN hf rfl rfl hb62) ⟨_, hp⟩ ?_
                        clear hf; intro a hf
                        refine dr_out 23 rfl (by kernel_rfl) (by kernel_rfl) (by kernel_rfl) (by kernel_rfl) rfl hf (by decide) rfl (wantN hf rfl rfl hb62) ⟨_, hp⟩ ?_
                        clear hf; intro a hf
                        refine dr_out 24 rfl (by kernel_rfl) (by kernel_rfl) (by kernel_rfl) (by kernel_rfl) rfl hf (by decide) rfl (wantN hf rfl rfl hb62) ⟨_, hp⟩ ?_
                        clear hf; intro a hf
                        refine dr_out 25 rfl (by kernel_rfl) (by kernel_rfl) (by kernel_rfl) (by kernel_rfl) rfl hf (by decide) rfl (wantN hf rfl rfl hb62) ⟨_, hp⟩ ?_
                        clear hf; intro a hf
                        refine dr_out 26 rfl (by kernel_rfl) (by kernel_rfl) (by kernel_rfl) (by kernel_rfl) rfl hf (by decide) rfl (wantN hf rfl rfl hb62) ⟨_, hp⟩ ?_
                        clear hf; intro a hf
                        refine dr_out 27 rfl (by kernel_rfl) (by kernel_rfl) (by kernel_rfl) (by kernel_rfl) rfl hf (by decide) rfl (wantN hf rfl rfl hb62) ⟨_, hp⟩ ?_
                        clear hf; intro a hf
                        refine dr_out 28 rfl (by kernel_rfl) (by kernel_rfl) (by kernel_rfl) (by kernel_rfl) rfl hf (by decide) rfl (wantN hf rfl rfl hb62) ⟨_, hp⟩ ?_
                        clear hf; intro a hf
                        refine dr_out 29 rfl (by kernel_rfl) (by kernel_rfl) (by kernel_rfl) (by kernel_rfl) rfl hf (by decide) rfl (wantN hf rfl rfl hb62) ⟨_, hp⟩ ?_
                        clear hf; intro a hf
                        refine dr_out 30 rfl (by kernel_rfl) (by kernel_rfl) (by kernel_rfl) (by kernel_rfl) rfl hf (by decide) rfl (wantN hf rfl rfl hb62) ⟨_, hp⟩ ?_
                        clear hf; intro a hf
                        refine dr_out 31 rfl (by kernel_rfl) (by kernel_rfl) (by kernel_rfl) (by kernel_rfl) rfl hf (by decide) rfl (wantN hf rfl rfl hb62) ⟨_, hp⟩ ?_
                        clear hf; intro a hf
                        refine dr_take 32 (.bool z65) rfl (by kernel_rfl) (by kernel_rfl) (by kernel_rfl) (by kernel_rfl) rfl rfl hf (by decide) rfl (fun w hp => ?_) ⟨_, hp⟩ ?_
                        · obtain ⟨_, hp⟩ := hp
                          refine st_pick (v := .bool z65) hf rfl rfl (fun _ => by rw [← hz61]; rfl) (fun hb' => absurd (hb62.symm.trans hb') (by decide)) (by decide) ?_
                          clear hf; intro a ha hf
                          exact st_nil hf (th_n ⟨ha, rfl⟩)
                        clear hf; intro a hf
                        refine dr_end (by kernel_rfl) ?_ _
                        have hp := bk51 _ _ hp
                        have hp := bk46 _ _ hp
                        exact ⟨hf.sub ⟨rfl, rfl, rfl, rfl, rfl, rfl, rfl, rfl, rfl, rfl, trivial⟩, hp⟩
                      · skip
                        replace hz56 := ifF hz56 hb57
                        obtain ⟨hc58, hz56⟩ := chk hz56
                        obtain ⟨hc59, hz56⟩ := chk hz56
                        replace hz56 := Option.some.inj hz56
                        rcases Bool.eq_false_or_eq_true z60 with hb62 | hb62
                        · skip
                          replace hz61 := ifT hz61 hb62
                          replace hz61 := Option.some.inj hz61
                          refine dr_begin' (fun a w => Fr 213 a [(0, .int .i64 from0), (1, .int .i64 to1), (2, .int .i64 (IntKind.i64.wrap ((1 : Int) + (((IntKind.i64.wrap (((count2).tmod (60 : Int)) + (60 : Int)))).tmod (60 : Int))))), (3, .int .i64 (IntKind.i64.wrap ((1 : Int) + (((IntKind.i64.wrap (((length3).tmod (60 : Int)) + (60 : Int)))).tmod (60 : Int))))), (10, v37), (14, v39), (16, .int .i64 (IntKind.i64.wrap (to1 - from0))), (17, .int .i64 sum17), (18, .int .i64 w18), (146, .bool z65)] ∧ Hp S w0 w (Res.sl (Ek.int .i64) 3 v37 l10 :: Res.rows (RowK.sl (Ek.int .i64) 3) 22 v39 vs40 m14 :: ow)) (fun w' => ∃ l, Hp S47 w w' l) [] (by kernel_rfl) ?_
                          refine dr_take 0 (v37) rfl (by kernel_rfl) (by kernel_rfl) (by kernel_rfl) (by kernel_rfl) rfl rfl hf (by decide) rfl (fun w hp => ?_) ⟨_, hp⟩ ?_
                          · obtain ⟨_, hp⟩ := hp
                            refine st_move hf rfl rfl (by decide) ?_
                            clear hf; intro a ha hf
                            exact st_nil hf (th_n ⟨ha, rfl⟩)
                          clear hf; intro a hf
                          refine dr_take 1 (.int .i64 w18) rfl (by kernel_rfl) (by kernel_rfl) (by kernel_rfl) (by kernel_rfl) rfl rfl hf (by decide) rfl (fun w hp => ?_) ⟨_, hp⟩ ?_
                          · obtain ⟨_, hp⟩ := hp
                            refine st_move hf rfl rfl (by decide) ?_
                            clear hf; intro a ha hf
                            exact st_nil hf (th_n ⟨ha, rfl⟩)
                          clear hf; intro a hf
                          refine dr_take 2 (eptr v37 w18 1) rfl (by kernel_rfl) (by kernel_rfl) (by kernel_rfl) (by kernel_rfl) rfl rfl hf (by decide) rfl (fun w hp => ?_) ⟨_, hp⟩ ?_
                          · obtain ⟨_, hp⟩ := hp
                            refine st_index (E := (Ek.int .i64)) hf (by decide) Try.underlying22 elt3 rfl rfl rfl (rl52.sl hp) hc54.1 hc54.2 ?_
                            clear hf; intro a ha hf
                            exact st_nil hf (th_n ⟨ha, rfl⟩)
                          clear hf; intro a hf
                          refine dr_take 3 (.int .i64 (gt l10 w18)) rfl (by kernel_rfl) (by kernel_rfl) (by kernel_rfl) (by kernel_rfl) rfl rfl hf (by decide) rfl (fun w hp => ?_) ⟨_, hp⟩ ?_
                          · obtain ⟨_, hp⟩ := hp
                            refine st_ldI hf (by decide) pl3 rfl rfl (rl52.sl hp) hc54.1 hc54.2 ?_
                            clear hf; intro a ha hf
                            exact st_nil hf (th_n ⟨ha, rfl⟩)
                          clear hf; intro a hf
                          refine dr_take 4 (.int .i64 (IntKind.i64.wrap (to1 - from0))) rfl (by kernel_rfl) (by kernel_rfl) (by kernel_rfl) (by kernel_rfl) rfl rfl hf (by decide) rfl (fun w hp => ?_) ⟨_, hp⟩ ?_
                          · obtain ⟨_, hp⟩ := hp
                            refine st_move hf rfl rfl (by decide) ?_
                            clear hf; intro a ha hf
                            exact st_nil hf (th_n ⟨ha, rfl⟩)
                          clear hf; intro a hf
                          refine dr_take 5 (.int .i64 (IntKind.i64.wrap ((1 : Int) + (((IntKind.i64.wrap (((count2).tmod (60 : Int)) + (60 : Int)))).tmod (60 : Int))))) rfl (by kernel_rfl) (by kernel_rfl) (by kernel_rfl) (by kernel_rfl) rfl rfl hf (by decide) rfl (fun w hp => ?_) ⟨_, hp⟩ ?_
                          · obtain ⟨_, hp⟩ := hp
                            refine st_move hf rfl rfl (by decide) ?_
                            clear hf; intro a ha hf
                            exact st_nil hf (th_n ⟨ha, rfl⟩)
                          clear hf; intro a hf
                          refine dr_take 6 (.int .i64 (IntKind.i64.wrap (((IntKind.i64.wrap (to1 - from0))).tdiv (IntKind.i64.wrap ((1 : Int) + (((IntKind.i64.wrap (((count2).tmod (60 : Int)) + (60 : Int)))).tmod (60 : Int))))))) rfl (by kernel_rfl) (by kernel_rfl) (by kernel_rfl) (by kernel_rfl) rfl rfl hf (by decide) rfl (fun w hp => ?_) ⟨_, hp⟩ ?_
                          · obtain ⟨_, hp⟩ := hp
                            refine st_iquo hf (by decide) rfl rfl rfl hc55 ?_
                            clear hf; intro a ha hf
                            exact st_nil hf (th_n ⟨ha, rfl⟩)
                          clear hf; intro a hf
                          refine dr_take 7 (.bool (decide ((gt l10 w18) < (IntKind.i64.wrap (((IntKind.i64.wrap (to1 - from0))).tdiv (IntKind.i64.wrap ((1 : Int) + (((IntKind.i64.wrap (((count2).tmod (60 : Int)) + (60 : Int)))).tmod (60 : Int))))))))) rfl (by kernel_rfl) (by kernel_rfl) (by kernel_rfl) (by kernel_rfl) rfl rfl hf (by decide) rfl (fun w hp => ?_) ⟨_, hp⟩ ?_
                          · obtain ⟨_, hp⟩ := hp
                            refine st_ilss hf (by decide) rfl rfl rfl ?_
                            clear hf; intro a ha hf
                            exact st_nil hf (th_n ⟨ha, rfl⟩)
                          clear hf; intro a hf
                          refine dr_take 8 (.bool (decide ((gt l10 w18) < (IntKind.i64.wrap (((IntKind.i64.wrap (to1 - from0))).tdiv (IntKind.i64.wrap ((1 : Int) + (((IntKind.i64.wrap (((count2).tmod (60 : Int)) + (60 : Int)))).tmod (60 : Int))))))))) rfl (by kernel_rfl) (by kernel_rfl) (by kernel_rfl) (by kernel_rfl) rfl rfl hf (by decide) rfl (fun w hp => ?_) ⟨_, hp⟩ ?_
                          · obtain ⟨_, hp⟩ := hp
                            refine st_move hf rfl rfl (by decide) ?_
                            clear hf; intro a ha hf
                            exact st_nil hf (th_n ⟨ha, rfl⟩)
                          clear hf; intro a hf
                          refine dr_take 9 (v37) rfl (by kernel_rfl) (by kernel_rfl) (by kernel_rfl) (by kernel_rfl) rfl rfl hf (by decide) (wantY hf rfl rfl hb57) (fun w hp => ?_) ⟨_, hp⟩ ?_
                          · obtain ⟨_, hp⟩ := hp
                            refine st_move hf (wantY hf rfl rfl hb57) rfl (by decide) ?_
                            clear hf; intro a ha hf
                            exact st_nil hf (th_n ⟨ha, rfl⟩)
                          clear hf; intro a hf
                          refine dr_take 10 (.int .i64 w18) rfl (by kernel_rfl) (by kernel_rfl) (by kernel_rfl) (by kernel_rfl) rfl rfl hf (by decide) (wantY hf rfl rfl hb57) (fun w hp => ?_) ⟨_, hp⟩ ?_
                          · obtain ⟨_, hp⟩ := hp
                            refine st_move hf (wantY hf rfl rfl hb57) rfl (by decide) ?_
                            clear hf; intro a ha hf
                            exact st_nil hf (th_n ⟨ha, rfl⟩)
                          clear hf; intro a hf
                          refine dr_take 11 (eptr v37 w18 1) rfl (by kernel_rfl) (by kernel_rfl) (by kernel_rfl) (by kernel_rfl) rfl rfl hf (by decide) (wantY hf rfl rfl hb57) (fun w hp => ?_) ⟨_, hp⟩ ?_
                          · obtain ⟨_, hp⟩ := hp
                            refine st_index (E := (Ek.int .i64)) hf (by decide) Try.underlying22 elt3 (wantY hf rfl rfl hb57) rfl rfl (rl52.sl hp) hc58.1 hc58.2 ?_
                            clear hf; intro a ha hf
                            exact st_nil hf (th_n ⟨ha, rfl⟩)
                          clear hf; intro a hf
                          refine dr_take 12 (.int .i64 (gt l10 w18)) rfl (by kernel_rfl) (by kernel_rfl) (by kernel_rfl) (by kernel_rfl) rfl rfl hf (by decide) (wantY hf rfl rfl hb57) (fun w hp => ?_) ⟨_, hp⟩ ?_
                          · obtain ⟨_, hp⟩ := hp
                            refine st_ldI hf (by decide) pl3 (wantY hf rfl rfl hb57) rfl (rl52.sl hp) hc58.1 hc58.2 ?_
                            clear hf; intro a ha hf
                            exact st_nil hf (th_n ⟨ha, rfl⟩)
                          clear hf; intro a hf
                          refine dr_take 13 (.int .i64 (IntKind.i64.wrap (to1 - from0))) rfl (by kernel_rfl) (by kernel_rfl) (by kernel_rfl) (by kernel_rfl) rfl rfl hf (by decide) (wantY hf rfl rfl hb57) (fun w hp => ?_) ⟨_, hp⟩ ?_
                          · obtain ⟨_, hp⟩ := hp
                            refine st_move hf (wantY hf rfl rfl hb57) rfl (by decide) ?_
                            clear hf; intro a ha hf
                            exact st_nil hf (th_n ⟨ha, rfl⟩)
                          clear hf; intro a hf
                          refine dr_take 14 (.int .i64 (IntKind.i64.wrap ((1 : Int) + (((IntKind.i64.wrap (((count2).tmod (60 : Int)) + (60 : Int)))).tmod (60 : Int))))) rfl (by kernel_rfl) (by kernel_rfl) (by kernel_rfl) (by kernel_rfl) rfl rfl hf (by decide) (wantY hf rfl rfl hb57) (fun w hp => ?_) ⟨_, hp⟩ ?_
                          · obtain ⟨_, hp⟩ := hp
                            refine st_move hf (wantY hf rfl rfl hb57) rfl (by decide) ?_
                            clear hf; intro a ha hf
                            exact st_nil hf (th_n ⟨ha, rfl⟩)
                          clear hf; intro a hf
                          refine dr_take 15 (.int .i64 (IntKind.i64.wrap ((IntKind.i64.wrap (to1 - from0)) + (IntKind.i64.wrap ((1 : Int) + (((IntKind.i64.wrap (((count2).tmod (60 : Int)) + (60 : Int)))).tmod (60 : Int))))))) rfl (by kernel_rfl) (by kernel_rfl) (by kernel_rfl) (by kernel_rfl) rfl rfl hf (by decide) (wantY hf rfl rfl hb57) (fun w hp => ?_) ⟨_, hp⟩ ?_
                          · obtain ⟨_, hp⟩ := hp
                            refine st_iadd hf (by decide) (wantY hf rfl rfl hb57) rfl rfl ?_
                            clear hf; intro a ha hf
                            exact st_nil hf (th_n ⟨ha, rfl⟩)
                          clear hf; intro a hf
                          refine dr_take 16 (.int .i64 (IntKind.i64.wrap ((IntKind.i64.wrap ((IntKind.i64.wrap (to1 - from0)) + (IntKind.i64.wrap ((1 : Int) + (((IntKind.i64.wrap (((count2).tmod (60 : Int)) + (60 : Int)))).tmod (60 : Int)))))) - (1 : Int)))) rfl (by kernel_rfl) (by kernel_rfl) (by kernel_rfl) (by kernel_rfl) rfl rfl hf (by decide) (wantY hf rfl rfl hb57) (fun w hp => ?_) ⟨_, hp⟩ ?_
                          · obtain ⟨_, hp⟩ := hp
                            refine st_isub hf (by decide) (wantY hf rfl rfl hb57) rfl rfl ?_
                            clear hf; intro a ha hf
                            exact st_nil hf (th_n ⟨ha, rfl⟩)
                          clear hf; intro a hf
                          refine dr_take 17 (.int .i64 (IntKind.i64.wrap ((1 : Int) + (((IntKind.i64.wrap (((count2).tmod (60 : Int)) + (60 : Int)))).tmod (60 : Int))))) rfl (by kernel_rfl) (by kernel_rfl) (by kernel_rfl) (by kernel_rfl) rfl rfl hf (by decide) (wantY hf rfl rfl hb57) (fun w hp => ?_) ⟨_, hp⟩ ?_
                          · obtain ⟨_, hp⟩ := hp
                            refine st_move hf (wantY hf rfl rfl hb57) rfl (by decide) ?_
                            clear hf; intro a ha hf
                            exact st_nil hf (th_n ⟨ha, rfl⟩)
                          clear hf; intro a hf
                          refine dr_take 18 (.int .i64 (IntKind.i64.wrap (((IntKind.i64.wrap ((IntKind.i64.wrap ((IntKind.i64.wrap (to1 - from0)) + (IntKind.i64.wrap ((1 : Int) + (((IntKind.i64.wrap (((count2).tmod (60 : Int)) + (60 : Int)))).tmod (60 : Int)))))) - (1 : Int)))).tdiv (IntKind.i64.wrap ((1 : Int) + (((IntKind.i64.wrap (((count2).tmod (60 : Int)) + (60 : Int)))).tmod (60 : Int))))))) rfl (by kernel_rfl) (by kernel_rfl) (by kernel_rfl) (by kernel_rfl) rfl rfl hf (by decide) (wantY hf rfl rfl hb57) (fun w hp => ?_) ⟨_, hp⟩ ?_
                          · obtain ⟨_, hp⟩ := hp
                            refine st_iquo hf (by decide) (wantY hf rfl rfl hb57) rfl rfl hc59 ?_
                            clear hf; intro a ha hf
                            exact st_nil hf (th_n ⟨ha, rfl⟩)
                          clear hf; intro a hf
                          refine dr_take 19 (.bool (decide ((IntKind.i64.wrap (((IntKind.i64.wrap ((IntKind.i64.wrap ((IntKind.i64.wrap (to1 - from0)) + (IntKind.i64.wrap ((1 : Int) + (((IntKind.i64.wrap (((count2).tmod (60 : Int)) + (60 : Int)))).tmod (60 : Int)))))) - (1 : Int)))).tdiv (IntKind.i64.wrap ((1 : Int) + (((IntKind.i64.wrap (((count2).tmod (60 : Int)) + (60 : Int)))).tmod (60 : Int)))))) < (gt l10 w18)))) rfl (by kernel_rfl) (by kernel_rfl) (by kernel_rfl) (by kernel_rfl) rfl rfl hf (by decide) (wantY hf rfl rfl hb57) (fun w hp => ?_) ⟨_, hp⟩ ?_
                          · obtain ⟨_, hp⟩ := hp
                            refine st_igtr hf (by decide) (wantY hf rfl rfl hb57) rfl rfl ?_
                            clear hf; intro a ha hf
                            exact st_nil hf (th_n ⟨ha, rfl⟩)
                          clear hf; intro a hf
                          refine dr_take 20 (.bool z60) rfl (by kernel_rfl) (by kernel_rfl) (by kernel_rfl) (by kernel_rfl) rfl rfl hf (by decide) rfl (fun w hp => ?_) ⟨_, hp⟩ ?_
                          · obtain ⟨_, hp⟩ := hp
                            refine st_pick (v := .bool z60) hf rfl rfl (fun hb' => absurd (hb57.symm.trans hb') (by decide)) (fun _ => by rw [← hz56]; rfl) (by decide) ?_
                            clear hf; intro a ha hf
                            exact st_nil hf (th_n ⟨ha, rfl⟩)
                          clear hf; intro a hf
                          refine dr_take 21 (.bool z60) rfl (by kernel_rfl) (by kernel_rfl) (by kernel_rfl) (by kernel_rfl) rfl rfl hf (by decide) rfl (fun w hp => ?_) ⟨_, hp⟩ ?_
                          · obtain ⟨_, hp⟩ := hp
                            refine st_move hf rfl rfl (by decide) ?_
                            clear hf; intro a ha hf
                            exact st_nil hf (th_n ⟨ha, rfl⟩)
                          clear hf; intro a hf
                          refine dr_out 22 rfl (by kernel_rfl) (by kernel_rfl) (by kernel_rfl) (by kernel_rfl) rfl hf (by decide) rfl (wantN hf rfl rfl hb62) ⟨_, hp⟩ ?_
                          clear hf; intro a hf
                          refine dr_out 23 rfl (by kernel_rfl) (by kernel_rfl) (by kernel_rfl) (by kernel_rfl) rfl hf (by decide) rfl (wantN hf rfl rfl hb62) ⟨_, hp⟩ ?_
                          clear hf; intro a hf
                          refine dr_out 24 rfl (by kernel_rfl) (by kernel_rfl) (by kernel_rfl) (by kernel_rfl) rfl hf (by decide) rfl (wantN hf rfl rfl hb62) ⟨_, hp⟩ ?_
                          clear hf; intro a hf
                          refine dr_out 25 rfl (by kernel_rfl) (by kernel_rfl) (by kernel_rfl) (by kernel_rfl) rfl hf (by decide) rfl (wantN hf rfl rfl hb62) ⟨_, hp⟩ ?_
                          clear hf; intro a hf
                          refine dr_out 26 rfl (by kernel_rfl) (by kernel_rfl) (by kernel_rfl) (by kernel_rfl) rfl hf (by decide) rfl (wantN hf rfl rfl hb62) ⟨_, hp⟩ ?_
                          clear hf; intro a hf
                          refine dr_out 27 rfl (by kernel_rfl) (by kernel_rfl) (by kernel_rfl) (by kernel_rfl) rfl hf (by decide) rfl (wantN hf rfl rfl hb62) ⟨_, hp⟩ ?_
                          clear hf; intro a hf
                          refine dr_out 28 rfl (by kernel_rfl) (by kernel_rfl) (by kernel_rfl) (by kernel_rfl) rfl hf (by decide) rfl (wantN hf rfl rfl hb62) ⟨_, hp⟩ ?_
                          clear hf; intro a hf
                          refine dr_out 29 rfl (by kernel_rfl) (by kernel_rfl) (by kernel_rfl) (by kernel_rfl) rfl hf (by decide) rfl (wantN hf rfl rfl hb62) ⟨_, hp⟩ ?_
                          clear hf; intro a hf
                          refine dr_out 30 rfl (by kernel_rfl) (by kernel_rfl) (by kernel_rfl) (by kernel_rfl) rfl hf (by decide) rfl (wantN hf rfl rfl hb62) ⟨_, hp⟩ ?_
                          clear hf; intro a hf
                          refine dr_out 31 rfl (by kernel_rfl) (by kernel_rfl) (by kernel_rfl) (by kernel_rfl) rfl hf (by decide) rfl (wantN hf rfl rfl hb62) ⟨_, hp⟩ ?_
                          clear hf; intro a hf
                          refine dr_take 32 (.bool z65) rfl (by kernel_rfl) (by kernel_rfl) (by kernel_rfl) (by kernel_rfl) rfl rfl hf (by decide) rfl (fun w hp => ?_) ⟨_, hp⟩ ?_
                          · obtain ⟨_, hp⟩ := hp
                            refine st_pick (v := .bool z65) hf rfl rfl (fun _ => by rw [← hz61]; rfl) (fun hb' => absurd (hb62.symm.trans hb') (by decide)) (by decide) ?_
                            clear hf; intro a ha hf
                            exact st_nil hf (th_n ⟨ha, rfl⟩)
                          clear hf; intro a hf
                          refine dr_end (by kernel_rfl) ?_ _
                          have hp := bk51 _ _ hp
                          have hp := bk46 _ _ hp
                          exact ⟨hf.sub ⟨rfl, rfl, rfl, rfl, rfl, rfl, rfl, rfl, rfl, rfl, trivial⟩, hp⟩
                        · skip
                          replace hz61 := ifF hz61 hb62
                          obtain ⟨hc63, hz61⟩ := chk hz61
                          obtain ⟨hc64, hz61⟩ := chk hz61
                          replace hz61 := Option.some.inj hz61
                          refine dr_begin' (fun a w => Fr 213 a [(0, .int .i64 from0), (1, .int .i64 to1), (2, .int .i64 (IntKind.i64.wrap ((1 : Int) + (((IntKind.i64.wrap (((count2).tmod (60 : Int)) + (60 : Int)))).tmod (60 : Int))))), (3, .int .i64 (IntKind.i64.wrap ((1 : Int) + (((IntKind.i64.wrap (((length3).tmod (60 : Int)) + (60 : Int)))).tmod (60 : Int))))), (10, v37), (14, v39), (16, .int .i64 (IntKind.i64.wrap (to1 - from0))), (17, .int .i64 sum17), (18, .int .i64 w18), (146, .bool z65)] ∧ Hp S w0 w (Res.sl (Ek.int .i64) 3 v37 l10 :: Res.rows (RowK.sl (Ek.int .i64) 3) 22 v39 vs40 m14 :: ow)) (fun w' => ∃ l, Hp S47 w w' l) [] (by kernel_rfl) ?_
                          refine dr_take 0 (v37) rfl (by kernel_rfl) (by kernel_rfl) (by kernel_rfl) (by kernel_rfl) rfl rfl hf (by decide) rfl (fun w hp => ?_) ⟨_, hp⟩ ?_
                          · obtain ⟨_, hp⟩ := hp
                            refine st_move hf rfl rfl (by decide) ?_
                            clear hf; intro a ha hf
                            exact st_nil hf (th_n ⟨ha, rfl⟩)
                          clear hf; intro a hf
                          refine dr_take 1 (.int .i64 w18) rfl (by kernel_rfl) (by kernel_rfl) (by kernel_rfl) (by kernel_rfl) rfl rfl hf (by decide) rfl (fun w hp => ?_) ⟨_, hp⟩ ?_
                          · obtain ⟨_, hp⟩ := hp
                            refine st_move hf rfl rfl (by decide) ?_
                            clear hf; intro a ha hf
                            exact st_nil hf (th_n ⟨ha, rfl⟩)
                          clear hf; intro a hf
                          refine dr_take 2 (eptr v37 w18 1) rfl (by kernel_rfl) (by kernel_rfl) (by kernel_rfl) (by kernel_rfl) rfl rfl hf (by decide) rfl (fun w hp => ?_) ⟨_, hp⟩ ?_
                          · obtain ⟨_, hp⟩ := hp
                            refine st_index (E := (Ek.int .i64)) hf (by decide) Try.underlying22 elt3 rfl rfl rfl (rl52.sl hp) hc54.1 hc54.2 ?_
                            clear hf; intro a ha hf
                            exact st_nil hf (th_n ⟨ha, rfl⟩)
                          clear hf; intro a hf
                          refine dr_take 3 (.int .i64 (gt l10 w18)) rfl (by kernel_rfl) (by kernel_rfl) (by kernel_rfl) (by kernel_rfl) rfl rfl hf (by decide) rfl (fun w hp => ?_) ⟨_, hp⟩ ?_
                          · obtain ⟨_, hp⟩ := hp
                            refine st_ldI hf (by decide) pl3 rfl rfl (rl52.sl hp) hc54.1 hc54.2 ?_
                            clear hf; intro a ha hf
                            exact st_nil hf (th_n ⟨ha, rfl⟩)
                          clear hf; intro a hf
                          refine dr_take 4 (.int .i64 (IntKind.i64.wrap (to1 - from0))) rfl (by kernel_rfl) (by kernel_rfl) (by kernel_rfl) (by kernel_rfl) rfl rfl hf (by decide) rfl (fun w hp => ?_) ⟨_, hp⟩ ?_
                          · obtain ⟨_, hp⟩ := hp
                            refine st_move hf rfl rfl (by decide) ?_
                            clear hf; intro a ha hf
                            exact st_nil hf (th_n ⟨ha, rfl⟩)
                          clear hf; intro a hf
                          refine dr_take 5 (.int .i64 (IntKind.i64.wrap ((1 : Int) + (((IntKind.i64.wrap (((count2).tmod (60 : Int)) + (60 : Int)))).tmod (60 : Int))))) rfl (by kernel_rfl) (by kernel_rfl) (by kernel_rfl) (by kernel_rfl) rfl rfl hf (by decide) rfl (fun w hp => ?_) ⟨_, hp⟩ ?_
                          · obtain ⟨_, hp⟩ := hp
                            refine st_move hf rfl rfl (by decide) ?_
                            clear hf; intro a ha hf
                            exact st_nil hf (th_n ⟨ha, rfl⟩)
                          clear hf; intro a hf
                          refine dr_take 6 (.int .i64 (IntKind.i64.wrap (((IntKind.i64.wrap (to1 - from0))).tdiv (IntKind.i64.wrap ((1 : Int) + (((IntKind.i64.wrap (((count2).tmod (60 : Int)) + (60 : Int)))).tmod (60 : Int))))))) rfl (by kernel_rfl) (by kernel_rfl) (by kernel_rfl) (by kernel_rfl) rfl rfl hf (by decide) rfl (fun w hp => ?_) ⟨_, hp⟩ ?_
                          · obtain ⟨_, hp⟩ := hp
                            refine st_iquo hf (by decide) rfl rfl rfl hc55 ?_
                            clear hf; intro a ha hf
                            exact st_nil hf (th_n ⟨ha, rfl⟩)
                          clear hf; intro a hf
                          refine dr_take 7 (.bool (decide ((gt l10 w18) < (IntKind.i64.wrap (((IntKind.i64.wrap (to1 - from0))).tdiv (IntKind.i64.wrap ((1 : Int) + (((IntKind.i64.wrap (((count2).tmod (60 : Int)) + (60 : Int)))).tmod (60 : Int))))))))) rfl (by kernel_rfl) (by kernel_rfl) (by kernel_rfl) (by kernel_rfl) rfl rfl hf (by decide) rfl (fun w hp => ?_) ⟨_, hp⟩ ?_
                          · obtain ⟨_, hp⟩ := hp
                            refine st_ilss hf (by decide) rfl rfl rfl ?_
                            clear hf; intro a ha hf
                            exact st_nil hf (th_n ⟨ha, rfl⟩)
                          clear hf; intro a hf
                          refine dr_take 8 (.bool (decide ((gt l10 w18) < (IntKind.i64.wrap (((IntKind.i64.wrap (to1 - from0))).tdiv (IntKind.i64.wrap ((1 : Int) + (((IntKind.i64.wrap (((count2).tmod (60 : Int)) + (60 : Int)))).tmod (60 : Int))))))))) rfl (by kernel_rfl) (by kernel_rfl) (by kernel_rfl) (by kernel_rfl) rfl rfl hf (by decide) rfl (fun w hp => ?_) ⟨_, hp⟩ ?_
                          · obtain ⟨_, hp⟩ := hp
                            refine st_move hf rfl rfl (by decide) ?_
                            clear hf; intro a ha hf
                            exact st_nil hf (th_n ⟨ha, rfl⟩)
                          clear hf; intro a hf
                          refine dr_take 9 (v37) rfl (by kernel_rfl) (by kernel_rfl) (by kernel_rfl) (by kernel_rfl) rfl rfl hf (by decide) (wantY hf rfl rfl hb57) (fun w hp => ?_) ⟨_, hp⟩ ?_
                          · obtain ⟨_, hp⟩ := hp
                            refine st_move hf (wantY hf rfl rfl hb57) rfl (by decide) ?_
                            clear hf; intro a ha hf
                            exact st_nil hf (th_n ⟨ha, rfl⟩)
                          clear hf; intro a hf
                          refine dr_take 10 (.int .i64 w18) rfl (by kernel_rfl) (by kernel_rfl) (by kernel_rfl) (by kernel_rfl) rfl rfl hf (by decide) (wantY hf rfl rfl hb57) (fun w hp => ?_) ⟨_, hp⟩ ?_
                          · obtain ⟨_, hp⟩ := hp
                            refine st_move hf (wantY hf rfl rfl hb57) rfl (by decide) ?_
                            clear hf; intro a ha hf
                            exact st_nil hf (th_n ⟨ha, rfl⟩)
                          clear hf; intro a hf
                          refine dr_take 11 (eptr v37 w18 1) rfl (by kernel_rfl) (by kernel_rfl) (by kernel_rfl) (by kernel_rfl) rfl rfl hf (by decide) (wantY hf rfl rfl hb57) (fun w hp => ?_) ⟨_, hp⟩ ?_
                          · obtain ⟨_, hp⟩ := hp
                            refine st_index (E := (Ek.int .i64)) hf (by decide) Try.underlying22 elt3 (wantY hf rfl rfl hb57) rfl rfl (rl52.sl hp) hc58.1 hc58.2 ?_
                            clear hf; intro a ha hf
                            exact st_nil hf (th_n ⟨ha, rfl⟩)
                          clear hf; intro a hf
                          refine dr_take 12 (.int .i64 (gt l10 w18)) rfl (by kernel_rfl) (by kernel_rfl) (by kernel_rfl) (by kernel_rfl) rfl rfl hf (by decide) (wantY hf rfl rfl hb57) (fun w hp => ?_) ⟨_, hp⟩ ?_
                          · obtain ⟨_, hp⟩ := hp
                            refine st_ldI hf (by decide) pl3 (wantY hf rfl rfl hb57) rfl (rl52.sl hp) hc58.1 hc58.2 ?_
                            clear hf; intro a ha hf
                            exact st_nil hf (th_n ⟨ha, rfl⟩)
                          clear hf; intro a hf
                          refine dr_take 13 (.int .i64 (IntKind.i64.wrap (to1 - from0))) rfl (by kernel_rfl) (by kernel_rfl) (by kernel_rfl) (by kernel_rfl) rfl rfl hf (by decide) (wantY hf rfl rfl hb57) (fun w hp => ?_) ⟨_, hp⟩ ?_
                          · obtain ⟨_, hp⟩ := hp
                            refine st_move hf (wantY hf rfl rfl hb57) rfl (by decide) ?_
                            clear hf; intro a ha hf
                            exact st_nil hf (th_n ⟨ha, rfl⟩)
                          clear hf; intro a hf
                          refine dr_take 14 (.int .i64 (IntKind.i64.wrap ((1 : Int) + (((IntKind.i64.wrap (((count2).tmod (60 : Int)) + (60 : Int)))).tmod (60 : Int))))) rfl (by kernel_rfl) (by kernel_rfl) (by kernel_rfl) (by kernel_rfl) rfl rfl hf (by decide) (wantY hf rfl rfl hb57) (fun w hp => ?_) ⟨_, hp⟩ ?_
                          · obtain ⟨_, hp⟩ := hp
                            refine st_move hf (wantY hf rfl rfl hb57) rfl (by decide) ?_
                            clear hf; intro a ha hf
                            exact st_nil hf (th_n ⟨ha, rfl⟩)
                          clear hf; intro a hf
                          refine dr_take 15 (.int .i64 (IntKind.i64.wrap ((IntKind.i64.wrap (to1 - from0)) + (IntKind.i64.wrap ((1 : Int) + (((IntKind.i64.wrap (((count2).tmod (60 : Int)) + (60 : Int)))).tmod (60 : Int))))))) rfl (by kernel_rfl) (by kernel_rfl) (by kernel_rfl) (by kernel_rfl) rfl rfl hf (by decide) (wantY hf rfl rfl hb57) (fun w hp => ?_) ⟨_, hp⟩ ?_
                          · obtain ⟨_, hp⟩ := hp
                            refine st_iadd hf (by decide) (wantY hf rfl rfl hb57) rfl rfl ?_
                            clear hf; intro a ha hf
                            exact st_nil hf (th_n ⟨ha, rfl⟩)
                          clear hf; intro a hf
                          refine dr_take 16 (.int .i64 (IntKind.i64.wrap ((IntKind.i64.wrap ((IntKind.i64.wrap (to1 - from0)) + (IntKind.i64.wrap ((1 : Int) + (((IntKind.i64.wrap (((count2).tmod (60 : Int)) + (60 : Int)))).tmod (60 : Int)))))) - (1 : Int)))) rfl (by kernel_rfl) (by kernel_rfl) (by kernel_rfl) (by kernel_rfl) rfl rfl hf (by decide) (wantY hf rfl rfl hb57) (fun w hp => ?_) ⟨_, hp⟩ ?_
                          · obtain ⟨_, hp⟩ := hp
                            refine st_isub hf (by decide) (wantY hf rfl rfl hb57) rfl rfl ?_
                            clear hf; intro a ha hf
                            exact st_nil hf (th_n ⟨ha, rfl⟩)
                          clear hf; intro a hf
                          refine dr_take 17 (.int .i64 (IntKind.i64.wrap ((1 : Int) + (((IntKind.i64.wrap (((count2).tmod (60 : Int)) + (60 : Int)))).tmod (60 : Int))))) rfl (by kernel_rfl) (by kernel_rfl) (by kernel_rfl) (by kernel_rfl) rfl rfl hf (by decide) (wantY hf rfl rfl hb57) (fun w hp => ?_) ⟨_, hp⟩ ?_
                          · obtain ⟨_, hp⟩ := hp
                            refine st_move hf (wantY hf rfl rfl hb57) rfl (by decide) ?_
                            clear hf; intro a ha hf
                            exact st_nil hf (th_n ⟨ha, rfl⟩)
                          clear hf; intro a hf
                          refine dr_take 18 (.int .i64 (IntKind.i64.wrap (((IntKind.i64.wrap ((IntKind.i64.wrap ((IntKind.i64.wrap (to1 - from0)) + (IntKind.i64.wrap ((1 : Int) + (((IntKind.i64.wrap (((count2).tmod (60 : Int)) + (60 : Int)))).tmod (60 : Int)))))) - (1 : Int)))).tdiv (IntKind.i64.wrap ((1 : Int) + (((IntKind.i64.wrap (((count2).tmod (60 : Int)) + (60 : Int)))).tmod (60 : Int))))))) rfl (by kernel_rfl) (by kernel_rfl) (by kernel_rfl) (by kernel_rfl) rfl rfl hf (by decide) (wantY hf rfl rfl hb57) (fun w hp => ?_) ⟨_, hp⟩ ?_
                          · obtain ⟨_, hp⟩ := hp
                            refine st_iquo hf (by decide) (wantY hf rfl rfl hb57) rfl rfl hc59 ?_
                            clear hf; intro a ha hf
                            exact st_nil hf (th_n ⟨ha, rfl⟩)
                          clear hf; intro a hf
                          refine dr_take 19 (.bool (decide ((IntKind.i64.wrap (((IntKind.i64.wrap ((IntKind.i64.wrap ((IntKind.i64.wrap (to1 - from0)) + (IntKind.i64.wrap ((1 : Int) + (((IntKind.i64.wrap (((count2).tmod (60 : Int)) + (60 : Int)))).tmod (60 : Int)))))) - (1 : Int)))).tdiv (IntKind.i64.wrap ((1 : Int) + (((IntKind.i64.wrap (((count2).tmod (60 : Int)) + (60 : Int)))).tmod (60 : Int)))))) < (gt l10 w18)))) rfl (by kernel_rfl) (by kernel_rfl) (by kernel_rfl) (by kernel_rfl) rfl rfl hf (by decide) (wantY hf rfl rfl hb57) (fun w hp => ?_) ⟨_, hp⟩ ?_
                          · obtain ⟨_, hp⟩ := hp
                            refine st_igtr hf (by decide) (wantY hf rfl rfl hb57) rfl rfl ?_
                            clear hf; intro a ha hf
                            exact st_nil hf (th_n ⟨ha, rfl⟩)
                          clear hf; intro a hf
                          refine dr_take 20 (.bool z60) rfl (by kernel_rfl) (by kernel_rfl) (by kernel_rfl) (by kernel_rfl) rfl rfl hf (by decide) rfl (fun w hp => ?_) ⟨_, hp⟩ ?_
                          · obtain ⟨_, hp⟩ := hp
                            refine st_pick (v := .bool z60) hf rfl rfl (fun hb' => absurd (hb57.symm.trans hb') (by decide)) (fun _ => by rw [← hz56]; rfl) (by decide) ?_
                            clear hf; intro a ha hf
                            exact st_nil hf (th_n ⟨ha, rfl⟩)
                          clear hf; intro a hf
                          refine dr_take 21 (.bool z60) rfl (by kernel_rfl) (by kernel_rfl) (by kernel_rfl) (by kernel_rfl) rfl rfl hf (by decide) rfl (fun w hp => ?_) ⟨_, hp⟩ ?_
                          · obtain ⟨_, hp⟩ := hp
                            refine st_move hf rfl rfl (by decide) ?_
                            clear hf; intro a ha hf
                            exact st_nil hf (th_n ⟨ha, rfl⟩)
                          clear hf; intro a hf
                          refine dr_take 22 (v39) rfl (by kernel_rfl) (by kernel_rfl) (by kernel_rfl) (by kernel_rfl) rfl rfl hf (by decide) (wantY hf rfl rfl hb62) (fun w hp => ?_) ⟨_, hp⟩ ?_
                          · obtain ⟨_, hp⟩ := hp
                            refine st_move hf (wantY hf rfl rfl hb62) rfl (by decide) ?_
                            clear hf; intro a ha hf
                            exact st_nil hf (th_n ⟨ha, rfl⟩)
                          clear hf; intro a hf
                          refine dr_take 23 (.int .i64 w18) rfl (by kernel_rfl) (by kernel_rfl) (by kernel_rfl) (by kernel_rfl) rfl rfl hf (by decide) (wantY hf rfl rfl hb62) (fun w hp => ?_) ⟨_, hp⟩ ?_
                          · obtain ⟨_, hp⟩ := hp
                            refine st_move hf (wantY hf rfl rfl hb62) rfl (by decide) ?_
                            clear hf; intro a ha hf
                            exact st_nil hf (th_n ⟨ha, rfl⟩)
                          clear hf; intro a hf
                          refine dr_take 24 (eptr v39 w18 1) rfl (by kernel_rfl) (by kernel_rfl) (by kernel_rfl) (by kernel_rfl) rfl rfl hf (by decide) (wantY hf rfl rfl hb62) (fun w hp => ?_) ⟨_, hp⟩ ?_
                          · obtain ⟨_, hp⟩ := hp
                            refine st_indexV (E := Ek.val) (m := m14.length) hf (by decide) Try.underlying23 eltv22 (wantY hf rfl rfl hb62) rfl rfl (rl53.ob hp).shapeNY hc63.1 hc63.2 ?_
                            clear hf; intro a ha hf
                            exact st_nil hf (th_n ⟨ha, rfl⟩)
                          clear hf; intro a hf
                          refine dr_take 25 ((gtv vs40 w18)) rfl (by kernel_rfl) (by kernel_rfl) (by kernel_rfl) (by kernel_rfl) rfl rfl hf (by decide) (wantY hf rfl rfl hb62) (fun w hp => ?_) ⟨_, hp⟩ ?_
                          · obtain ⟨_, hp⟩ := hp
                            refine st_ldRY hf (by decide) pl22 (wantY hf rfl rfl hb62) rfl (rl53.ob hp) hc63.1 hc63.2 ?_
                            clear hf; intro a ha hf
                            exact st_nil hf (th_n ⟨ha, rfl⟩)
                          clear hf; intro a hf
                          refine dr_take 26 (.int .i64 ((gt m14 w18).length : Int)) rfl (by kernel_rfl) (by kernel_rfl) (by kernel_rfl) (by kernel_rfl) rfl rfl hf (by decide) (wantY hf rfl rfl hb62) (fun w hp => ?_) ⟨_, hp⟩ ?_
                          · obtain ⟨_, hp⟩ := hp
                            refine st_len (E := (Ek.int .i64)) hf (by decide) Try.underlying22 (wantY hf rfl rfl hb62) rfl ((RdR.rowS rl53 hc63.1 hc63.2).sl hp) ?_
                            clear hf; intro a ha hf
                            exact st_nil hf (th_n ⟨ha, rfl⟩)
                          clear hf; intro a hf
                          refine dr_take 27 (v37) rfl (by kernel_rfl) (by kernel_rfl) (by kernel_rfl) (by kernel_rfl) rfl rfl hf (by decide) (wantY hf rfl rfl hb62) (fun w hp => ?_) ⟨_, hp⟩ ?_
                          · obtain ⟨_, hp⟩ := hp
                            refine st_move hf (wantY hf rfl rfl hb62) rfl (by decide) ?_
                            clear hf; intro a ha hf
                            exact st_nil hf (th_n ⟨ha, rfl⟩)
                          clear hf; intro a hf
                          refine dr_take 28 (.int .i64 w18) rfl (by kernel_rfl) (by kernel_rfl) (by kernel_rfl) (by kernel_rfl) rfl rfl hf (by decide) (wantY hf rfl rfl hb62) (fun w hp => ?_) ⟨_, hp⟩ ?_
                          · obtain ⟨_, hp⟩ := hp
                            refine st_move hf (wantY hf rfl rfl hb62) rfl (by decide) ?_
                            clear hf; intro a ha hf
                            exact st_nil hf (th_n ⟨ha, rfl⟩)
                          clear hf; intro a hf
                          refine dr_take 29 (eptr v37 w18 1) rfl (by kernel_rfl) (by kernel_rfl) (by kernel_rfl) (by kernel_rfl) rfl rfl hf (by decide) (wantY hf rfl rfl hb62) (fun w hp => ?_) ⟨_, hp⟩ ?_
                          · obtain ⟨_, hp⟩ := hp
                            refine st_index (E := (Ek.int .i64)) hf (by decide) Try.underlying22 elt3 (wantY hf rfl rfl hb62) rfl rfl (rl52.sl hp) hc64.1 hc64.2 ?_
                            clear hf; intro a ha hf
                            exact st_nil hf (th_n ⟨ha, rfl⟩)
                          clear hf; intro a hf
                          refine dr_take 30 (.int .i64 (gt l10 w18)) rfl (by kernel_rfl) (by kernel_rfl) (by kernel_rfl) (by kernel_rfl) rfl rfl hf (by decide) (wantY hf rfl rfl hb62) (fun w hp => ?_) ⟨_, hp⟩ ?_
                          · obtain ⟨_, hp⟩ := hp
                            refine st_ldI hf (by decide) pl3 (wantY hf rfl rfl hb62) rfl (rl52.sl hp) hc64.1 hc64.2 ?_
                            clear hf; intro a ha hf
                            exact st_nil hf (th_n ⟨ha, rfl⟩)
                          clear hf; intro a hf
                          refine dr_take 31 (.bool (((gt m14 w18).length : Int) != (gt l10 w18))) rfl (by kernel_rfl) (by kernel_rfl) (by kernel_rfl) (by kernel_rfl) rfl rfl hf (by decide) (wantY hf rfl rfl hb62) (fun w hp => ?_) ⟨_, hp⟩ ?_
                          · obtain ⟨_, hp⟩ := hp
                            refine st_ineq hf (by decide) (wantY hf rfl rfl hb62) rfl rfl ?_
                            clear hf; intro a ha hf
                            exact st_nil hf (th_n ⟨ha, rfl⟩)
                          clear hf; intro a hf
                          refine dr_take 32 (.bool z65) rfl (by kernel_rfl) (by kernel_rfl) (by kernel_rfl) (by kernel_rfl) rfl rfl hf (by decide) rfl (fun w hp => ?_) ⟨_, hp⟩ ?_
                          · obtain ⟨_, hp⟩ := hp
                            refine st_pick (v := .bool z65) hf rfl rfl (fun hb' => absurd (hb62.symm.trans hb') (by decide)) (fun _ => by rw [← hz61]; rfl) (by decide) ?_
                            clear hf; intro a ha hf
                            exact st_nil hf (th_n ⟨ha, rfl⟩)
                          clear hf; intro a hf
                          refine dr_end (by kernel_rfl) ?_ _
                          have hp := bk51 _ _ hp
                          have hp := bk46 _ _ hp
                          exact ⟨hf.sub ⟨rfl, rfl, rfl, rfl, rfl, rfl, rfl, rfl, rfl, rfl, trivial⟩, hp⟩
                    · rintro a w ⟨hf, hp⟩
                      refine th_n ?_
                      refine wp_if hf rfl (fun hb => ?_) (fun hb => ?_)
                      · replace h := ifT h hb
                        refine wp_seq ?_
                        refine wp_reg ?_
                        refine st_assign hf rfl rfl (by decide) ?_
                        clear hf; intro a ha hf; clear ha
                        refine st_nil hf ?_
                        refine th_n ?_
                        refine wp_ret ?_
                        refine th_r ?_
                        refine ib_r ?_
                        refine th_r ?_
                        obtain rfl := Option.some.inj h
                        have hp : Hp _ _ _ (ow) := Hp.sel (pre := [Res.sl (Ek.int .i64) 3 v37 l10, Res.rows (RowK.sl (Ek.int .i64) 3) 22 v39 vs40 m14]) (tail := ow) (rs' := []) hp [] (by decide) (by simp) rfl
                        exact rnd_r (by simp) ⟨rfl, ⟨hf.sub ⟨rfl, trivial⟩, hp⟩⟩
                      · replace h := ifF h hb
                        refine wp_skip ?_
                        refine th_n ?_
                        refine wp_seq ?_
                        refine wp_reg ?_
                        refine st_move hf rfl rfl (by decide) ?_
                        clear hf; intro a ha hf; clear ha
                        refine st_move hf rfl rfl (by decide) ?_
                        clear hf; intro a ha hf; clear ha
                        refine st_move hf rfl rfl (by decide) ?_
                        clear hf; intro a ha hf; clear ha
                        obtain ⟨hc66, h⟩ := chk h
                        refine st_index (E := (Ek.int .i64)) hf (by decide) Try.underlying22 elt3 rfl rfl rfl (hp.sl (i := 0) rfl) hc66.1 hc66.2 ?_
                        clear hf; intro a ha hf; clear ha
                        refine st_ldI hf (by decide) pl3 rfl rfl (hp.sl (i := 0) rfl) hc66.1 hc66.2 ?_
                        clear hf; intro a ha hf; clear ha
                        refine st_iadd hf (by decide) rfl rfl rfl ?_
                        clear hf; intro a ha hf; clear ha
                        refine st_assign hf rfl rfl (by decide) ?_
                        clear hf; intro a ha hf; clear ha
                        refine st_nil hf ?_
                        refine th_n ?_
                        refine wp_seq ?_
                        refine wp_reg ?_
                        refine st_assign hf rfl rfl (by decide) ?_
                        clear hf; intro a ha hf; clear ha
                        refine st_nil hf ?_
                        refine th_n ?_
                        refine wp_block ?_
                        obtain ⟨q94, hl, h⟩ := bnd h
                        refine wp_loop_pure (f := (f_foghornlaw17_WeaveSpread.s3 from0 to1 count2 length3 m14 w18)) (s := (0 : Int)) (fun s a w => Fr 213 a [(0, .int .i64 from0), (1, .int .i64 to1), (2, .int .i64 (IntKind.i64.wrap ((1 : Int) + (((IntKind.i64.wrap (((count2).tmod (60 : Int)) + (60 : Int)))).tmod (60 : Int))))), (3, .int .i64 (IntKind.i64.wrap ((1 : Int) + (((IntKind.i64.wrap (((length3).tmod (60 : Int)) + (60 : Int)))).tmod (60 : Int))))), (10, v37), (14, v39), (16, .int .i64 (IntKind.i64.wrap (to1 - from0))), (17, .int .i64 (IntKind.i64.wrap (sum17 + (gt l10 w18)))), (18, .int .i64 w18), (19, .int .i64 s)] ∧ Hp S w0 w (Res.sl (Ek.int .i64) 3 v37 l10 :: Res.rows (RowK.sl (Ek.int .i64) 3) 22 v39 vs40 m14 :: ow)) (fun q e a w => match q with | (Sum.inl q) => e = .exit 4 ∧ Fr 213 a [(0, .int .i64 from0), (1, .int .i64 to1), (2, .int .i64 (IntKind.i64.wrap ((1 : Int) + (((IntKind.i64.wrap (((count2).tmod (60 : Int)) + (60 : Int)))).tmod (60 : Int))))), (3, .int .i64 (IntKind.i64.wrap ((1 : Int) + (((IntKind.i64.wrap (((length3).tmod (60 : Int)) + (60 : Int)))).tmod (60 : Int))))), (10, v37), (14, v39), (16, .int .i64 (IntKind.i64.wrap (to1 - from0))), (17, .int .i64 (IntKind.i64.wrap (sum17 + (gt l10 w18)))), (18, .int .i64 w18)] ∧ Hp S w0 w (Res.sl (Ek.int .i64) 3 v37 l10 :: Res.rows (RowK.sl (Ek.int .i64) 3) 22 v39 vs40 m14 :: ow) | (Sum.inr q) => e = .ret ∧ Fr 213 a [(8, .bool q)] ∧ Hp S w0 w (ow)) ?_ hl ⟨hf.sub ⟨rfl, rfl, rfl, rfl, rfl, rfl, rfl, rfl, rfl, rfl, trivial⟩, hp⟩ ?_
                        · clear hl hf hp
                          intro s x a w h hI
                          obtain ⟨k19, hs⟩ : ∃ z, z = s := ⟨s, rfl⟩; subst hs
                          obtain ⟨hf, hp⟩ : Fr 213 a [(0, .int .i64 from0), (1, .int .i64 to1), (2, .int .i64 (IntKind.i64.wrap ((1 : Int) + (((IntKind.i64.wrap (((count2).tmod (60 : Int)) + (60 : Int)))).tmod (60 : Int))))), (3, .int .i64 (IntKind.i64.wrap ((1 : Int) + (((IntKind.i64.wrap (((length3).tmod (60 : Int)) + (60 : Int)))).tmod (60 : Int))))), (10, v37), (14, v39), (16, .int .i64 (IntKind.i64.wrap (to1 - from0))), (17, .int .i64 (IntKind.i64.wrap (sum17 + (gt l10 w18)))), (18, .int .i64 w18), (19, .int .i64 k19)] ∧ Hp S w0 w (Res.sl (Ek.int .i64) 3 v37 l10 :: Res.rows (RowK.sl (Ek.int .i64) 3) 22 v39 vs40 m14 :: ow) := hI
                          replace h : f_foghornlaw17_WeaveSpread.s3c from0 to1 count2 length3 m14 w18 k19 = some x := h
                          unfold f_foghornlaw17_WeaveSpread.s3c at h
                          refine wp_seq ?_
                          refine wp_seq ?_
                          refine wp_reg ?_
                          refine st_move hf rfl rfl (by decide) ?_
                          clear hf; intro a ha hf; clear ha
                          refine st_move hf rfl rfl (by decide) ?_
                          clear hf; intro a ha hf; clear ha
                          refine st_move hf rfl rfl (by decide) ?_
                          clear hf; intro a ha hf; clear ha
                          obtain ⟨hc67, h⟩ := chk h
                          refine st_indexV (E := Ek.val) (m := m14.length) hf (by decide) Try.underlying23 eltv22 rfl rfl rfl (hp.rd (i := 1) rfl).shapeNY hc67.1 hc67.2 ?_
                          clear hf; intro a ha hf; clear ha
                          refine st_ldRY hf (by decide) pl22 rfl rfl (hp.rd (i := 1) rfl) hc67.1 hc67.2 ?_
                          clear hf; intro a ha hf; clear ha
                          refine st_len (E := (Ek.int .i64)) hf (by decide) Try.underlying22 rfl rfl (RdR.rowS (hp.rd (i := 1) rfl) hc67.1 hc67.2) ?_
                          clear hf; intro a ha hf; clear ha
                          refine st_ilss hf (by decide) rfl rfl rfl ?_
                          clear hf; intro a ha hf; clear ha
                          refine st_nil hf ?_
                          refine th_n ?_
                          refine wp_if hf rfl (fun hb => ?_) (fun hb => ?_)
                          · replace h := ifT h hb
                            refine wp_skip ?_
                            refine th_n ?_
                            refine wp_seq ?_
                            refine wp_block ?_
                            refine wp_seq ?_
                            refine wp_reg ?_
                            refine st_move hf rfl rfl (by decide) ?_
                            clear hf; intro a ha hf; clear ha
                            refine st_move hf rfl rfl (by decide) ?_
                            clear hf; intro a ha hf; clear ha
                            refine st_move hf rfl rfl (by decide) ?_
                            clear hf; intro a ha hf; clear ha
                            obtain ⟨hc68, h⟩ := chk h
                            refine st_indexV (E := Ek.val) (m := m14.length) hf (by decide) Try.underlying23 eltv22 rfl rfl rfl (hp.rd (i := 1) rfl).shapeNY hc68.1 hc68.2 ?_
                            clear hf; intro a ha hf; clear ha
                            refine st_ldRY hf (by decide) pl22 rfl rfl (hp.rd (i := 1) rfl) hc68.1 hc68.2 ?_
                            clear hf; intro a ha hf; clear ha
                            refine st_move hf rfl rfl (by decide) ?_
                            clear hf; intro a ha hf; clear ha
                            obtain ⟨hc69, h⟩ := chk h
                            refine st_index (E := (Ek.int .i64)) hf (by decide) Try.underlying22 elt3 rfl rfl rfl (RdR.rowS (hp.rd (i := 1) rfl) hc68.1 hc68.2) hc69.1 hc69.2 ?_
                            clear hf; intro a ha hf; clear ha
                            refine st_ldI hf (by decide) pl3 rfl rfl (RdR.rowS (hp.rd (i := 1) rfl) hc68.1 hc68.2) hc69.1 hc69.2 ?_
                            clear hf; intro a ha hf; clear ha
                            refine st_move hf rfl rfl (by decide) ?_
                            clear hf; intro a ha hf; clear ha
                            refine st_move hf rfl rfl (by decide) ?_
                            clear hf; intro a ha hf; clear ha
                            obtain ⟨q70, hcall71, h⟩ := bnd h
                            refine st_call hf (by decide) Try.func17 rfl rfl rfl rfl rfl (f_weave_Place_c hp _ _ _ _ hcall71) ?_
                            rintro _ w ⟨rfl, hp0⟩
                            clear hp; have hp := hp0; clear hp0
                            replace hp : Hp _ _ _ (Res.sl (Ek.int .i64) 3 v37 l10 :: Res.rows (RowK.sl (Ek.int .i64) 3) 22 v39 vs40 m14 :: ow) := hp
                            refine ⟨_, rfl, ?_⟩
                            clear hf; intro a hf
                            refine st_move hf rfl rfl (by decide) ?_
                            clear hf; intro a ha hf; clear ha
                            refine st_extract hf (by decide) rfl rfl rfl ?_
                            clear hf; intro a ha hf; clear ha
                            refine st_extract hf (by decide) rfl rfl rfl ?_
                            clear hf; intro a ha hf; clear ha
                            refine st_assign hf rfl rfl (by decide) ?_
                            clear hf; intro a ha hf; clear ha
                            refine st_assign hf rfl rfl (by decide) ?_
                            clear hf; intro a ha hf; clear ha
                            refine st_nil hf ?_
                            refine th_n ?_
                            refine wp_seq ?_
                            obtain ⟨S72, hp73, rd74, up75, bk76⟩ := Hp.lendR hp (i := 1) rfl
                            have rl77 := rd74
                            have rl78 := (RdR.rowS rd74 hc67.1 hc67.2)
                            have rl79 := (RdR.rowS rd74 hc68.1 hc68.2)
                            obtain ⟨z93, hz84, h⟩ := bnd h
                            refine wp_cutN (fun a w => Fr 213 a [(0, .int .i64 from0), (1, .int .i64 to1), (2, .int .i64 (IntKind.i64.wrap ((1 : Int) + (((IntKind.i64.wrap (((count2).tmod (60 : Int)) + (60 : Int)))).tmod (60 : Int))))), (3, .int .i64 (IntKind.i64.wrap ((1 : Int) + (((IntKind.i64.wrap (((length3).tmod (60 : Int)) + (60 : Int)))).tmod (60 : Int))))), (10, v37), (14, v39), (16, .int .i64 (IntKind.i64.wrap (to1 - from0))), (17, .int .i64 (IntKind.i64.wrap (sum17 + (gt l10 w18)))), (18, .int .i64 w18), (19, .int .i64 k19), (209, .bool z93)] ∧ Hp S w0 w (Res.rows (RowK.sl (Ek.int .i64) 3) 22 v39 vs40 m14 :: Res.sl (Ek.int .i64) 3 v37 l10 :: ow)) ?_ ?_
                            · have hp := hp73.same (Same.drew w)
                              rcases Bool.eq_false_or_eq_true (q70.2 != (0 : Int)) with hb81 | hb81
                              · skip
                                have hb83 : ((q70.2 != (0 : Int)) || (decide (q70.1 < from0))) = true := by rw [hb81]; rfl
                                skip
                                have hb85 : (((q70.2 != (0 : Int)) || (decide (q70.1 < from0))) || (decide (to1 ≤ q70.1))) = true := by rw [hb83]; rfl
                                skip
                                replace hz84 := ifT hz84 hb85
                                replace hz84 := Option.some.inj hz84
                                refine dr_begin' (fun a w => Fr 213 a [(0, .int .i64 from0), (1, .int .i64 to1), (2, .int .i64 (IntKind.i64.wrap ((1 : Int) + (((IntKind.i64.wrap (((count2).tmod (60 : Int)) + (60 : Int)))).tmod (60 : Int))))), (3, .int .i64 (IntKind.i64.wrap ((1 : Int) + (((IntKind.i64.wrap (((length3).tmod (60 : Int)) + (60 : Int)))).tmod (60 : Int))))), (10, v37), (14, v39), (16, .int .i64 (IntKind.i64.wrap (to1 - from0))), (17, .int .i64 (IntKind.i64.wrap (sum17 + (gt l10 w18)))), (18, .int .i64 w18), (19, .int .i64 k19), (209, .bool z93)] ∧ Hp S w0 w (Res.rows (RowK.sl (Ek.int .i64) 3) 22 v39 vs40 m14 :: Res.sl (Ek.int .i64) 3 v37 l10 :: ow)) (fun w' => ∃ l, Hp S72 w w' l) [] (by kernel_rfl) ?_
                                refine dr_take 0 (.int .i64 q70.2) rfl (by kernel_rfl) (by kernel_rfl) (by kernel_rfl) (by kernel_rfl) rfl rfl hf (by decide) rfl (fun w hp => ?_) ⟨_, hp⟩ ?_
                                · obtain ⟨_, hp⟩ := hp
                                  refine st_move hf rfl rfl (by decide) ?_
                                  clear hf; intro a ha hf
                                  exact st_nil hf (th_n ⟨ha, rfl⟩)
                                clear hf; intro a hf
                                refine dr_take 1 (.bool (q70.2 != (0 : Int))) rfl (by kernel_rfl) (by kernel_rfl) (by kernel_rfl) (by kernel_rfl) rfl rfl hf (by decide) rfl (fun w hp => ?_) ⟨_, hp⟩ ?_
                                · obtain ⟨_, hp⟩ := hp
                                  refine st_ineq hf (by decide) rfl rfl rfl ?_
                                  clear hf; intro a ha hf
                                  exact st_nil hf (th_n ⟨ha, rfl⟩)
                                clear hf; intro a hf
                                refine dr_take 2 (.bool (q70.2 != (0 : Int))) rfl (by kernel_rfl) (by kernel_rfl) (by kernel_rfl) (by kernel_rfl) rfl rfl hf (by decide) rfl (fun w hp => ?_) ⟨_, hp⟩ ?_
                                · obtain ⟨_, hp⟩ := hp
                                  refine st_move hf rfl rfl (by decide) ?_
                                  clear hf; intro a ha hf
                                  exact st_nil hf (th_n ⟨ha, rfl⟩)
                                clear hf; intro a hf
                                refine dr_out 3 rfl (by kernel_rfl) (by kernel_rfl) (by kernel_rfl) (by kernel_rfl) rfl hf (by decide) rfl (wantN hf rfl rfl hb81) ⟨_, hp⟩ ?_
                                clear hf; intro a hf
                                refine dr_out 4 rfl (by kernel_rfl) (by kernel_rfl) (by kernel_rfl) (by kernel_rfl) rfl hf (by decide) rfl (wantN hf rfl rfl hb81) ⟨_, hp⟩ ?_
                                clear hf; intro a hf
                                refine dr_out 5 rfl (by kernel_rfl) (by kernel_rfl) (by kernel_rfl) (by kernel_rfl) rfl hf (by decide) rfl (wantN hf rfl rfl hb81) ⟨_, hp⟩ ?_
                                clear hf; intro a hf
                                refine dr_take 6 (.bool ((q70.2 != (0 : Int)) || (decide (q70.1 < from0)))) rfl (by kernel_rfl) (by kernel_rfl) (by kernel_rfl) (by kernel_rfl) rfl rfl hf (by decide) rfl (fun w hp => ?_) ⟨_, hp⟩ ?_
                                · obtain ⟨_, hp⟩ := hp
                                  refine st_pick (v := .bool ((q70.2 != (0 : Int)) || (decide (q70.1 < from0)))) hf rfl rfl (fun _ => by rw [show ((q70.2 != (0 : Int)) || (decide (q70.1 < from0))) = true from by rw [hb81]; rfl]; rfl) (fun hb' => absurd (hb81.symm.trans hb') (by decide)) (by decide) ?_
                                  clear hf; intro a ha hf
                                  exact st_nil hf (th_n ⟨ha, rfl⟩)
                                clear hf; intro a hf
                                refine dr_take 7 (.bool ((q70.2 != (0 : Int)) || (decide (q70.1 < from0)))) rfl (by kernel_rfl) (by kernel_rfl) (by kernel_rfl) (by kernel_rfl) rfl rfl hf (by decide) rfl (fun w hp => ?_) ⟨_, hp⟩ ?_
                                · obtain ⟨_, hp⟩ := hp
                                  refine st_move hf rfl rfl (by decide) ?_
                                  clear hf; intro a ha hf
                                  exact st_nil hf (th_n ⟨ha, rfl⟩)
                                clear hf; intro a hf
                                refine dr_out 8 rfl (by kernel_rfl) (by kernel_rfl) (by kernel_rfl) (by kernel_rfl) rfl hf (by decide) rfl (wantN hf rfl rfl hb83) ⟨_, hp⟩ ?_
                                clear hf; intro a hf
                                refine dr_out 9 rfl (by kernel_rfl) (by kernel_rfl) (by kernel_rfl) (by kernel_rfl) rfl hf (by decide) rfl (wantN hf rfl rfl hb83) ⟨_, hp⟩ ?_
                                clear hf; intro a hf
                                refine dr_out 10 rfl (by kernel_rfl) (by kernel_rfl) (by kernel_rfl) (by kernel_rfl) rfl hf (by decide) rfl (wantN hf rfl rfl hb83) ⟨_, hp⟩ ?_
                                clear hf; intro a hf
                                refine dr_take 11 (.bool (((q70.2 != (0 : Int)) || (decide (q70.1 < from0))) || (decide (to1 ≤ q70.1)))) rfl (by kernel_rfl) (by kernel_rfl) (by kernel_rfl) (by kernel_rfl) rfl rfl hf (by decide) rfl (fun w hp => ?_) ⟨_, hp⟩ ?_
                                · obtain ⟨_, hp⟩ := hp
                                  refine st_pick (v := .bool (((q70.2 != (0 : Int)) || (decide (q70.1 < from0))) || (decide (to1 ≤ q70.1)))) hf rfl rfl (fun _ => by rw [show (((q70.2 != (0 : Int)) || (decide (q70.1 < from0))) || (decide (to1 ≤ q70.1))) = true from by rw [hb83]; rfl]; rfl) (fun hb' => absurd (hb83.symm.trans hb') (by decide)) (by decide) ?_
                                  clear hf; intro a ha hf
                                  exact st_nil hf (th_n ⟨ha, rfl⟩)
                                clear hf; intro a hf
                                refine dr_take 12 (.bool (((q70.2 != (0 : Int)) || (decide (q70.1 < from0))) || (decide (to1 ≤ q70.1)))) rfl (by kernel_rfl) (by kernel_rfl) (by kernel_rfl) (by kernel_rfl) rfl rfl hf (by decide) rfl (fun w hp => ?_) ⟨_, hp⟩ ?_
                                · obtain ⟨_, hp⟩ := hp
                                  refine st_move hf rfl rfl (by decide) ?_
                                  clear hf; intro a ha hf
                                  exact st_nil hf (th_n ⟨ha, rfl⟩)
                                clear hf; intro a hf
                                refine dr_out 13 rfl (by kernel_rfl) (by kernel_rfl) (by kernel_rfl) (by kernel_rfl) rfl hf (by decide) rfl (wantN hf rfl rfl hb85) ⟨_, hp⟩ ?_
                                clear hf; intro a hf
                                refine dr_out 14 rfl (by kernel_rfl) (by kernel_rfl) (by kernel_rfl) (by kernel_rfl) rfl hf (by decide) rfl (wantN hf rfl rfl hb85) ⟨_, hp⟩ ?_
                                clear hf; intro a hf
                                refine dr_outU 15 rfl (by kernel_rfl) (by kernel_rfl) (by kernel_rfl) (by kernel_rfl) rfl hf (by decide) (wantN hf rfl rfl hb85) ⟨_, hp⟩ ?_
                                clear hf; intro a hf
                                refine dr_out 16 rfl (by kernel_rfl) (by kernel_rfl) (by kernel_rfl) (by kernel_rfl) rfl hf (by decide) rfl (wantU hf rfl rfl) ⟨_, hp⟩ ?_
                                clear hf; intro a hf
                                refine dr_out 17 rfl (by kernel_rfl) (by kernel_rfl) (by kernel_rfl) (by kernel_rfl) rfl hf (by decide) rfl (wantU hf rfl rfl) ⟨_, hp⟩ ?_
                                clear hf; intro a hf
                                refine dr_out 18 rfl (by kernel_rfl) (by kernel_rfl) (by kernel_rfl) (by kernel_rfl) rfl hf (by decide) rfl (wantU hf rfl rfl) ⟨_, hp⟩ ?_
                                clear hf; intro a hf
                                refine dr_out 19 rfl (by kernel_rfl) (by kernel_rfl) (by kernel_rfl) (by kernel_rfl) rfl hf (by decide) rfl (wantU hf rfl rfl) ⟨_, hp⟩ ?_
                                clear hf; intro a hf
                                refine dr_out 20 rfl (by kernel_rfl) (by kernel_rfl) (by kernel_rfl) (by kernel_rfl) rfl hf (by decide) rfl (wantU hf rfl rfl) ⟨_, hp⟩ ?_
                                clear hf; intro a hf
                                refine dr_out 21 rfl (by kernel_rfl) (by kernel_rfl) (by kernel_rfl) (by kernel_rfl) rfl hf (by decide) rfl (wantU hf rfl rfl) ⟨_, hp⟩ ?_
                                clear hf; intro a hf
                                refine dr_out 22 rfl (by kernel_rfl) (by kernel_rfl) (by kernel_rfl) (by kernel_rfl) rfl hf (by decide) rfl (wantU hf rfl rfl) ⟨_, hp⟩ ?_
                                clear hf; intro a hf
                                refine dr_out 23 rfl (by kernel_rfl) (by kernel_rfl) (by kernel_rfl) (by kernel_rfl) rfl hf (by decide) rfl (wantU hf rfl rfl) ⟨_, hp⟩ ?_
                                clear hf; intro a hf
                                refine dr_out 24 rfl (by kernel_rfl) (by kernel_rfl) (by kernel_rfl) (by kernel_rfl) rfl hf (by decide) rfl (wantU hf rfl rfl) ⟨_, hp⟩ ?_
                                clear hf; intro a hf
                                refine dr_out 25 rfl (by kernel_rfl) (by kernel_rfl) (by kernel_rfl) (by kernel_rfl) rfl hf (by decide) rfl (wantU hf rfl rfl) ⟨_, hp⟩ ?_
                                clear hf; intro a hf
                                refine dr_out 26 rfl (by kernel_rfl) (by kernel_rfl) (by kernel_rfl) (by kernel_rfl) rfl hf (by decide) rfl (wantU hf rfl rfl) ⟨_, hp⟩ ?_
                                clear hf; intro a hf
                                refine dr_out 27 rfl (by kernel_rfl) (by kernel_rfl) (by kernel_rfl) (by kernel_rfl) rfl hf (by decide) rfl (wantU hf rfl rfl) ⟨_, hp⟩ ?_
                                clear hf; intro a hf
                                refine dr_out 28 rfl (by kernel_rfl) (by kernel_rfl) (by kernel_rfl) (by kernel_rfl) rfl hf (by decide) rfl (wantU hf rfl rfl) ⟨_, hp⟩ ?_
                                clear hf; intro a hf
                                refine dr_out 29 rfl (by kernel_rfl) (by kernel_rfl) (by kernel_rfl) (by kernel_rfl) rfl hf (by decide) rfl (wantU hf rfl rfl) ⟨_, hp⟩ ?_
                                clear hf; intro a hf
                                refine dr_out 30 rfl (by kernel_rfl) (by kernel_rfl) (by kernel_rfl) (by kernel_rfl) rfl hf (by decide) rfl (wantU hf rfl rfl) ⟨_, hp⟩ ?_
                                clear hf; intro a hf
                                refine dr_out 31 rfl (by kernel_rfl) (by kernel_rfl) (by kernel_rfl) (by kernel_rfl) rfl hf (by decide) rfl (wantU hf rfl rfl) ⟨_, hp⟩ ?_
                                clear hf; intro a hf
                                refine dr_out 32 rfl (by kernel_rfl) (by kernel_rfl) (by kernel_rfl) (by kernel_rfl) rfl hf (by decide) rfl (wantN hf rfl rfl hb85) ⟨_, hp⟩ ?_
                                clear hf; intro a hf
                                refine dr_take 33 (.bool z93) rfl (by kernel_rfl) (by kernel_rfl) (by kernel_rfl) (by kernel_rfl) rfl rfl hf (by decide) rfl (fun w hp => ?_) ⟨_, hp⟩ ?_
                                · obtain ⟨_, hp⟩ := hp
                                  refine st_pick (v := .bool z93) hf rfl rfl (fun _ => by rw [← hz84]; rfl) (fun hb' => absurd (hb85.symm.trans hb') (by decide)) (by decide) ?_
                                  clear hf; intro a ha hf
                                  exact st_nil hf (th_n ⟨ha, rfl⟩)
                                clear hf; intro a hf
                                refine dr_end (by kernel_rfl) ?_ _
                                have hp := bk76 _ _ hp
                                exact ⟨hf.sub ⟨rfl, rfl, rfl, rfl, rfl, rfl, rfl, rfl, rfl, rfl, rfl, trivial⟩, hp⟩
                              · skip
                                rcases Bool.eq_false_or_eq_true ((q70.2 != (0 : Int)) || (decide (q70.1 < from0))) with hb83 | hb83
                                · skip
                                  have hb85 : (((q70.2 != (0 : Int)) || (decide (q70.1 < from0))) || (decide (to1 ≤ q70.1))) = true := by rw [hb83]; rfl
                                  skip
                                  replace hz84 := ifT hz84 hb85
                                  replace hz84 := Option.some.inj hz84
                                  refine dr_begin' (fun a w => Fr 213 a [(0, .int .i64 from0), (1, .int .i64 to1), (2, .int .i64 (IntKind.i64.wrap ((1 : Int) + (((IntKind.i64.wrap (((count2).tmod (60 : Int)) + (60 : Int)))).tmod (60 : Int))))), (3, .int .i64 (IntKind.i64.wrap ((1 : Int) + (((IntKind.i64.wrap (((length3).tmod (60 : Int)) + (60 : Int)))).tmod (60 : Int))))), (10, v37), (14, v39), (16, .int .i64 (IntKind.i64.wrap (to1 - from0))), (17, .int .i64 (IntKind.i64.wrap (sum17 + (gt l10 w18)))), (18, .int .i64 w18), (19, .int .i64 k19), (209, .bool z93)] ∧ Hp S w0 w (Res.rows (RowK.sl (Ek.int .i64) 3) 22 v39 vs40 m14 :: Res.sl (Ek.int .i64) 3 v37 l10 :: ow)) (fun w' => ∃ l, Hp S72 w w' l) [] (by kernel_rfl) ?_
                                  refine dr_take 0 (.int .i64 q70.2) rfl (by kernel_rfl) (by kernel_rfl) (by kernel_rfl) (by kernel_rfl) rfl rfl hf (by decide) rfl (fun w hp => ?_) ⟨_, hp⟩ ?_
                                  · obtain ⟨_, hp⟩ := hp
                                    refine st_move hf rfl rfl (by decide) ?_
                                    clear hf; intro a ha hf
                                    exact st_nil hf (th_n ⟨ha, rfl⟩)
                                  clear hf; intro a hf
                                  refine dr_take 1 (.bool (q70.2 != (0 : Int))) rfl (by kernel_rfl) (by kernel_rfl) (by kernel_rfl) (by kernel_rfl) rfl rfl hf (by decide) rfl (fun w hp => ?_) ⟨_, hp⟩ ?_
                                  · obtain ⟨_, hp⟩ := hp
                                    refine st_ineq hf (by decide) rfl rfl rfl ?_
                                    clear hf; intro a ha hf
                                    exact st_nil hf (th_n ⟨ha, rfl⟩)
                                  clear hf; intro a hf
                                  refine dr_take 2 (.bool (q70.2 != (0 : Int))) rfl (by kernel_rfl) (by kernel_rfl) (by kernel_rfl) (by kernel_rfl) rfl rfl hf (by decide) rfl (fun w hp => ?_) ⟨_, hp⟩ ?_
                                  · obtain ⟨_, hp⟩ := hp
                                    refine st_move hf rfl rfl (by decide) ?_
                                    clear hf; intro a ha hf
                                    exact st_nil hf (th_n ⟨ha, rfl⟩)
                                  clear hf; intro a hf
                                  refine dr_take 3 (.int .i64 q70.1) rfl (by kernel_rfl) (by kernel_rfl) (by kernel_rfl) (by kernel_rfl) rfl rfl hf (by decide) (wantY hf rfl rfl hb81) (fun w hp => ?_) ⟨_, hp⟩ ?_
                                  · obtain ⟨_, hp⟩ := hp
                                    refine st_move hf (wantY hf rfl rfl hb81) rfl (by decide) ?_
                                    clear hf; intro a ha hf
                                    exact st_nil hf (th_n ⟨ha, rfl⟩)
                                  clear hf; intro a hf
                                  refine dr_take 4 (.int .i64 from0) rfl (by kernel_rfl) (by kernel_rfl) (by kernel_rfl) (by kernel_rfl) rfl rfl hf (by decide) (wantY hf rfl rfl hb81) (fun w hp => ?_) ⟨_, hp⟩ ?_
                                  · obtain ⟨_, hp⟩ := hp
                                    refine st_move hf (wantY hf rfl rfl hb81) rfl (by decide) ?_
                                    clear hf; intro a ha hf
                                    exact st_nil hf (th_n ⟨ha, rfl⟩)
                                  clear hf; intro a hf
                                  refine dr_take 5 (.bool (decide (q70.1 < from0))) rfl (by kernel_rfl) (by kernel_rfl) (by kernel_rfl) (by kernel_rfl) rfl rfl hf (by decide) (wantY hf rfl rfl hb81) (fun w hp => ?_) ⟨_, hp⟩ ?_
                                  · obtain ⟨_, hp⟩ := hp
                                    refine st_ilss hf (by decide) (wantY hf rfl rfl hb81) rfl rfl ?_
                                    clear hf; intro a ha hf
                                    exact st_nil hf (th_n ⟨ha, rfl⟩)
                                  clear hf; intro a hf
                                  refine dr_take 6 (.bool ((q70.2 != (0 : Int)) || (decide (q70.1 < from0)))) rfl (by kernel_rfl) (by kernel_rfl) (by kernel_rfl) (by kernel_rfl) rfl rfl hf (by decide) rfl (fun w hp => ?_) ⟨_, hp⟩ ?_
                                  · obtain ⟨_, hp⟩ := hp
                                    refine st_pick (v := .bool ((q70.2 != (0 : Int)) || (decide (q70.1 < from0)))) hf rfl rfl (fun hb' => absurd (hb81.symm.trans hb') (by decide)) (fun _ => by rw [show ((q70.2 != (0 : Int)) || (decide (q70.1 < from0))) = (decide (q70.1 < from0)) from by rw [hb81]; rfl]; rfl) (by decide) ?_
                                    clear hf; intro a ha hf
                                    exact st_nil hf (th_n ⟨ha, rfl⟩)
                                  clear hf; intro a hf
                                  refine dr_take 7 (.bool ((q70.2 != (0 : Int)) || (decide (q70.1 < from0)))) rfl (by kernel_rfl) (by kernel_rfl) (by kernel_rfl) (by kernel_rfl) rfl rfl hf (by decide) rfl (fun w hp => ?_) ⟨_, hp⟩ ?_
                                  · obtain ⟨_, hp⟩ := hp
                                    refine st_move hf rfl rfl (by decide) ?_
                                    clear hf; intro a ha hf
                                    exact st_nil hf (th_n ⟨ha, rfl⟩)
                                  clear hf; intro a hf
                                  refine dr_out 8 rfl (by kernel_rfl) (by kernel_rfl) (by kernel_rfl) (by kernel_rfl) rfl hf (by decide) rfl (wantN hf rfl rfl hb83) ⟨_, hp⟩ ?_
                                  clear hf; intro a hf
                                  refine dr_out 9 rfl (by kernel_rfl) (by kernel_rfl) (by kernel_rfl) (by kernel_rfl) rfl hf (by decide) rfl (wantN hf rfl rfl hb83) ⟨_, hp⟩ ?_
                                  clear hf; intro a hf
                                  refine dr_out 10 rfl (by kernel_rfl) (by kernel_rfl) (by kernel_rfl) (by kernel_rfl) rfl hf (by decide) rfl (wantN hf rfl rfl hb83) ⟨_, hp⟩ ?_
                                  clear hf; intro a hf
                                  refine dr_take 11 (.bool (((q70.2 != (0 : Int)) || (decide (q70.1 < from0))) || (decide (to1 ≤ q70.1)))) rfl (by kernel_rfl) (by kernel_rfl) (by kernel_rfl) (by kernel_rfl) rfl rfl hf (by decide) rfl (fun w hp => ?_) ⟨_, hp⟩ ?_
                                  · obtain ⟨_, hp⟩ := hp
                                    refine st_pick (v := .bool (((q70.2 != (0 : Int)) || (decide (q70.1 < from0))) || (decide (to1 ≤ q70.1)))) hf rfl rfl (fun _ => by rw [show (((q70.2 != (0 : Int)) || (decide (q70.1 < from0))) || (decide (to1 ≤ q70.1))) = true from by rw [hb83]; rfl]; rfl) (fun hb' => absurd (hb83.symm.trans hb') (by decide)) (by decide) ?_
                                    clear hf; intro a ha hf
                                    exact st_nil hf (th_n ⟨ha, rfl⟩)
                                  clear hf; intro a hf
                                  refine dr_take 12 (.bool (((q70.2 != (0 : Int)) || (decide (q70.1 < from0))) || (decide (to1 ≤ q70.1)))) rfl (by kernel_rfl) (by kernel_rfl) (by kernel_rfl) (by kernel_rfl) rfl rfl hf (by decide) rfl (fun w hp => ?_) ⟨_, hp⟩ ?_
                                  · obtain ⟨_, hp⟩ := hp
                                    refine st_move hf rfl rfl (by decide) ?_
                                    clear hf; intro a ha hf
                                    exact st_nil hf (th_n ⟨ha, rfl⟩)
                                  clear hf; intro a hf
                                  refine dr_out 13 rfl (by kernel_rfl) (by kernel_rfl) (by kernel_rfl) (by kernel_rfl) rfl hf (by decide) rfl (wantN hf rfl rfl hb85) ⟨_, hp⟩ ?_
                                  clear hf; intro a hf
                                  refine dr_out 14 rfl (by kernel_rfl) (by kernel_rfl) (by kernel_rfl) (by kernel_rfl) rfl hf (by decide) rfl (wantN hf rfl rfl hb85) ⟨_, hp⟩ ?_
                                  clear hf; intro a hf
                                  refine dr_outU 15 rfl (by kernel_rfl) (by kernel_rfl) (by kernel_rfl) (by kernel_rfl) rfl hf (by decide) (wantN hf rfl rfl hb85) ⟨_, hp⟩ ?_
                                  clear hf; intro a hf
                                  refine dr_out 16 rfl (by kernel_rfl) (by kernel_rfl) (by kernel_rfl) (by kernel_rfl) rfl hf (by decide) rfl (wantU hf rfl rfl) ⟨_, hp⟩ ?_
                                  clear hf; intro a hf
                                  refine dr_out 17 rfl (by kernel_rfl) (by kernel_rfl) (by kernel_rfl) (by kernel_rfl) rfl hf (by decide) rfl (wantU hf rfl rfl) ⟨_, hp⟩ ?_
                                  clear hf; intro a hf
                                  refine dr_out 18 rfl (by kernel_rfl) (by kernel_rfl) (by kernel_rfl) (by kernel_rfl) rfl hf (by decide) rfl (wantU hf rfl rfl) ⟨_, hp⟩ ?_
                                  clear hf; intro a hf
                                  refine dr_out 19 rfl (by kernel_rfl) (by kernel_rfl) (by kernel_rfl) (by kernel_rfl) rfl hf (by decide) rfl (wantU hf rfl rfl) ⟨_, hp⟩ ?_
                                  clear hf; intro a hf
                                  refine dr_out 20 rfl (by kernel_rfl) (by kernel_rfl) (by kernel_rfl) (by kernel_rfl) rfl hf (by decide) rfl (wantU hf rfl rfl) ⟨_, hp⟩ ?_
                                  clear hf; intro a hf
                                  refine dr_out 21 rfl (by kernel_rfl) (by kernel_rfl) (by kernel_rfl) (by kernel_rfl) rfl hf (by decide) rfl (wantU hf rfl rfl) ⟨_, hp⟩ ?_
                                  clear hf; intro a hf
                                  refine dr_out 22 rfl (by kernel_rfl) (by kernel_rfl) (by kernel_rfl) (by kernel_rfl) rfl hf (by decide) rfl (wantU hf rfl rfl) ⟨_, hp⟩ ?_
                                  clear hf; intro a hf
                                  refine dr_out 23 rfl (by kernel_rfl) (by kernel_rfl) (by kernel_rfl) (by kernel_rfl) rfl hf (by decide) rfl (wantU hf rfl rfl) ⟨_, hp⟩ ?_
                                  clear hf; intro a hf
                                  refine dr_out 24 rfl (by kernel_rfl) (by kernel_rfl) (by kernel_rfl) (by kernel_rfl) rfl hf (by decide) rfl (wantU hf rfl rfl) ⟨_, hp⟩ ?_
                                  clear hf; intro a hf
                                  refine dr_out 25 rfl (by kernel_rfl) (by kernel_rfl) (by kernel_rfl) (by kernel_rfl) rfl hf (by decide) rfl (wantU hf rfl rfl) ⟨_, hp⟩ ?_
                                  clear hf; intro a hf
                                  refine dr_out 26 rfl (by kernel_rfl) (by kernel_rfl) (by kernel_rfl) (by kernel_rfl) rfl hf (by decide) rfl (wantU hf rfl rfl) ⟨_, hp⟩ ?_
                                  clear hf; intro a hf
                                  refine dr_out 27 rfl (by kernel_rfl) (by kernel_rfl) (by kernel_rfl) (by kernel_rfl) rfl hf (by decide) rfl (wantU hf rfl rfl) ⟨_, hp⟩ ?_
                                  clear hf; intro a hf
                                  refine dr_out 28 rfl (by kernel_rfl) (by kernel_rfl) (by kernel_rfl) (by kernel_rfl) rfl hf (by decide) rfl (wantU hf rfl rfl) ⟨_, hp⟩ ?_
                                  clear hf; intro a hf
                                  refine dr_out 29 rfl (by kernel_rfl) (by kernel_rfl) (by kernel_rfl) (by kernel_rfl) rfl hf (by decide) rfl (wantU hf rfl rfl) ⟨_, hp⟩ ?_
                                  clear hf; intro a hf
                                  refine dr_out 30 rfl (by kernel_rfl) (by kernel_rfl) (by kernel_rfl) (by kernel_rfl) rfl hf (by decide) rfl (wantU hf rfl rfl) ⟨_, hp⟩ ?_
                                  clear hf; intro a hf
                                  refine dr_out 31 rfl (by kernel_rfl) (by kernel_rfl) (by kernel_rfl) (by kernel_rfl) rfl hf (by decide) rfl (wantU hf rfl rfl) ⟨_, hp⟩ ?_
                                  clear hf; intro a hf
                                  refine dr_out 32 rfl (by kernel_rfl) (by kernel_rfl) (by kernel_rfl) (by kernel_rfl) rfl hf (by decide) rfl (wantN hf rfl rfl hb85) ⟨_, hp⟩ ?_
                                  clear hf; intro a hf
                                  refine dr_take 33 (.bool z93) rfl (by kernel_rfl) (by kernel_rfl) (by kernel_rfl) (by kernel_rfl) rfl rfl hf (by decide) rfl (fun w hp => ?_) ⟨_, hp⟩ ?_
                                  · obtain ⟨_, hp⟩ := hp
                                    refine st_pick (v := .bool z93) hf rfl rfl (fun _ => by rw [← hz84]; rfl) (fun hb' => absurd (hb85.symm.trans hb') (by decide)) (by decide) ?_
                                    clear hf; intro a ha hf
                                    exact st_nil hf (th_n ⟨ha, rfl⟩)
                                  clear hf; intro a hf
                                  refine dr_end (by kernel_rfl) ?_ _
                                  have hp := bk76 _ _ hp
                                  exact ⟨hf.sub ⟨rfl, rfl, rfl, rfl, rfl, rfl, rfl, rfl, rfl, rfl, rfl, trivial⟩, hp⟩
                                · skip
                                  rcases Bool.eq_false_or_eq_true (((q70.2 != (0 : Int)) || (decide (q70.1 < from0))) || (decide (to1 ≤ q70.1))) with hb85 | hb85
                                  · skip
                                    replace hz84 := ifT hz84 hb85
                                    replace hz84 := Option.some.inj hz84
                                    refine dr_begin' (fun a w => Fr 213 a [(0, .int .i64 from0), (1, .int .i64 to1), (2, .int .i64 (IntKind.i64.wrap ((1 : Int) + (((IntKind.i64.wrap (((count2).tmod (60 : Int)) + (60 : Int)))).tmod (60 : Int))))), (3, .int .i64 (IntKind.i64.wrap ((1 : Int) + (((IntKind.i64.wrap (((length3).tmod (60 : Int)) + (60 : Int)))).tmod (60 : Int))))), (10, v37), (14, v39), (16, .int .i64 (IntKind.i64.wrap (to1 - from0))), (17, .int .i64 (IntKind.i64.wrap (sum17 + (gt l10 w18)))), (18, .int .i64 w18), (19, .int .i64 k19), (209, .bool z93)] ∧ Hp S w0 w (Res.rows (RowK.sl (Ek.int .i64) 3) 22 v39 vs40 m14 :: Res.sl (Ek.int .i64) 3 v37 l10 :: ow)) (fun w' => ∃ l, Hp S72 w w' l) [] (by kernel_rfl) ?_
                                    refine dr_take 0 (.int .i64 q70.2) rfl (by kernel_rfl) (by kernel_rfl) (by kernel_rfl) (by kernel_rfl) rfl rfl hf (by decide) rfl (fun w hp => ?_) ⟨_, hp⟩ ?_
                                    · obtain ⟨_, hp⟩ := hp
                                      refine st_move hf rfl rfl (by decide) ?_
                                      clear hf; intro a ha hf
                                      exact st_nil hf (th_n ⟨ha, rfl⟩)
                                    clear hf; intro a hf
                                    refine dr_take 1 (.bool (q70.2 != (0 : Int))) rfl (by kernel_rfl) (by kernel_rfl) (by kernel_rfl) (by kernel_rfl) rfl rfl hf (by decide) rfl (fun w hp => ?_) ⟨_, hp⟩ ?_
                                    · obtain ⟨_, hp⟩ := hp
                                      refine st_ineq hf (by decide) rfl rfl rfl ?_
                                      clear hf; intro a ha hf
                                      exact st_nil hf (th_n ⟨ha, rfl⟩)
                                    clear hf; intro a hf
                                    refine dr_take 2 (.bool (q70.2 != (0 : Int))) rfl (by kernel_rfl) (by kernel_rfl) (by kernel_rfl) (by kernel_rfl) rfl rfl hf (by decide) rfl (fun w hp => ?_) ⟨_, hp⟩ ?_
                                    · obtain ⟨_, hp⟩ := hp
                                      refine st_move hf rfl rfl (by decide) ?_
                                      clear hf; intro a ha hf
                                      exact st_nil hf (th_n ⟨ha, rfl⟩)
                                    clear hf; intro a hf
                                    refine dr_take 3 (.int .i64 q70.1) rfl (by kernel_rfl) (by kernel_rfl) (by kernel_rfl) (by kernel_rfl) rfl rfl hf (by decide) (wantY hf rfl rfl hb81) (fun w hp => ?_) ⟨_, hp⟩ ?_
                                    · obtain ⟨_, hp⟩ := hp
                                      refine st_move hf (wantY hf rfl rfl hb81) rfl (by decide) ?_
                                      clear hf; intro a ha hf
                                      exact st_nil hf (th_n ⟨ha, rfl⟩)
                                    clear hf; intro a hf
                                    refine dr_take 4 (.int .i64 from0) rfl (by kernel_rfl) (by kernel_rfl) (by kernel_rfl) (by kernel_rfl) rfl rfl hf (by decide) (wantY hf rfl rfl hb81) (fun w hp => ?_) ⟨_, hp⟩ ?_
                                    · obtain ⟨_, hp⟩ := hp
                                      refine st_move hf (wantY hf rfl rfl hb81) rfl (by decide) ?_
                                      clear hf; intro a ha hf
                                      exact st_nil hf (th_n ⟨ha, rfl⟩)
                                    clear hf; intro a hf
                                    refine dr_take 5 (.bool (decide (q70.1 < from0))) rfl (by kernel_rfl) (by kernel_rfl) (by kernel_rfl) (by kernel_rfl) rfl rfl hf (by decide) (wantY hf rfl rfl hb81) (fun w hp => ?_) ⟨_, hp⟩ ?_
                                    · obtain ⟨_, hp⟩ := hp
                                      refine st_ilss hf (by decide) (wantY hf rfl rfl hb81) rfl rfl ?_
                                      clear hf; intro a ha hf
                                      exact st_nil hf (th_n ⟨ha, rfl⟩)
                                    clear hf; intro a hf
                                    refine dr_take 6 (.bool ((q70.2 != (0 : Int)) || (decide (q70.1 < from0)))) rfl (by kernel_rfl) (by kernel_rfl) (by kernel_rfl) (by kernel_rfl) rfl rfl hf (by decide) rfl (fun w hp => ?_) ⟨_, hp⟩ ?_
                                    · obtain ⟨_, hp⟩ := hp
                                      refine st_pick (v := .bool ((q70.2 != (0 : Int)) || (decide (q70.1 < from0)))) hf rfl rfl (fun hb' => absurd (hb81.symm.trans hb') (by decide)) (fun _ => by rw [show ((q70.2 != (0 : Int)) || (decide (q70.1 < from0))) = (decide (q70.1 < from0)) from by rw [hb81]; rfl]; rfl) (by decide) ?_
                                      clear hf; intro a ha hf
                                      exact st_nil hf (th_n ⟨ha, rfl⟩)
                                    clear hf; intro a hf
                                    refine dr_take 7 (.bool ((q70.2 != (0 : Int)) || (decide (q70.1 < from0)))) rfl (by kernel_rfl) (by kernel_rfl) (by kernel_rfl) (by kernel_rfl) rfl rfl hf (by decide) rfl (fun w hp => ?_) ⟨_, hp⟩ ?_
                                    · obtain ⟨_, hp⟩ := hp
                                      refine st_move hf rfl rfl (by decide) ?_
                                      clear hf; intro a ha hf
                                      exact st_nil hf (th_n ⟨ha, rfl⟩)
                                    clear hf; intro a hf
                                    refine dr_take 8 (.int .i64 q70.1) rfl (by kernel_rfl) (by kernel_rfl) (by kernel_rfl) (by kernel_rfl) rfl rfl hf (by decide) (wantY hf rfl rfl hb83) (fun w hp => ?_) ⟨_, hp⟩ ?_
                                    · obtain ⟨_, hp⟩ := hp
                                      refine st_move hf (wantY hf rfl rfl hb83) rfl (by decide) ?_
                                      clear hf; intro a ha hf
                                      exact st_nil hf (th_n ⟨ha, rfl⟩)
                                    clear hf; intro a hf
                                    refine dr_take 9 (.int .i64 to1) rfl (by kernel_rfl) (by kernel_rfl) (by kernel_rfl) (by kernel_rfl) rfl rfl hf (by decide) (wantY hf rfl rfl hb83) (fun w hp => ?_) ⟨_, hp⟩ ?_
                                    · obtain ⟨_, hp⟩ := hp
                                      refine st_move hf (wantY hf rfl rfl hb83) rfl (by decide) ?_
                                      clear hf; intro a ha hf
                                      exact st_nil hf (th_n ⟨ha, rfl⟩)
                                    clear hf; intro a hf
                                    refine dr_take 10 (.bool (decide (to1 ≤ q70.1))) rfl (by kernel_rfl) (by kernel_rfl) (by kernel_rfl) (by kernel_rfl) rfl rfl hf (by decide) (wantY hf rfl rfl hb83) (fun w hp => ?_) ⟨_, hp⟩ ?_
                                    · obtain ⟨_, hp⟩ := hp
                                      refine st_igeq hf (by decide) (wantY hf rfl rfl hb83) rfl rfl ?_
                                      clear hf; intro a ha hf
                                      exact st_nil hf (th_n ⟨ha, rfl⟩)
                                    clear hf; intro a hf
                                    refine dr_take 11 (.bool (((q70.2 != (0 : Int)) || (decide (q70.1 < from0))) || (decide (to1 ≤ q70.1)))) rfl (by kernel_rfl) (by kernel_rfl) (by kernel_rfl) (by kernel_rfl) rfl rfl hf (by decide) rfl (fun w hp => ?_) ⟨_, hp⟩ ?_
                                    · obtain ⟨_, hp⟩ := hp
                                      refine st_pick (v := .bool (((q70.2 != (0 : Int)) || (decide (q70.1 < from0))) || (decide (to1 ≤ q70.1)))) hf rfl rfl (fun hb' => absurd (hb83.symm.trans hb') (by decide)) (fun _ => by rw [show (((q70.2 != (0 : Int)) || (decide (q70.1 < from0))) || (decide (to1 ≤ q70.1))) = (decide (to1 ≤ q70.1)) from by rw [hb83]; rfl]; rfl) (by decide) ?_
                                      clear hf; intro a ha hf
                                      exact st_nil hf (th_n ⟨ha, rfl⟩)
                                    clear hf; intro a hf
                                    refine dr_take 12 (.bool (((q70.2 != (0 : Int)) || (decide (q70.1 < from0))) || (decide (to1 ≤ q70.1)))) rfl (by kernel_rfl) (by kernel_rfl) (by kernel_rfl) (by kernel_rfl) rfl rfl hf (by decide) rfl (fun w hp => ?_) ⟨_, hp⟩ ?_
                                    · obtain ⟨_, hp⟩ := hp
                                      refine st_move hf rfl rfl (by decide) ?_
                                      clear hf; intro a ha hf
                                      exact st_nil hf (th_n ⟨ha, rfl⟩)
                                    clear hf; intro a hf
                                    refine dr_out 13 rfl (by kernel_rfl) (by kernel_rfl) (by kernel_rfl) (by kernel_rfl) rfl hf (by decide) rfl (wantN hf rfl rfl hb85) ⟨_, hp⟩ ?_
                                    clear hf; intro a hf
                                    refine dr_out 14 rfl (by kernel_rfl) (by kernel_rfl) (by kernel_rfl) (by kernel_rfl) rfl hf (by decide) rfl (wantN hf rfl rfl hb85) ⟨_, hp⟩ ?_
                                    clear hf; intro a hf
                                    refine dr_outU 15 rfl (by kernel_rfl) (by kernel_rfl) (by kernel_rfl) (by kernel_rfl) rfl hf (by decide) (wantN hf rfl rfl hb85) ⟨_, hp⟩ ?_
                                    clear hf; intro a hf
                                    refine dr_out 16 rfl (by kernel_rfl) (by kernel_rfl) (by kernel_rfl) (by kernel_rfl) rfl hf (by decide) rfl (wantU hf rfl rfl) ⟨_, hp⟩ ?_
                                    clear hf; intro a hf
                                    refine dr_out 17 rfl (by kernel_rfl) (by kernel_rfl) (by kernel_rfl) (by kernel_rfl) rfl hf (by decide) rfl (wantU hf rfl rfl) ⟨_, hp⟩ ?_
                                    clear hf; intro a hf
                                    refine dr_out 18 rfl (by kernel_rfl) (by kernel_rfl) (by kernel_rfl) (by kernel_rfl) rfl hf (by decide) rfl (wantU hf rfl rfl) ⟨_, hp⟩ ?_
                                    clear hf; intro a hf
                                    refine dr_out 19 rfl (by kernel_rfl) (by kernel_rfl) (by kernel_rfl) (by kernel_rfl) rfl hf (by decide) rfl (wantU hf rfl rfl) ⟨_, hp⟩ ?_
                                    clear hf; intro a hf
                                    refine dr_out 20 rfl (by kernel_rfl) (by kernel_rfl) (by kernel_rfl) (by kernel_rfl) rfl hf (by decide) rfl (wantU hf rfl rfl) ⟨_, hp⟩ ?_
                                    clear hf; intro a hf
                                    refine dr_out 21 rfl (by kernel_rfl) (by kernel_rfl) (by kernel_rfl) (by kernel_rfl) rfl hf (by decide) rfl (wantU hf rfl rfl) ⟨_, hp⟩ ?_
                                    clear hf; intro a hf
                                    refine dr_out 22 rfl (by kernel_rfl) (by kernel_rfl) (by kernel_rfl) (by kernel_rfl) rfl hf (by decide) rfl (wantU hf rfl rfl) ⟨_, hp⟩ ?_
                                    clear hf; intro a hf
                                    refine dr_out 23 rfl (by kernel_rfl) (by kernel_rfl) (by kernel_rfl) (by kernel_rfl) rfl hf (by decide) rfl (wantU hf rfl rfl) ⟨_, hp⟩ ?_
                                    clear hf; intro a hf
                                    refine dr_out 24 rfl (by kernel_rfl) (by kernel_rfl) (by kernel_rfl) (by kernel_rfl) rfl hf (by decide) rfl (wantU hf rfl rfl) ⟨_, hp⟩ ?_
                                    clear hf; intro a hf
                                    refine dr_out 25 rfl (by kernel_rfl) (by kernel_rfl) (by kernel_rfl) (by kernel_rfl) rfl hf (by decide) rfl (wantU hf rfl rfl) ⟨_, hp⟩ ?_
                                    clear hf; intro a hf
                                    refine dr_out 26 rfl (by kernel_rfl) (by kernel_rfl) (by kernel_rfl) (by kernel_rfl) rfl hf (by decide) rfl (wantU hf rfl rfl) ⟨_, hp⟩ ?_
                                    clear hf; intro a hf
                                    refine dr_out 27 rfl (by kernel_rfl) (by kernel_rfl) (by kernel_rfl) (by kernel_rfl) rfl hf (by decide) rfl (wantU hf rfl rfl) ⟨_, hp⟩ ?_
                                    clear hf; intro a hf
                                    refine dr_out 28 rfl (by kernel_rfl) (by kernel_rfl) (by kernel_rfl) (by kernel_rfl) rfl hf (by decide) rfl (wantU hf rfl rfl) ⟨_, hp⟩ ?_
                                    clear hf; intro a hf
                                    refine dr_out 29 rfl (by kernel_rfl) (by kernel_rfl) (by kernel_rfl) (by kernel_rfl) rfl hf (by decide) rfl (wantU hf rfl rfl) ⟨_, hp⟩ ?_
                                    clear hf; intro a hf
                                    refine dr_out 30 rfl (by kernel_rfl) (by kernel_rfl) (by kernel_rfl) (by kernel_rfl) rfl hf (by decide) rfl (wantU hf rfl rfl) ⟨_, hp⟩ ?_
                                    clear hf; intro a hf
                                    refine dr_out 31 rfl (by kernel_rfl) (by kernel_rfl) (by kernel_rfl) (by kernel_rfl) rfl hf (by decide) rfl (wantU hf rfl rfl) ⟨_, hp⟩ ?_
                                    clear hf; intro a hf
                                    refine dr_out 32 rfl (by kernel_rfl) (by kernel_rfl) (by kernel_rfl) (by kernel_rfl) rfl hf (by decide) rfl (wantN hf rfl rfl hb85) ⟨_, hp⟩ ?_
                                    clear hf; intro a hf
                                    refine dr_take 33 (.bool z93) rfl (by kernel_rfl) (by kernel_rfl) (by kernel_rfl) (by kernel_rfl) rfl rfl hf (by decide) rfl (fun w hp => ?_) ⟨_, hp⟩ ?_
                                    · obtain ⟨_, hp⟩ := hp
                                      refine st_pick (v := .bool z93) hf rfl rfl (fun _ => by rw [← hz84]; rfl) (fun hb' => absurd (hb85.symm.trans hb') (by decide)) (by decide) ?_
                                      clear hf; intro a ha hf
                                      exact st_nil hf (th_n ⟨ha, rfl⟩)
                                    clear hf; intro a hf
                                    refine dr_end (by kernel_rfl) ?_ _
                                    have hp := bk76 _ _ hp
                                    exact ⟨hf.sub ⟨rfl, rfl, rfl, rfl, rfl, rfl, rfl, rfl, rfl, rfl, rfl, trivial⟩, hp⟩
                                  · skip
                                    replace hz84 := ifF hz84 hb85
                                    obtain ⟨z92, hz86, hz84⟩ := bnd hz84
                                    replace hz84 := Option.some.inj hz84
                                    rcases Bool.eq_false_or_eq_true (decide ((0 : Int) < k19)) with hb87 | hb87
                                    · skip
                                      replace hz86 := ifT hz86 hb87
                                      obtain ⟨hc88, hz86⟩ := chk hz86
                                      obtain ⟨hc89, hz86⟩ := chk hz86
                                      obtain ⟨hc90, hz86⟩ := chk hz86
                                      obtain ⟨hc91, hz86⟩ := chk hz86
                                      replace hz86 := Option.some.inj hz86
                                      refine dr_begin' (fun a w => Fr 213 a [(0, .int .i64 from0), (1, .int .i64 to1), (2, .int .i64 (IntKind.i64.wrap ((1 : Int) + (((IntKind.i64.wrap (((count2).tmod (60 : Int)) + (60 : Int)))).tmod (60 : Int))))), (3, .int .i64 (IntKind.i64.wrap ((1 : Int) + (((IntKind.i64.wrap (((length3).tmod (60 : Int)) + (60 : Int)))).tmod (60 : Int))))), (10, v37), (14, v39), (16, .int .i64 (IntKind.i64.wrap (to1 - from0))), (17, .int .i64 (IntKind.i64.wrap (sum17 + (gt l10 w18)))), (18, .int .i64 w18), (19, .int .i64 k19), (209, .bool z93)] ∧ Hp S w0 w (Res.rows (RowK.sl (Ek.int .i64) 3) 22 v39 vs40 m14 :: Res.sl (Ek.int .i64) 3 v37 l10 :: ow)) (fun w' => ∃ l, Hp S72 w w' l) [] (by kernel_rfl) ?_
                                      refine dr_take 0 (.int .i64 q70.2) rfl (by kernel_rfl) (by kernel_rfl) (by kernel_rfl) (by kernel_rfl) rfl rfl hf (by decide) rfl (fun w hp => ?_) ⟨_, hp⟩ ?_
                                      · obtain ⟨_, hp⟩ := hp
                                        refine st_move hf rfl rfl (by decide) ?_
                                        clear hf; intro a ha hf
                                        exact st_nil hf (th_n ⟨ha, rfl⟩)
                                      clear hf; intro a hf
                                      refine dr_take 1 (.bool (q70.2 != (0 : Int))) rfl (by kernel_rfl) (by kernel_rfl) (by kernel_rfl) (by kernel_rfl) rfl rfl hf (by decide) rfl (fun w hp => ?_) ⟨_, hp⟩ ?_
                                      · obtain ⟨_, hp⟩ := hp
                                        refine st_ineq hf (by decide) rfl rfl rfl ?_
                                        clear hf; intro a ha hf
                                        exact st_nil hf (th_n ⟨ha, rfl⟩)
                                      clear hf; intro a hf
                                      refine dr_take 2 (.bool (q70.2 != (0 : Int))) rfl (by kernel_rfl) (by kernel_rfl) (by kernel_rfl) (by kernel_rfl) rfl rfl hf (by decide) rfl (fun w hp => ?_) ⟨_, hp⟩ ?_
                                      · obtain ⟨_, hp⟩ := hp
                                        refine st_move hf rfl rfl (by decide) ?_
                                        clear hf; intro a ha hf
                                        exact st_nil hf (th_n ⟨ha, rfl⟩)
                                      clear hf; intro a hf
                                      refine dr_take 3 (.int .i64 q70.1) rfl (by kernel_rfl) (by kernel_rfl) (by kernel_rfl) (by kernel_rfl) rfl rfl hf (by decide) (wantY hf rfl rfl hb81) (fun w hp => ?_) ⟨_, hp⟩ ?_
                                      · obtain ⟨_, hp⟩ := hp
                                        refine st_move hf (wantY hf rfl rfl hb81) rfl (by decide) ?_
                                        clear hf; intro a ha hf
                                        exact st_nil hf (th_n ⟨ha, rfl⟩)
                                      clear hf; intro a hf
                                      refine dr_take 4 (.int .i64 from0) rfl (by kernel_rfl) (by kernel_rfl) (by kernel_rfl) (by kernel_rfl) rfl rfl hf (by decide) (wantY hf rfl rfl hb81) (fun w hp => ?_) ⟨_, hp⟩ ?_
                                      · obtain ⟨_, hp⟩ := hp
                                        refine st_move hf (wantY hf rfl rfl hb81) rfl (by decide) ?_
                                        clear hf; intro a ha hf
                                        exact st_nil hf (th_n ⟨ha, rfl⟩)
                                      clear hf; intro a hf
                                      refine dr_take 5 (.bool (decide (q70.1 < from0))) rfl (by kernel_rfl) (by kernel_rfl) (by kernel_rfl) (by kernel_rfl) rfl rfl hf (by decide) (wantY hf rfl rfl hb81) (fun w hp => ?_) ⟨_, hp⟩ ?_
                                      · obtain ⟨_, hp⟩ := hp
                                        refine st_ilss hf (by decide) (wantY hf rfl rfl hb81) rfl rfl ?_
                                        clear hf; intro a ha hf
                                        exact st_nil hf (th_n ⟨ha, rfl⟩)
                                      clear hf; intro a hf
                                      refine dr_take 6 (.bool ((q70.2 != (0 : Int)) || (decide (q70.1 < from0)))) rfl (by kernel_rfl) (by kernel_rfl) (by kernel_rfl) (by kernel_rfl) rfl rfl hf (by decide) rfl (fun w hp => ?_) ⟨_, hp⟩ ?_
                                      · obtain ⟨_, hp⟩ := hp
                                        refine st_pick (v := .bool ((q70.2 != (0 : Int)) || (decide (q70.1 < from0)))) hf rfl rfl (fun hb' => absurd (hb81.symm.trans hb') (by decide)) (fun _ => by rw [show ((q70.2 != (0 : Int)) || (decide (q70.1 < from0))) = (decide (q70.1 < from0)) from by rw [hb81]; rfl]; rfl) (by decide) ?_
                                        clear hf; intro a ha hf
                                        exact st_nil hf (th_n ⟨ha, rfl⟩)
                                      clear hf; intro a hf
                                      refine dr_take 7 (.bool ((q70.2 != (0 : Int)) || (decide (q70.1 < from0)))) rfl (by kernel_rfl) (by kernel_rfl) (by kernel_rfl) (by kernel_rfl) rfl rfl hf (by decide) rfl (fun w hp => ?_) ⟨_, hp⟩ ?_
                                      · obtain ⟨_, hp⟩ := hp
                                        refine st_move hf rfl rfl (by decide) ?_
                                        clear hf; intro a ha hf
                                        exact st_nil hf (th_n ⟨ha, rfl⟩)
                                      clear hf; intro a hf
                                      refine dr_take 8 (.int .i64 q70.1) rfl (by kernel_rfl) (by kernel_rfl) (by kernel_rfl) (by kernel_rfl) rfl rfl hf (by decide) (wantY hf rfl rfl hb83) (fun w hp => ?_) ⟨_, hp⟩ ?_
                                      · obtain ⟨_, hp⟩ := hp
                                        refine st_move hf (wantY hf rfl rfl hb83) rfl (by decide) ?_
                                        clear hf; intro a ha hf
                                        exact st_nil hf (th_n ⟨ha, rfl⟩)
                                      clear hf; intro a hf
                                      refine dr_take 9 (.int .i64 to1) rfl (by kernel_rfl) (by kernel_rfl) (by kernel_rfl) (by kernel_rfl) rfl rfl hf (by decide) (wantY hf rfl rfl hb83) (fun w hp => ?_) ⟨_, hp⟩ ?_
                                      · obtain ⟨_, hp⟩ := hp
                                        refine st_move hf (wantY hf rfl rfl hb83) rfl (by decide) ?_
                                        clear hf; intro a ha hf
                                        exact st_nil hf (th_n ⟨ha, rfl⟩)
                                      clear hf; intro a hf
                                      refine dr_take 10 (.bool (decide (to1 ≤ q70.1))) rfl (by kernel_rfl) (by kernel_rfl) (by kernel_rfl) (by kernel_rfl) rfl rfl hf (by decide) (wantY hf rfl rfl hb83) (fun w hp => ?_) ⟨_, hp⟩ ?_
                                      · obtain ⟨_, hp⟩ := hp
                                        refine st_igeq hf (by decide) (wantY hf rfl rfl hb83) rfl rfl ?_
                                        clear hf; intro a ha hf
                                        exact st_nil hf (th_n ⟨ha, rfl⟩)
                                      clear hf; intro a hf
                                      refine dr_take 11 (.bool (((q70.2 != (0 : Int)) || (decide (q70.1 < from0))) || (decide (to1 ≤ q70.1)))) rfl (by kernel_rfl) (by kernel_rfl) (by kernel_rfl) (by kernel_rfl) rfl rfl hf (by decide) rfl (fun w hp => ?_) ⟨_, hp⟩ ?_
                                      · obtain ⟨_, hp⟩ := hp
                                        refine st_pick (v := .bool (((q70.2 != (0 : Int)) || (decide (q70.1 < from0))) || (decide (to1 ≤ q70.1)))) hf rfl rfl (fun hb' => absurd (hb83.symm.trans hb') (by decide)) (fun _ => by rw [show (((q70.2 != (0 : Int)) || (decide (q70.1 < from0))) || (decide (to1 ≤ q70.1))) = (decide (to1 ≤ q70.1)) from by rw [hb83]; rfl]; rfl) (by decide) ?_
                                        clear hf; intro a ha hf
                                        exact st_nil hf (th_n ⟨ha, rfl⟩)
                                      clear hf; intro a hf
                                      refine dr_take 12 (.bool (((q70.2 != (0 : Int)) || (decide (q70.1 < from0))) || (decide (to1 ≤ q70.1)))) rfl (by kernel_rfl) (by kernel_rfl) (by kernel_rfl) (by kernel_rfl) rfl rfl hf (by decide) rfl (fun w hp => ?_) ⟨_, hp⟩ ?_
                                      · obtain ⟨_, hp⟩ := hp
                                        refine st_move hf rfl rfl (by decide) ?_
                                        clear hf; intro a ha hf
                                        exact st_nil hf (th_n ⟨ha, rfl⟩)
                                      clear hf; intro a hf
                                      refine dr_take 13 (.int .i64 k19) rfl (by kernel_rfl) (by kernel_rfl) (by kernel_rfl) (by kernel_rfl) rfl rfl hf (by decide) (wantY hf rfl rfl hb85) (fun w hp => ?_) ⟨_, hp⟩ ?_
                                      · obtain ⟨_, hp⟩ := hp
                                        refine st_move hf (wantY hf rfl rfl hb85) rfl (by decide) ?_
                                        clear hf; intro a ha hf
                                        exact st_nil hf (th_n ⟨ha, rfl⟩)
                                      clear hf; intro a hf
                                      refine dr_take 14 (.bool (decide ((0 : Int) < k19))) rfl (by kernel_rfl) (by kernel_rfl) (by kernel_rfl) (by kernel_rfl) rfl rfl hf (by decide) (wantY hf rfl rfl hb85) (fun w hp => ?_) ⟨_, hp⟩ ?_
                                      · obtain ⟨_, hp⟩ := hp
                                        refine st_igtr hf (by decide) (wantY hf rfl rfl hb85) rfl rfl ?_
                                        clear hf; intro a ha hf
                                        exact st_nil hf (th_n ⟨ha, rfl⟩)
                                      clear hf; intro a hf
                                      refine dr_take 15 (.bool (decide ((0 : Int) < k19))) rfl (by kernel_rfl) (by kernel_rfl) (by kernel_rfl) (by kernel_rfl) rfl rfl hf (by decide) (wantY hf rfl rfl hb85) (fun w hp => ?_) ⟨_, hp⟩ ?_
                                      · obtain ⟨_, hp⟩ := hp
                                        refine st_move hf (wantY hf rfl rfl hb85) rfl (by decide) ?_
                                        clear hf; intro a ha hf
                                        exact st_nil hf (th_n ⟨ha, rfl⟩)
                                      clear hf; intro a hf
                                      refine dr_take 16 (v39) rfl (by kernel_rfl) (by kernel_rfl) (by kernel_rfl) (by kernel_rfl) rfl rfl hf (by decide) (wantY hf rfl rfl hb87) (fun w hp => ?_) ⟨_, hp⟩ ?_
                                      · obtain ⟨_, hp⟩ := hp
                                        refine st_move hf (wantY hf rfl rfl hb87) rfl (by decide) ?_
                                        clear hf; intro a ha hf
                                        exact st_nil hf (th_n ⟨ha, rfl⟩)
                                      clear hf; intro a hf
                                      refine dr_take 17 (.int .i64 w18) rfl (by kernel_rfl) (by kernel_rfl) (by kernel_rfl) (by kernel_rfl) rfl rfl hf (by decide) (wantY hf rfl rfl hb87) (fun w hp => ?_) ⟨_, hp⟩ ?_
                                      · obtain ⟨_, hp⟩ := hp
                                        refine st_move hf (wantY hf rfl rfl hb87) rfl (by decide) ?_
                                        clear hf; intro a ha hf
                                        exact st_nil hf (th_n ⟨ha, rfl⟩)
                                      clear hf; intro a hf
                                      refine dr_take 18 (eptr v39 w18 1) rfl (by kernel_rfl) (by kernel_rfl) (by kernel_rfl) (by kernel_rfl) rfl rfl hf (by decide) (wantY hf rfl rfl hb87) (fun w hp => ?_) ⟨_, hp⟩ ?_
                                      · obtain ⟨_, hp⟩ := hp
                                        refine st_indexV (E := Ek.val) (m := m14.length) hf (by decide) Try.underlying23 eltv22 (wantY hf rfl rfl hb87) rfl rfl (rl77.ob hp).shapeNY hc88.1 hc88.2 ?_
                                        clear hf; intro a ha hf
                                        exact st_nil hf (th_n ⟨ha, rfl⟩)
                                      clear hf; intro a hf
                                      refine dr_take 19 ((gtv vs40 w18)) rfl (by kernel_rfl) (by kernel_rfl) (by kernel_rfl) (by kernel_rfl) rfl rfl hf (by decide) (wantY hf rfl rfl hb87) (fun w hp => ?_) ⟨_, hp⟩ ?_
                                      · obtain ⟨_, hp⟩ := hp
                                        refine st_ldRY hf (by decide) pl22 (wantY hf rfl rfl hb87) rfl (rl77.ob hp) hc88.1 hc88.2 ?_
                                        clear hf; intro a ha hf
                                        exact st_nil hf (th_n ⟨ha, rfl⟩)
                                      clear hf; intro a hf
                                      refine dr_take 20 (.int .i64 k19) rfl (by kernel_rfl) (by kernel_rfl) (by kernel_rfl) (by kernel_rfl) rfl rfl hf (by decide) (wantY hf rfl rfl hb87) (fun w hp => ?_) ⟨_, hp⟩ ?_
                                      · obtain ⟨_, hp⟩ := hp
                                        refine st_move hf (wantY hf rfl rfl hb87) rfl (by decide) ?_
                                        clear hf; intro a ha hf
                                        exact st_nil hf (th_n ⟨ha, rfl⟩)
                                      clear hf; intro a hf
                                      refine dr_take 21 (eptr (gtv vs40 w18) k19 1) rfl (by kernel_rfl) (by kernel_rfl) (by kernel_rfl) (by kernel_rfl) rfl rfl hf (by decide) (wantY hf rfl rfl hb87) (fun w hp => ?_) ⟨_, hp⟩ ?_
                                      · obtain ⟨_, hp⟩ := hp
                                        refine st_index (E := (Ek.int .i64)) hf (by decide) Try.underlying22 elt3 (wantY hf rfl rfl hb87) rfl rfl ((RdR.rowS rl77 hc88.1 hc88.2).sl hp) hc89.1 hc89.2 ?_
                                        clear hf; intro a ha hf
                                        exact st_nil hf (th_n ⟨ha, rfl⟩)
                                      clear hf; intro a hf
                                      refine dr_take 22 (.int .i64 (gt (gt m14 w18) k19)) rfl (by kernel_rfl) (by kernel_rfl) (by kernel_rfl) (by kernel_rfl) rfl rfl hf (by decide) (wantY hf rfl rfl hb87) (fun w hp => ?_) ⟨_, hp⟩ ?_
                                      · obtain ⟨_, hp⟩ := hp
                                        refine st_ldI hf (by decide) pl3 (wantY hf rfl rfl hb87) rfl ((RdR.rowS rl77 hc88.1 hc88.2).sl hp) hc89.1 hc89.2 ?_
                                        clear hf; intro a ha hf
                                        exact st_nil hf (th_n ⟨ha, rfl⟩)
                                      clear hf; intro a hf
                                      refine dr_take 23 (v39) rfl (by kernel_rfl) (by kernel_rfl) (by kernel_rfl) (by kernel_rfl) rfl rfl hf (by decide) (wantY hf rfl rfl hb87) (fun w hp => ?_) ⟨_, hp⟩ ?_
                                      · obtain ⟨_, hp⟩ := hp
                                        refine st_move hf (wantY hf rfl rfl hb87) rfl (by decide) ?_
                                        clear hf; intro a ha hf
                                        exact st_nil hf (th_n ⟨ha, rfl⟩)
                                      clear hf; intro a hf
                                      refine dr_take 24 (.int .i64 w18) rfl (by kernel_rfl) (by kernel_rfl) (by kernel_rfl) (by kernel_rfl) rfl rfl hf (by decide) (wantY hf rfl rfl hb87) (fun w hp => ?_) ⟨_, hp⟩ ?_
                                      · obtain ⟨_, hp⟩ := hp
                                        refine st_move hf (wantY hf rfl rfl hb87) rfl (by decide) ?_
                                        clear hf; intro a ha hf
                                        exact st_nil hf (th_n ⟨ha, rfl⟩)
                                      clear hf; intro a hf
                                      refine dr_take 25 (eptr v39 w18 1) rfl (by kernel_rfl) (by kernel_rfl) (by kernel_rfl) (by kernel_rfl) rfl rfl hf (by decide) (wantY hf rfl rfl hb87) (fun w hp => ?_) ⟨_, hp⟩ ?_
                                      · obtain ⟨_, hp⟩ := hp
                                        refine st_indexV (E := Ek.val) (m := m14.length) hf (by decide) Try.underlying23 eltv22 (wantY hf rfl rfl hb87) rfl rfl (rl77.ob hp).shapeNY hc90.1 hc90.2 ?_
                                        clear hf; intro a ha hf
                                        exact st_nil hf (th_n ⟨ha, rfl⟩)
                                      clear hf; intro a hf
                                      refine dr_take 26 ((gtv vs40 w18)) rfl (by kernel_rfl) (by kernel_rfl) (by kernel_rfl) (by kernel_rfl) rfl rfl hf (by decide) (wantY hf rfl rfl hb87) (fun w hp => ?_) ⟨_, hp⟩ ?_
                                      · obtain ⟨_, hp⟩ := hp
                                        refine st_ldRY hf (by decide) pl22 (wantY hf rfl rfl hb87) rfl (rl77.ob hp) hc90.1 hc90.2 ?_
                                        clear hf; intro a ha hf
                                        exact st_nil hf (th_n ⟨ha, rfl⟩)
                                      clear hf; intro a hf
                                      refine dr_take 27 (.int .i64 k19) rfl (by kernel_rfl) (by kernel_rfl) (by kernel_rfl) (by kernel_rfl) rfl rfl hf (by decide) (wantY hf rfl rfl hb87) (fun w hp => ?_) ⟨_, hp⟩ ?_
                                      · obtain ⟨_, hp⟩ := hp
                                        refine st_move hf (wantY hf rfl rfl hb87) rfl (by decide) ?_
                                        clear hf; intro a ha hf
                                        exact st_nil hf (th_n ⟨ha, rfl⟩)
                                      clear hf; intro a hf
                                      refine dr_take 28 (.int .i64 (IntKind.i64.wrap (k19 - (1 : Int)))) rfl (by kernel_rfl) (by kernel_rfl) (by kernel_rfl) (by kernel_rfl) rfl rfl hf (by decide) (wantY hf rfl rfl hb87) (fun w hp => ?_) ⟨_, hp⟩ ?_
                                      · obtain ⟨_, hp⟩ := hp
                                        refine st_isub hf (by decide) (wantY hf rfl rfl hb87) rfl rfl ?_
                                        clear hf; intro a ha hf
                                        exact st_nil hf (th_n ⟨ha, rfl⟩)
                                      clear hf; intro a hf
                                      refine dr_take 29 (eptr (gtv vs40 w18) (IntKind.i64.wrap (k19 - (1 : Int))) 1) rfl (by kernel_rfl) (by kernel_rfl) (by kernel_rfl) (by kernel_rfl) rfl rfl hf (by decide) (wantY hf rfl rfl hb87) (fun w hp => ?_) ⟨_, hp⟩ ?_
                                      · obtain ⟨_, hp⟩ := hp
                                        refine st_index (E := (Ek.int .i64)) hf (by decide) Try.underlying22 elt3 (wantY hf rfl rfl hb87) rfl rfl ((RdR.rowS rl77 hc90.1 hc90.2).sl hp) hc91.1 hc91.2 ?_
                                        clear hf; intro a ha hf
                                        exact st_nil hf (th_n ⟨ha, rfl⟩)
                                      clear hf; intro a hf
                                      refine dr_take 30 (.int .i64 (gt (gt m14 w18) (IntKind.i64.wrap (k19 - (1 : Int))))) rfl (by kernel_rfl) (by kernel_rfl) (by kernel_rfl) (by kernel_rfl) rfl rfl hf (by decide) (wantY hf rfl rfl hb87) (fun w hp => ?_) ⟨_, hp⟩ ?_
                                      · obtain ⟨_, hp⟩ := hp
                                        refine st_ldI hf (by decide) pl3 (wantY hf rfl rfl hb87) rfl ((RdR.rowS rl77 hc90.1 hc90.2).sl hp) hc91.1 hc91.2 ?_
                                        clear hf; intro a ha hf
                                        exact st_nil hf (th_n ⟨ha, rfl⟩)
                                      clear hf; intro a hf
                                      refine dr_take 31 (.bool (decide ((gt (gt m14 w18) k19) ≤ (gt (gt m14 w18) (IntKind.i64.wrap (k19 - (1 : Int))))))) rfl (by kernel_rfl) (by kernel_rfl) (by kernel_rfl) (by kernel_rfl) rfl rfl hf (by decide) (wantY hf rfl rfl hb87) (fun w hp => ?_) ⟨_, hp⟩ ?_
                                      · obtain ⟨_, hp⟩ := hp
                                        refine st_ileq hf (by decide) (wantY hf rfl rfl hb87) rfl rfl ?_
                                        clear hf; intro a ha hf
                                        exact st_nil hf (th_n ⟨ha, rfl⟩)
                                      clear hf; intro a hf
                                      refine dr_take 32 (.bool z92) rfl (by kernel_rfl) (by kernel_rfl) (by kernel_rfl) (by kernel_rfl) rfl rfl hf (by decide) (wantY hf rfl rfl hb85) (fun w hp => ?_) ⟨_, hp⟩ ?_
                                      · obtain ⟨_, hp⟩ := hp
                                        refine st_pick (v := .bool z92) hf (wantY hf rfl rfl hb85) rfl (fun _ => by rw [← hz86]; rfl) (fun hb' => absurd (hb87.symm.trans hb') (by decide)) (by decide) ?_
                                        clear hf; intro a ha hf
                                        exact st_nil hf (th_n ⟨ha, rfl⟩)
                                      clear hf; intro a hf
                                      refine dr_take 33 (.bool z93) rfl (by kernel_rfl) (by kernel_rfl) (by kernel_rfl) (by kernel_rfl) rfl rfl hf (by decide) rfl (fun w hp => ?_) ⟨_, hp⟩ ?_
                                      · obtain ⟨_, hp⟩ := hp
                                        refine st_pick (v := .bool z93) hf rfl rfl (fun hb' => absurd (hb85.symm.trans hb') (by decide)) (fun _ => by rw [← hz84]; rfl) (by decide) ?_
                                        clear hf; intro a ha hf
                                        exact st_nil hf (th_n ⟨ha, rfl⟩)
                                      clear hf; intro a hf
                                      refine dr_end (by kernel_rfl) ?_ _
                                      have hp := bk76 _ _ hp
                                      exact ⟨hf.sub ⟨rfl, rfl, rfl, rfl, rfl, rfl, rfl, rfl, rfl, rfl, rfl, trivial⟩, hp⟩
                                    · skip
                                      replace hz86 := ifF hz86 hb87
                                      replace hz86 := Option.some.inj hz86
                                      refine dr_begin' (fun a w => Fr 213 a [(0, .int .i64 from0), (1, .int .i64 to1), (2, .int .i64 (IntKind.i64.wrap ((1 : Int) + (((IntKind.i64.wrap (((count2).tmod (60 : Int)) + (60 : Int)))).tmod (60 : Int))))), (3, .int .i64 (IntKind.i64.wrap ((1 : Int) + (((IntKind.i64.wrap (((length3).tmod (60 : Int)) + (60 : Int)))).tmod (60 : Int))))), (10, v37), (14, v39), (16, .int .i64 (IntKind.i64.wrap (to1 - from0))), (17, .int .i64 (IntKind.i64.wrap (sum17 + (gt l10 w18)))), (18, .int .i64 w18), (19, .int .i64 k19), (209, .bool z93)] ∧ Hp S w0 w (Res.rows (RowK.sl (Ek.int .i64) 3) 22 v39 vs40 m14 :: Res.sl (Ek.int .i64) 3 v37 l10 :: ow)) (fun w' => ∃ l, Hp S72 w w' l) [] (by kernel_rfl) ?_
                                      refine dr_take 0 (.int .i64 q70.2) rfl (by kernel_rfl) (by kernel_rfl) (by kernel_rfl) (by kernel_rfl) rfl rfl hf (by decide) rfl (fun w hp => ?_) ⟨_, hp⟩ ?_
                                      · obtain ⟨_, hp⟩ := hp
                                        refine st_move hf rfl rfl (by decide) ?_
                                        clear hf; intro a ha hf
                                        exact st_nil hf (th_n ⟨ha, rfl⟩)
                                      clear hf; intro a hf
                                      refine dr_take 1 (.bool (q70.2 != (0 : Int))) rfl (by kernel_rfl) (by kernel_rfl) (by kernel_rfl) (by kernel_rfl) rfl rfl hf (by decide) rfl (fun w hp => ?_) ⟨_, hp⟩ ?_
                                      · obtain ⟨_, hp⟩ := hp
                                        refine st_ineq hf (by decide) rfl rfl rfl ?_
                                        clear hf; intro a ha hf
                                        exact st_nil hf (th_n ⟨ha, rfl⟩)
                                      clear hf; intro a hf
                                      refine dr_take 2 (.bool (q70.2 != (0 : Int))) rfl (by kernel_rfl) (by kernel_rfl) (by kernel_rfl) (by kernel_rfl) rfl rfl hf (by decide) rfl (fun w hp => ?_) ⟨_, hp⟩ ?_
                                      · obtain ⟨_, hp⟩ := hp
                                        refine st_move hf rfl rfl (by decide) ?_
                                        clear hf; intro a ha hf
                                        exact st_nil hf (th_n ⟨ha, rfl⟩)
                                      clear hf; intro a hf
                                      refine dr_take 3 (.int .i64 q70.1) rfl (by kernel_rfl) (by kernel_rfl) (by kernel_rfl) (by kernel_rfl) rfl rfl hf (by decide) (wantY hf rfl rfl hb81) (fun w hp => ?_) ⟨_, hp⟩ ?_
                                      · obtain ⟨_, hp⟩ := hp
                                        refine st_move hf (wantY hf rfl rfl hb81) rfl (by decide) ?_
                                        clear hf; intro a ha hf
                                        exact st_nil hf (th_n ⟨ha, rfl⟩)
                                      clear hf; intro a hf
                                      refine dr_take 4 (.int .i64 from0) rfl (by kernel_rfl) (by kernel_rfl) (by kernel_rfl) (by kernel_rfl) rfl rfl hf (by decide) (wantY hf rfl rfl hb81) (fun w hp => ?_) ⟨_, hp⟩ ?_
                                      · obtain ⟨_, hp⟩ := hp
                                        refine st_move hf (wantY hf rfl rfl hb81) rfl (by decide) ?_
                                        clear hf; intro a ha hf
                                        exact st_nil hf (th_n ⟨ha, rfl⟩)
                                      clear hf; intro a hf
                                      refine dr_take 5 (.bool (decide (q70.1 < from0))) rfl (by kernel_rfl) (by kernel_rfl) (by kernel_rfl) (by kernel_rfl) rfl rfl hf (by decide) (wantY hf rfl rfl hb81) (fun w hp => ?_) ⟨_, hp⟩ ?_
                                      · obtain ⟨_, hp⟩ := hp
                                        refine st_ilss hf (by decide) (wantY hf rfl rfl hb81) rfl rfl ?_
                                        clear hf; intro a ha hf
                                        exact st_nil hf (th_n ⟨ha, rfl⟩)
                                      clear hf; intro a hf
                                      refine dr_take 6 (.bool ((q70.2 != (0 : Int)) || (decide (q70.1 < from0)))) rfl (by kernel_rfl) (by kernel_rfl) (by kernel_rfl) (by kernel_rfl) rfl rfl hf (by decide) rfl (fun w hp => ?_) ⟨_, hp⟩ ?_
                                      · obtain ⟨_, hp⟩ := hp
                                        refine st_pick (v := .bool ((q70.2 != (0 : Int)) || (decide (q70.1 < from0)))) hf rfl rfl (fun hb' => absurd (hb81.symm.trans hb') (by decide)) (fun _ => by rw [show ((q70.2 != (0 : Int)) || (decide (q70.1 < from0))) = (decide (q70.1 < from0)) from by rw [hb81]; rfl]; rfl) (by decide) ?_
                                        clear hf; intro a ha hf
                                        exact st_nil hf (th_n ⟨ha, rfl⟩)
                                      clear hf; intro a hf
                                      refine dr_take 7 (.bool ((q70.2 != (0 : Int)) || (decide (q70.1 < from0)))) rfl (by kernel_rfl) (by kernel_rfl) (by kernel_rfl) (by kernel_rfl) rfl rfl hf (by decide) rfl (fun w hp => ?_) ⟨_, hp⟩ ?_
                                      · obtain ⟨_, hp⟩ := hp
                                        refine st_move hf rfl rfl (by decide) ?_
                                        clear hf; intro a ha hf
                                        exact st_nil hf (th_n ⟨ha, rfl⟩)
                                      clear hf; intro a hf
                                      refine dr_take 8 (.int .i64 q70.1) rfl (by kernel_rfl) (by kernel_rfl) (by kernel_rfl) (by kernel_rfl) rfl rfl hf (by decide) (wantY hf rfl rfl hb83) (fun w hp => ?_) ⟨_, hp⟩ ?_
                                      · obtain ⟨_, hp⟩ := hp
                                        refine st_move hf (wantY hf rfl rfl hb83) rfl (by decide) ?_
                                        clear hf; intro a ha hf
                                        exact st_nil hf (th_n ⟨ha, rfl⟩)
                                      clear hf; intro a hf
                                      refine dr_take 9 (.int .i64 to1) rfl (by kernel_rfl) (by kernel_rfl) (by kernel_rfl) (by kernel_rfl) rfl rfl hf (by decide) (wantY hf rfl rfl hb83) (fun w hp => ?_) ⟨_, hp⟩ ?_
                                      · obtain ⟨_, hp⟩ := hp
                                        refine st_move hf (wantY hf rfl rfl hb83) rfl (by decide) ?_
                                        clear hf; intro a ha hf
                                        exact st_nil hf (th_n ⟨ha, rfl⟩)
                                      clear hf; intro a hf
                                      refine dr_take 10 (.bool (decide (to1 ≤ q70.1))) rfl (by kernel_rfl) (by kernel_rfl) (by kernel_rfl) (by kernel_rfl) rfl rfl hf (by decide) (wantY hf rfl rfl hb83) (fun w hp => ?_) ⟨_, hp⟩ ?_
                                      · obtain ⟨_, hp⟩ := hp
                                        refine st_igeq hf (by decide) (wantY hf rfl rfl hb83) rfl rfl ?_
                                        clear hf; intro a ha hf
                                        exact st_nil hf (th_n ⟨ha, rfl⟩)
                                      clear hf; intro a hf
                                      refine dr_take 11 (.bool (((q70.2 != (0 : Int)) || (decide (q70.1 < from0))) || (decide (to1 ≤ q70.1)))) rfl (by kernel_rfl) (by kernel_rfl) (by kernel_rfl) (by kernel_rfl) rfl rfl hf (by decide) rfl (fun w hp => ?_) ⟨_, hp⟩ ?_
                                      · obtain ⟨_, hp⟩ := hp
                                        refine st_pick (v := .bool (((q70.2 != (0 : Int)) || (decide (q70.1 < from0))) || (decide (to1 ≤ q70.1)))) hf rfl rfl (fun hb' => absurd (hb83.symm.trans hb') (by decide)) (fun _ => by rw [show (((q70.2 != (0 : Int)) || (decide (q70.1 < from0))) || (decide (to1 ≤ q70.1))) = (decide (to1 ≤ q70.1)) from by rw [hb83]; rfl]; rfl) (by decide) ?_
                                        clear hf; intro a ha hf
                                        exact st_nil hf (th_n ⟨ha, rfl⟩)
                                      clear hf; intro a hf
                                      refine dr_take 12 (.bool (((q70.2 != (0 : Int)) || (decide (q70.1 < from0))) || (decide (to1 ≤ q70.1)))) rfl (by kernel_rfl) (by kernel_rfl) (by kernel_rfl) (by kernel_rfl) rfl rfl hf (by decide) rfl (fun w hp => ?_) ⟨_, hp⟩ ?_
                                      · obtain ⟨_, hp⟩ := hp
                                        refine st_move hf rfl rfl (by decide) ?_
                                        clear hf; intro a ha hf
                                        exact st_nil hf (th_n ⟨ha, rfl⟩)
                                      clear hf; intro a hf
                                      refine dr_take 13 (.int .i64 k19) rfl (by kernel_rfl) (by kernel_rfl) (by kernel_rfl) (by kernel_rfl) rfl rfl hf (by decide) (wantY hf rfl rfl hb85) (fun w hp => ?_) ⟨_, hp⟩ ?_
                                      · obtain ⟨_, hp⟩ := hp
                                        refine st_move hf (wantY hf rfl rfl hb85) rfl (by decide) ?_
                                        clear hf; intro a ha hf
                                        exact st_nil hf (th_n ⟨ha, rfl⟩)
                                      clear hf; intro a hf
                                      refine dr_take 14 (.bool (decide ((0 : Int) < k19))) rfl (by kernel_rfl) (by kernel_rfl) (by kernel_rfl) (by kernel_rfl) rfl rfl hf (by decide) (wantY hf rfl rfl hb85) (fun w hp => ?_) ⟨_, hp⟩ ?_
                                      · obtain ⟨_, hp⟩ := hp
                                        refine st_igtr hf (by decide) (wantY hf rfl rfl hb85) rfl rfl ?_
                                        clear hf; intro a ha hf
                                        exact st_nil hf (th_n ⟨ha, rfl⟩)
                                      clear hf; intro a hf
                                      refine dr_take 15 (.bool (decide ((0 : Int) < k19))) rfl (by kernel_rfl) (by kernel_rfl) (by kernel_rfl) (by kernel_rfl) rfl rfl hf (by decide) (wantY hf rfl rfl hb85) (fun w hp => ?_) ⟨_, hp⟩ ?_
                                      · obtain ⟨_, hp⟩ := hp
                                        refine st_move hf (wantY hf rfl rfl hb85) rfl (by decide) ?_
                                        clear hf; intro a ha hf
                                        exact st_nil hf (th_n ⟨ha, rfl⟩)
                                      clear hf; intro a hf
                                      refine dr_out 16 rfl (by kernel_rfl) (by kernel_rfl) (by kernel_rfl) (by kernel_rfl) rfl hf (by decide) rfl (wantN hf rfl rfl hb87) ⟨_, hp⟩ ?_
                                      clear hf; intro a hf
                                      refine dr_out 17 rfl (by kernel_rfl) (by kernel_rfl) (by kernel_rfl) (by kernel_rfl) rfl hf (by decide) rfl (wantN hf rfl rfl hb87) ⟨_, hp⟩ ?_
                                      clear hf; intro a hf
                                      refine dr_out 18 rfl (by kernel_rfl) (by kernel_rfl) (by kernel_rfl) (by kernel_rfl) rfl hf (by decide) rfl (wantN hf rfl rfl hb87) ⟨_, hp⟩ ?_
                                      clear hf; intro a hf
                                      refine dr_out 19 rfl (by kernel_rfl) (by kernel_rfl) (by kernel_rfl) (by kernel_rfl) rfl hf (by decide) rfl (wantN hf rfl rfl hb87) ⟨_, hp⟩ ?_
                                      clear hf; intro a hf
                                      refine dr_out 20 rfl (by kernel_rfl) (by kernel_rfl) (by kernel_rfl) (by kernel_rfl) rfl hf (by decide) rfl (wantN hf rfl rfl hb87) ⟨_, hp⟩ ?_
                                      clear hf; intro a hf
                                      refine dr_out 21 rfl (by kernel_rfl) (by kernel_rfl) (by kernel_rfl) (by kernel_rfl) rfl hf (by decide) rfl (wantN hf rfl rfl hb87) ⟨_, hp⟩ ?_
                                      clear hf; intro a hf
                                      refine dr_out 22 rfl (by kernel_rfl) (by kernel_rfl) (by kernel_rfl) (by kernel_rfl) rfl hf (by decide) rfl (wantN hf rfl rfl hb87) ⟨_, hp⟩ ?_
                                      clear hf; intro a hf
                                      refine dr_out 23 rfl (by kernel_rfl) (by kernel_rfl) (by kernel_rfl) (by kernel_rfl) rfl hf (by decide) rfl (wantN hf rfl rfl hb87) ⟨_, hp⟩ ?_
                                      clear hf; intro a hf
                                      refine dr_out 24 rfl (by kernel_rfl) (by kernel_rfl) (by kernel_rfl) (by kernel_rfl) rfl hf (by decide) rfl (wantN hf rfl rfl hb87) ⟨_, hp⟩ ?_
                                      clear hf; intro a hf
                                      refine dr_out 25 rfl (by kernel_rfl) (by kernel_rfl) (by kernel_rfl) (by kernel_rfl) rfl hf (by decide) rfl (wantN hf rfl rfl hb87) ⟨_, hp⟩ ?_
                                      clear hf; intro a hf
                                      refine dr_out 26 rfl (by kernel_rfl) (by kernel_rfl) (by kernel_rfl) (by kernel_rfl) rfl hf (by decide) rfl (wantN hf rfl rfl hb87) ⟨_, hp⟩ ?_
                                      clear hf; intro a hf
                                      refine dr_out 27 rfl (by kernel_rfl) (by kernel_rfl) (by kernel_rfl) (by kernel_rfl) rfl hf (by decide) rfl (wantN hf rfl rfl hb87) ⟨_, hp⟩ ?_
                                      clear hf; intro a hf
                                      refine dr_out 28 rfl (by kernel_rfl) (by kernel_rfl) (by kernel_rfl) (by kernel_rfl) rfl hf (by decide) rfl (wantN hf rfl rfl hb87) ⟨_, hp⟩ ?_
                                      clear hf; intro a hf
                                      refine dr_out 29 rfl (by kernel_rfl) (by kernel_rfl) (by kernel_rfl) (by kernel_rfl) rfl hf (by decide) rfl (wantN hf rfl rfl hb87) ⟨_, hp⟩ ?_
                                      clear hf; intro a hf
                                      refine dr_out 30 rfl (by kernel_rfl) (by kernel_rfl) (by kernel_rfl) (by kernel_rfl) rfl hf (by decide) rfl (wantN hf rfl rfl hb87) ⟨_, hp⟩ ?_
                                      clear hf; intro a hf
                                      refine dr_out 31 rfl (by kernel_rfl) (by kernel_rfl) (by kernel_rfl) (by kernel_rfl) rfl hf (by decide) rfl (wantN hf rfl rfl hb87) ⟨_, hp⟩ ?_
                                      clear hf; intro a hf
                                      refine dr_take 32 (.bool z92) rfl (by kernel_rfl) (by kernel_rfl) (by kernel_rfl) (by kernel_rfl) rfl rfl hf (by decide) (wantY hf rfl rfl hb85) (fun w hp => ?_) ⟨_, hp⟩ ?_
                                      · obtain ⟨_, hp⟩ := hp
                                        refine st_pick (v := .bool z92) hf (wantY hf rfl rfl hb85) rfl (fun hb' => absurd (hb87.symm.trans hb') (by decide)) (fun _ => by rw [← hz86]; rfl) (by decide) ?_
                                        clear hf; intro a ha hf
                                        exact st_nil hf (th_n ⟨ha, rfl⟩)
                                      clear hf; intro a hf
                                      refine dr_take 33 (.bool z93) rfl (by kernel_rfl) (by kernel_rfl) (by kernel_rfl) (by kernel_rfl) rfl rfl hf (by decide) rfl (fun w hp => ?_) ⟨_, hp⟩ ?_
                                      · obtain ⟨_, hp⟩ := hp
                                        refine st_pick (v := .bool z93) hf rfl rfl (fun hb' => absurd (hb85.symm.trans hb') (by decide)) (fun _ => by rw [← hz84]; rfl) (by decide) ?_
                                        clear hf; intro a ha hf
                                        exact st_nil hf (th_n ⟨ha, rfl⟩)
                                      clear hf; intro a hf
                                      refine dr_end (by kernel_rfl) ?_ _
                                      have hp := bk76 _ _ hp
                                      exact ⟨hf.sub ⟨rfl, rfl, rfl, rfl, rfl, rfl, rfl, rfl, rfl, rfl, rfl, trivial⟩, hp⟩
                            · rintro a w ⟨hf, hp⟩
                              refine th_n ?_
                              refine wp_if hf rfl (fun hb => ?_) (fun hb => ?_)
                              · replace h := ifT h hb
                                refine wp_seq ?_
                                refine wp_reg ?_
                                refine st_assign hf rfl rfl (by decide) ?_
                                clear hf; intro a ha hf; clear ha
                                refine st_nil hf ?_
                                refine th_n ?_
                                refine wp_ret ?_
                                refine ib_r ?_
                                refine th_r ?_
                                obtain rfl := Option.some.inj h
                                have hp : Hp _ _ _ (ow) := Hp.sel (pre := [Res.rows (RowK.sl (Ek.int .i64) 3) 22 v39 vs40 m14, Res.sl (Ek.int .i64) 3 v37 l10]) (tail := ow) (rs' := []) hp [] (by decide) (by simp) rfl
                                exact rnd_r (by simp) ⟨rfl, ⟨hf.sub ⟨rfl, trivial⟩, hp⟩⟩
                              · replace h := ifF h hb
                                refine wp_skip ?_
                                refine ib_n ?_
                                refine th_n ?_
                                refine wp_reg ?_
                                refine st_move hf rfl rfl (by decide) ?_
                                clear hf; intro a ha hf; clear ha
                                refine st_iadd hf (by decide) rfl rfl rfl ?_
                                clear hf; intro a ha hf; clear ha
                                refine st_assign hf rfl rfl (by decide) ?_
                                clear hf; intro a ha hf; clear ha
                                refine st_nil hf ?_
                                obtain rfl := Option.some.inj h
                                have hp : Hp _ _ _ (Res.sl (Ek.int .i64) 3 v37 l10 :: Res.rows (RowK.sl (Ek.int .i64) 3) 22 v39 vs40 m14 :: ow) := Hp.sel (pre := [Res.rows (RowK.sl (Ek.int .i64) 3) 22 v39 vs40 m14, Res.sl (Ek.int .i64) 3 v37 l10]) (tail := ow) (rs' := [Res.sl (Ek.int .i64) 3 v37 l10, Res.rows (RowK.sl (Ek.int .i64) 3) 22 v39 vs40 m14]) hp [1, 0] (by decide) (by simp) rfl
                                exact rnd_l ⟨hf.sub ⟨rfl, rfl, rfl, rfl, rfl, rfl, rfl, rfl, rfl, rfl, trivial⟩, hp⟩
                          · replace h := ifF h hb
                            refine wp_exit ?_
                            refine th_e ?_
                            obtain rfl := Option.some.inj h
                            exact rnd_r (by simp) ⟨rfl, hf.sub ⟨rfl, rfl, rfl, rfl, rfl, rfl, rfl, rfl, rfl, trivial⟩, hp⟩
                        · clear hl hf hp
                          intro e a w hne hO
                          cases q94 with
                          | inl q95 =>
                            replace h := smL h
                            obtain ⟨rfl, hf, hp⟩ := hO
                            refine ib_same ?_
                            refine ib_n ?_
                            refine th_n ?_
                            refine wp_reg ?_
                            refine st_move hf rfl rfl (by decide) ?_
                            clear hf; intro a ha hf; clear ha
                            refine st_iadd hf (by decide) rfl rfl rfl ?_
                            clear hf; intro a ha hf; clear ha
                            refine st_assign hf rfl rfl (by decide) ?_
                            clear hf; intro a ha hf; clear ha
                            refine st_nil hf ?_
                            obtain rfl := Option.some.inj h
                            exact rnd_l ⟨_, _, _, hf.sub ⟨rfl, rfl, rfl, rfl, rfl, rfl, rfl, rfl, rfl, trivial⟩, hp⟩
                          | inr q96 =>
                            replace h := smR h
                            obtain ⟨rfl, hf, hp⟩ := hO
                            refine ib_r ?_
                            refine ib_r ?_
                            refine th_r ?_
                            obtain rfl := Option.some.inj h
                            exact rnd_r (by simp) ⟨rfl, ⟨hf.sub ⟨rfl, trivial⟩, hp⟩⟩
                  · replace h := ifF h hb
                    refine wp_exit ?_
                    refine th_e ?_
                    obtain rfl := Option.some.inj h
                    have hp : Hp _ _ _ (ow) := Hp.sel (pre := [Res.sl (Ek.int .i64) 3 v37 l10, Res.rows (RowK.sl (Ek.int .i64) 3) 22 v39 vs40 m14]) (tail := ow) (rs' := []) hp [] (by decide) (by simp) rfl
                    exact rnd_r (by simp) ⟨rfl, hf.sub ⟨rfl, rfl, trivial⟩, hp⟩
                · clear hl hf hp
                  intro e a w hne hO
                  cases q97 with
                  | inl q98 =>
                    replace h := smL h
                    obtain ⟨rfl, hf, hp⟩ := hO
                    refine ib_same ?_
                    refine th_n ?_
                    refine wp_seq ?_
                    refine wp_reg ?_
                    refine st_move hf rfl rfl (by decide) ?_
                    clear hf; intro a ha hf; clear ha
                    refine st_move hf rfl rfl (by decide) ?_
                    clear hf; intro a ha hf; clear ha
                    refine st_ieql hf (by decide) rfl rfl rfl ?_
                    clear hf; intro a ha hf; clear ha
                    refine st_assign hf rfl rfl (by decide) ?_
                    clear hf; intro a ha hf; clear ha
                    refine st_nil hf ?_
                    refine th_n ?_
                    refine wp_ret ?_
                    obtain rfl := Option.some.inj h
                    exact ⟨rfl, ⟨hf.sub ⟨rfl, trivial⟩, hp⟩⟩
                  | inr q99 =>
                    replace h := smR h
                    obtain ⟨rfl, hf, hp⟩ := hO
                    refine ib_r ?_
                    refine th_r ?_
                    obtain rfl := Option.some.inj h
                    exact ⟨rfl, ⟨hf.sub ⟨rfl, trivial⟩, hp⟩⟩

end Go.Proofs.Ythoigfonjpmibaa
