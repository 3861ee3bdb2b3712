/- The functions foghorn foghorntop.TopLinear: what each answers, as a plain function, and that its call answers it; printed by gen.py. -/
import Derived.Test.YtgdhjjdgghilhaaProg
import Derived.Test.YtgdhjjdgghilhaaGlUf
import Derived.KernelRfl
import Derived.Test.YtgdhjjdgghilhaaG1p4
set_option linter.unusedVariables false
set_option linter.unusedSimpArgs false
set_option maxRecDepth 100000
set_option maxHeartbeats 4000000
namespace Go.Proofs.Ytgdhjjdgghilhaa
open GL
noncomputable def f_foghorntop_TopLinear.s1c (one1 : (List Int)) (other2 : (List Int)) (turn3 : Int) (xx16 : (List (Fl × Fl))) (yx17 : (List (Fl × Fl))) (zx18 : (List (Fl × Fl))) (qx19 : (List (Fl × Fl))) (i20 : Int) : Option (((List (Fl × Fl)) × (List (Fl × Fl)) × (List (Fl × Fl)) × (List (Fl × Fl)) × Int) ⊕ ((List (Fl × Fl)) × (List (Fl × Fl)) × (List (Fl × Fl)) × (List (Fl × Fl)))) := (if (decide (i20 < (IntKind.i64.wrap (((imin (imin (one1.length : Int) (other2.length : Int)) (400 : Int))).tdiv (2 : Int))))) = true then (if 0 ≤ (IntKind.i64.wrap ((2 : Int) * i20)) ∧ (IntKind.i64.wrap ((2 : Int) * i20)) < (one1.length : Int) then ((f_foghorntop_mod (gt one1 (IntKind.i64.wrap ((2 : Int) * i20))) (31 : Int)).bind fun q58 => (if 0 ≤ (IntKind.i64.wrap ((IntKind.i64.wrap ((2 : Int) * i20)) + (1 : Int))) ∧ (IntKind.i64.wrap ((IntKind.i64.wrap ((2 : Int) * i20)) + (1 : Int))) < (one1.length : Int) then ((f_foghorntop_mod (gt one1 (IntKind.i64.wrap ((IntKind.i64.wrap ((2 : Int) * i20)) + (1 : Int)))) (31 : Int)).bind fun q61 => (if 0 ≤ (IntKind.i64.wrap ((2 : Int) * i20)) ∧ (IntKind.i64.wrap ((2 : Int) * i20)) < (other2.length : Int) then ((f_foghorntop_mod (gt other2 (IntKind.i64.wrap ((2 : Int) * i20))) (31 : Int)).bind fun q64 => (if 0 ≤ (IntKind.i64.wrap ((IntKind.i64.wrap ((2 : Int) * i20)) + (1 : Int))) ∧ (IntKind.i64.wrap ((IntKind.i64.wrap ((2 : Int) * i20)) + (1 : Int))) < (other2.length : Int) then ((f_foghorntop_mod (gt other2 (IntKind.i64.wrap ((IntKind.i64.wrap ((2 : Int) * i20)) + (1 : Int)))) (31 : Int)).bind fun q67 => (if (xx16.length + ([((fofi (IntKind.i64.wrap (q58 - (15 : Int)))), (fofi (IntKind.i64.wrap (q61 - (15 : Int)))))]).length) * 16 ≤ 140737488355328 then (if (yx17.length + ([((fofi (IntKind.i64.wrap (q64 - (15 : Int)))), (fofi (IntKind.i64.wrap (q67 - (15 : Int)))))]).length) * 16 ≤ 140737488355328 then (if (zx18.length + ([(cadd ((fofi (IntKind.i64.wrap (q58 - (15 : Int)))), (fofi (IntKind.i64.wrap (q61 - (15 : Int))))) ((fofi (IntKind.i64.wrap (q64 - (15 : Int)))), (fofi (IntKind.i64.wrap (q67 - (15 : Int))))))]).length) * 16 ≤ 140737488355328 then ((f_foghorntop_quarter ((fofi (IntKind.i64.wrap (q58 - (15 : Int)))), (fofi (IntKind.i64.wrap (q61 - (15 : Int))))) turn3).bind fun q85 => (if (qx19.length + ([q85]).length) * 16 ≤ 140737488355328 then (some (Sum.inl ((xx16 ++ [((fofi (IntKind.i64.wrap (q58 - (15 : Int)))), (fofi (IntKind.i64.wrap (q61 - (15 : Int)))))]), (yx17 ++ [((fofi (IntKind.i64.wrap (q64 - (15 : Int)))), (fofi (IntKind.i64.wrap (q67 - (15 : Int)))))]), (zx18 ++ [(cadd ((fofi (IntKind.i64.wrap (q58 - (15 : Int)))), (fofi (IntKind.i64.wrap (q61 - (15 : Int))))) ((fofi (IntKind.i64.wrap (q64 - (15 : Int)))), (fofi (IntKind.i64.wrap (q67 - (15 : Int))))))]), (qx19 ++ [q85]), (IntKind.i64.wrap (i20 + (1 : Int)))))) else none)) else none) else none) else none)) else none)) else none)) else none)) else none) else (some (Sum.inr (xx16, yx17, zx18, qx19))))
noncomputable def f_foghorntop_TopLinear.s1 (one1 : (List Int)) (other2 : (List Int)) (turn3 : Int) (s : ((List (Fl × Fl)) × (List (Fl × Fl)) × (List (Fl × Fl)) × (List (Fl × Fl)) × Int)) : Option (((List (Fl × Fl)) × (List (Fl × Fl)) × (List (Fl × Fl)) × (List (Fl × Fl)) × Int) ⊕ ((List (Fl × Fl)) × (List (Fl × Fl)) × (List (Fl × Fl)) × (List (Fl × Fl)))) := f_foghorntop_TopLinear.s1c one1 other2 turn3 s.1 s.2.1 s.2.2.1 s.2.2.2.1 s.2.2.2.2
noncomputable def f_foghorntop_TopLinear.s2c (turn3 : Int) (q105 : ((List (Fl × Fl)) × Bool)) (q124 : ((List (Fl × Fl)) × Bool)) (q143 : ((List (Fl × Fl)) × Bool)) (q162 : ((List (Fl × Fl)) × Bool)) (i31 : Int) : Option (Int ⊕ (Unit ⊕ Bool)) := (if (decide (i31 < (q105.1.length : Int))) = true then (if 0 ≤ i31 ∧ i31 < (q105.1.length : Int) then (if 0 ≤ i31 ∧ i31 < (q124.1.length : Int) then (if 0 ≤ i31 ∧ i31 < (q143.1.length : Int) then ((if (!ceq (cadd (gt q105.1 i31) (gt q124.1 i31)) (gt q143.1 i31)) = true then (some true) else (if 0 ≤ i31 ∧ i31 < (q105.1.length : Int) then ((f_foghorntop_quarter (gt q105.1 i31) turn3).bind fun q247 => (if 0 ≤ i31 ∧ i31 < (q162.1.length : Int) then (some (!ceq q247 (gt q162.1 i31))) else none)) else none)).bind fun z259 => (if z259 = true then (some (Sum.inr (Sum.inr false))) else (some (Sum.inl (IntKind.i64.wrap (i31 + (1 : Int))))))) else none) else none) else none) else (some (Sum.inr (Sum.inl ()))))
noncomputable def f_foghorntop_TopLinear.s2 (turn3 : Int) (q105 : ((List (Fl × Fl)) × Bool)) (q124 : ((List (Fl × Fl)) × Bool)) (q143 : ((List (Fl × Fl)) × Bool)) (q162 : ((List (Fl × Fl)) × Bool)) (s : Int) : Option (Int ⊕ (Unit ⊕ Bool)) := f_foghorntop_TopLinear.s2c turn3 q105 q124 q143 q162 s
noncomputable def f_foghorntop_TopLinear (hx0_Size : Int) (hx0_Pulse : Int) (hx0_Order : Int) (hx0_First : Int) (hx0_Taps : (List Int)) (hx0_Delay : Int) (hx0_Points : Int) (hx0_Blocks : Int) (hx0_Bits : (List Bool)) (one1 : (List Int)) (other2 : (List Int)) (turn3 : Int) : Option Bool := ((f_foghorntop_rated hx0_Pulse).bind fun q3 => ((f_foghorntop_taps hx0_Size hx0_Pulse hx0_Order hx0_First hx0_Taps hx0_Delay hx0_Points hx0_Blocks hx0_Bits).bind fun q9 => ((f_foghorntop_mod hx0_Delay (200 : Int)).bind fun q37 => ((loop (f_foghorntop_TopLinear.s1 one1 other2 turn3) ([], [], [], [], (0 : Int))).bind (fun q95 => ((if (q3.2 != (0 : Int)) = true then (some true) else ((f_foghorntop_awake).bind fun q103 => (some (!q103)))).bind fun z102 => (if z102 = true then (some false) else ((f_foghorntop_through q3.1.1 q3.1.2.1 q3.1.2.2 q3.1.1 q37 q9.1 ([]) q95.1).bind fun q105 => ((f_foghorntop_through q3.1.1 q3.1.2.1 q3.1.2.2 q3.1.1 q37 q9.1 ([]) q95.2.1).bind fun q124 => ((f_foghorntop_through q3.1.1 q3.1.2.1 q3.1.2.2 q3.1.1 q37 q9.1 ([]) q95.2.2.1).bind fun q143 => ((f_foghorntop_through q3.1.1 q3.1.2.1 q3.1.2.2 q3.1.1 q37 q9.1 ([]) q95.2.2.2).bind fun q162 => (if (((((((!q105.2) || (!q124.2)) || (!q143.2)) || (!q162.2)) || ((q105.1.length : Int) != (q124.1.length : Int))) || ((q105.1.length : Int) != (q143.1.length : Int))) || ((q105.1.length : Int) != (q162.1.length : Int))) = true then (some false) else ((loop (f_foghorntop_TopLinear.s2 turn3 q105 q124 q143 q162) (0 : Int)).bind (fun q260 => sm q260 (fun q261 => (some true)) (fun q262 => (some q262))))))))))))))))
theorem f_foghorntop_TopLinear_c {S : Nat → Prop} {w0 w : World} {ow : List Res} (hp : Hp S w0 w ow) (hx0_Size : Int) (hx0_Pulse : Int) (hx0_Order : Int) (hx0_First : Int) (vhx0_Taps : Value) (hx0_Taps : (List Int)) (hhx0_Taps : RdS (Ek.int .i64) S w0 vhx0_Taps hx0_Taps) (hx0_Delay : Int) (hx0_Points : Int) (hx0_Blocks : Int) (vhx0_Bits : Value) (hx0_Bits : (List Bool)) (hhx0_Bits : RdS Ek.bool S w0 vhx0_Bits hx0_Bits) (vone1 : Value) (one1 : (List Int)) (hone1 : RdS (Ek.int .i64) S w0 vone1 one1) (vother2 : Value) (other2 : (List Int)) (hother2 : RdS (Ek.int .i64) S w0 vother2 other2) (turn3 : Int) {r : Bool} (h : f_foghorntop_TopLinear hx0_Size hx0_Pulse hx0_Order hx0_First hx0_Taps hx0_Delay hx0_Points hx0_Blocks hx0_Bits one1 other2 turn3 = some r) :
    Calls Try.prog 3 #[.agg #[.int .i64 hx0_Size, .int .i64 hx0_Pulse, .int .i64 hx0_Order, .int .i64 hx0_First, vhx0_Taps, .int .i64 hx0_Delay, .int .i64 hx0_Points, .int .i64 hx0_Blocks, vhx0_Bits], vone1, vother2, .int .i64 turn3] w (fun e w' => e = .returned (.bool r) ∧ Hp S w0 w' (ow)) := by
  unfold f_foghorntop_TopLinear at h
  refine enter (n := 220) (args := [.agg #[.int .i64 hx0_Size, .int .i64 hx0_Pulse, .int .i64 hx0_Order, .int .i64 hx0_First, vhx0_Taps, .int .i64 hx0_Delay, .int .i64 hx0_Points, .int .i64 hx0_Blocks, vhx0_Bits], vone1, vother2, .int .i64 turn3]) Try.func3 rfl rfl (Nat.le_of_ble_eq_true rfl) fun a hf => ?_
  replace hf : Fr 220 a [(0, .agg #[.int .i64 hx0_Size, .int .i64 hx0_Pulse, .int .i64 hx0_Order, .int .i64 hx0_First, vhx0_Taps, .int .i64 hx0_Delay, .int .i64 hx0_Points, .int .i64 hx0_Blocks, vhx0_Bits]), (1, vone1), (2, vother2), (3, .int .i64 turn3)] := hf
  refine wp_mono (Q := fun e a w => e = .ret ∧ Fr 220 a [(8, .bool r)] ∧ Hp S w0 w (ow)) ?_ ?_
  rotate_left
  · rintro e a w ⟨rfl, hf, hp⟩
    exact ret1 hf rfl rfl ⟨rfl, hp⟩
  refine wp_seq ?_
  refine wp_reg ?_
  refine st_boxO (cs := [.int .i64 hx0_Size, .int .i64 hx0_Pulse, .int .i64 hx0_Order, .int .i64 hx0_First, vhx0_Taps, .int .i64 hx0_Delay, .int .i64 hx0_Points, .int .i64 hx0_Blocks, vhx0_Bits]) hf (by decide) hp rfl rfl rfl ?_
  clear hf; intro a w v1 hf hp0; clear hp; have hp := hp0; clear hp0
  replace hp : Hp _ _ _ (Res.obj 25 v1 [.int .i64 hx0_Size, .int .i64 hx0_Pulse, .int .i64 hx0_Order, .int .i64 hx0_First, vhx0_Taps, .int .i64 hx0_Delay, .int .i64 hx0_Points, .int .i64 hx0_Blocks, vhx0_Bits] :: ow) := hp
  refine st_assign hf rfl rfl (by decide) ?_
  clear hf; intro a ha hf; clear ha
  refine st_nil hf ?_
  refine th_n ?_
  refine wp_seq ?_
  refine wp_reg ?_
  refine st_fa (o' := 1) hf (by decide) (off := 1) (sz := 1) (by kernel_rfl) (by decide) rfl rfl (hp.ob (i := 0) rfl) rfl ?_
  clear hf; intro a ha hf; clear ha
  refine st_ldO (u := .int .i64 hx0_Pulse) hf (by decide) pl3 rfl rfl (hp.ob (i := 0) rfl) rfl ?_
  clear hf; intro a ha hf; clear ha
  obtain ⟨q3, hcall4, h⟩ := bnd h
  refine st_call hf (by decide) Try.func4 rfl rfl rfl rfl rfl (f_foghorntop_rated_c hp _ hcall4) ?_
  rintro _ w ⟨v5, rfl, hp0⟩
  clear hp; have hp := hp0; clear hp0
  replace hp : Hp _ _ _ (Res.sl Ek.f64 33 v5 q3.1.2.2 :: Res.obj 25 v1 [.int .i64 hx0_Size, .int .i64 hx0_Pulse, .int .i64 hx0_Order, .int .i64 hx0_First, vhx0_Taps, .int .i64 hx0_Delay, .int .i64 hx0_Points, .int .i64 hx0_Blocks, vhx0_Bits] :: ow) := hp
  refine ⟨_, rfl, ?_⟩
  clear hf; intro a hf
  refine st_move hf rfl rfl (by decide) ?_
  clear hf; intro a ha hf; clear ha
  refine st_extract hf (by decide) rfl rfl rfl ?_
  clear hf; intro a ha hf; clear ha
  refine st_extract hf (by decide) rfl rfl rfl ?_
  clear hf; intro a ha hf; clear ha
  refine st_alloc (cs := [.int .i64 (0 : Int), .int .i64 (0 : Int), .slice none 0 0]) (zv := .agg #[.int .i64 (0 : Int), .int .i64 (0 : Int), .slice none 0 0]) hf (by decide) (by kernel_rfl) rfl hp rfl ?_
  clear hf; intro a w v7 hf hp0; clear hp; have hp := hp0; clear hp0
  replace hp : Hp _ _ _ (Res.obj 28 v7 [.int .i64 (0 : Int), .int .i64 (0 : Int), .slice none 0 0] :: Res.sl Ek.f64 33 v5 q3.1.2.2 :: Res.obj 25 v1 [.int .i64 hx0_Size, .int .i64 hx0_Pulse, .int .i64 hx0_Order, .int .i64 hx0_First, vhx0_Taps, .int .i64 hx0_Delay, .int .i64 hx0_Points, .int .i64 hx0_Blocks, vhx0_Bits] :: ow) := hp
  refine st_stO (us := [.int .i64 q3.1.1, .int .i64 q3.1.2.1, v5]) hf hp (i := 0) rfl rfl rfl rfl rfl (by first | rfl | (obtain ⟨_, _, rfl⟩ := (hp.sl (i := 1) rfl).shapeV; rfl)) (by kernel_rfl) (Nat.le_of_ble_eq_true rfl) ?_
  clear hf; intro a w hf hp0; clear hp; have hp := hp0; clear hp0
  replace hp : Hp _ _ _ (Res.obj 28 v7 [.int .i64 q3.1.1, .int .i64 q3.1.2.1, v5] :: Res.sl Ek.f64 33 v5 q3.1.2.2 :: Res.obj 25 v1 [.int .i64 hx0_Size, .int .i64 hx0_Pulse, .int .i64 hx0_Order, .int .i64 hx0_First, vhx0_Taps, .int .i64 hx0_Delay, .int .i64 hx0_Points, .int .i64 hx0_Blocks, vhx0_Bits] :: ow) := hp
  refine st_assign hf rfl rfl (by decide) ?_
  clear hf; intro a ha hf; clear ha
  refine st_nil hf ?_
  refine th_n ?_
  refine wp_seq ?_
  refine wp_reg ?_
  refine st_ldOA (m := 9) (us := [.int .i64 hx0_Size, .int .i64 hx0_Pulse, .int .i64 hx0_Order, .int .i64 hx0_First, vhx0_Taps, .int .i64 hx0_Delay, .int .i64 hx0_Points, .int .i64 hx0_Blocks, vhx0_Bits]) hf (by decide) (by kernel_rfl) rfl rfl (hp.ob (i := 2) rfl) rfl rfl ?_
  clear hf; intro a ha hf; clear ha
  obtain ⟨q9, hcall10, h⟩ := bnd h
  refine st_call hf (by decide) Try.func5 rfl rfl rfl rfl rfl (f_foghorntop_taps_c hp _ _ _ _ _ _ hhx0_Taps _ _ _ _ _ hhx0_Bits hcall10) ?_
  rintro _ w ⟨v11, v12, rfl, y13, hp0⟩
  clear hp; have hp := hp0; clear hp0
  replace hp : Hp _ _ _ (Res.sl Ek.c128 39 v11 q9.1 :: Res.obj 28 v7 [.int .i64 q3.1.1, .int .i64 q3.1.2.1, v5] :: Res.sl Ek.f64 33 v5 q3.1.2.2 :: Res.obj 25 v1 [.int .i64 hx0_Size, .int .i64 hx0_Pulse, .int .i64 hx0_Order, .int .i64 hx0_First, vhx0_Taps, .int .i64 hx0_Delay, .int .i64 hx0_Points, .int .i64 hx0_Blocks, vhx0_Bits] :: ow) := hp
  refine ⟨_, rfl, ?_⟩
  clear hf; intro a hf
  refine st_move hf rfl rfl (by decide) ?_
  clear hf; intro a ha hf; clear ha
  refine st_extract hf (by decide) rfl rfl rfl ?_
  clear hf; intro a ha hf; clear ha
  refine st_extract hf (by decide) rfl rfl rfl ?_
  clear hf; intro a ha hf; clear ha
  refine st_extract hf (by decide) rfl rfl rfl ?_
  clear hf; intro a ha hf; clear ha
  refine st_assign hf rfl rfl (by decide) ?_
  clear hf; intro a ha hf; clear ha
  refine st_assign hf rfl rfl (by decide) ?_
  clear hf; intro a ha hf; clear ha
  refine st_assign hf rfl rfl (by decide) ?_
  clear hf; intro a ha hf; clear ha
  refine st_nil hf ?_
  refine th_n ?_
  refine wp_seq ?_
  obtain ⟨S15, hp16, rd17, up18, bk19⟩ := Hp.lendO hp (i := 1) rfl
  obtain ⟨S20, hp21, rd22, up23, bk24⟩ := Hp.lendO hp16 (i := 2) rfl
  obtain ⟨S25, hp26, rd27, up28, bk29⟩ := Hp.lendS hp21 (i := 0) rfl
  have rl30 := ((((((hhx0_Taps.now hp).mono up18).now hp16).mono up23).now hp21).mono up28)
  have rl31 := ((((((hhx0_Bits.now hp).mono up18).now hp16).mono up23).now hp21).mono up28)
  have rl32 := ((((((hone1.now hp).mono up18).now hp16).mono up23).now hp21).mono up28)
  have rl33 := ((((((hother2.now hp).mono up18).now hp16).mono up23).now hp21).mono up28)
  have rl34 := ((rd22.now hp21).mono up28)
  have rl35 := ((((rd17.now hp16).mono up23).now hp21).mono up28)
  have rl36 := rd27
  obtain ⟨q37, hcall38, h⟩ := bnd h
  refine wp_cutN (fun a w => ∃ (v39 : Value), Fr 220 a [(1, vone1), (2, vother2), (3, .int .i64 turn3), (9, optr v7 0), (10, .int .i64 q3.2), (14, optr v39 0)] ∧ Hp S w0 w (Res.obj 28 v7 [.int .i64 q3.1.1, .int .i64 q3.1.2.1, v5] :: Res.obj 25 v1 [.int .i64 hx0_Size, .int .i64 hx0_Pulse, .int .i64 hx0_Order, .int .i64 hx0_First, vhx0_Taps, .int .i64 hx0_Delay, .int .i64 hx0_Points, .int .i64 hx0_Blocks, vhx0_Bits] :: Res.sl Ek.c128 39 v11 q9.1 :: Res.obj 38 v39 [.int .i64 q3.1.1, .int .i64 q37, v11, .slice none 0 0] :: Res.sl Ek.f64 33 v5 q3.1.2.2 :: ow)) ?_ ?_
  · have hp := hp26.same (Same.drew w)
    refine dr_begin' (fun a w => ∃ (v39 : Value), Fr 220 a [(1, vone1), (2, vother2), (3, .int .i64 turn3), (9, optr v7 0), (10, .int .i64 q3.2), (14, optr v39 0)] ∧ Hp S w0 w (Res.obj 28 v7 [.int .i64 q3.1.1, .int .i64 q3.1.2.1, v5] :: Res.obj 25 v1 [.int .i64 hx0_Size, .int .i64 hx0_Pulse, .int .i64 hx0_Order, .int .i64 hx0_First, vhx0_Taps, .int .i64 hx0_Delay, .int .i64 hx0_Points, .int .i64 hx0_Blocks, vhx0_Bits] :: Res.sl Ek.c128 39 v11 q9.1 :: Res.obj 38 v39 [.int .i64 q3.1.1, .int .i64 q37, v11, .slice none 0 0] :: Res.sl Ek.f64 33 v5 q3.1.2.2 :: ow)) (fun w' => ∃ l, Hp S25 w w' l) [] (by kernel_rfl) ?_
    refine dr_take 0 (optr v7 0) rfl (by kernel_rfl) (by kernel_rfl) (by kernel_rfl) (by kernel_rfl) rfl rfl hf (by decide) rfl (fun w hp => ?_) ⟨_, hp⟩ ?_
    · obtain ⟨_, hp⟩ := hp
      refine st_fa (o' := 0) hf (by decide) (off := 0) (sz := 1) (by kernel_rfl) (by decide) rfl rfl (rl35.ob hp) rfl ?_
      clear hf; intro a ha hf
      exact st_nil hf (th_n ⟨ha, rfl⟩)
    clear hf; intro a hf
    refine dr_take 1 (.int .i64 q3.1.1) rfl (by kernel_rfl) (by kernel_rfl) (by kernel_rfl) (by kernel_rfl) rfl rfl hf (by decide) rfl (fun w hp => ?_) ⟨_, hp⟩ ?_
    · obtain ⟨_, hp⟩ := hp
      refine st_ldO (u := .int .i64 q3.1.1) hf (by decide) pl3 rfl rfl (rl35.ob hp) rfl ?_
      clear hf; intro a ha hf
      exact st_nil hf (th_n ⟨ha, rfl⟩)
    clear hf; intro a hf
    refine dr_take 2 (optr v1 5) rfl (by kernel_rfl) (by kernel_rfl) (by kernel_rfl) (by kernel_rfl) rfl rfl hf (by decide) rfl (fun w hp => ?_) ⟨_, hp⟩ ?_
    · obtain ⟨_, hp⟩ := hp
      refine st_fa (o' := 5) hf (by decide) (off := 5) (sz := 1) (by kernel_rfl) (by decide) rfl rfl (rl34.ob hp) rfl ?_
      clear hf; intro a ha hf
      exact st_nil hf (th_n ⟨ha, rfl⟩)
    clear hf; intro a hf
    refine dr_take 3 (.int .i64 hx0_Delay) rfl (by kernel_rfl) (by kernel_rfl) (by kernel_rfl) (by kernel_rfl) rfl rfl hf (by decide) rfl (fun w hp => ?_) ⟨_, hp⟩ ?_
    · obtain ⟨_, hp⟩ := hp
      refine st_ldO (u := .int .i64 hx0_Delay) hf (by decide) pl3 rfl rfl (rl34.ob hp) rfl ?_
      clear hf; intro a ha hf
      exact st_nil hf (th_n ⟨ha, rfl⟩)
    clear hf; intro a hf
    refine dr_take 5 (v11) rfl (by kernel_rfl) (by kernel_rfl) (by kernel_rfl) (by kernel_rfl) rfl rfl hf (by decide) rfl (fun w hp => ?_) ⟨_, hp⟩ ?_
    · obtain ⟨_, hp⟩ := hp
      refine st_move hf rfl rfl (by decide) ?_
      clear hf; intro a ha hf
      exact st_nil hf (th_n ⟨ha, rfl⟩)
    clear hf; intro a hf
    refine dr_two 4 7 rfl rfl (by kernel_rfl) ?_ ?_
    · skip
      refine st_call hf (by decide) Try.func6 rfl rfl rfl rfl rfl (f_foghorntop_mod_c hp _ _ hcall38) ?_
      rintro _ w ⟨rfl, hp0⟩
      clear hp; have hp := hp0; clear hp0
      replace hp : Hp _ _ _ (Res.sl Ek.f64 33 v5 q3.1.2.2 :: ow) := hp
      refine ⟨_, rfl, ?_⟩
      clear hf; intro a hf
      refine st_nil hf (th_n ⟨fun _ _ => ⟨_, hp⟩, ?_⟩)
      refine dr_take 6 (.agg #[.int .i64 q3.1.1, .int .i64 q37, v11, .slice none 0 0]) rfl (by kernel_rfl) (by kernel_rfl) (by kernel_rfl) (by kernel_rfl) rfl rfl hf (by decide) rfl (fun w hp => ?_) ⟨_, hp⟩ ?_
      · obtain ⟨_, hp⟩ := hp
        refine st_buildA (vals := [(0, .int .i64 q3.1.1), (1, .int .i64 q37), (2, v11)]) (cells := [.int .i64 q3.1.1, .int .i64 q37, v11, .slice none 0 0]) hf (by decide) rfl (by simp [hf.ev (x := (Operand.tmp 45)) rfl, hf.ev (x := (Operand.tmp 48)) rfl, hf.ev (x := (Operand.tmp 49)) rfl]) (fun w => by obtain ⟨_, _, rfl⟩ := (rl36.sl hp).shapeV; kernel_rfl) ?_
        clear hf; intro a ha hf
        exact st_nil hf (th_n ⟨ha, rfl⟩)
      clear hf; intro a hf
      refine dr_one 7 rfl (by kernel_rfl) ?_
      refine st_alloc (cs := [.int .i64 (0 : Int), .int .i64 (0 : Int), .slice none 0 0, .slice none 0 0]) (zv := .agg #[.int .i64 (0 : Int), .int .i64 (0 : Int), .slice none 0 0, .slice none 0 0]) hf (by decide) (by kernel_rfl) rfl hp rfl ?_
      clear hf; intro a w v39 hf hp0; clear hp; have hp := hp0; clear hp0
      replace hp : Hp _ _ _ (Res.obj 38 v39 [.int .i64 (0 : Int), .int .i64 (0 : Int), .slice none 0 0, .slice none 0 0] :: Res.sl Ek.f64 33 v5 q3.1.2.2 :: ow) := hp
      refine st_nil hf (th_n ⟨fun _ _ => ⟨_, hp⟩, ?_⟩)
      refine dr_one 8 rfl (by kernel_rfl) ?_
      refine st_stO (us := [.int .i64 q3.1.1, .int .i64 q37, v11, .slice none 0 0]) hf hp (i := 0) rfl rfl rfl rfl rfl (by first | rfl | (obtain ⟨_, _, rfl⟩ := (rl36.sl hp).shapeV; rfl)) (by kernel_rfl) (Nat.le_of_ble_eq_true rfl) ?_
      clear hf; intro a w hf hp0; clear hp; have hp := hp0; clear hp0
      replace hp : Hp _ _ _ (Res.obj 38 v39 [.int .i64 q3.1.1, .int .i64 q37, v11, .slice none 0 0] :: Res.sl Ek.f64 33 v5 q3.1.2.2 :: ow) := hp
      refine st_nil hf (th_n ⟨fun _ _ => ⟨_, hp⟩, ?_⟩)
      refine dr_end (by kernel_rfl) ?_ _
      have hp := bk29 _ _ hp
      have hp := bk24 _ _ hp
      have hp := bk19 _ _ hp
      exact ⟨v39, hf.sub ⟨rfl, rfl, rfl, rfl, rfl, rfl, trivial⟩, hp⟩
    · skip
      refine st_alloc (cs := [.int .i64 (0 : Int), .int .i64 (0 : Int), .slice none 0 0, .slice none 0 0]) (zv := .agg #[.int .i64 (0 : Int), .int .i64 (0 : Int), .slice none 0 0, .slice none 0 0]) hf (by decide) (by kernel_rfl) rfl hp rfl ?_
      clear hf; intro a w v39 hf hp0; clear hp; have hp := hp0; clear hp0
      replace hp : Hp _ _ _ (Res.obj 38 v39 [.int .i64 (0 : Int), .int .i64 (0 : Int), .slice none 0 0, .slice none 0 0] :: Res.sl Ek.f64 33 v5 q3.1.2.2 :: ow) := hp
      refine st_nil hf (th_n ⟨fun _ _ => ⟨_, hp⟩, ?_⟩)
      refine dr_one 4 rfl (by kernel_rfl) ?_
      refine st_call hf (by decide) Try.func6 rfl rfl rfl rfl rfl (f_foghorntop_mod_c hp _ _ hcall38) ?_
      rintro _ w ⟨rfl, hp0⟩
      clear hp; have hp := hp0; clear hp0
      replace hp : Hp _ _ _ (Res.obj 38 v39 [.int .i64 (0 : Int), .int .i64 (0 : Int), .slice none 0 0, .slice none 0 0] :: Res.sl Ek.f64 33 v5 q3.1.2.2 :: ow) := hp
      refine ⟨_, rfl, ?_⟩
      clear hf; intro a hf
      refine st_nil hf (th_n ⟨fun _ _ => ⟨_, hp⟩, ?_⟩)
      refine dr_take 6 (.agg #[.int .i64 q3.1.1, .int .i64 q37, v11, .slice none 0 0]) rfl (by kernel_rfl) (by kernel_rfl) (by kernel_rfl) (by kernel_rfl) rfl rfl hf (by decide) rfl (fun w hp => ?_) ⟨_, hp⟩ ?_
      · obtain ⟨_, hp⟩ := hp
        refine st_buildA (vals := [(0, .int .i64 q3.1.1), (1, .int .i64 q37), (2, v11)]) (cells := [.int .i64 q3.1.1, .int .i64 q37, v11, .slice none 0 0]) hf (by decide) rfl (by simp [hf.ev (x := (Operand.tmp 45)) rfl, hf.ev (x := (Operand.tmp 48)) rfl, hf.ev (x := (Operand.tmp 49)) rfl]) (fun w => by obtain ⟨_, _, rfl⟩ := (rl36.sl hp).shapeV; kernel_rfl) ?_
        clear hf; intro a ha hf
        exact st_nil hf (th_n ⟨ha, rfl⟩)
      clear hf; intro a hf
      refine dr_one 8 rfl (by kernel_rfl) ?_
      refine st_stO (us := [.int .i64 q3.1.1, .int .i64 q37, v11, .slice none 0 0]) hf hp (i := 0) rfl rfl rfl rfl rfl (by first | rfl | (obtain ⟨_, _, rfl⟩ := (rl36.sl hp).shapeV; rfl)) (by kernel_rfl) (Nat.le_of_ble_eq_true rfl) ?_
      clear hf; intro a w hf hp0; clear hp; have hp := hp0; clear hp0
      replace hp : Hp _ _ _ (Res.obj 38 v39 [.int .i64 q3.1.1, .int .i64 q37, v11, .slice none 0 0] :: Res.sl Ek.f64 33 v5 q3.1.2.2 :: ow) := hp
      refine st_nil hf (th_n ⟨fun _ _ => ⟨_, hp⟩, ?_⟩)
      refine dr_end (by kernel_rfl) ?_ _
      have hp := bk29 _ _ hp
      have hp := bk24 _ _ hp
      have hp := bk19 _ _ hp
      exact ⟨v39, hf.sub ⟨rfl, rfl, rfl, rfl, rfl, rfl, trivial⟩, hp⟩
  rintro a w ⟨v39, hf, hp⟩
  refine th_n ?_
  refine wp_seq ?_
  refine wp_reg ?_
  refine st_move hf rfl rfl (by decide) ?_
  clear hf; intro a ha hf; clear ha
  refine st_len (E := (Ek.int .i64)) hf (by decide) Try.underlying22 rfl rfl (hone1.sl hp) ?_
  clear hf; intro a ha hf; clear ha
  refine st_move hf rfl rfl (by decide) ?_
  clear hf; intro a ha hf; clear ha
  refine st_len (E := (Ek.int .i64)) hf (by decide) Try.underlying22 rfl rfl (hother2.sl hp) ?_
  clear hf; intro a ha hf; clear ha
  refine st_imin3 hf (by decide) rfl rfl rfl rfl ?_
  clear hf; intro a ha hf; clear ha
  refine st_iquo hf (by decide) rfl rfl rfl (by decide) ?_
  clear hf; intro a ha hf; clear ha
  refine st_assign hf rfl rfl (by decide) ?_
  clear hf; intro a ha hf; clear ha
  refine st_nil hf ?_
  refine th_n ?_
  refine wp_seq ?_
  refine wp_reg ?_
  refine st_assign hf rfl rfl (by decide) ?_
  clear hf; intro a ha hf; clear ha
  refine st_assign hf rfl rfl (by decide) ?_
  clear hf; intro a ha hf; clear ha
  refine st_assign hf rfl rfl (by decide) ?_
  clear hf; intro a ha hf; clear ha
  refine st_assign hf rfl rfl (by decide) ?_
  clear hf; intro a ha hf; clear ha
  refine st_nil hf ?_
  refine th_n ?_
  refine wp_seq ?_
  refine wp_seq ?_
  refine wp_reg ?_
  refine st_assign hf rfl rfl (by decide) ?_
  clear hf; intro a ha hf; clear ha
  refine st_nil hf ?_
  refine th_n ?_
  refine wp_block ?_
  obtain ⟨q95, hl, h⟩ := bnd h
  have hp := hp.nil Ek.c128 39
  have hp := hp.nil Ek.c128 39
  have hp := hp.nil Ek.c128 39
  have hp := hp.nil Ek.c128 39
  have hp : Hp _ _ _ (Res.sl Ek.c128 39 (.slice none 0 0) ([]) :: Res.sl Ek.c128 39 (.slice none 0 0) ([]) :: Res.sl Ek.c128 39 (.slice none 0 0) ([]) :: Res.sl Ek.c128 39 (.slice none 0 0) ([]) :: Res.obj 28 v7 [.int .i64 q3.1.1, .int .i64 q3.1.2.1, v5] :: Res.sl Ek.f64 33 v5 q3.1.2.2 :: Res.obj 38 v39 [.int .i64 q3.1.1, .int .i64 q37, v11, .slice none 0 0] :: Res.sl Ek.c128 39 v11 q9.1 :: ow) := Hp.sel (pre := [Res.sl Ek.c128 39 (.slice none 0 0) ([]), Res.sl Ek.c128 39 (.slice none 0 0) ([]), Res.sl Ek.c128 39 (.slice none 0 0) ([]), Res.sl Ek.c128 39 (.slice none 0 0) ([]), Res.obj 28 v7 [.int .i64 q3.1.1, .int .i64 q3.1.2.1, v5], Res.obj 25 v1 [.int .i64 hx0_Size, .int .i64 hx0_Pulse, .int .i64 hx0_Order, .int .i64 hx0_First, vhx0_Taps, .int .i64 hx0_Delay, .int .i64 hx0_Points, .int .i64 hx0_Blocks, vhx0_Bits], Res.sl Ek.c128 39 v11 q9.1, Res.obj 38 v39 [.int .i64 q3.1.1, .int .i64 q37, v11, .slice none 0 0], Res.sl Ek.f64 33 v5 q3.1.2.2]) (tail := ow) (rs' := [Res.sl Ek.c128 39 (.slice none 0 0) ([]), Res.sl Ek.c128 39 (.slice none 0 0) ([]), Res.sl Ek.c128 39 (.slice none 0 0) ([]), Res.sl Ek.c128 39 (.slice none 0 0) ([]), Res.obj 28 v7 [.int .i64 q3.1.1, .int .i64 q3.1.2.1, v5], Res.sl Ek.f64 33 v5 q3.1.2.2, Res.obj 38 v39 [.int .i64 q3.1.1, .int .i64 q37, v11, .slice none 0 0], Res.sl Ek.c128 39 v11 q9.1]) hp [3, 2, 1, 0, 4, 8, 7, 6] (by decide) (by simp) rfl
  refine wp_loop_pure (f := (f_foghorntop_TopLinear.s1 one1 other2 turn3)) (s := ([], [], [], [], (0 : Int))) (fun s a w => ∃ (v41 : Value) (v43 : Value) (v45 : Value) (v47 : Value), Fr 220 a [(1, vone1), (2, vother2), (3, .int .i64 turn3), (9, optr v7 0), (10, .int .i64 q3.2), (14, optr v39 0), (15, .int .i64 (IntKind.i64.wrap (((imin (imin (one1.length : Int) (other2.length : Int)) (400 : Int))).tdiv (2 : Int)))), (16, v41), (17, v43), (18, v45), (19, v47), (20, .int .i64 s.2.2.2.2)] ∧ Hp S w0 w (Res.sl Ek.c128 39 v41 s.1 :: Res.sl Ek.c128 39 v43 s.2.1 :: Res.sl Ek.c128 39 v45 s.2.2.1 :: Res.sl Ek.c128 39 v47 s.2.2.2.1 :: Res.obj 28 v7 [.int .i64 q3.1.1, .int .i64 q3.1.2.1, v5] :: Res.sl Ek.f64 33 v5 q3.1.2.2 :: Res.obj 38 v39 [.int .i64 q3.1.1, .int .i64 q37, v11, .slice none 0 0] :: Res.sl Ek.c128 39 v11 q9.1 :: ow)) (fun q e a w => e = .exit 0 ∧ ∃ (v49 : Value) (v51 : Value) (v53 : Value) (v55 : Value), Fr 220 a [(3, .int .i64 turn3), (9, optr v7 0), (10, .int .i64 q3.2), (14, optr v39 0), (16, v49), (17, v51), (18, v53), (19, v55)] ∧ Hp S w0 w (Res.sl Ek.c128 39 v49 q.1 :: Res.sl Ek.c128 39 v51 q.2.1 :: Res.sl Ek.c128 39 v53 q.2.2.1 :: Res.sl Ek.c128 39 v55 q.2.2.2 :: Res.obj 28 v7 [.int .i64 q3.1.1, .int .i64 q3.1.2.1, v5] :: Res.sl Ek.f64 33 v5 q3.1.2.2 :: Res.obj 38 v39 [.int .i64 q3.1.1, .int .i64 q37, v11, .slice none 0 0] :: Res.sl Ek.c128 39 v11 q9.1 :: ow)) ?_ hl ⟨_, _, _, _, hf.sub ⟨rfl, rfl, rfl, rfl, rfl, rfl, rfl, rfl, rfl, rfl, rfl, rfl, trivial⟩, hp⟩ ?_
  · clear hl hf hp
    intro s x a w h hI
    obtain ⟨xx16, yx17, zx18, qx19, i20⟩ := s
    obtain ⟨v41, v43, v45, v47, hf, hp⟩ : ∃ (v41 : Value) (v43 : Value) (v45 : Value) (v47 : Value), Fr 220 a [(1, vone1), (2, vother2), (3, .int .i64 turn3), (9, optr v7 0), (10, .int .i64 q3.2), (14, optr v39 0), (15, .int .i64 (IntKind.i64.wrap (((imin (imin (one1.length : Int) (other2.length : Int)) (400 : Int))).tdiv (2 : Int)))), (16, v41), (17, v43), (18, v45), (19, v47), (20, .int .i64 i20)] ∧ Hp S w0 w (Res.sl Ek.c128 39 v41 xx16 :: Res.sl Ek.c128 39 v43 yx17 :: Res.sl Ek.c128 39 v45 zx18 :: Res.sl Ek.c128 39 v47 qx19 :: Res.obj 28 v7 [.int .i64 q3.1.1, .int .i64 q3.1.2.1, v5] :: Res.sl Ek.f64 33 v5 q3.1.2.2 :: Res.obj 38 v39 [.int .i64 q3.1.1, .int .i64 q37, v11, .slice none 0 0] :: Res.sl Ek.c128 39 v11 q9.1 :: ow) := hI
    replace h : f_foghorntop_TopLinear.s1c one1 other2 turn3 xx16 yx17 zx18 qx19 i20 = some x := h
    unfold f_foghorntop_TopLinear.s1c at h
    refine wp_seq ?_
    refine wp_seq ?_
    refine wp_reg ?_
    refine st_move hf rfl rfl (by decide) ?_
    clear hf; intro a ha hf; clear ha
    refine st_move hf rfl rfl (by decide) ?_
    clear hf; intro a ha hf; clear ha
    refine st_ilss hf (by decide) rfl rfl rfl ?_
    clear hf; intro a ha hf; clear ha
    refine st_nil hf ?_
    refine th_n ?_
    refine wp_if hf rfl (fun hb => ?_) (fun hb => ?_)
    · replace h := ifT h hb
      refine wp_skip ?_
      refine th_n ?_
      refine wp_seq ?_
      refine wp_block ?_
      refine wp_seq ?_
      obtain ⟨hc57, h⟩ := chk h
      obtain ⟨q58, hcall59, h⟩ := bnd h
      obtain ⟨hc60, h⟩ := chk h
      obtain ⟨q61, hcall62, h⟩ := bnd h
      refine wp_cutN (fun a w => Fr 220 a [(1, vone1), (2, vother2), (3, .int .i64 turn3), (9, optr v7 0), (10, .int .i64 q3.2), (14, optr v39 0), (15, .int .i64 (IntKind.i64.wrap (((imin (imin (one1.length : Int) (other2.length : Int)) (400 : Int))).tdiv (2 : Int)))), (16, v41), (17, v43), (18, v45), (19, v47), (20, .int .i64 i20), (21, .complex .f64 (FloatKind.f64.nearest (IntKind.i64.wrap (q58 - (15 : Int)))) (FloatKind.f64.nearest (IntKind.i64.wrap (q61 - (15 : Int)))))] ∧ Hp S w0 w (Res.sl Ek.c128 39 v41 xx16 :: Res.sl Ek.c128 39 v43 yx17 :: Res.sl Ek.c128 39 v45 zx18 :: Res.sl Ek.c128 39 v47 qx19 :: Res.obj 28 v7 [.int .i64 q3.1.1, .int .i64 q3.1.2.1, v5] :: Res.sl Ek.f64 33 v5 q3.1.2.2 :: Res.obj 38 v39 [.int .i64 q3.1.1, .int .i64 q37, v11, .slice none 0 0] :: Res.sl Ek.c128 39 v11 q9.1 :: ow)) ?_ ?_
      · have hp := hp.same (Same.drew w)
        refine dr_begin' (fun a w => Fr 220 a [(1, vone1), (2, vother2), (3, .int .i64 turn3), (9, optr v7 0), (10, .int .i64 q3.2), (14, optr v39 0), (15, .int .i64 (IntKind.i64.wrap (((imin (imin (one1.length : Int) (other2.length : Int)) (400 : Int))).tdiv (2 : Int)))), (16, v41), (17, v43), (18, v45), (19, v47), (20, .int .i64 i20), (21, .complex .f64 (FloatKind.f64.nearest (IntKind.i64.wrap (q58 - (15 : Int)))) (FloatKind.f64.nearest (IntKind.i64.wrap (q61 - (15 : Int)))))] ∧ Hp S w0 w (Res.sl Ek.c128 39 v41 xx16 :: Res.sl Ek.c128 39 v43 yx17 :: Res.sl Ek.c128 39 v45 zx18 :: Res.sl Ek.c128 39 v47 qx19 :: Res.obj 28 v7 [.int .i64 q3.1.1, .int .i64 q3.1.2.1, v5] :: Res.sl Ek.f64 33 v5 q3.1.2.2 :: Res.obj 38 v39 [.int .i64 q3.1.1, .int .i64 q37, v11, .slice none 0 0] :: Res.sl Ek.c128 39 v11 q9.1 :: ow)) (fun w' => ∃ l, Hp S w0 w' l) [] (by kernel_rfl) ?_
        refine dr_take 0 (vone1) rfl (by kernel_rfl) (by kernel_rfl) (by kernel_rfl) (by kernel_rfl) rfl rfl hf (by decide) rfl (fun w hp => ?_) ⟨_, hp⟩ ?_
        · obtain ⟨_, hp⟩ := hp
          refine st_move hf rfl rfl (by decide) ?_
          clear hf; intro a ha hf
          exact st_nil hf (th_n ⟨ha, rfl⟩)
        clear hf; intro a hf
        refine dr_take 1 (.int .i64 i20) rfl (by kernel_rfl) (by kernel_rfl) (by kernel_rfl) (by kernel_rfl) rfl rfl hf (by decide) rfl (fun w hp => ?_) ⟨_, hp⟩ ?_
        · obtain ⟨_, hp⟩ := hp
          refine st_move hf rfl rfl (by decide) ?_
          clear hf; intro a ha hf
          exact st_nil hf (th_n ⟨ha, rfl⟩)
        clear hf; intro a hf
        refine dr_take 2 (.int .i64 (IntKind.i64.wrap ((2 : Int) * i20))) rfl (by kernel_rfl) (by kernel_rfl) (by kernel_rfl) (by kernel_rfl) rfl rfl hf (by decide) rfl (fun w hp => ?_) ⟨_, hp⟩ ?_
        · obtain ⟨_, hp⟩ := hp
          refine st_imul hf (by decide) rfl rfl rfl ?_
          clear hf; intro a ha hf
          exact st_nil hf (th_n ⟨ha, rfl⟩)
        clear hf; intro a hf
        refine dr_take 3 (eptr vone1 (IntKind.i64.wrap ((2 : Int) * i20)) 1) rfl (by kernel_rfl) (by kernel_rfl) (by kernel_rfl) (by kernel_rfl) rfl rfl hf (by decide) rfl (fun w hp => ?_) ⟨_, hp⟩ ?_
        · obtain ⟨_, hp⟩ := hp
          refine st_index (E := (Ek.int .i64)) hf (by decide) Try.underlying22 elt3 rfl rfl rfl (hone1.sl hp) hc57.1 hc57.2 ?_
          clear hf; intro a ha hf
          exact st_nil hf (th_n ⟨ha, rfl⟩)
        clear hf; intro a hf
        refine dr_take 4 (.int .i64 (gt one1 (IntKind.i64.wrap ((2 : Int) * i20)))) rfl (by kernel_rfl) (by kernel_rfl) (by kernel_rfl) (by kernel_rfl) rfl rfl hf (by decide) rfl (fun w hp => ?_) ⟨_, hp⟩ ?_
        · obtain ⟨_, hp⟩ := hp
          refine st_ldI hf (by decide) pl3 rfl rfl (hone1.sl hp) hc57.1 hc57.2 ?_
          clear hf; intro a ha hf
          exact st_nil hf (th_n ⟨ha, rfl⟩)
        clear hf; intro a hf
        refine dr_take 8 (vone1) rfl (by kernel_rfl) (by kernel_rfl) (by kernel_rfl) (by kernel_rfl) rfl rfl hf (by decide) rfl (fun w hp => ?_) ⟨_, hp⟩ ?_
        · obtain ⟨_, hp⟩ := hp
          refine st_move hf rfl rfl (by decide) ?_
          clear hf; intro a ha hf
          exact st_nil hf (th_n ⟨ha, rfl⟩)
        clear hf; intro a hf
        refine dr_take 9 (.int .i64 i20) rfl (by kernel_rfl) (by kernel_rfl) (by kernel_rfl) (by kernel_rfl) rfl rfl hf (by decide) rfl (fun w hp => ?_) ⟨_, hp⟩ ?_
        · obtain ⟨_, hp⟩ := hp
          refine st_move hf rfl rfl (by decide) ?_
          clear hf; intro a ha hf
          exact st_nil hf (th_n ⟨ha, rfl⟩)
        clear hf; intro a hf
        refine dr_take 10 (.int .i64 (IntKind.i64.wrap ((2 : Int) * i20))) rfl (by kernel_rfl) (by kernel_rfl) (by kernel_rfl) (by kernel_rfl) rfl rfl hf (by decide) rfl (fun w hp => ?_) ⟨_, hp⟩ ?_
        · obtain ⟨_, hp⟩ := hp
          refine st_imul hf (by decide) rfl rfl rfl ?_
          clear hf; intro a ha hf
          exact st_nil hf (th_n ⟨ha, rfl⟩)
        clear hf; intro a hf
        refine dr_take 11 (.int .i64 (IntKind.i64.wrap ((IntKind.i64.wrap ((2 : Int) * i20)) + (1 : Int)))) rfl (by kernel_rfl) (by kernel_rfl) (by kernel_rfl) (by kernel_rfl) rfl rfl hf (by decide) rfl (fun w hp => ?_) ⟨_, hp⟩ ?_
        · obtain ⟨_, hp⟩ := hp
          refine st_iadd hf (by decide) rfl rfl rfl ?_
          clear hf; intro a ha hf
          exact st_nil hf (th_n ⟨ha, rfl⟩)
        clear hf; intro a hf
        refine dr_take 12 (eptr vone1 (IntKind.i64.wrap ((IntKind.i64.wrap ((2 : Int) * i20)) + (1 : Int))) 1) rfl (by kernel_rfl) (by kernel_rfl) (by kernel_rfl) (by kernel_rfl) rfl rfl hf (by decide) rfl (fun w hp => ?_) ⟨_, hp⟩ ?_
        · obtain ⟨_, hp⟩ := hp
          refine st_index (E := (Ek.int .i64)) hf (by decide) Try.underlying22 elt3 rfl rfl rfl (hone1.sl hp) hc60.1 hc60.2 ?_
          clear hf; intro a ha hf
          exact st_nil hf (th_n ⟨ha, rfl⟩)
        clear hf; intro a hf
        refine dr_take 13 (.int .i64 (gt one1 (IntKind.i64.wrap ((IntKind.i64.wrap ((2 : Int) * i20)) + (1 : Int))))) rfl (by kernel_rfl) (by kernel_rfl) (by kernel_rfl) (by kernel_rfl) rfl rfl hf (by decide) rfl (fun w hp => ?_) ⟨_, hp⟩ ?_
        · obtain ⟨_, hp⟩ := hp
          refine st_ldI hf (by decide) pl3 rfl rfl (hone1.sl hp) hc60.1 hc60.2 ?_
          clear hf; intro a ha hf
          exact st_nil hf (th_n ⟨ha, rfl⟩)
        clear hf; intro a hf
        refine dr_one 5 rfl (by kernel_rfl) ?_
        refine st_call hf (by decide) Try.func6 rfl rfl rfl rfl rfl (f_foghorntop_mod_c hp _ _ hcall59) ?_
        rintro _ w ⟨rfl, hp0⟩
        clear hp; have hp := hp0; clear hp0
        replace hp : Hp _ _ _ (Res.sl Ek.c128 39 v41 xx16 :: Res.sl Ek.c128 39 v43 yx17 :: Res.sl Ek.c128 39 v45 zx18 :: Res.sl Ek.c128 39 v47 qx19 :: Res.obj 28 v7 [.int .i64 q3.1.1, .int .i64 q3.1.2.1, v5] :: Res.sl Ek.f64 33 v5 q3.1.2.2 :: Res.obj 38 v39 [.int .i64 q3.1.1, .int .i64 q37, v11, .slice none 0 0] :: Res.sl Ek.c128 39 v11 q9.1 :: ow) := hp
        refine ⟨_, rfl, ?_⟩
        clear hf; intro a hf
        refine st_nil hf (th_n ⟨fun _ _ => ⟨_, hp⟩, ?_⟩)
        refine dr_take 6 (.int .i64 (IntKind.i64.wrap (q58 - (15 : Int)))) rfl (by kernel_rfl) (by kernel_rfl) (by kernel_rfl) (by kernel_rfl) rfl rfl hf (by decide) rfl (fun w hp => ?_) ⟨_, hp⟩ ?_
        · obtain ⟨_, hp⟩ := hp
          refine st_isub hf (by decide) rfl rfl rfl ?_
          clear hf; intro a ha hf
          exact st_nil hf (th_n ⟨ha, rfl⟩)
        clear hf; intro a hf
        refine dr_take 7 (.float .f64 (FloatKind.f64.nearest (IntKind.i64.wrap (q58 - (15 : Int))))) rfl (by kernel_rfl) (by kernel_rfl) (by kernel_rfl) (by kernel_rfl) rfl rfl hf (by decide) rfl (fun w hp => ?_) ⟨_, hp⟩ ?_
        · obtain ⟨_, hp⟩ := hp
          refine st_conv_if Try.underlying3 Try.underlying33 hf (by decide) rfl rfl ?_
          clear hf; intro a ha hf
          exact st_nil hf (th_n ⟨ha, rfl⟩)
        clear hf; intro a hf
        refine dr_one 14 rfl (by kernel_rfl) ?_
        refine st_call hf (by decide) Try.func6 rfl rfl rfl rfl rfl (f_foghorntop_mod_c hp _ _ hcall62) ?_
        rintro _ w ⟨rfl, hp0⟩
        clear hp; have hp := hp0; clear hp0
        replace hp : Hp _ _ _ (Res.sl Ek.c128 39 v41 xx16 :: Res.sl Ek.c128 39 v43 yx17 :: Res.sl Ek.c128 39 v45 zx18 :: Res.sl Ek.c128 39 v47 qx19 :: Res.obj 28 v7 [.int .i64 q3.1.1, .int .i64 q3.1.2.1, v5] :: Res.sl Ek.f64 33 v5 q3.1.2.2 :: Res.obj 38 v39 [.int .i64 q3.1.1, .int .i64 q37, v11, .slice none 0 0] :: Res.sl Ek.c128 39 v11 q9.1 :: ow) := hp
        refine ⟨_, rfl, ?_⟩
        clear hf; intro a hf
        refine st_nil hf (th_n ⟨fun _ _ => ⟨_, hp⟩, ?_⟩)
        refine dr_take 15 (.int .i64 (IntKind.i64.wrap (q61 - (15 : Int)))) rfl (by kernel_rfl) (by kernel_rfl) (by kernel_rfl) (by kernel_rfl) rfl rfl hf (by decide) rfl (fun w hp => ?_) ⟨_, hp⟩ ?_
        · obtain ⟨_, hp⟩ := hp
          refine st_isub hf (by decide) rfl rfl rfl ?_
          clear hf; intro a ha hf
          exact st_nil hf (th_n ⟨ha, rfl⟩)
        clear hf; intro a hf
        refine dr_take 16 (.float .f64 (FloatKind.f64.nearest (IntKind.i64.wrap (q61 - (15 : Int))))) rfl (by kernel_rfl) (by kernel_rfl) (by kernel_rfl) (by kernel_rfl) rfl rfl hf (by decide) rfl (fun w hp => ?_) ⟨_, hp⟩ ?_
        · obtain ⟨_, hp⟩ := hp
          refine st_conv_if Try.underlying3 Try.underlying33 hf (by decide) rfl rfl ?_
          clear hf; intro a ha hf
          exact st_nil hf (th_n ⟨ha, rfl⟩)
        clear hf; intro a hf
        refine dr_take 17 (.complex .f64 (FloatKind.f64.nearest (IntKind.i64.wrap (q58 - (15 : Int)))) (FloatKind.f64.nearest (IntKind.i64.wrap (q61 - (15 : Int))))) rfl (by kernel_rfl) (by kernel_rfl) (by kernel_rfl) (by kernel_rfl) rfl rfl hf (by decide) rfl (fun w hp => ?_) ⟨_, hp⟩ ?_
        · obtain ⟨_, hp⟩ := hp
          refine st_complex hf (by decide) rfl rfl rfl ?_
          clear hf; intro a ha hf
          exact st_nil hf (th_n ⟨ha, rfl⟩)
        clear hf; intro a hf
        refine dr_take 18 (.complex .f64 (FloatKind.f64.nearest (IntKind.i64.wrap (q58 - (15 : Int)))) (FloatKind.f64.nearest (IntKind.i64.wrap (q61 - (15 : Int))))) rfl (by kernel_rfl) (by kernel_rfl) (by kernel_rfl) (by kernel_rfl) rfl rfl hf (by decide) rfl (fun w hp => ?_) ⟨_, hp⟩ ?_
        · obtain ⟨_, hp⟩ := hp
          refine st_assign hf rfl rfl (by decide) ?_
          clear hf; intro a ha hf
          exact st_nil hf (th_n ⟨ha, rfl⟩)
        clear hf; intro a hf
        refine dr_end (by kernel_rfl) ?_ _
        exact ⟨hf.sub ⟨rfl, rfl, rfl, rfl, rfl, rfl, rfl, rfl, rfl, rfl, rfl, rfl, rfl, trivial⟩, hp⟩
      rintro a w ⟨hf, hp⟩
      refine th_n ?_
      refine wp_seq ?_
      obtain ⟨hc63, h⟩ := chk h
      obtain ⟨q64, hcall65, h⟩ := bnd h
      obtain ⟨hc66, h⟩ := chk h
      obtain ⟨q67, hcall68, h⟩ := bnd h
      refine wp_cutN (fun a w => Fr 220 a [(1, vone1), (2, vother2), (3, .int .i64 turn3), (9, optr v7 0), (10, .int .i64 q3.2), (14, optr v39 0), (15, .int .i64 (IntKind.i64.wrap (((imin (imin (one1.length : Int) (other2.length : Int)) (400 : Int))).tdiv (2 : Int)))), (16, v41), (17, v43), (18, v45), (19, v47), (20, .int .i64 i20), (21, .complex .f64 (FloatKind.f64.nearest (IntKind.i64.wrap (q58 - (15 : Int)))) (FloatKind.f64.nearest (IntKind.i64.wrap (q61 - (15 : Int))))), (22, .complex .f64 (FloatKind.f64.nearest (IntKind.i64.wrap (q64 - (15 : Int)))) (FloatKind.f64.nearest (IntKind.i64.wrap (q67 - (15 : Int)))))] ∧ Hp S w0 w (Res.sl Ek.c128 39 v41 xx16 :: Res.sl Ek.c128 39 v43 yx17 :: Res.sl Ek.c128 39 v45 zx18 :: Res.sl Ek.c128 39 v47 qx19 :: Res.obj 28 v7 [.int .i64 q3.1.1, .int .i64 q3.1.2.1, v5] :: Res.sl Ek.f64 33 v5 q3.1.2.2 :: Res.obj 38 v39 [.int .i64 q3.1.1, .int .i64 q37, v11, .slice none 0 0] :: Res.sl Ek.c128 39 v11 q9.1 :: ow)) ?_ ?_
      · have hp := hp.same (Same.drew w)
        refine dr_begin' (fun a w => Fr 220 a [(1, vone1), (2, vother2), (3, .int .i64 turn3), (9, optr v7 0), (10, .int .i64 q3.2), (14, optr v39 0), (15, .int .i64 (IntKind.i64.wrap (((imin (imin (one1.length : Int) (other2.length : Int)) (400 : Int))).tdiv (2 : Int)))), (16, v41), (17, v43), (18, v45), (19, v47), (20, .int .i64 i20), (21, .complex .f64 (FloatKind.f64.nearest (IntKind.i64.wrap (q58 - (15 : Int)))) (FloatKind.f64.nearest (IntKind.i64.wrap (q61 - (15 : Int))))), (22, .complex .f64 (FloatKind.f64.nearest (IntKind.i64.wrap (q64 - (15 : Int)))) (FloatKind.f64.nearest (IntKind.i64.wrap (q67 - (15 : Int)))))] ∧ Hp S w0 w (Res.sl Ek.c128 39 v41 xx16 :: Res.sl Ek.c128 39 v43 yx17 :: Res.sl Ek.c128 39 v45 zx18 :: Res.sl Ek.c128 39 v47 qx19 :: Res.obj 28 v7 [.int .i64 q3.1.1, .int .i64 q3.1.2.1, v5] :: Res.sl Ek.f64 33 v5 q3.1.2.2 :: Res.obj 38 v39 [.int .i64 q3.1.1, .int .i64 q37, v11, .slice none 0 0] :: Res.sl Ek.c128 39 v11 q9.1 :: ow)) (fun w' => ∃ l, Hp S w0 w' l) [] (by kernel_rfl) ?_
        refine dr_take 0 (vother2) rfl (by kernel_rfl) (by kernel_rfl) (by kernel_rfl) (by kernel_rfl) rfl rfl hf (by decide) rfl (fun w hp => ?_) ⟨_, hp⟩ ?_
        · obtain ⟨_, hp⟩ := hp
          refine st_move hf rfl rfl (by decide) ?_
          clear hf; intro a ha hf
          exact st_nil hf (th_n ⟨ha, rfl⟩)
        clear hf; intro a hf
        refine dr_take 1 (.int .i64 i20) rfl (by kernel_rfl) (by kernel_rfl) (by kernel_rfl) (by kernel_rfl) rfl rfl hf (by decide) rfl (fun w hp => ?_) ⟨_, hp⟩ ?_
        · obtain ⟨_, hp⟩ := hp
          refine st_move hf rfl rfl (by decide) ?_
          clear hf; intro a ha hf
          exact st_nil hf (th_n ⟨ha, rfl⟩)
        clear hf; intro a hf
        refine dr_take 2 (.int .i64 (IntKind.i64.wrap ((2 : Int) * i20))) rfl (by kernel_rfl) (by kernel_rfl) (by kernel_rfl) (by kernel_rfl) rfl rfl hf (by decide) rfl (fun w hp => ?_) ⟨_, hp⟩ ?_
        · obtain ⟨_, hp⟩ := hp
          refine st_imul hf (by decide) rfl rfl rfl ?_
          clear hf; intro a ha hf
          exact st_nil hf (th_n ⟨ha, rfl⟩)
        clear hf; intro a hf
        refine dr_take 3 (eptr vother2 (IntKind.i64.wrap ((2 : Int) * i20)) 1) rfl (by kernel_rfl) (by kernel_rfl) (by kernel_rfl) (by kernel_rfl) rfl rfl hf (by decide) rfl (fun w hp => ?_) ⟨_, hp⟩ ?_
        · obtain ⟨_, hp⟩ := hp
          refine st_index (E := (Ek.int .i64)) hf (by decide) Try.underlying22 elt3 rfl rfl rfl (hother2.sl hp) hc63.1 hc63.2 ?_
          clear hf; intro a ha hf
          exact st_nil hf (th_n ⟨ha, rfl⟩)
        clear hf; intro a hf
        refine dr_take 4 (.int .i64 (gt other2 (IntKind.i64.wrap ((2 : Int) * i20)))) rfl (by kernel_rfl) (by kernel_rfl) (by kernel_rfl) (by kernel_rfl) rfl rfl hf (by decide) rfl (fun w hp => ?_) ⟨_, hp⟩ ?_
        · obtain ⟨_, hp⟩ := hp
          refine st_ldI hf (by decide) pl3 rfl rfl (hother2.sl hp) hc63.1 hc63.2 ?_
          clear hf; intro a ha hf
          exact st_nil hf (th_n ⟨ha, rfl⟩)
        clear hf; intro a hf
        refine dr_take 8 (vother2) rfl (by kernel_rfl) (by kernel_rfl) (by kernel_rfl) (by kernel_rfl) rfl rfl hf (by decide) rfl (fun w hp => ?_) ⟨_, hp⟩ ?_
        · obtain ⟨_, hp⟩ := hp
          refine st_move hf rfl rfl (by decide) ?_
          clear hf; intro a ha hf
          exact st_nil hf (th_n ⟨ha, rfl⟩)
        clear hf; intro a hf
        refine dr_take 9 (.int .i64 i20) rfl (by kernel_rfl) (by kernel_rfl) (by kernel_rfl) (by kernel_rfl) rfl rfl hf (by decide) rfl (fun w hp => ?_) ⟨_, hp⟩ ?_
        · obtain ⟨_, hp⟩ := hp
          refine st_move hf rfl rfl (by decide) ?_
          clear hf; intro a ha hf
          exact st_nil hf (th_n ⟨ha, rfl⟩)
        clear hf; intro a hf
        refine dr_take 10 (.int .i64 (IntKind.i64.wrap ((2 : Int) * i20))) rfl (by kernel_rfl) (by kernel_rfl) (by kernel_rfl) (by kernel_rfl) rfl rfl hf (by decide) rfl (fun w hp => ?_) ⟨_, hp⟩ ?_
        · obtain ⟨_, hp⟩ := hp
          refine st_imul hf (by decide) rfl rfl rfl ?_
          clear hf; intro a ha hf
          exact st_nil hf (th_n ⟨ha, rfl⟩)
        clear hf; intro a hf
        refine dr_take 11 (.int .i64 (IntKind.i64.wrap ((IntKind.i64.wrap ((2 : Int) * i20)) + (1 : Int)))) rfl (by kernel_rfl) (by kernel_rfl) (by kernel_rfl) (by kernel_rfl) rfl rfl hf (by decide) rfl (fun w hp => ?_) ⟨_, hp⟩ ?_
        · obtain ⟨_, hp⟩ := hp
          refine st_iadd hf (by decide) rfl rfl rfl ?_
          clear hf; intro a ha hf
          exact st_nil hf (th_n ⟨ha, rfl⟩)
        clear hf; intro a hf
        refine dr_take 12 (eptr vother2 (IntKind.i64.wrap ((IntKind.i64.wrap ((2 : Int) * i20)) + (1 : Int))) 1) rfl (by kernel_rfl) (by kernel_rfl) (by kernel_rfl) (by kernel_rfl) rfl rfl hf (by decide) rfl (fun w hp => ?_) ⟨_, hp⟩ ?_
        · obtain ⟨_, hp⟩ := hp
          refine st_index (E := (Ek.int .i64)) hf (by decide) Try.underlying22 elt3 rfl rfl rfl (hother2.sl hp) hc66.1 hc66.2 ?_
          clear hf; intro a ha hf
          exact st_nil hf (th_n ⟨ha, rfl⟩)
        clear hf; intro a hf
        refine dr_take 13 (.int .i64 (gt other2 (IntKind.i64.wrap ((IntKind.i64.wrap ((2 : Int) * i20)) + (1 : Int))))) rfl (by kernel_rfl) (by kernel_rfl) (by kernel_rfl) (by kernel_rfl) rfl rfl hf (by decide) rfl (fun w hp => ?_) ⟨_, hp⟩ ?_
        · obtain ⟨_, hp⟩ := hp
          refine st_ldI hf (by decide) pl3 rfl rfl (hother2.sl hp) hc66.1 hc66.2 ?_
          clear hf; intro a ha hf
          exact st_nil hf (th_n ⟨ha, rfl⟩)
        clear hf; intro a hf
        refine dr_one 5 rfl (by kernel_rfl) ?_
        refine st_call hf (by decide) Try.func6 rfl rfl rfl rfl rfl (f_foghorntop_mod_c hp _ _ hcall65) ?_
        rintro _ w ⟨rfl, hp0⟩
        clear hp; have hp := hp0; clear hp0
        replace hp : Hp _ _ _ (Res.sl Ek.c128 39 v41 xx16 :: Res.sl Ek.c128 39 v43 yx17 :: Res.sl Ek.c128 39 v45 zx18 :: Res.sl Ek.c128 39 v47 qx19 :: Res.obj 28 v7 [.int .i64 q3.1.1, .int .i64 q3.1.2.1, v5] :: Res.sl Ek.f64 33 v5 q3.1.2.2 :: Res.obj 38 v39 [.int .i64 q3.1.1, .int .i64 q37, v11, .slice none 0 0] :: Res.sl Ek.c128 39 v11 q9.1 :: ow) := hp
        refine ⟨_, rfl, ?_⟩
        clear hf; intro a hf
        refine st_nil hf (th_n ⟨fun _ _ => ⟨_, hp⟩, ?_⟩)
        refine dr_take 6 (.int .i64 (IntKind.i64.wrap (q64 - (15 : Int)))) rfl (by kernel_rfl) (by kernel_rfl) (by kernel_rfl) (by kernel_rfl) rfl rfl hf (by decide) rfl (fun w hp => ?_) ⟨_, hp⟩ ?_
        · obtain ⟨_, hp⟩ := hp
          refine st_isub hf (by decide) rfl rfl rfl ?_
          clear hf; intro a ha hf
          exact st_nil hf (th_n ⟨ha, rfl⟩)
        clear hf; intro a hf
        refine dr_take 7 (.float .f64 (FloatKind.f64.nearest (IntKind.i64.wrap (q64 - (15 : Int))))) rfl (by kernel_rfl) (by kernel_rfl) (by kernel_rfl) (by kernel_rfl) rfl rfl hf (by decide) rfl (fun w hp => ?_) ⟨_, hp⟩ ?_
        · obtain ⟨_, hp⟩ := hp
          refine st_conv_if Try.underlying3 Try.underlying33 hf (by decide) rfl rfl ?_
          clear hf; intro a ha hf
          exact st_nil hf (th_n ⟨ha, rfl⟩)
        clear hf; intro a hf
        refine dr_one 14 rfl (by kernel_rfl) ?_
        refine st_call hf (by decide) Try.func6 rfl rfl rfl rfl rfl (f_foghorntop_mod_c hp _ _ hcall68) ?_
        rintro _ w ⟨rfl, hp0⟩
        clear hp; have hp := hp0; clear hp0
        replace hp : Hp _ _ _ (Res.sl Ek.c128 39 v41 xx16 :: Res.sl Ek.c128 39 v43 yx17 :: Res.sl Ek.c128 39 v45 zx18 :: Res.sl Ek.c128 39 v47 qx19 :: Res.obj 28 v7 [.int .i64 q3.1.1, .int .i64 q3.1.2.1, v5] :: Res.sl Ek.f64 33 v5 q3.1.2.2 :: Res.obj 38 v39 [.int .i64 q3.1.1, .int .i64 q37, v11, .slice none 0 0] :: Res.sl Ek.c128 39 v11 q9.1 :: ow) := hp
        refine ⟨_, rfl, ?_⟩
        clear hf; intro a hf
        refine st_nil hf (th_n ⟨fun _ _ => ⟨_, hp⟩, ?_⟩)
        refine dr_take 15 (.int .i64 (IntKind.i64.wrap (q67 - (15 : Int)))) rfl (by kernel_rfl) (by kernel_rfl) (by kernel_rfl) (by kernel_rfl) rfl rfl hf (by decide) rfl (fun w hp => ?_) ⟨_, hp⟩ ?_
        · obtain ⟨_, hp⟩ := hp
          refine st_isub hf (by decide) rfl rfl rfl ?_
          clear hf; intro a ha hf
          exact st_nil hf (th_n ⟨ha, rfl⟩)
        clear hf; intro a hf
        refine dr_take 16 (.float .f64 (FloatKind.f64.nearest (IntKind.i64.wrap (q67 - (15 : Int))))) rfl (by kernel_rfl) (by kernel_rfl) (by kernel_rfl) (by kernel_rfl) rfl rfl hf (by decide) rfl (fun w hp => ?_) ⟨_, hp⟩ ?_
        · obtain ⟨_, hp⟩ := hp
          refine st_conv_if Try.underlying3 Try.underlying33 hf (by decide) rfl rfl ?_
          clear hf; intro a ha hf
          exact st_nil hf (th_n ⟨ha, rfl⟩)
        clear hf; intro a hf
        refine dr_take 17 (.complex .f64 (FloatKind.f64.nearest (IntKind.i64.wrap (q64 - (15 : Int)))) (FloatKind.f64.nearest (IntKind.i64.wrap (q67 - (15 : Int))))) rfl (by kernel_rfl) (by kernel_rfl) (by kernel_rfl) (by kernel_rfl) rfl rfl hf (by decide) rfl (fun w hp => ?_) ⟨_, hp⟩ ?_
        · obtain ⟨_, hp⟩ := hp
          refine st_complex hf (by decide) rfl rfl rfl ?_
          clear hf; intro a ha hf
          exact st_nil hf (th_n ⟨ha, rfl⟩)
        clear hf; intro a hf
        refine dr_take 18 (.complex .f64 (FloatKind.f64.nearest (IntKind.i64.wrap (q64 - (15 : Int)))) (FloatKind.f64.nearest (IntKind.i64.wrap (q67 - (15 : Int))))) rfl (by kernel_rfl) (by kernel_rfl) (by kernel_rfl) (by kernel_rfl) rfl rfl hf (by decide) rfl (fun w hp => ?_) ⟨_, hp⟩ ?_
        · obtain ⟨_, hp⟩ := hp
          refine st_assign hf rfl rfl (by decide) ?_
          clear hf; intro a ha hf
          exact st_nil hf (th_n ⟨ha, rfl⟩)
        clear hf; intro a hf
        refine dr_end (by kernel_rfl) ?_ _
        exact ⟨hf.sub ⟨rfl, rfl, rfl, rfl, rfl, rfl, rfl, rfl, rfl, rfl, rfl, rfl, rfl, rfl, trivial⟩, hp⟩
      rintro a w ⟨hf, hp⟩
      refine th_n ?_
      refine wp_reg ?_
      refine st_move hf rfl rfl (by decide) ?_
      clear hf; intro a ha hf; clear ha
      refine st_move hf rfl rfl (by decide) ?_
      clear hf; intro a ha hf; clear ha
      refine st_build (E := Ek.c128) (xs := [((fofi (IntKind.i64.wrap (q58 - (15 : Int)))), (fofi (IntKind.i64.wrap (q61 - (15 : Int)))))]) hf (by decide) elt39 Try.underlying32 hp (vals := #[(0, .complex .f64 (FloatKind.f64.nearest (IntKind.i64.wrap (q58 - (15 : Int)))) (FloatKind.f64.nearest (IntKind.i64.wrap (q61 - (15 : Int)))))]) (cells := #[.complex .f64 (FloatKind.f64.nearest (IntKind.i64.wrap (q58 - (15 : Int)))) (FloatKind.f64.nearest (IntKind.i64.wrap (q61 - (15 : Int))))]) rfl (by simp [hf.ev (x := (Operand.tmp 99)) rfl]) (Nat.le_of_ble_eq_true rfl) (Nat.le_of_ble_eq_true rfl) (z := .complex .f64 0 0) (by kernel_rfl) (by kernel_rfl) rfl (reps_cons (cs := [.complex .f64 (FloatKind.f64.nearest (IntKind.i64.wrap (q58 - (15 : Int)))) (FloatKind.f64.nearest (IntKind.i64.wrap (q61 - (15 : Int))))]) (show Ek.c128.rep [.complex .f64 (FloatKind.f64.nearest (IntKind.i64.wrap (q58 - (15 : Int)))) (FloatKind.f64.nearest (IntKind.i64.wrap (q61 - (15 : Int))))] ((fofi (IntKind.i64.wrap (q58 - (15 : Int)))), (fofi (IntKind.i64.wrap (q61 - (15 : Int))))) from ⟨_, _, rfl, rfl, rfl⟩) (reps_nil _)) ?_
      clear hf; intro a w v69 hf hp0; clear hp; have hp := hp0; clear hp0
      replace hp : Hp _ _ _ (Res.sl Ek.c128 39 v69 ([((fofi (IntKind.i64.wrap (q58 - (15 : Int)))), (fofi (IntKind.i64.wrap (q61 - (15 : Int)))))]) :: Res.sl Ek.c128 39 v41 xx16 :: Res.sl Ek.c128 39 v43 yx17 :: Res.sl Ek.c128 39 v45 zx18 :: Res.sl Ek.c128 39 v47 qx19 :: Res.obj 28 v7 [.int .i64 q3.1.1, .int .i64 q3.1.2.1, v5] :: Res.sl Ek.f64 33 v5 q3.1.2.2 :: Res.obj 38 v39 [.int .i64 q3.1.1, .int .i64 q37, v11, .slice none 0 0] :: Res.sl Ek.c128 39 v11 q9.1 :: ow) := hp
      obtain ⟨hc71, h⟩ := chk h
      refine st_append (E := Ek.c128) hf (by decide) elt39 Try.underlying32 (by decide) hp (i := 1) rfl rfl rfl rfl (hp.sl (i := 0) rfl) hc71 ?_
      clear hf; intro a w v72 hf hp0; clear hp; have hp := hp0; clear hp0
      replace hp : Hp _ _ _ (Res.sl Ek.c128 39 v69 ([((fofi (IntKind.i64.wrap (q58 - (15 : Int)))), (fofi (IntKind.i64.wrap (q61 - (15 : Int)))))]) :: Res.sl Ek.c128 39 v72 (xx16 ++ [((fofi (IntKind.i64.wrap (q58 - (15 : Int)))), (fofi (IntKind.i64.wrap (q61 - (15 : Int)))))]) :: Res.sl Ek.c128 39 v43 yx17 :: Res.sl Ek.c128 39 v45 zx18 :: Res.sl Ek.c128 39 v47 qx19 :: Res.obj 28 v7 [.int .i64 q3.1.1, .int .i64 q3.1.2.1, v5] :: Res.sl Ek.f64 33 v5 q3.1.2.2 :: Res.obj 38 v39 [.int .i64 q3.1.1, .int .i64 q37, v11, .slice none 0 0] :: Res.sl Ek.c128 39 v11 q9.1 :: ow) := hp
      refine st_move hf rfl rfl (by decide) ?_
      clear hf; intro a ha hf; clear ha
      refine st_move hf rfl rfl (by decide) ?_
      clear hf; intro a ha hf; clear ha
      refine st_build (E := Ek.c128) (xs := [((fofi (IntKind.i64.wrap (q64 - (15 : Int)))), (fofi (IntKind.i64.wrap (q67 - (15 : Int)))))]) hf (by decide) elt39 Try.underlying32 hp (vals := #[(0, .complex .f64 (FloatKind.f64.nearest (IntKind.i64.wrap (q64 - (15 : Int)))) (FloatKind.f64.nearest (IntKind.i64.wrap (q67 - (15 : Int)))))]) (cells := #[.complex .f64 (FloatKind.f64.nearest (IntKind.i64.wrap (q64 - (15 : Int)))) (FloatKind.f64.nearest (IntKind.i64.wrap (q67 - (15 : Int))))]) rfl (by simp [hf.ev (x := (Operand.tmp 103)) rfl]) (Nat.le_of_ble_eq_true rfl) (Nat.le_of_ble_eq_true rfl) (z := .complex .f64 0 0) (by kernel_rfl) (by kernel_rfl) rfl (reps_cons (cs := [.complex .f64 (FloatKind.f64.nearest (IntKind.i64.wrap (q64 - (15 : Int)))) (FloatKind.f64.nearest (IntKind.i64.wrap (q67 - (15 : Int))))]) (show Ek.c128.rep [.complex .f64 (FloatKind.f64.nearest (IntKind.i64.wrap (q64 - (15 : Int)))) (FloatKind.f64.nearest (IntKind.i64.wrap (q67 - (15 : Int))))] ((fofi (IntKind.i64.wrap (q64 - (15 : Int)))), (fofi (IntKind.i64.wrap (q67 - (15 : Int))))) from ⟨_, _, rfl, rfl, rfl⟩) (reps_nil _)) ?_
      clear hf; intro a w v73 hf hp0; clear hp; have hp := hp0; clear hp0
      replace hp : Hp _ _ _ (Res.sl Ek.c128 39 v73 ([((fofi (IntKind.i64.wrap (q64 - (15 : Int)))), (fofi (IntKind.i64.wrap (q67 - (15 : Int)))))]) :: Res.sl Ek.c128 39 v69 ([((fofi (IntKind.i64.wrap (q58 - (15 : Int)))), (fofi (IntKind.i64.wrap (q61 - (15 : Int)))))]) :: Res.sl Ek.c128 39 v72 (xx16 ++ [((fofi (IntKind.i64.wrap (q58 - (15 : Int)))), (fofi (IntKind.i64.wrap (q61 - (15 : Int)))))]) :: Res.sl Ek.c128 39 v43 yx17 :: Res.sl Ek.c128 39 v45 zx18 :: Res.sl Ek.c128 39 v47 qx19 :: Res.obj 28 v7 [.int .i64 q3.1.1, .int .i64 q3.1.2.1, v5] :: Res.sl Ek.f64 33 v5 q3.1.2.2 :: Res.obj 38 v39 [.int .i64 q3.1.1, .int .i64 q37, v11, .slice none 0 0] :: Res.sl Ek.c128 39 v11 q9.1 :: ow) := hp
      obtain ⟨hc75, h⟩ := chk h
      refine st_append (E := Ek.c128) hf (by decide) elt39 Try.underlying32 (by decide) hp (i := 3) rfl rfl rfl rfl (hp.sl (i := 0) rfl) hc75 ?_
      clear hf; intro a w v76 hf hp0; clear hp; have hp := hp0; clear hp0
      replace hp : Hp _ _ _ (Res.sl Ek.c128 39 v73 ([((fofi (IntKind.i64.wrap (q64 - (15 : Int)))), (fofi (IntKind.i64.wrap (q67 - (15 : Int)))))]) :: Res.sl Ek.c128 39 v69 ([((fofi (IntKind.i64.wrap (q58 - (15 : Int)))), (fofi (IntKind.i64.wrap (q61 - (15 : Int)))))]) :: Res.sl Ek.c128 39 v72 (xx16 ++ [((fofi (IntKind.i64.wrap (q58 - (15 : Int)))), (fofi (IntKind.i64.wrap (q61 - (15 : Int)))))]) :: Res.sl Ek.c128 39 v76 (yx17 ++ [((fofi (IntKind.i64.wrap (q64 - (15 : Int)))), (fofi (IntKind.i64.wrap (q67 - (15 : Int)))))]) :: Res.sl Ek.c128 39 v45 zx18 :: Res.sl Ek.c128 39 v47 qx19 :: Res.obj 28 v7 [.int .i64 q3.1.1, .int .i64 q3.1.2.1, v5] :: Res.sl Ek.f64 33 v5 q3.1.2.2 :: Res.obj 38 v39 [.int .i64 q3.1.1, .int .i64 q37, v11, .slice none 0 0] :: Res.sl Ek.c128 39 v11 q9.1 :: ow) := hp
      refine st_move hf rfl rfl (by decide) ?_
      clear hf; intro a ha hf; clear ha
      refine st_move hf rfl rfl (by decide) ?_
      clear hf; intro a ha hf; clear ha
      refine st_move hf rfl rfl (by decide) ?_
      clear hf; intro a ha hf; clear ha
      refine st_carith (op := .add) (zx := ((fofi (IntKind.i64.wrap (q58 - (15 : Int)))), (fofi (IntKind.i64.wrap (q61 - (15 : Int)))))) (zy := ((fofi (IntKind.i64.wrap (q64 - (15 : Int)))), (fofi (IntKind.i64.wrap (q67 - (15 : Int)))))) rfl hf (by decide) hp rfl rfl rfl rfl rfl rfl rfl ?_
      clear hf; intro a w bb77 bb78 y79 y80 hf hp0; clear hp; have hp := hp0; clear hp0
      replace hp : Hp _ _ _ (Res.sl Ek.c128 39 v73 ([((fofi (IntKind.i64.wrap (q64 - (15 : Int)))), (fofi (IntKind.i64.wrap (q67 - (15 : Int)))))]) :: Res.sl Ek.c128 39 v69 ([((fofi (IntKind.i64.wrap (q58 - (15 : Int)))), (fofi (IntKind.i64.wrap (q61 - (15 : Int)))))]) :: Res.sl Ek.c128 39 v72 (xx16 ++ [((fofi (IntKind.i64.wrap (q58 - (15 : Int)))), (fofi (IntKind.i64.wrap (q61 - (15 : Int)))))]) :: Res.sl Ek.c128 39 v76 (yx17 ++ [((fofi (IntKind.i64.wrap (q64 - (15 : Int)))), (fofi (IntKind.i64.wrap (q67 - (15 : Int)))))]) :: Res.sl Ek.c128 39 v45 zx18 :: Res.sl Ek.c128 39 v47 qx19 :: Res.obj 28 v7 [.int .i64 q3.1.1, .int .i64 q3.1.2.1, v5] :: Res.sl Ek.f64 33 v5 q3.1.2.2 :: Res.obj 38 v39 [.int .i64 q3.1.1, .int .i64 q37, v11, .slice none 0 0] :: Res.sl Ek.c128 39 v11 q9.1 :: ow) := hp
      refine st_build (E := Ek.c128) (xs := [(cadd ((fofi (IntKind.i64.wrap (q58 - (15 : Int)))), (fofi (IntKind.i64.wrap (q61 - (15 : Int))))) ((fofi (IntKind.i64.wrap (q64 - (15 : Int)))), (fofi (IntKind.i64.wrap (q67 - (15 : Int))))))]) hf (by decide) elt39 Try.underlying32 hp (vals := #[(0, .complex .f64 bb77 bb78)]) (cells := #[.complex .f64 bb77 bb78]) rfl (by simp [hf.ev (x := (Operand.tmp 109)) rfl]) (Nat.le_of_ble_eq_true rfl) (Nat.le_of_ble_eq_true rfl) (z := .complex .f64 0 0) (by kernel_rfl) (by kernel_rfl) rfl (reps_cons (cs := [.complex .f64 bb77 bb78]) (show Ek.c128.rep [.complex .f64 bb77 bb78] (cadd ((fofi (IntKind.i64.wrap (q58 - (15 : Int)))), (fofi (IntKind.i64.wrap (q61 - (15 : Int))))) ((fofi (IntKind.i64.wrap (q64 - (15 : Int)))), (fofi (IntKind.i64.wrap (q67 - (15 : Int)))))) from ⟨_, _, rfl, y79, y80⟩) (reps_nil _)) ?_
      clear hf; intro a w v81 hf hp0; clear hp; have hp := hp0; clear hp0
      replace hp : Hp _ _ _ (Res.sl Ek.c128 39 v81 ([(cadd ((fofi (IntKind.i64.wrap (q58 - (15 : Int)))), (fofi (IntKind.i64.wrap (q61 - (15 : Int))))) ((fofi (IntKind.i64.wrap (q64 - (15 : Int)))), (fofi (IntKind.i64.wrap (q67 - (15 : Int))))))]) :: Res.sl Ek.c128 39 v73 ([((fofi (IntKind.i64.wrap (q64 - (15 : Int)))), (fofi (IntKind.i64.wrap (q67 - (15 : Int)))))]) :: Res.sl Ek.c128 39 v69 ([((fofi (IntKind.i64.wrap (q58 - (15 : Int)))), (fofi (IntKind.i64.wrap (q61 - (15 : Int)))))]) :: Res.sl Ek.c128 39 v72 (xx16 ++ [((fofi (IntKind.i64.wrap (q58 - (15 : Int)))), (fofi (IntKind.i64.wrap (q61 - (15 : Int)))))]) :: Res.sl Ek.c128 39 v76 (yx17 ++ [((fofi (IntKind.i64.wrap (q64 - (15 : Int)))), (fofi (IntKind.i64.wrap (q67 - (15 : Int)))))]) :: Res.sl Ek.c128 39 v45 zx18 :: Res.sl Ek.c128 39 v47 qx19 :: Res.obj 28 v7 [.int .i64 q3.1.1, .int .i64 q3.1.2.1, v5] :: Res.sl Ek.f64 33 v5 q3.1.2.2 :: Res.obj 38 v39 [.int .i64 q3.1.1, .int .i64 q37, v11, .slice none 0 0] :: Res.sl Ek.c128 39 v11 q9.1 :: ow) := hp
      obtain ⟨hc83, h⟩ := chk h
      refine st_append (E := Ek.c128) hf (by decide) elt39 Try.underlying32 (by decide) hp (i := 5) rfl rfl rfl rfl (hp.sl (i := 0) rfl) hc83 ?_
      clear hf; intro a w v84 hf hp0; clear hp; have hp := hp0; clear hp0
      replace hp : Hp _ _ _ (Res.sl Ek.c128 39 v81 ([(cadd ((fofi (IntKind.i64.wrap (q58 - (15 : Int)))), (fofi (IntKind.i64.wrap (q61 - (15 : Int))))) ((fofi (IntKind.i64.wrap (q64 - (15 : Int)))), (fofi (IntKind.i64.wrap (q67 - (15 : Int))))))]) :: Res.sl Ek.c128 39 v73 ([((fofi (IntKind.i64.wrap (q64 - (15 : Int)))), (fofi (IntKind.i64.wrap (q67 - (15 : Int)))))]) :: Res.sl Ek.c128 39 v69 ([((fofi (IntKind.i64.wrap (q58 - (15 : Int)))), (fofi (IntKind.i64.wrap (q61 - (15 : Int)))))]) :: Res.sl Ek.c128 39 v72 (xx16 ++ [((fofi (IntKind.i64.wrap (q58 - (15 : Int)))), (fofi (IntKind.i64.wrap (q61 - (15 : Int)))))]) :: Res.sl Ek.c128 39 v76 (yx17 ++ [((fofi (IntKind.i64.wrap (q64 - (15 : Int)))), (fofi (IntKind.i64.wrap (q67 - (15 : Int)))))]) :: Res.sl Ek.c128 39 v84 (zx18 ++ [(cadd ((fofi (IntKind.i64.wrap (q58 - (15 : Int)))), (fofi (IntKind.i64.wrap (q61 - (15 : Int))))) ((fofi (IntKind.i64.wrap (q64 - (15 : Int)))), (fofi (IntKind.i64.wrap (q67 - (15 : Int))))))]) :: Res.sl Ek.c128 39 v47 qx19 :: Res.obj 28 v7 [.int .i64 q3.1.1, .int .i64 q3.1.2.1, v5] :: Res.sl Ek.f64 33 v5 q3.1.2.2 :: Res.obj 38 v39 [.int .i64 q3.1.1, .int .i64 q37, v11, .slice none 0 0] :: Res.sl Ek.c128 39 v11 q9.1 :: ow) := hp
      refine st_move hf rfl rfl (by decide) ?_
      clear hf; intro a ha hf; clear ha
      refine st_move hf rfl rfl (by decide) ?_
      clear hf; intro a ha hf; clear ha
      refine st_move hf rfl rfl (by decide) ?_
      clear hf; intro a ha hf; clear ha
      obtain ⟨q85, hcall86, h⟩ := bnd h
      refine st_call hf (by decide) Try.func7 rfl rfl rfl rfl rfl (f_foghorntop_quarter_c hp _ _ _ (show Fl.rep (FloatKind.f64.nearest (IntKind.i64.wrap (q58 - (15 : Int)))) (((fofi (IntKind.i64.wrap (q58 - (15 : Int)))), (fofi (IntKind.i64.wrap (q61 - (15 : Int)))))).1 from rfl) (show Fl.rep (FloatKind.f64.nearest (IntKind.i64.wrap (q61 - (15 : Int)))) (((fofi (IntKind.i64.wrap (q58 - (15 : Int)))), (fofi (IntKind.i64.wrap (q61 - (15 : Int)))))).2 from rfl) _ hcall86) ?_
      rintro _ w ⟨v87, v88, rfl, y89, y90, hp0⟩
      clear hp; have hp := hp0; clear hp0
      replace hp : Hp _ _ _ (Res.sl Ek.c128 39 v81 ([(cadd ((fofi (IntKind.i64.wrap (q58 - (15 : Int)))), (fofi (IntKind.i64.wrap (q61 - (15 : Int))))) ((fofi (IntKind.i64.wrap (q64 - (15 : Int)))), (fofi (IntKind.i64.wrap (q67 - (15 : Int))))))]) :: Res.sl Ek.c128 39 v73 ([((fofi (IntKind.i64.wrap (q64 - (15 : Int)))), (fofi (IntKind.i64.wrap (q67 - (15 : Int)))))]) :: Res.sl Ek.c128 39 v69 ([((fofi (IntKind.i64.wrap (q58 - (15 : Int)))), (fofi (IntKind.i64.wrap (q61 - (15 : Int)))))]) :: Res.sl Ek.c128 39 v72 (xx16 ++ [((fofi (IntKind.i64.wrap (q58 - (15 : Int)))), (fofi (IntKind.i64.wrap (q61 - (15 : Int)))))]) :: Res.sl Ek.c128 39 v76 (yx17 ++ [((fofi (IntKind.i64.wrap (q64 - (15 : Int)))), (fofi (IntKind.i64.wrap (q67 - (15 : Int)))))]) :: Res.sl Ek.c128 39 v84 (zx18 ++ [(cadd ((fofi (IntKind.i64.wrap (q58 - (15 : Int)))), (fofi (IntKind.i64.wrap (q61 - (15 : Int))))) ((fofi (IntKind.i64.wrap (q64 - (15 : Int)))), (fofi (IntKind.i64.wrap (q67 - (15 : Int))))))]) :: Res.sl Ek.c128 39 v47 qx19 :: Res.obj 28 v7 [.int .i64 q3.1.1, .int .i64 q3.1.2.1, v5] :: Res.sl Ek.f64 33 v5 q3.1.2.2 :: Res.obj 38 v39 [.int .i64 q3.1.1, .int .i64 q37, v11, .slice none 0 0] :: Res.sl Ek.c128 39 v11 q9.1 :: ow) := hp
      refine ⟨_, rfl, ?_⟩
      clear hf; intro a hf
      refine st_build (E := Ek.c128) (xs := [q85]) hf (by decide) elt39 Try.underlying32 hp (vals := #[(0, .complex .f64 v87 v88)]) (cells := #[.complex .f64 v87 v88]) rfl (by simp [hf.ev (x := (Operand.tmp 115)) rfl]) (Nat.le_of_ble_eq_true rfl) (Nat.le_of_ble_eq_true rfl) (z := .complex .f64 0 0) (by kernel_rfl) (by kernel_rfl) rfl (reps_cons (cs := [.complex .f64 v87 v88]) (show Ek.c128.rep [.complex .f64 v87 v88] q85 from ⟨_, _, rfl, y89, y90⟩) (reps_nil _)) ?_
      clear hf; intro a w v91 hf hp0; clear hp; have hp := hp0; clear hp0
      replace hp : Hp _ _ _ (Res.sl Ek.c128 39 v91 ([q85]) :: Res.sl Ek.c128 39 v81 ([(cadd ((fofi (IntKind.i64.wrap (q58 - (15 : Int)))), (fofi (IntKind.i64.wrap (q61 - (15 : Int))))) ((fofi (IntKind.i64.wrap (q64 - (15 : Int)))), (fofi (IntKind.i64.wrap (q67 - (15 : Int))))))]) :: Res.sl Ek.c128 39 v73 ([((fofi (IntKind.i64.wrap (q64 - (15 : Int)))), (fofi (IntKind.i64.wrap (q67 - (15 : Int)))))]) :: Res.sl Ek.c128 39 v69 ([((fofi (IntKind.i64.wrap (q58 - (15 : Int)))), (fofi (IntKind.i64.wrap (q61 - (15 : Int)))))]) :: Res.sl Ek.c128 39 v72 (xx16 ++ [((fofi (IntKind.i64.wrap (q58 - (15 : Int)))), (fofi (IntKind.i64.wrap (q61 - (15 : Int)))))]) :: Res.sl Ek.c128 39 v76 (yx17 ++ [((fofi (IntKind.i64.wrap (q64 - (15 : Int)))), (fofi (IntKind.i64.wrap (q67 - (15 : Int)))))]) :: Res.sl Ek.c128 39 v84 (zx18 ++ [(cadd ((fofi (IntKind.i64.wrap (q58 - (15 : Int)))), (fofi (IntKind.i64.wrap (q61 - (15 : Int))))) ((fofi (IntKind.i64.wrap (q64 - (15 : Int)))), (fofi (IntKind.i64.wrap (q67 - (15 : Int))))))]) :: Res.sl Ek.c128 39 v47 qx19 :: Res.obj 28 v7 [.int .i64 q3.1.1, .int .i64 q3.1.2.1, v5] :: Res.sl Ek.f64 33 v5 q3.1.2.2 :: Res.obj 38 v39 [.int .i64 q3.1.1, .int .i64 q37, v11, .slice none 0 0] :: Res.sl Ek.c128 39 v11 q9.1 :: ow) := hp
      obtain ⟨hc93, h⟩ := chk h
      refine st_append (E := Ek.c128) hf (by decide) elt39 Try.underlying32 (by decide) hp (i := 7) rfl rfl rfl rfl (hp.sl (i := 0) rfl) hc93 ?_
      clear hf; intro a w v94 hf hp0; clear hp; have hp := hp0; clear hp0
      replace hp : Hp _ _ _ (Res.sl Ek.c128 39 v91 ([q85]) :: Res.sl Ek.c128 39 v81 ([(cadd ((fofi (IntKind.i64.wrap (q58 - (15 : Int)))), (fofi (IntKind.i64.wrap (q61 - (15 : Int))))) ((fofi (IntKind.i64.wrap (q64 - (15 : Int)))), (fofi (IntKind.i64.wrap (q67 - (15 : Int))))))]) :: Res.sl Ek.c128 39 v73 ([((fofi (IntKind.i64.wrap (q64 - (15 : Int)))), (fofi (IntKind.i64.wrap (q67 - (15 : Int)))))]) :: Res.sl Ek.c128 39 v69 ([((fofi (IntKind.i64.wrap (q58 - (15 : Int)))), (fofi (IntKind.i64.wrap (q61 - (15 : Int)))))]) :: Res.sl Ek.c128 39 v72 (xx16 ++ [((fofi (IntKind.i64.wrap (q58 - (15 : Int)))), (fofi (IntKind.i64.wrap (q61 - (15 : Int)))))]) :: Res.sl Ek.c128 39 v76 (yx17 ++ [((fofi (IntKind.i64.wrap (q64 - (15 : Int)))), (fofi (IntKind.i64.wrap (q67 - (15 : Int)))))]) :: Res.sl Ek.c128 39 v84 (zx18 ++ [(cadd ((fofi (IntKind.i64.wrap (q58 - (15 : Int)))), (fofi (IntKind.i64.wrap (q61 - (15 : Int))))) ((fofi (IntKind.i64.wrap (q64 - (15 : Int)))), (fofi (IntKind.i64.wrap (q67 - (15 : Int))))))]) :: Res.sl Ek.c128 39 v94 (qx19 ++ [q85]) :: Res.obj 28 v7 [.int .i64 q3.1.1, .int .i64 q3.1.2.1, v5] :: Res.sl Ek.f64 33 v5 q3.1.2.2 :: Res.obj 38 v39 [.int .i64 q3.1.1, .int .i64 q37, v11, .slice none 0 0] :: Res.sl Ek.c128 39 v11 q9.1 :: ow) := hp
      refine st_assign hf rfl rfl (by decide) ?_
      clear hf; intro a ha hf; clear ha
      refine st_assign hf rfl rfl (by decide) ?_
      clear hf; intro a ha hf; clear ha
      refine st_assign hf rfl rfl (by decide) ?_
      clear hf; intro a ha hf; clear ha
      refine st_assign hf rfl rfl (by decide) ?_
      clear hf; intro a ha hf; clear ha
      refine st_nil hf ?_
      refine ib_n ?_
      refine th_n ?_
      refine wp_reg ?_
      refine st_move hf rfl rfl (by decide) ?_
      clear hf; intro a ha hf; clear ha
      refine st_iadd hf (by decide) rfl rfl rfl ?_
      clear hf; intro a ha hf; clear ha
      refine st_assign hf rfl rfl (by decide) ?_
      clear hf; intro a ha hf; clear ha
      refine st_nil hf ?_
      obtain rfl := Option.some.inj h
      have hp : Hp _ _ _ (Res.sl Ek.c128 39 v72 (xx16 ++ [((fofi (IntKind.i64.wrap (q58 - (15 : Int)))), (fofi (IntKind.i64.wrap (q61 - (15 : Int)))))]) :: Res.sl Ek.c128 39 v76 (yx17 ++ [((fofi (IntKind.i64.wrap (q64 - (15 : Int)))), (fofi (IntKind.i64.wrap (q67 - (15 : Int)))))]) :: Res.sl Ek.c128 39 v84 (zx18 ++ [(cadd ((fofi (IntKind.i64.wrap (q58 - (15 : Int)))), (fofi (IntKind.i64.wrap (q61 - (15 : Int))))) ((fofi (IntKind.i64.wrap (q64 - (15 : Int)))), (fofi (IntKind.i64.wrap (q67 - (15 : Int))))))]) :: Res.sl Ek.c128 39 v94 (qx19 ++ [q85]) :: Res.obj 28 v7 [.int .i64 q3.1.1, .int .i64 q3.1.2.1, v5] :: Res.sl Ek.f64 33 v5 q3.1.2.2 :: Res.obj 38 v39 [.int .i64 q3.1.1, .int .i64 q37, v11, .slice none 0 0] :: Res.sl Ek.c128 39 v11 q9.1 :: ow) := Hp.sel (pre := [Res.sl Ek.c128 39 v91 ([q85]), Res.sl Ek.c128 39 v81 ([(cadd ((fofi (IntKind.i64.wrap (q58 - (15 : Int)))), (fofi (IntKind.i64.wrap (q61 - (15 : Int))))) ((fofi (IntKind.i64.wrap (q64 - (15 : Int)))), (fofi (IntKind.i64.wrap (q67 - (15 : Int))))))]), Res.sl Ek.c128 39 v73 ([((fofi (IntKind.i64.wrap (q64 - (15 : Int)))), (fofi (IntKind.i64.wrap (q67 - (15 : Int)))))]), Res.sl Ek.c128 39 v69 ([((fofi (IntKind.i64.wrap (q58 - (15 : Int)))), (fofi (IntKind.i64.wrap (q61 - (15 : Int)))))]), Res.sl Ek.c128 39 v72 (xx16 ++ [((fofi (IntKind.i64.wrap (q58 - (15 : Int)))), (fofi (IntKind.i64.wrap (q61 - (15 : Int)))))]), Res.sl Ek.c128 39 v76 (yx17 ++ [((fofi (IntKind.i64.wrap (q64 - (15 : Int)))), (fofi (IntKind.i64.wrap (q67 - (15 : Int)))))]), Res.sl Ek.c128 39 v84 (zx18 ++ [(cadd ((fofi (IntKind.i64.wrap (q58 - (15 : Int)))), (fofi (IntKind.i64.wrap (q61 - (15 : Int))))) ((fofi (IntKind.i64.wrap (q64 - (15 : Int)))), (fofi (IntKind.i64.wrap (q67 - (15 : Int))))))]), Res.sl Ek.c128 39 v94 (qx19 ++ [q85]), Res.obj 28 v7 [.int .i64 q3.1.1, .int .i64 q3.1.2.1, v5], Res.sl Ek.f64 33 v5 q3.1.2.2, Res.obj 38 v39 [.int .i64 q3.1.1, .int .i64 q37, v11, .slice none 0 0], Res.sl Ek.c128 39 v11 q9.1]) (tail := ow) (rs' := [Res.sl Ek.c128 39 v72 (xx16 ++ [((fofi (IntKind.i64.wrap (q58 - (15 : Int)))), (fofi (IntKind.i64.wrap (q61 - (15 : Int)))))]), Res.sl Ek.c128 39 v76 (yx17 ++ [((fofi (IntKind.i64.wrap (q64 - (15 : Int)))), (fofi (IntKind.i64.wrap (q67 - (15 : Int)))))]), Res.sl Ek.c128 39 v84 (zx18 ++ [(cadd ((fofi (IntKind.i64.wrap (q58 - (15 : Int)))), (fofi (IntKind.i64.wrap (q61 - (15 : Int))))) ((fofi (IntKind.i64.wrap (q64 - (15 : Int)))), (fofi (IntKind.i64.wrap (q67 - (15 : Int))))))]), Res.sl Ek.c128 39 v94 (qx19 ++ [q85]), Res.obj 28 v7 [.int .i64 q3.1.1, .int .i64 q3.1.2.1, v5], Res.sl Ek.f64 33 v5 q3.1.2.2, Res.obj 38 v39 [.int .i64 q3.1.1, .int .i64 q37, v11, .slice none 0 0], Res.sl Ek.c128 39 v11 q9.1]) hp [4, 5, 6, 7, 8, 9, 10, 11] (by decide) (by simp) rfl
      exact rnd_l ⟨_, _, _, _, hf.sub ⟨rfl, rfl, rfl, rfl, rfl, rfl, rfl, rfl, rfl, rfl, rfl, rfl, trivial⟩, hp⟩
    replace h := ifF h hb
    refine wp_exit ?_
    refine th_e ?_
    obtain rfl := Option.some.inj h
    exact rnd_r (by simp) ⟨rfl, _, _, _, _, hf.sub ⟨rfl, rfl, rfl, rfl, rfl, rfl, rfl, rfl, trivial⟩, hp⟩
  clear hl hf hp
  intro e a w hne hO
  obtain ⟨rfl, v49, v51, v53, v55, hf, hp⟩ := hO
  refine ib_same ?_
  refine th_n ?_
  refine wp_seq ?_
  refine wp_seq ?_
  refine wp_reg ?_
  refine st_move hf rfl rfl (by decide) ?_
  clear hf; intro a ha hf; clear ha
  refine st_ineq hf (by decide) rfl rfl rfl ?_
  clear hf; intro a ha hf; clear ha
  refine st_move hf rfl rfl (by decide) ?_
  clear hf; intro a ha hf; clear ha
  obtain ⟨z102, hz100, h⟩ := bnd h
  refine wpList_cut 3 (fun a w => Fr 220 a [(3, .int .i64 turn3), (9, optr v7 0), (14, optr v39 0), (16, v49), (17, v51), (18, v53), (19, v55), (123, .bool z102)] ∧ Hp S w0 w (Res.sl Ek.c128 39 v49 q95.1 :: Res.sl Ek.c128 39 v51 q95.2.1 :: Res.sl Ek.c128 39 v53 q95.2.2.1 :: Res.sl Ek.c128 39 v55 q95.2.2.2 :: Res.obj 28 v7 [.int .i64 q3.1.1, .int .i64 q3.1.2.1, v5] :: Res.sl Ek.f64 33 v5 q3.1.2.2 :: Res.obj 38 v39 [.int .i64 q3.1.1, .int .i64 q37, v11, .slice none 0 0] :: Res.sl Ek.c128 39 v11 q9.1 :: ow)) ?_ ?_
  · rcases Bool.eq_false_or_eq_true (q3.2 != (0 : Int)) with hb101 | hb101
    · skip
      replace hz100 := ifT hz100 hb101
      refine st_skip hf (wantN hf rfl rfl hb101) rfl (by decide) ?_ rfl
      clear hf; intro a hf
      refine st_skip hf (wantN hf rfl rfl hb101) rfl (by decide) ?_ rfl
      clear hf; intro a hf
      obtain rfl := Option.some.inj hz100
      refine st_pick (v := .bool true) hf rfl rfl (fun hb' => ?_) (fun hb' => ?_) (by decide) ?_
      · rfl
      · exact absurd (hb101.symm.trans hb') (by decide)
      clear hf; intro a ha hf; clear ha
      refine st_nil hf (th_n ?_)
      exact ⟨hf.sub ⟨rfl, rfl, rfl, rfl, rfl, rfl, rfl, rfl, trivial⟩, hp⟩
    replace hz100 := ifF hz100 hb101
    obtain ⟨q103, hcall104, hz100⟩ := bnd hz100
    refine st_call hf (by decide) Try.func8 rfl rfl (wantY hf rfl rfl hb101) rfl rfl (f_foghorntop_awake_c hp  hcall104) ?_
    rintro _ w ⟨rfl, hp0⟩
    clear hp; have hp := hp0; clear hp0
    replace hp : Hp _ _ _ (Res.sl Ek.c128 39 v49 q95.1 :: Res.sl Ek.c128 39 v51 q95.2.1 :: Res.sl Ek.c128 39 v53 q95.2.2.1 :: Res.sl Ek.c128 39 v55 q95.2.2.2 :: Res.obj 28 v7 [.int .i64 q3.1.1, .int .i64 q3.1.2.1, v5] :: Res.sl Ek.f64 33 v5 q3.1.2.2 :: Res.obj 38 v39 [.int .i64 q3.1.1, .int .i64 q37, v11, .slice none 0 0] :: Res.sl Ek.c128 39 v11 q9.1 :: ow) := hp
    refine ⟨_, rfl, ?_⟩
    clear hf; intro a hf
    refine st_not hf (by decide) (wantY hf rfl rfl hb101) rfl ?_
    clear hf; intro a ha hf; clear ha
    obtain rfl := Option.some.inj hz100
    refine st_pick (v := .bool (!q103)) hf rfl rfl (fun hb' => ?_) (fun hb' => ?_) (by decide) ?_
    · exact absurd (hb101.symm.trans hb') (by decide)
    · rfl
    clear hf; intro a ha hf; clear ha
    refine st_nil hf (th_n ?_)
    exact ⟨hf.sub ⟨rfl, rfl, rfl, rfl, rfl, rfl, rfl, rfl, trivial⟩, hp⟩
  rintro a w ⟨hf, hp⟩
  refine st_nil hf ?_
  refine th_n ?_
  refine wp_if hf rfl (fun hb => ?_) (fun hb => ?_)
  · replace h := ifT h hb
    refine wp_seq ?_
    refine wp_reg ?_
    refine st_assign hf rfl rfl (by decide) ?_
    clear hf; intro a ha hf; clear ha
    refine st_nil hf ?_
    refine th_n ?_
    refine wp_ret ?_
    refine th_r ?_
    obtain rfl := Option.some.inj h
    have hp : Hp _ _ _ (ow) := Hp.sel (pre := [Res.sl Ek.c128 39 v49 q95.1, Res.sl Ek.c128 39 v51 q95.2.1, Res.sl Ek.c128 39 v53 q95.2.2.1, Res.sl Ek.c128 39 v55 q95.2.2.2, Res.obj 28 v7 [.int .i64 q3.1.1, .int .i64 q3.1.2.1, v5], Res.sl Ek.f64 33 v5 q3.1.2.2, Res.obj 38 v39 [.int .i64 q3.1.1, .int .i64 q37, v11, .slice none 0 0], Res.sl Ek.c128 39 v11 q9.1]) (tail := ow) (rs' := []) hp [] (by decide) (by simp) rfl
    exact ⟨rfl, ⟨hf.sub ⟨rfl, trivial⟩, hp⟩⟩
  replace h := ifF h hb
  refine wp_skip ?_
  refine th_n ?_
  refine wp_seq ?_
  refine wp_reg ?_
  refine st_ldOA (m := 3) (us := [.int .i64 q3.1.1, .int .i64 q3.1.2.1, v5]) hf (by decide) (by kernel_rfl) rfl rfl (hp.ob (i := 4) rfl) rfl rfl ?_
  clear hf; intro a ha hf; clear ha
  refine st_ldOA (m := 4) (us := [.int .i64 q3.1.1, .int .i64 q37, v11, .slice none 0 0]) hf (by decide) (by kernel_rfl) rfl rfl (hp.ob (i := 6) rfl) rfl rfl ?_
  clear hf; intro a ha hf; clear ha
  refine st_move hf rfl rfl (by decide) ?_
  clear hf; intro a ha hf; clear ha
  obtain ⟨q105, hcall106, h⟩ := bnd h
  obtain ⟨S107, hp108, rd109, up110, bk111⟩ := Hp.lendS hp (i := 5) rfl
  obtain ⟨S112, hp113, rd114, up115, bk116⟩ := Hp.lendS hp108 (i := 6) rfl
  obtain ⟨S117, hp118, rd119, up120, bk121⟩ := Hp.lendS hp113 (i := 0) rfl
  refine st_call hf (by decide) Try.func9 rfl rfl rfl rfl rfl (f_foghorntop_through_c hp118 _ _ _ _ ((((rd109.now hp108).mono up115).now hp113).mono up120) _ _ _ _ ((rd114.now hp113).mono up120) _ _ (RdS.nil _ _ _) _ _ rd119 hcall106) ?_
  rintro _ w ⟨v122, rfl, hp0⟩
  have hp0 := bk121 _ _ hp0
  have hp0 := bk116 _ _ hp0
  have hp0 := bk111 _ _ hp0
  clear hp; have hp := hp0; clear hp0
  replace hp : Hp _ _ _ (Res.sl Ek.f64 33 v5 q3.1.2.2 :: Res.sl Ek.c128 39 v11 q9.1 :: Res.sl Ek.c128 39 v49 q95.1 :: Res.sl Ek.c128 39 v122 q105.1 :: Res.sl Ek.c128 39 v51 q95.2.1 :: Res.sl Ek.c128 39 v53 q95.2.2.1 :: Res.sl Ek.c128 39 v55 q95.2.2.2 :: Res.obj 28 v7 [.int .i64 q3.1.1, .int .i64 q3.1.2.1, v5] :: Res.obj 38 v39 [.int .i64 q3.1.1, .int .i64 q37, v11, .slice none 0 0] :: ow) := hp
  refine ⟨_, rfl, ?_⟩
  clear hf; intro a hf
  refine st_move hf rfl rfl (by decide) ?_
  clear hf; intro a ha hf; clear ha
  refine st_extract hf (by decide) rfl rfl rfl ?_
  clear hf; intro a ha hf; clear ha
  refine st_extract hf (by decide) rfl rfl rfl ?_
  clear hf; intro a ha hf; clear ha
  refine st_assign hf rfl rfl (by decide) ?_
  clear hf; intro a ha hf; clear ha
  refine st_assign hf rfl rfl (by decide) ?_
  clear hf; intro a ha hf; clear ha
  refine st_nil hf ?_
  refine th_n ?_
  refine wp_seq ?_
  refine wp_reg ?_
  refine st_ldOA (m := 3) (us := [.int .i64 q3.1.1, .int .i64 q3.1.2.1, v5]) hf (by decide) (by kernel_rfl) rfl rfl (hp.ob (i := 7) rfl) rfl rfl ?_
  clear hf; intro a ha hf; clear ha
  refine st_ldOA (m := 4) (us := [.int .i64 q3.1.1, .int .i64 q37, v11, .slice none 0 0]) hf (by decide) (by kernel_rfl) rfl rfl (hp.ob (i := 8) rfl) rfl rfl ?_
  clear hf; intro a ha hf; clear ha
  refine st_move hf rfl rfl (by decide) ?_
  clear hf; intro a ha hf; clear ha
  obtain ⟨q124, hcall125, h⟩ := bnd h
  obtain ⟨S126, hp127, rd128, up129, bk130⟩ := Hp.lendS hp (i := 0) rfl
  obtain ⟨S131, hp132, rd133, up134, bk135⟩ := Hp.lendS hp127 (i := 0) rfl
  obtain ⟨S136, hp137, rd138, up139, bk140⟩ := Hp.lendS hp132 (i := 2) rfl
  refine st_call hf (by decide) Try.func9 rfl rfl rfl rfl rfl (f_foghorntop_through_c hp137 _ _ _ _ ((((rd128.now hp127).mono up134).now hp132).mono up139) _ _ _ _ ((rd133.now hp132).mono up139) _ _ (RdS.nil _ _ _) _ _ rd138 hcall125) ?_
  rintro _ w ⟨v141, rfl, hp0⟩
  have hp0 := bk140 _ _ hp0
  have hp0 := bk135 _ _ hp0
  have hp0 := bk130 _ _ hp0
  clear hp; have hp := hp0; clear hp0
  replace hp : Hp _ _ _ (Res.sl Ek.f64 33 v5 q3.1.2.2 :: Res.sl Ek.c128 39 v11 q9.1 :: Res.sl Ek.c128 39 v51 q95.2.1 :: Res.sl Ek.c128 39 v141 q124.1 :: Res.sl Ek.c128 39 v49 q95.1 :: Res.sl Ek.c128 39 v122 q105.1 :: Res.sl Ek.c128 39 v53 q95.2.2.1 :: Res.sl Ek.c128 39 v55 q95.2.2.2 :: Res.obj 28 v7 [.int .i64 q3.1.1, .int .i64 q3.1.2.1, v5] :: Res.obj 38 v39 [.int .i64 q3.1.1, .int .i64 q37, v11, .slice none 0 0] :: ow) := hp
  refine ⟨_, rfl, ?_⟩
  clear hf; intro a hf
  refine st_move hf rfl rfl (by decide) ?_
  clear hf; intro a ha hf; clear ha
  refine st_extract hf (by decide) rfl rfl rfl ?_
  clear hf; intro a ha hf; clear ha
  refine st_extract hf (by decide) rfl rfl rfl ?_
  clear hf; intro a ha hf; clear ha
  refine st_assign hf rfl rfl (by decide) ?_
  clear hf; intro a ha hf; clear ha
  refine st_assign hf rfl rfl (by decide) ?_
  clear hf; intro a ha hf; clear ha
  refine st_nil hf ?_
  refine th_n ?_
  refine wp_seq ?_
  refine wp_reg ?_
  refine st_ldOA (m := 3) (us := [.int .i64 q3.1.1, .int .i64 q3.1.2.1, v5]) hf (by decide) (by kernel_rfl) rfl rfl (hp.ob (i := 8) rfl) rfl rfl ?_
  clear hf; intro a ha hf; clear ha
  refine st_ldOA (m := 4) (us := [.int .i64 q3.1.1, .int .i64 q37, v11, .slice none 0 0]) hf (by decide) (by kernel_rfl) rfl rfl (hp.ob (i := 9) rfl) rfl rfl ?_
  clear hf; intro a ha hf; clear ha
  refine st_move hf rfl rfl (by decide) ?_
  clear hf; intro a ha hf; clear ha
  obtain ⟨q143, hcall144, h⟩ := bnd h
  obtain ⟨S145, hp146, rd147, up148, bk149⟩ := Hp.lendS hp (i := 0) rfl
  obtain ⟨S150, hp151, rd152, up153, bk154⟩ := Hp.lendS hp146 (i := 0) rfl
  obtain ⟨S155, hp156, rd157, up158, bk159⟩ := Hp.lendS hp151 (i := 4) rfl
  refine st_call hf (by decide) Try.func9 rfl rfl rfl rfl rfl (f_foghorntop_through_c hp156 _ _ _ _ ((((rd147.now hp146).mono up153).now hp151).mono up158) _ _ _ _ ((rd152.now hp151).mono up158) _ _ (RdS.nil _ _ _) _ _ rd157 hcall144) ?_
  rintro _ w ⟨v160, rfl, hp0⟩
  have hp0 := bk159 _ _ hp0
  have hp0 := bk154 _ _ hp0
  have hp0 := bk149 _ _ hp0
  clear hp; have hp := hp0; clear hp0
  replace hp : Hp _ _ _ (Res.sl Ek.f64 33 v5 q3.1.2.2 :: Res.sl Ek.c128 39 v11 q9.1 :: Res.sl Ek.c128 39 v53 q95.2.2.1 :: Res.sl Ek.c128 39 v160 q143.1 :: Res.sl Ek.c128 39 v51 q95.2.1 :: Res.sl Ek.c128 39 v141 q124.1 :: Res.sl Ek.c128 39 v49 q95.1 :: Res.sl Ek.c128 39 v122 q105.1 :: Res.sl Ek.c128 39 v55 q95.2.2.2 :: Res.obj 28 v7 [.int .i64 q3.1.1, .int .i64 q3.1.2.1, v5] :: Res.obj 38 v39 [.int .i64 q3.1.1, .int .i64 q37, v11, .slice none 0 0] :: ow) := hp
  refine ⟨_, rfl, ?_⟩
  clear hf; intro a hf
  refine st_move hf rfl rfl (by decide) ?_
  clear hf; intro a ha hf; clear ha
  refine st_extract hf (by decide) rfl rfl rfl ?_
  clear hf; intro a ha hf; clear ha
  refine st_extract hf (by decide) rfl rfl rfl ?_
  clear hf; intro a ha hf; clear ha
  refine st_assign hf rfl rfl (by decide) ?_
  clear hf; intro a ha hf; clear ha
  refine st_assign hf rfl rfl (by decide) ?_
  clear hf; intro a ha hf; clear ha
  refine st_nil hf ?_
  refine th_n ?_
  refine wp_seq ?_
  refine wp_reg ?_
  refine st_ldOA (m := 3) (us := [.int .i64 q3.1.1, .int .i64 q3.1.2.1, v5]) hf (by decide) (by kernel_rfl) rfl rfl (hp.ob (i := 9) rfl) rfl rfl ?_
  clear hf; intro a ha hf; clear ha
  refine st_ldOA (m := 4) (us := [.int .i64 q3.1.1, .int .i64 q37, v11, .slice none 0 0]) hf (by decide) (by kernel_rfl) rfl rfl (hp.ob (i := 10) rfl) rfl rfl ?_
  clear hf; intro a ha hf; clear ha
  refine st_move hf rfl rfl (by decide) ?_
  clear hf; intro a ha hf; clear ha
  obtain ⟨q162, hcall163, h⟩ := bnd h
  obtain ⟨S164, hp165, rd166, up167, bk168⟩ := Hp.lendS hp (i := 0) rfl
  obtain ⟨S169, hp170, rd171, up172, bk173⟩ := Hp.lendS hp165 (i := 0) rfl
  obtain ⟨S174, hp175, rd176, up177, bk178⟩ := Hp.lendS hp170 (i := 6) rfl
  refine st_call hf (by decide) Try.func9 rfl rfl rfl rfl rfl (f_foghorntop_through_c hp175 _ _ _ _ ((((rd166.now hp165).mono up172).now hp170).mono up177) _ _ _ _ ((rd171.now hp170).mono up177) _ _ (RdS.nil _ _ _) _ _ rd176 hcall163) ?_
  rintro _ w ⟨v179, rfl, hp0⟩
  have hp0 := bk178 _ _ hp0
  have hp0 := bk173 _ _ hp0
  have hp0 := bk168 _ _ hp0
  clear hp; have hp := hp0; clear hp0
  replace hp : Hp _ _ _ (Res.sl Ek.f64 33 v5 q3.1.2.2 :: Res.sl Ek.c128 39 v11 q9.1 :: Res.sl Ek.c128 39 v55 q95.2.2.2 :: Res.sl Ek.c128 39 v179 q162.1 :: Res.sl Ek.c128 39 v53 q95.2.2.1 :: Res.sl Ek.c128 39 v160 q143.1 :: Res.sl Ek.c128 39 v51 q95.2.1 :: Res.sl Ek.c128 39 v141 q124.1 :: Res.sl Ek.c128 39 v49 q95.1 :: Res.sl Ek.c128 39 v122 q105.1 :: Res.obj 28 v7 [.int .i64 q3.1.1, .int .i64 q3.1.2.1, v5] :: Res.obj 38 v39 [.int .i64 q3.1.1, .int .i64 q37, v11, .slice none 0 0] :: ow) := hp
  refine ⟨_, rfl, ?_⟩
  clear hf; intro a hf
  refine st_move hf rfl rfl (by decide) ?_
  clear hf; intro a ha hf; clear ha
  refine st_extract hf (by decide) rfl rfl rfl ?_
  clear hf; intro a ha hf; clear ha
  refine st_extract hf (by decide) rfl rfl rfl ?_
  clear hf; intro a ha hf; clear ha
  refine st_assign hf rfl rfl (by decide) ?_
  clear hf; intro a ha hf; clear ha
  refine st_assign hf rfl rfl (by decide) ?_
  clear hf; intro a ha hf; clear ha
  refine st_nil hf ?_
  refine th_n ?_
  refine wp_seq ?_
  refine wp_seq ?_
  refine wp_reg ?_
  refine st_move hf rfl rfl (by decide) ?_
  clear hf; intro a ha hf; clear ha
  refine st_not hf (by decide) rfl rfl ?_
  clear hf; intro a ha hf; clear ha
  refine st_move hf rfl rfl (by decide) ?_
  clear hf; intro a ha hf; clear ha
  refine wpList_cut 3 (fun a w => Fr 220 a [(3, .int .i64 turn3), (23, v122), (25, v141), (27, v160), (28, .bool q143.2), (29, v179), (30, .bool q162.2), (157, .bool ((!q105.2) || (!q124.2)))] ∧ Hp S w0 w (Res.sl Ek.f64 33 v5 q3.1.2.2 :: Res.sl Ek.c128 39 v11 q9.1 :: Res.sl Ek.c128 39 v55 q95.2.2.2 :: Res.sl Ek.c128 39 v179 q162.1 :: Res.sl Ek.c128 39 v53 q95.2.2.1 :: Res.sl Ek.c128 39 v160 q143.1 :: Res.sl Ek.c128 39 v51 q95.2.1 :: Res.sl Ek.c128 39 v141 q124.1 :: Res.sl Ek.c128 39 v49 q95.1 :: Res.sl Ek.c128 39 v122 q105.1 :: Res.obj 28 v7 [.int .i64 q3.1.1, .int .i64 q3.1.2.1, v5] :: Res.obj 38 v39 [.int .i64 q3.1.1, .int .i64 q37, v11, .slice none 0 0] :: ow)) ?_ ?_
  · rcases Bool.eq_false_or_eq_true (!q105.2) with hb182 | hb182
    · skip
      refine st_skip hf (wantN hf rfl rfl hb182) rfl (by decide) ?_ rfl
      clear hf; intro a hf
      refine st_skip hf (wantN hf rfl rfl hb182) rfl (by decide) ?_ rfl
      clear hf; intro a hf
      refine st_pick (v := .bool true) hf rfl rfl (fun hb' => ?_) (fun hb' => ?_) (by decide) ?_
      · rfl
      · exact absurd (hb182.symm.trans hb') (by decide)
      clear hf; intro a ha hf; clear ha
      refine st_nil hf (th_n ?_)
      exact ⟨hf.sub ⟨rfl, rfl, rfl, rfl, rfl, rfl, rfl, (by rw [hb182]; rfl), trivial⟩, hp⟩
    refine st_move hf (wantY hf rfl rfl hb182) rfl (by decide) ?_
    clear hf; intro a ha hf; clear ha
    refine st_not hf (by decide) (wantY hf rfl rfl hb182) rfl ?_
    clear hf; intro a ha hf; clear ha
    refine st_pick (v := .bool (!q124.2)) hf rfl rfl (fun hb' => ?_) (fun hb' => ?_) (by decide) ?_
    · exact absurd (hb182.symm.trans hb') (by decide)
    · rfl
    clear hf; intro a ha hf; clear ha
    refine st_nil hf (th_n ?_)
    exact ⟨hf.sub ⟨rfl, rfl, rfl, rfl, rfl, rfl, rfl, (by rw [hb182]; rfl), trivial⟩, hp⟩
  rintro a w ⟨hf, hp⟩
  refine st_move hf rfl rfl (by decide) ?_
  clear hf; intro a ha hf; clear ha
  refine wpList_cut 3 (fun a w => Fr 220 a [(3, .int .i64 turn3), (23, v122), (25, v141), (27, v160), (29, v179), (30, .bool q162.2), (161, .bool (((!q105.2) || (!q124.2)) || (!q143.2)))] ∧ Hp S w0 w (Res.sl Ek.f64 33 v5 q3.1.2.2 :: Res.sl Ek.c128 39 v11 q9.1 :: Res.sl Ek.c128 39 v55 q95.2.2.2 :: Res.sl Ek.c128 39 v179 q162.1 :: Res.sl Ek.c128 39 v53 q95.2.2.1 :: Res.sl Ek.c128 39 v160 q143.1 :: Res.sl Ek.c128 39 v51 q95.2.1 :: Res.sl Ek.c128 39 v141 q124.1 :: Res.sl Ek.c128 39 v49 q95.1 :: Res.sl Ek.c128 39 v122 q105.1 :: Res.obj 28 v7 [.int .i64 q3.1.1, .int .i64 q3.1.2.1, v5] :: Res.obj 38 v39 [.int .i64 q3.1.1, .int .i64 q37, v11, .slice none 0 0] :: ow)) ?_ ?_
  · rcases Bool.eq_false_or_eq_true ((!q105.2) || (!q124.2)) with hb184 | hb184
    · skip
      refine st_skip hf (wantN hf rfl rfl hb184) rfl (by decide) ?_ rfl
      clear hf; intro a hf
      refine st_skip hf (wantN hf rfl rfl hb184) rfl (by decide) ?_ rfl
      clear hf; intro a hf
      refine st_pick (v := .bool true) hf rfl rfl (fun hb' => ?_) (fun hb' => ?_) (by decide) ?_
      · rfl
      · exact absurd (hb184.symm.trans hb') (by decide)
      clear hf; intro a ha hf; clear ha
      refine st_nil hf (th_n ?_)
      exact ⟨hf.sub ⟨rfl, rfl, rfl, rfl, rfl, rfl, (by rw [hb184]; rfl), trivial⟩, hp⟩
    refine st_move hf (wantY hf rfl rfl hb184) rfl (by decide) ?_
    clear hf; intro a ha hf; clear ha
    refine st_not hf (by decide) (wantY hf rfl rfl hb184) rfl ?_
    clear hf; intro a ha hf; clear ha
    refine st_pick (v := .bool (!q143.2)) hf rfl rfl (fun hb' => ?_) (fun hb' => ?_) (by decide) ?_
    · exact absurd (hb184.symm.trans hb') (by decide)
    · rfl
    clear hf; intro a ha hf; clear ha
    refine st_nil hf (th_n ?_)
    exact ⟨hf.sub ⟨rfl, rfl, rfl, rfl, rfl, rfl, (by rw [hb184]; rfl), trivial⟩, hp⟩
  rintro a w ⟨hf, hp⟩
  refine st_move hf rfl rfl (by decide) ?_
  clear hf; intro a ha hf; clear ha
  refine wpList_cut 3 (fun a w => Fr 220 a [(3, .int .i64 turn3), (23, v122), (25, v141), (27, v160), (29, v179), (165, .bool ((((!q105.2) || (!q124.2)) || (!q143.2)) || (!q162.2)))] ∧ Hp S w0 w (Res.sl Ek.f64 33 v5 q3.1.2.2 :: Res.sl Ek.c128 39 v11 q9.1 :: Res.sl Ek.c128 39 v55 q95.2.2.2 :: Res.sl Ek.c128 39 v179 q162.1 :: Res.sl Ek.c128 39 v53 q95.2.2.1 :: Res.sl Ek.c128 39 v160 q143.1 :: Res.sl Ek.c128 39 v51 q95.2.1 :: Res.sl Ek.c128 39 v141 q124.1 :: Res.sl Ek.c128 39 v49 q95.1 :: Res.sl Ek.c128 39 v122 q105.1 :: Res.obj 28 v7 [.int .i64 q3.1.1, .int .i64 q3.1.2.1, v5] :: Res.obj 38 v39 [.int .i64 q3.1.1, .int .i64 q37, v11, .slice none 0 0] :: ow)) ?_ ?_
  · rcases Bool.eq_false_or_eq_true (((!q105.2) || (!q124.2)) || (!q143.2)) with hb186 | hb186
    · skip
      refine st_skip hf (wantN hf rfl rfl hb186) rfl (by decide) ?_ rfl
      clear hf; intro a hf
      refine st_skip hf (wantN hf rfl rfl hb186) rfl (by decide) ?_ rfl
      clear hf; intro a hf
      refine st_pick (v := .bool true) hf rfl rfl (fun hb' => ?_) (fun hb' => ?_) (by decide) ?_
      · rfl
      · exact absurd (hb186.symm.trans hb') (by decide)
      clear hf; intro a ha hf; clear ha
      refine st_nil hf (th_n ?_)
      exact ⟨hf.sub ⟨rfl, rfl, rfl, rfl, rfl, (by rw [hb186]; rfl), trivial⟩, hp⟩
    refine st_move hf (wantY hf rfl rfl hb186) rfl (by decide) ?_
    clear hf; intro a ha hf; clear ha
    refine st_not hf (by decide) (wantY hf rfl rfl hb186) rfl ?_
    clear hf; intro a ha hf; clear ha
    refine st_pick (v := .bool (!q162.2)) hf rfl rfl (fun hb' => ?_) (fun hb' => ?_) (by decide) ?_
    · exact absurd (hb186.symm.trans hb') (by decide)
    · rfl
    clear hf; intro a ha hf; clear ha
    refine st_nil hf (th_n ?_)
    exact ⟨hf.sub ⟨rfl, rfl, rfl, rfl, rfl, (by rw [hb186]; rfl), trivial⟩, hp⟩
  rintro a w ⟨hf, hp⟩
  refine st_move hf rfl rfl (by decide) ?_
  clear hf; intro a ha hf; clear ha
  refine wpList_cut 6 (fun a w => Fr 220 a [(3, .int .i64 turn3), (23, v122), (25, v141), (27, v160), (29, v179), (172, .bool (((((!q105.2) || (!q124.2)) || (!q143.2)) || (!q162.2)) || ((q105.1.length : Int) != (q124.1.length : Int))))] ∧ Hp S w0 w (Res.sl Ek.f64 33 v5 q3.1.2.2 :: Res.sl Ek.c128 39 v11 q9.1 :: Res.sl Ek.c128 39 v55 q95.2.2.2 :: Res.sl Ek.c128 39 v179 q162.1 :: Res.sl Ek.c128 39 v53 q95.2.2.1 :: Res.sl Ek.c128 39 v160 q143.1 :: Res.sl Ek.c128 39 v51 q95.2.1 :: Res.sl Ek.c128 39 v141 q124.1 :: Res.sl Ek.c128 39 v49 q95.1 :: Res.sl Ek.c128 39 v122 q105.1 :: Res.obj 28 v7 [.int .i64 q3.1.1, .int .i64 q3.1.2.1, v5] :: Res.obj 38 v39 [.int .i64 q3.1.1, .int .i64 q37, v11, .slice none 0 0] :: ow)) ?_ ?_
  · rcases Bool.eq_false_or_eq_true ((((!q105.2) || (!q124.2)) || (!q143.2)) || (!q162.2)) with hb188 | hb188
    · skip
      refine st_skip hf (wantN hf rfl rfl hb188) rfl (by decide) ?_ rfl
      clear hf; intro a hf
      refine st_skip hf (wantN hf rfl rfl hb188) rfl (by decide) ?_ rfl
      clear hf; intro a hf
      refine st_skip hf (wantN hf rfl rfl hb188) rfl (by decide) ?_ rfl
      clear hf; intro a hf
      refine st_skip hf (wantN hf rfl rfl hb188) rfl (by decide) ?_ rfl
      clear hf; intro a hf
      refine st_skip hf (wantN hf rfl rfl hb188) rfl (by decide) ?_ rfl
      clear hf; intro a hf
      refine st_pick (v := .bool true) hf rfl rfl (fun hb' => ?_) (fun hb' => ?_) (by decide) ?_
      · rfl
      · exact absurd (hb188.symm.trans hb') (by decide)
      clear hf; intro a ha hf; clear ha
      refine st_nil hf (th_n ?_)
      exact ⟨hf.sub ⟨rfl, rfl, rfl, rfl, rfl, (by rw [hb188]; rfl), trivial⟩, hp⟩
    refine st_move hf (wantY hf rfl rfl hb188) rfl (by decide) ?_
    clear hf; intro a ha hf; clear ha
    refine st_len (E := Ek.c128) hf (by decide) Try.underlying32 (wantY hf rfl rfl hb188) rfl (hp.sl (i := 9) rfl) ?_
    clear hf; intro a ha hf; clear ha
    refine st_move hf (wantY hf rfl rfl hb188) rfl (by decide) ?_
    clear hf; intro a ha hf; clear ha
    refine st_len (E := Ek.c128) hf (by decide) Try.underlying32 (wantY hf rfl rfl hb188) rfl (hp.sl (i := 7) rfl) ?_
    clear hf; intro a ha hf; clear ha
    refine st_ineq hf (by decide) (wantY hf rfl rfl hb188) rfl rfl ?_
    clear hf; intro a ha hf; clear ha
    refine st_pick (v := .bool ((q105.1.length : Int) != (q124.1.length : Int))) hf rfl rfl (fun hb' => ?_) (fun hb' => ?_) (by decide) ?_
    · exact absurd (hb188.symm.trans hb') (by decide)
    · rfl
    clear hf; intro a ha hf; clear ha
    refine st_nil hf (th_n ?_)
    exact ⟨hf.sub ⟨rfl, rfl, rfl, rfl, rfl, (by rw [hb188]; rfl), trivial⟩, hp⟩
  rintro a w ⟨hf, hp⟩
  refine st_move hf rfl rfl (by decide) ?_
  clear hf; intro a ha hf; clear ha
  refine wpList_cut 6 (fun a w => Fr 220 a [(3, .int .i64 turn3), (23, v122), (25, v141), (27, v160), (29, v179), (179, .bool ((((((!q105.2) || (!q124.2)) || (!q143.2)) || (!q162.2)) || ((q105.1.length : Int) != (q124.1.length : Int))) || ((q105.1.length : Int) != (q143.1.length : Int))))] ∧ Hp S w0 w (Res.sl Ek.f64 33 v5 q3.1.2.2 :: Res.sl Ek.c128 39 v11 q9.1 :: Res.sl Ek.c128 39 v55 q95.2.2.2 :: Res.sl Ek.c128 39 v179 q162.1 :: Res.sl Ek.c128 39 v53 q95.2.2.1 :: Res.sl Ek.c128 39 v160 q143.1 :: Res.sl Ek.c128 39 v51 q95.2.1 :: Res.sl Ek.c128 39 v141 q124.1 :: Res.sl Ek.c128 39 v49 q95.1 :: Res.sl Ek.c128 39 v122 q105.1 :: Res.obj 28 v7 [.int .i64 q3.1.1, .int .i64 q3.1.2.1, v5] :: Res.obj 38 v39 [.int .i64 q3.1.1, .int .i64 q37, v11, .slice none 0 0] :: ow)) ?_ ?_
  · rcases Bool.eq_false_or_eq_true (((((!q105.2) || (!q124.2)) || (!q143.2)) || (!q162.2)) || ((q105.1.length : Int) != (q124.1.length : Int))) with hb190 | hb190
    · skip
      refine st_skip hf (wantN hf rfl rfl hb190) rfl (by decide) ?_ rfl
      clear hf; intro a hf
      refine st_skip hf (wantN hf rfl rfl hb190) rfl (by decide) ?_ rfl
      clear hf; intro a hf
      refine st_skip hf (wantN hf rfl rfl hb190) rfl (by decide) ?_ rfl
      clear hf; intro a hf
      refine st_skip hf (wantN hf rfl rfl hb190) rfl (by decide) ?_ rfl
      clear hf; intro a hf
      refine st_skip hf (wantN hf rfl rfl hb190) rfl (by decide) ?_ rfl
      clear hf; intro a hf
      refine st_pick (v := .bool true) hf rfl rfl (fun hb' => ?_) (fun hb' => ?_) (by decide) ?_
      · rfl
      · exact absurd (hb190.symm.trans hb') (by decide)
      clear hf; intro a ha hf; clear ha
      refine st_nil hf (th_n ?_)
      exact ⟨hf.sub ⟨rfl, rfl, rfl, rfl, rfl, (by rw [hb190]; rfl), trivial⟩, hp⟩
    refine st_move hf (wantY hf rfl rfl hb190) rfl (by decide) ?_
    clear hf; intro a ha hf; clear ha
    refine st_len (E := Ek.c128) hf (by decide) Try.underlying32 (wantY hf rfl rfl hb190) rfl (hp.sl (i := 9) rfl) ?_
    clear hf; intro a ha hf; clear ha
    refine st_move hf (wantY hf rfl rfl hb190) rfl (by decide) ?_
    clear hf; intro a ha hf; clear ha
    refine st_len (E := Ek.c128) hf (by decide) Try.underlying32 (wantY hf rfl rfl hb190) rfl (hp.sl (i := 5) rfl) ?_
    clear hf; intro a ha hf; clear ha
    refine st_ineq hf (by decide) (wantY hf rfl rfl hb190) rfl rfl ?_
    clear hf; intro a ha hf; clear ha
    refine st_pick (v := .bool ((q105.1.length : Int) != (q143.1.length : Int))) hf rfl rfl (fun hb' => ?_) (fun hb' => ?_) (by decide) ?_
    · exact absurd (hb190.symm.trans hb') (by decide)
    · rfl
    clear hf; intro a ha hf; clear ha
    refine st_nil hf (th_n ?_)
    exact ⟨hf.sub ⟨rfl, rfl, rfl, rfl, rfl, (by rw [hb190]; rfl), trivial⟩, hp⟩
  rintro a w ⟨hf, hp⟩
  refine st_move hf rfl rfl (by decide) ?_
  clear hf; intro a ha hf; clear ha
  refine wpList_cut 6 (fun a w => Fr 220 a [(3, .int .i64 turn3), (23, v122), (25, v141), (27, v160), (29, v179), (186, .bool (((((((!q105.2) || (!q124.2)) || (!q143.2)) || (!q162.2)) || ((q105.1.length : Int) != (q124.1.length : Int))) || ((q105.1.length : Int) != (q143.1.length : Int))) || ((q105.1.length : Int) != (q162.1.length : Int))))] ∧ Hp S w0 w (Res.sl Ek.f64 33 v5 q3.1.2.2 :: Res.sl Ek.c128 39 v11 q9.1 :: Res.sl Ek.c128 39 v55 q95.2.2.2 :: Res.sl Ek.c128 39 v179 q162.1 :: Res.sl Ek.c128 39 v53 q95.2.2.1 :: Res.sl Ek.c128 39 v160 q143.1 :: Res.sl Ek.c128 39 v51 q95.2.1 :: Res.sl Ek.c128 39 v141 q124.1 :: Res.sl Ek.c128 39 v49 q95.1 :: Res.sl Ek.c128 39 v122 q105.1 :: Res.obj 28 v7 [.int .i64 q3.1.1, .int .i64 q3.1.2.1, v5] :: Res.obj 38 v39 [.int .i64 q3.1.1, .int .i64 q37, v11, .slice none 0 0] :: ow)) ?_ ?_
  · rcases Bool.eq_false_or_eq_true ((((((!q105.2) || (!q124.2)) || (!q143.2)) || (!q162.2)) || ((q105.1.length : Int) != (q124.1.length : Int))) || ((q105.1.length : Int) != (q143.1.length : Int))) with hb192 | hb192
    · skip
      refine st_skip hf (wantN hf rfl rfl hb192) rfl (by decide) ?_ rfl
      clear hf; intro a hf
      refine st_skip hf (wantN hf rfl rfl hb192) rfl (by decide) ?_ rfl
      clear hf; intro a hf
      refine st_skip hf (wantN hf rfl rfl hb192) rfl (by decide) ?_ rfl
      clear hf; intro a hf
      refine st_skip hf (wantN hf rfl rfl hb192) rfl (by decide) ?_ rfl
      clear hf; intro a hf
      refine st_skip hf (wantN hf rfl rfl hb192) rfl (by decide) ?_ rfl
      clear hf; intro a hf
      refine st_pick (v := .bool true) hf rfl rfl (fun hb' => ?_) (fun hb' => ?_) (by decide) ?_
      · rfl
      · exact absurd (hb192.symm.trans hb') (by decide)
      clear hf; intro a ha hf; clear ha
      refine st_nil hf (th_n ?_)
      exact ⟨hf.sub ⟨rfl, rfl, rfl, rfl, rfl, (by rw [hb192]; rfl), trivial⟩, hp⟩
    refine st_move hf (wantY hf rfl rfl hb192) rfl (by decide) ?_
    clear hf; intro a ha hf; clear ha
    refine st_len (E := Ek.c128) hf (by decide) Try.underlying32 (wantY hf rfl rfl hb192) rfl (hp.sl (i := 9) rfl) ?_
    clear hf; intro a ha hf; clear ha
    refine st_move hf (wantY hf rfl rfl hb192) rfl (by decide) ?_
    clear hf; intro a ha hf; clear ha
    refine st_len (E := Ek.c128) hf (by decide) Try.underlying32 (wantY hf rfl rfl hb192) rfl (hp.sl (i := 3) rfl) ?_
    clear hf; intro a ha hf; clear ha
    refine st_ineq hf (by decide) (wantY hf rfl rfl hb192) rfl rfl ?_
    clear hf; intro a ha hf; clear ha
    refine st_pick (v := .bool ((q105.1.length : Int) != (q162.1.length : Int))) hf rfl rfl (fun hb' => ?_) (fun hb' => ?_) (by decide) ?_
    · exact absurd (hb192.symm.trans hb') (by decide)
    · rfl
    clear hf; intro a ha hf; clear ha
    refine st_nil hf (th_n ?_)
    exact ⟨hf.sub ⟨rfl, rfl, rfl, rfl, rfl, (by rw [hb192]; rfl), trivial⟩, hp⟩
  rintro a w ⟨hf, hp⟩
  refine st_nil hf ?_
  refine th_n ?_
  refine wp_if hf rfl (fun hb => ?_) (fun hb => ?_)
  · replace h := ifT h hb
    refine wp_seq ?_
    refine wp_reg ?_
    refine st_assign hf rfl rfl (by decide) ?_
    clear hf; intro a ha hf; clear ha
    refine st_nil hf ?_
    refine th_n ?_
    refine wp_ret ?_
    refine th_r ?_
    obtain rfl := Option.some.inj h
    have hp : Hp _ _ _ (ow) := Hp.sel (pre := [Res.sl Ek.f64 33 v5 q3.1.2.2, Res.sl Ek.c128 39 v11 q9.1, Res.sl Ek.c128 39 v55 q95.2.2.2, Res.sl Ek.c128 39 v179 q162.1, Res.sl Ek.c128 39 v53 q95.2.2.1, Res.sl Ek.c128 39 v160 q143.1, Res.sl Ek.c128 39 v51 q95.2.1, Res.sl Ek.c128 39 v141 q124.1, Res.sl Ek.c128 39 v49 q95.1, Res.sl Ek.c128 39 v122 q105.1, Res.obj 28 v7 [.int .i64 q3.1.1, .int .i64 q3.1.2.1, v5], Res.obj 38 v39 [.int .i64 q3.1.1, .int .i64 q37, v11, .slice none 0 0]]) (tail := ow) (rs' := []) hp [] (by decide) (by simp) rfl
    exact ⟨rfl, ⟨hf.sub ⟨rfl, trivial⟩, hp⟩⟩
  replace h := ifF h hb
  refine wp_skip ?_
  refine th_n ?_
  refine wp_seq ?_
  refine wp_seq ?_
  refine wp_reg ?_
  refine st_assign hf rfl rfl (by decide) ?_
  clear hf; intro a ha hf; clear ha
  refine st_nil hf ?_
  refine th_n ?_
  refine wp_block ?_
  obtain ⟨q260, hl, h⟩ := bnd h
  have hp : Hp _ _ _ (Res.sl Ek.c128 39 v122 q105.1 :: Res.sl Ek.c128 39 v141 q124.1 :: Res.sl Ek.c128 39 v160 q143.1 :: Res.sl Ek.c128 39 v179 q162.1 :: ow) := Hp.sel (pre := [Res.sl Ek.f64 33 v5 q3.1.2.2, Res.sl Ek.c128 39 v11 q9.1, Res.sl Ek.c128 39 v55 q95.2.2.2, Res.sl Ek.c128 39 v179 q162.1, Res.sl Ek.c128 39 v53 q95.2.2.1, Res.sl Ek.c128 39 v160 q143.1, Res.sl Ek.c128 39 v51 q95.2.1, Res.sl Ek.c128 39 v141 q124.1, Res.sl Ek.c128 39 v49 q95.1, Res.sl Ek.c128 39 v122 q105.1, Res.obj 28 v7 [.int .i64 q3.1.1, .int .i64 q3.1.2.1, v5], Res.obj 38 v39 [.int .i64 q3.1.1, .int .i64 q37, v11, .slice none 0 0]]) (tail := ow) (rs' := [Res.sl Ek.c128 39 v122 q105.1, Res.sl Ek.c128 39 v141 q124.1, Res.sl Ek.c128 39 v160 q143.1, Res.sl Ek.c128 39 v179 q162.1]) hp [9, 7, 5, 3] (by decide) (by simp) rfl
  refine wp_loop_pure (f := (f_foghorntop_TopLinear.s2 turn3 q105 q124 q143 q162)) (s := (0 : Int)) (fun s a w => Fr 220 a [(3, .int .i64 turn3), (23, v122), (25, v141), (27, v160), (29, v179), (31, .int .i64 s)] ∧ Hp S w0 w (Res.sl Ek.c128 39 v122 q105.1 :: Res.sl Ek.c128 39 v141 q124.1 :: Res.sl Ek.c128 39 v160 q143.1 :: Res.sl Ek.c128 39 v179 q162.1 :: ow)) (fun q e a w => match q with | (Sum.inl q) => e = .exit 2 ∧ Fr 220 a [] ∧ Hp S w0 w (ow) | (Sum.inr q) => e = .ret ∧ Fr 220 a [(8, .bool q)] ∧ Hp S w0 w (ow)) ?_ hl ⟨hf.sub ⟨rfl, rfl, rfl, rfl, rfl, rfl, trivial⟩, hp⟩ ?_
  · clear hl hf hp
    intro s x a w h hI
    obtain ⟨i31, hs⟩ : ∃ z, z = s := ⟨s, rfl⟩; subst hs
    obtain ⟨hf, hp⟩ : Fr 220 a [(3, .int .i64 turn3), (23, v122), (25, v141), (27, v160), (29, v179), (31, .int .i64 i31)] ∧ Hp S w0 w (Res.sl Ek.c128 39 v122 q105.1 :: Res.sl Ek.c128 39 v141 q124.1 :: Res.sl Ek.c128 39 v160 q143.1 :: Res.sl Ek.c128 39 v179 q162.1 :: ow) := hI
    replace h : f_foghorntop_TopLinear.s2c turn3 q105 q124 q143 q162 i31 = some x := h
    unfold f_foghorntop_TopLinear.s2c at h
    refine wp_seq ?_
    refine wp_seq ?_
    refine wp_reg ?_
    refine st_move hf rfl rfl (by decide) ?_
    clear hf; intro a ha hf; clear ha
    refine st_move hf rfl rfl (by decide) ?_
    clear hf; intro a ha hf; clear ha
    refine st_len (E := Ek.c128) hf (by decide) Try.underlying32 rfl rfl (hp.sl (i := 0) rfl) ?_
    clear hf; intro a ha hf; clear ha
    refine st_ilss hf (by decide) rfl rfl rfl ?_
    clear hf; intro a ha hf; clear ha
    refine st_nil hf ?_
    refine th_n ?_
    refine wp_if hf rfl (fun hb => ?_) (fun hb => ?_)
    · replace h := ifT h hb
      refine wp_skip ?_
      refine th_n ?_
      refine wp_seq ?_
      refine wp_block ?_
      refine wp_seq ?_
      obtain ⟨S193, hp194, rd195, up196, bk197⟩ := Hp.lendS hp (i := 0) rfl
      obtain ⟨S198, hp199, rd200, up201, bk202⟩ := Hp.lendS hp194 (i := 0) rfl
      obtain ⟨S203, hp204, rd205, up206, bk207⟩ := Hp.lendS hp199 (i := 0) rfl
      obtain ⟨S208, hp209, rd210, up211, bk212⟩ := Hp.lendS hp204 (i := 0) rfl
      have rl213 := ((((((rd195.now hp194).mono up201).now hp199).mono up206).now hp204).mono up211)
      have rl214 := ((((rd200.now hp199).mono up206).now hp204).mono up211)
      have rl215 := ((rd205.now hp204).mono up211)
      have rl216 := rd210
      obtain ⟨hc217, h⟩ := chk h
      obtain ⟨bb219, bb220, y221, y222, hl218⟩ := RdS.pinC (p := i31) rl213 hc217.1 hc217.2
      obtain ⟨hc223, h⟩ := chk h
      obtain ⟨bb225, bb226, y227, y228, hl224⟩ := RdS.pinC (p := i31) rl214 hc223.1 hc223.2
      obtain ⟨hc233, h⟩ := chk h
      obtain ⟨bb235, bb236, y237, y238, hl234⟩ := RdS.pinC (p := i31) rl215 hc233.1 hc233.2
      obtain ⟨z259, hz239, h⟩ := bnd h
      refine wp_cutN (fun a w => Fr 220 a [(3, .int .i64 turn3), (23, v122), (25, v141), (27, v160), (29, v179), (31, .int .i64 i31), (219, .bool z259)] ∧ Hp S w0 w (Res.sl Ek.c128 39 v122 q105.1 :: Res.sl Ek.c128 39 v141 q124.1 :: Res.sl Ek.c128 39 v160 q143.1 :: Res.sl Ek.c128 39 v179 q162.1 :: ow)) ?_ ?_
      · have hp := hp209.same (Same.drew w)
        rcases Bool.eq_false_or_eq_true (!ceq (cadd (gt q105.1 i31) (gt q124.1 i31)) (gt q143.1 i31)) with hb240 | hb240
        · skip
          replace hz239 := ifT hz239 hb240
          replace hz239 := Option.some.inj hz239
          refine dr_begin' (fun a w => Fr 220 a [(3, .int .i64 turn3), (23, v122), (25, v141), (27, v160), (29, v179), (31, .int .i64 i31), (219, .bool z259)] ∧ Hp S w0 w (Res.sl Ek.c128 39 v122 q105.1 :: Res.sl Ek.c128 39 v141 q124.1 :: Res.sl Ek.c128 39 v160 q143.1 :: Res.sl Ek.c128 39 v179 q162.1 :: ow)) (fun w' => ∃ l, Hp S208 w w' l) [] (by kernel_rfl) ?_
          refine dr_take 0 (v122) rfl (by kernel_rfl) (by kernel_rfl) (by kernel_rfl) (by kernel_rfl) rfl rfl hf (by decide) rfl (fun w hp => ?_) ⟨_, hp⟩ ?_
          · obtain ⟨_, hp⟩ := hp
            refine st_move hf rfl rfl (by decide) ?_
            clear hf; intro a ha hf
            exact st_nil hf (th_n ⟨ha, rfl⟩)
          clear hf; intro a hf
          refine dr_take 1 (.int .i64 i31) rfl (by kernel_rfl) (by kernel_rfl) (by kernel_rfl) (by kernel_rfl) rfl rfl hf (by decide) rfl (fun w hp => ?_) ⟨_, hp⟩ ?_
          · obtain ⟨_, hp⟩ := hp
            refine st_move hf rfl rfl (by decide) ?_
            clear hf; intro a ha hf
            exact st_nil hf (th_n ⟨ha, rfl⟩)
          clear hf; intro a hf
          refine dr_take 2 (eptr v122 i31 1) rfl (by kernel_rfl) (by kernel_rfl) (by kernel_rfl) (by kernel_rfl) rfl rfl hf (by decide) rfl (fun w hp => ?_) ⟨_, hp⟩ ?_
          · obtain ⟨_, hp⟩ := hp
            refine st_index (E := Ek.c128) hf (by decide) Try.underlying32 elt39 rfl rfl rfl (rl213.sl hp) hc217.1 hc217.2 ?_
            clear hf; intro a ha hf
            exact st_nil hf (th_n ⟨ha, rfl⟩)
          clear hf; intro a hf
          refine dr_take 3 (.complex .f64 bb219 bb220) rfl (by kernel_rfl) (by kernel_rfl) (by kernel_rfl) (by kernel_rfl) rfl rfl hf (by decide) rfl (fun w hp => ?_) ⟨_, hp⟩ ?_
          · obtain ⟨_, hp⟩ := hp
            refine st_ldP hf (by decide) pl39 rfl rfl (hl218 _ _ hp) ?_
            clear hf; intro a ha hf
            exact st_nil hf (th_n ⟨ha, rfl⟩)
          clear hf; intro a hf
          refine dr_take 4 (v141) rfl (by kernel_rfl) (by kernel_rfl) (by kernel_rfl) (by kernel_rfl) rfl rfl hf (by decide) rfl (fun w hp => ?_) ⟨_, hp⟩ ?_
          · obtain ⟨_, hp⟩ := hp
            refine st_move hf rfl rfl (by decide) ?_
            clear hf; intro a ha hf
            exact st_nil hf (th_n ⟨ha, rfl⟩)
          clear hf; intro a hf
          refine dr_take 5 (.int .i64 i31) rfl (by kernel_rfl) (by kernel_rfl) (by kernel_rfl) (by kernel_rfl) rfl rfl hf (by decide) rfl (fun w hp => ?_) ⟨_, hp⟩ ?_
          · obtain ⟨_, hp⟩ := hp
            refine st_move hf rfl rfl (by decide) ?_
            clear hf; intro a ha hf
            exact st_nil hf (th_n ⟨ha, rfl⟩)
          clear hf; intro a hf
          refine dr_take 6 (eptr v141 i31 1) rfl (by kernel_rfl) (by kernel_rfl) (by kernel_rfl) (by kernel_rfl) rfl rfl hf (by decide) rfl (fun w hp => ?_) ⟨_, hp⟩ ?_
          · obtain ⟨_, hp⟩ := hp
            refine st_index (E := Ek.c128) hf (by decide) Try.underlying32 elt39 rfl rfl rfl (rl214.sl hp) hc223.1 hc223.2 ?_
            clear hf; intro a ha hf
            exact st_nil hf (th_n ⟨ha, rfl⟩)
          clear hf; intro a hf
          refine dr_take 7 (.complex .f64 bb225 bb226) rfl (by kernel_rfl) (by kernel_rfl) (by kernel_rfl) (by kernel_rfl) rfl rfl hf (by decide) rfl (fun w hp => ?_) ⟨_, hp⟩ ?_
          · obtain ⟨_, hp⟩ := hp
            refine st_ldP hf (by decide) pl39 rfl rfl (hl224 _ _ hp) ?_
            clear hf; intro a ha hf
            exact st_nil hf (th_n ⟨ha, rfl⟩)
          clear hf; intro a hf
          refine dr_take 9 (v160) rfl (by kernel_rfl) (by kernel_rfl) (by kernel_rfl) (by kernel_rfl) rfl rfl hf (by decide) rfl (fun w hp => ?_) ⟨_, hp⟩ ?_
          · obtain ⟨_, hp⟩ := hp
            refine st_move hf rfl rfl (by decide) ?_
            clear hf; intro a ha hf
            exact st_nil hf (th_n ⟨ha, rfl⟩)
          clear hf; intro a hf
          refine dr_take 10 (.int .i64 i31) rfl (by kernel_rfl) (by kernel_rfl) (by kernel_rfl) (by kernel_rfl) rfl rfl hf (by decide) rfl (fun w hp => ?_) ⟨_, hp⟩ ?_
          · obtain ⟨_, hp⟩ := hp
            refine st_move hf rfl rfl (by decide) ?_
            clear hf; intro a ha hf
            exact st_nil hf (th_n ⟨ha, rfl⟩)
          clear hf; intro a hf
          refine dr_take 11 (eptr v160 i31 1) rfl (by kernel_rfl) (by kernel_rfl) (by kernel_rfl) (by kernel_rfl) rfl rfl hf (by decide) rfl (fun w hp => ?_) ⟨_, hp⟩ ?_
          · obtain ⟨_, hp⟩ := hp
            refine st_index (E := Ek.c128) hf (by decide) Try.underlying32 elt39 rfl rfl rfl (rl215.sl hp) hc233.1 hc233.2 ?_
            clear hf; intro a ha hf
            exact st_nil hf (th_n ⟨ha, rfl⟩)
          clear hf; intro a hf
          refine dr_take 12 (.complex .f64 bb235 bb236) rfl (by kernel_rfl) (by kernel_rfl) (by kernel_rfl) (by kernel_rfl) rfl rfl hf (by decide) rfl (fun w hp => ?_) ⟨_, hp⟩ ?_
          · obtain ⟨_, hp⟩ := hp
            refine st_ldP hf (by decide) pl39 rfl rfl (hl234 _ _ hp) ?_
            clear hf; intro a ha hf
            exact st_nil hf (th_n ⟨ha, rfl⟩)
          clear hf; intro a hf
          refine dr_one 8 rfl (by kernel_rfl) ?_
          refine st_carith (op := .add) (zx := (gt q105.1 i31)) (zy := (gt q124.1 i31)) rfl hf (by decide) hp rfl rfl rfl y221 y222 y227 y228 ?_
          clear hf; intro a w bb229 bb230 y231 y232 hf hp0; clear hp; have hp := hp0; clear hp0
          replace hp : Hp _ _ _ (ow) := hp
          refine st_nil hf (th_n ⟨fun _ _ => ⟨_, hp⟩, ?_⟩)
          refine dr_take 13 (.bool (!ceq (cadd (gt q105.1 i31) (gt q124.1 i31)) (gt q143.1 i31))) rfl (by kernel_rfl) (by kernel_rfl) (by kernel_rfl) (by kernel_rfl) rfl rfl hf (by decide) rfl (fun w hp => ?_) ⟨_, hp⟩ ?_
          · obtain ⟨_, hp⟩ := hp
            refine st_ccmp (r_cne (x := (cadd (gt q105.1 i31) (gt q124.1 i31))) (y := (gt q143.1 i31)) y231 y232 y237 y238) hf (by decide) rfl rfl rfl ?_
            clear hf; intro a ha hf
            exact st_nil hf (th_n ⟨ha, rfl⟩)
          clear hf; intro a hf
          refine dr_take 14 (.bool (!ceq (cadd (gt q105.1 i31) (gt q124.1 i31)) (gt q143.1 i31))) rfl (by kernel_rfl) (by kernel_rfl) (by kernel_rfl) (by kernel_rfl) rfl rfl hf (by decide) rfl (fun w hp => ?_) ⟨_, hp⟩ ?_
          · obtain ⟨_, hp⟩ := hp
            refine st_move hf rfl rfl (by decide) ?_
            clear hf; intro a ha hf
            exact st_nil hf (th_n ⟨ha, rfl⟩)
          clear hf; intro a hf
          refine dr_out 15 rfl (by kernel_rfl) (by kernel_rfl) (by kernel_rfl) (by kernel_rfl) rfl hf (by decide) rfl (wantN hf rfl rfl hb240) ⟨_, hp⟩ ?_
          clear hf; intro a hf
          refine dr_out 16 rfl (by kernel_rfl) (by kernel_rfl) (by kernel_rfl) (by kernel_rfl) rfl hf (by decide) rfl (wantN hf rfl rfl hb240) ⟨_, hp⟩ ?_
          clear hf; intro a hf
          refine dr_out 17 rfl (by kernel_rfl) (by kernel_rfl) (by kernel_rfl) (by kernel_rfl) rfl hf (by decide) rfl (wantN hf rfl rfl hb240) ⟨_, hp⟩ ?_
          clear hf; intro a hf
          refine dr_out 18 rfl (by kernel_rfl) (by kernel_rfl) (by kernel_rfl) (by kernel_rfl) rfl hf (by decide) rfl (wantN hf rfl rfl hb240) ⟨_, hp⟩ ?_
          clear hf; intro a hf
          refine dr_out 19 rfl (by kernel_rfl) (by kernel_rfl) (by kernel_rfl) (by kernel_rfl) rfl hf (by decide) rfl (wantN hf rfl rfl hb240) ⟨_, hp⟩ ?_
          clear hf; intro a hf
          refine dr_out 20 rfl (by kernel_rfl) (by kernel_rfl) (by kernel_rfl) (by kernel_rfl) rfl hf (by decide) rfl (wantN hf rfl rfl hb240) ⟨_, hp⟩ ?_
          clear hf; intro a hf
          refine dr_out 21 rfl (by kernel_rfl) (by kernel_rfl) (by kernel_rfl) (by kernel_rfl) rfl hf (by decide) rfl (wantN hf rfl rfl hb240) ⟨_, hp⟩ ?_
          clear hf; intro a hf
          refine dr_out 22 rfl (by kernel_rfl) (by kernel_rfl) (by kernel_rfl) (by kernel_rfl) rfl hf (by decide) rfl (wantN hf rfl rfl hb240) ⟨_, hp⟩ ?_
          clear hf; intro a hf
          refine dr_out 23 rfl (by kernel_rfl) (by kernel_rfl) (by kernel_rfl) (by kernel_rfl) rfl hf (by decide) rfl (wantN hf rfl rfl hb240) ⟨_, hp⟩ ?_
          clear hf; intro a hf
          refine dr_out 24 rfl (by kernel_rfl) (by kernel_rfl) (by kernel_rfl) (by kernel_rfl) rfl hf (by decide) rfl (wantN hf rfl rfl hb240) ⟨_, hp⟩ ?_
          clear hf; intro a hf
          refine dr_out 25 rfl (by kernel_rfl) (by kernel_rfl) (by kernel_rfl) (by kernel_rfl) rfl hf (by decide) rfl (wantN hf rfl rfl hb240) ⟨_, hp⟩ ?_
          clear hf; intro a hf
          refine dr_take 26 (.bool z259) rfl (by kernel_rfl) (by kernel_rfl) (by kernel_rfl) (by kernel_rfl) rfl rfl hf (by decide) rfl (fun w hp => ?_) ⟨_, hp⟩ ?_
          · obtain ⟨_, hp⟩ := hp
            refine st_pick (v := .bool z259) hf rfl rfl (fun _ => by rw [← hz239]; rfl) (fun hb' => absurd (hb240.symm.trans hb') (by decide)) (by decide) ?_
            clear hf; intro a ha hf
            exact st_nil hf (th_n ⟨ha, rfl⟩)
          clear hf; intro a hf
          refine dr_end (by kernel_rfl) ?_ _
          have hp := bk212 _ _ hp
          have hp := bk207 _ _ hp
          have hp := bk202 _ _ hp
          have hp := bk197 _ _ hp
          exact ⟨hf.sub ⟨rfl, rfl, rfl, rfl, rfl, rfl, rfl, trivial⟩, hp⟩
        skip
        replace hz239 := ifF hz239 hb240
        obtain ⟨hc241, hz239⟩ := chk hz239
        obtain ⟨bb243, bb244, y245, y246, hl242⟩ := RdS.pinC (p := i31) rl213 hc241.1 hc241.2
        obtain ⟨q247, hcall248, hz239⟩ := bnd hz239
        obtain ⟨hc253, hz239⟩ := chk hz239
        obtain ⟨bb255, bb256, y257, y258, hl254⟩ := RdS.pinC (p := i31) rl216 hc253.1 hc253.2
        replace hz239 := Option.some.inj hz239
        refine dr_begin' (fun a w => Fr 220 a [(3, .int .i64 turn3), (23, v122), (25, v141), (27, v160), (29, v179), (31, .int .i64 i31), (219, .bool z259)] ∧ Hp S w0 w (Res.sl Ek.c128 39 v122 q105.1 :: Res.sl Ek.c128 39 v141 q124.1 :: Res.sl Ek.c128 39 v160 q143.1 :: Res.sl Ek.c128 39 v179 q162.1 :: ow)) (fun w' => ∃ l, Hp S208 w w' l) [] (by kernel_rfl) ?_
        refine dr_take 0 (v122) rfl (by kernel_rfl) (by kernel_rfl) (by kernel_rfl) (by kernel_rfl) rfl rfl hf (by decide) rfl (fun w hp => ?_) ⟨_, hp⟩ ?_
        · obtain ⟨_, hp⟩ := hp
          refine st_move hf rfl rfl (by decide) ?_
          clear hf; intro a ha hf
          exact st_nil hf (th_n ⟨ha, rfl⟩)
        clear hf; intro a hf
        refine dr_take 1 (.int .i64 i31) rfl (by kernel_rfl) (by kernel_rfl) (by kernel_rfl) (by kernel_rfl) rfl rfl hf (by decide) rfl (fun w hp => ?_) ⟨_, hp⟩ ?_
        · obtain ⟨_, hp⟩ := hp
          refine st_move hf rfl rfl (by decide) ?_
          clear hf; intro a ha hf
          exact st_nil hf (th_n ⟨ha, rfl⟩)
        clear hf; intro a hf
        refine dr_take 2 (eptr v122 i31 1) rfl (by kernel_rfl) (by kernel_rfl) (by kernel_rfl) (by kernel_rfl) rfl rfl hf (by decide) rfl (fun w hp => ?_) ⟨_, hp⟩ ?_
        · obtain ⟨_, hp⟩ := hp
          refine st_index (E := Ek.c128) hf (by decide) Try.underlying32 elt39 rfl rfl rfl (rl213.sl hp) hc217.1 hc217.2 ?_
          clear hf; intro a ha hf
          exact st_nil hf (th_n ⟨ha, rfl⟩)
        clear hf; intro a hf
        refine dr_take 3 (.complex .f64 bb219 bb220) rfl (by kernel_rfl) (by kernel_rfl) (by kernel_rfl) (by kernel_rfl) rfl rfl hf (by decide) rfl (fun w hp => ?_) ⟨_, hp⟩ ?_
        · obtain ⟨_, hp⟩ := hp
          refine st_ldP hf (by decide) pl39 rfl rfl (hl218 _ _ hp) ?_
          clear hf; intro a ha hf
          exact st_nil hf (th_n ⟨ha, rfl⟩)
        clear hf; intro a hf
        refine dr_take 4 (v141) rfl (by kernel_rfl) (by kernel_rfl) (by kernel_rfl) (by kernel_rfl) rfl rfl hf (by decide) rfl (fun w hp => ?_) ⟨_, hp⟩ ?_
        · obtain ⟨_, hp⟩ := hp
          refine st_move hf rfl rfl (by decide) ?_
          clear hf; intro a ha hf
          exact st_nil hf (th_n ⟨ha, rfl⟩)
        clear hf; intro a hf
        refine dr_take 5 (.int .i64 i31) rfl (by kernel_rfl) (by kernel_rfl) (by kernel_rfl) (by kernel_rfl) rfl rfl hf (by decide) rfl (fun w hp => ?_) ⟨_, hp⟩ ?_
        · obtain ⟨_, hp⟩ := hp
          refine st_move hf rfl rfl (by decide) ?_
          clear hf; intro a ha hf
          exact st_nil hf (th_n ⟨ha, rfl⟩)
        clear hf; intro a hf
        refine dr_take 6 (eptr v141 i31 1) rfl (by kernel_rfl) (by kernel_rfl) (by kernel_rfl) (by kernel_rfl) rfl rfl hf (by decide) rfl (fun w hp => ?_) ⟨_, hp⟩ ?_
        · obtain ⟨_, hp⟩ := hp
          refine st_index (E := Ek.c128) hf (by decide) Try.underlying32 elt39 rfl rfl rfl (rl214.sl hp) hc223.1 hc223.2 ?_
          clear hf; intro a ha hf
          exact st_nil hf (th_n ⟨ha, rfl⟩)
        clear hf; intro a hf
        refine dr_take 7 (.complex .f64 bb225 bb226) rfl (by kernel_rfl) (by kernel_rfl) (by kernel_rfl) (by kernel_rfl) rfl rfl hf (by decide) rfl (fun w hp => ?_) ⟨_, hp⟩ ?_
        · obtain ⟨_, hp⟩ := hp
          refine st_ldP hf (by decide) pl39 rfl rfl (hl224 _ _ hp) ?_
          clear hf; intro a ha hf
          exact st_nil hf (th_n ⟨ha, rfl⟩)
        clear hf; intro a hf
        refine dr_take 9 (v160) rfl (by kernel_rfl) (by kernel_rfl) (by kernel_rfl) (by kernel_rfl) rfl rfl hf (by decide) rfl (fun w hp => ?_) ⟨_, hp⟩ ?_
        · obtain ⟨_, hp⟩ := hp
          refine st_move hf rfl rfl (by decide) ?_
          clear hf; intro a ha hf
          exact st_nil hf (th_n ⟨ha, rfl⟩)
        clear hf; intro a hf
        refine dr_take 10 (.int .i64 i31) rfl (by kernel_rfl) (by kernel_rfl) (by kernel_rfl) (by kernel_rfl) rfl rfl hf (by decide) rfl (fun w hp => ?_) ⟨_, hp⟩ ?_
        · obtain ⟨_, hp⟩ := hp
          refine st_move hf rfl rfl (by decide) ?_
          clear hf; intro a ha hf
          exact st_nil hf (th_n ⟨ha, rfl⟩)
        clear hf; intro a hf
        refine dr_take 11 (eptr v160 i31 1) rfl (by kernel_rfl) (by kernel_rfl) (by kernel_rfl) (by kernel_rfl) rfl rfl hf (by decide) rfl (fun w hp => ?_) ⟨_, hp⟩ ?_
        · obtain ⟨_, hp⟩ := hp
          refine st_index (E := Ek.c128) hf (by decide) Try.underlying32 elt39 rfl rfl rfl (rl215.sl hp) hc233.1 hc233.2 ?_
          clear hf; intro a ha hf
          exact st_nil hf (th_n ⟨ha, rfl⟩)
        clear hf; intro a hf
        refine dr_take 12 (.complex .f64 bb235 bb236) rfl (by kernel_rfl) (by kernel_rfl) (by kernel_rfl) (by kernel_rfl) rfl rfl hf (by decide) rfl (fun w hp => ?_) ⟨_, hp⟩ ?_
        · obtain ⟨_, hp⟩ := hp
          refine st_ldP hf (by decide) pl39 rfl rfl (hl234 _ _ hp) ?_
          clear hf; intro a ha hf
          exact st_nil hf (th_n ⟨ha, rfl⟩)
        clear hf; intro a hf
        refine dr_one 8 rfl (by kernel_rfl) ?_
        refine st_carith (op := .add) (zx := (gt q105.1 i31)) (zy := (gt q124.1 i31)) rfl hf (by decide) hp rfl rfl rfl y221 y222 y227 y228 ?_
        clear hf; intro a w bb229 bb230 y231 y232 hf hp0; clear hp; have hp := hp0; clear hp0
        replace hp : Hp _ _ _ (ow) := hp
        refine st_nil hf (th_n ⟨fun _ _ => ⟨_, hp⟩, ?_⟩)
        refine dr_take 13 (.bool (!ceq (cadd (gt q105.1 i31) (gt q124.1 i31)) (gt q143.1 i31))) rfl (by kernel_rfl) (by kernel_rfl) (by kernel_rfl) (by kernel_rfl) rfl rfl hf (by decide) rfl (fun w hp => ?_) ⟨_, hp⟩ ?_
        · obtain ⟨_, hp⟩ := hp
          refine st_ccmp (r_cne (x := (cadd (gt q105.1 i31) (gt q124.1 i31))) (y := (gt q143.1 i31)) y231 y232 y237 y238) hf (by decide) rfl rfl rfl ?_
          clear hf; intro a ha hf
          exact st_nil hf (th_n ⟨ha, rfl⟩)
        clear hf; intro a hf
        refine dr_take 14 (.bool (!ceq (cadd (gt q105.1 i31) (gt q124.1 i31)) (gt q143.1 i31))) rfl (by kernel_rfl) (by kernel_rfl) (by kernel_rfl) (by kernel_rfl) rfl rfl hf (by decide) rfl (fun w hp => ?_) ⟨_, hp⟩ ?_
        · obtain ⟨_, hp⟩ := hp
          refine st_move hf rfl rfl (by decide) ?_
          clear hf; intro a ha hf
          exact st_nil hf (th_n ⟨ha, rfl⟩)
        clear hf; intro a hf
        refine dr_take 15 (v122) rfl (by kernel_rfl) (by kernel_rfl) (by kernel_rfl) (by kernel_rfl) rfl rfl hf (by decide) (wantY hf rfl rfl hb240) (fun w hp => ?_) ⟨_, hp⟩ ?_
        · obtain ⟨_, hp⟩ := hp
          refine st_move hf (wantY hf rfl rfl hb240) rfl (by decide) ?_
          clear hf; intro a ha hf
          exact st_nil hf (th_n ⟨ha, rfl⟩)
        clear hf; intro a hf
        refine dr_take 16 (.int .i64 i31) rfl (by kernel_rfl) (by kernel_rfl) (by kernel_rfl) (by kernel_rfl) rfl rfl hf (by decide) (wantY hf rfl rfl hb240) (fun w hp => ?_) ⟨_, hp⟩ ?_
        · obtain ⟨_, hp⟩ := hp
          refine st_move hf (wantY hf rfl rfl hb240) rfl (by decide) ?_
          clear hf; intro a ha hf
          exact st_nil hf (th_n ⟨ha, rfl⟩)
        clear hf; intro a hf
        refine dr_take 17 (eptr v122 i31 1) rfl (by kernel_rfl) (by kernel_rfl) (by kernel_rfl) (by kernel_rfl) rfl rfl hf (by decide) (wantY hf rfl rfl hb240) (fun w hp => ?_) ⟨_, hp⟩ ?_
        · obtain ⟨_, hp⟩ := hp
          refine st_index (E := Ek.c128) hf (by decide) Try.underlying32 elt39 (wantY hf rfl rfl hb240) rfl rfl (rl213.sl hp) hc241.1 hc241.2 ?_
          clear hf; intro a ha hf
          exact st_nil hf (th_n ⟨ha, rfl⟩)
        clear hf; intro a hf
        refine dr_take 18 (.complex .f64 bb243 bb244) rfl (by kernel_rfl) (by kernel_rfl) (by kernel_rfl) (by kernel_rfl) rfl rfl hf (by decide) (wantY hf rfl rfl hb240) (fun w hp => ?_) ⟨_, hp⟩ ?_
        · obtain ⟨_, hp⟩ := hp
          refine st_ldP hf (by decide) pl39 (wantY hf rfl rfl hb240) rfl (hl242 _ _ hp) ?_
          clear hf; intro a ha hf
          exact st_nil hf (th_n ⟨ha, rfl⟩)
        clear hf; intro a hf
        refine dr_take 19 (.int .i64 turn3) rfl (by kernel_rfl) (by kernel_rfl) (by kernel_rfl) (by kernel_rfl) rfl rfl hf (by decide) (wantY hf rfl rfl hb240) (fun w hp => ?_) ⟨_, hp⟩ ?_
        · obtain ⟨_, hp⟩ := hp
          refine st_move hf (wantY hf rfl rfl hb240) rfl (by decide) ?_
          clear hf; intro a ha hf
          exact st_nil hf (th_n ⟨ha, rfl⟩)
        clear hf; intro a hf
        refine dr_take 21 (v179) rfl (by kernel_rfl) (by kernel_rfl) (by kernel_rfl) (by kernel_rfl) rfl rfl hf (by decide) (wantY hf rfl rfl hb240) (fun w hp => ?_) ⟨_, hp⟩ ?_
        · obtain ⟨_, hp⟩ := hp
          refine st_move hf (wantY hf rfl rfl hb240) rfl (by decide) ?_
          clear hf; intro a ha hf
          exact st_nil hf (th_n ⟨ha, rfl⟩)
        clear hf; intro a hf
        refine dr_take 22 (.int .i64 i31) rfl (by kernel_rfl) (by kernel_rfl) (by kernel_rfl) (by kernel_rfl) rfl rfl hf (by decide) (wantY hf rfl rfl hb240) (fun w hp => ?_) ⟨_, hp⟩ ?_
        · obtain ⟨_, hp⟩ := hp
          refine st_move hf (wantY hf rfl rfl hb240) rfl (by decide) ?_
          clear hf; intro a ha hf
          exact st_nil hf (th_n ⟨ha, rfl⟩)
        clear hf; intro a hf
        refine dr_take 23 (eptr v179 i31 1) rfl (by kernel_rfl) (by kernel_rfl) (by kernel_rfl) (by kernel_rfl) rfl rfl hf (by decide) (wantY hf rfl rfl hb240) (fun w hp => ?_) ⟨_, hp⟩ ?_
        · obtain ⟨_, hp⟩ := hp
          refine st_index (E := Ek.c128) hf (by decide) Try.underlying32 elt39 (wantY hf rfl rfl hb240) rfl rfl (rl216.sl hp) hc253.1 hc253.2 ?_
          clear hf; intro a ha hf
          exact st_nil hf (th_n ⟨ha, rfl⟩)
        clear hf; intro a hf
        refine dr_take 24 (.complex .f64 bb255 bb256) rfl (by kernel_rfl) (by kernel_rfl) (by kernel_rfl) (by kernel_rfl) rfl rfl hf (by decide) (wantY hf rfl rfl hb240) (fun w hp => ?_) ⟨_, hp⟩ ?_
        · obtain ⟨_, hp⟩ := hp
          refine st_ldP hf (by decide) pl39 (wantY hf rfl rfl hb240) rfl (hl254 _ _ hp) ?_
          clear hf; intro a ha hf
          exact st_nil hf (th_n ⟨ha, rfl⟩)
        clear hf; intro a hf
        refine dr_one 20 rfl (by kernel_rfl) ?_
        refine st_call hf (by decide) Try.func7 rfl rfl (wantY hf rfl rfl hb240) rfl rfl (f_foghorntop_quarter_c hp _ _ _ (show Fl.rep bb243 ((gt q105.1 i31)).1 from y245) (show Fl.rep bb244 ((gt q105.1 i31)).2 from y246) _ hcall248) ?_
        rintro _ w ⟨v249, v250, rfl, y251, y252, hp0⟩
        clear hp; have hp := hp0; clear hp0
        replace hp : Hp _ _ _ (ow) := hp
        refine ⟨_, rfl, ?_⟩
        clear hf; intro a hf
        refine st_nil hf (th_n ⟨fun _ _ => ⟨_, hp⟩, ?_⟩)
        refine dr_take 25 (.bool (!ceq q247 (gt q162.1 i31))) rfl (by kernel_rfl) (by kernel_rfl) (by kernel_rfl) (by kernel_rfl) rfl rfl hf (by decide) (wantY hf rfl rfl hb240) (fun w hp => ?_) ⟨_, hp⟩ ?_
        · obtain ⟨_, hp⟩ := hp
          refine st_ccmp (r_cne (x := q247) (y := (gt q162.1 i31)) y251 y252 y257 y258) hf (by decide) (wantY hf rfl rfl hb240) rfl rfl ?_
          clear hf; intro a ha hf
          exact st_nil hf (th_n ⟨ha, rfl⟩)
        clear hf; intro a hf
        refine dr_take 26 (.bool z259) rfl (by kernel_rfl) (by kernel_rfl) (by kernel_rfl) (by kernel_rfl) rfl rfl hf (by decide) rfl (fun w hp => ?_) ⟨_, hp⟩ ?_
        · obtain ⟨_, hp⟩ := hp
          refine st_pick (v := .bool z259) hf rfl rfl (fun hb' => absurd (hb240.symm.trans hb') (by decide)) (fun _ => by rw [← hz239]; rfl) (by decide) ?_
          clear hf; intro a ha hf
          exact st_nil hf (th_n ⟨ha, rfl⟩)
        clear hf; intro a hf
        refine dr_end (by kernel_rfl) ?_ _
        have hp := bk212 _ _ hp
        have hp := bk207 _ _ hp
        have hp := bk202 _ _ hp
        have hp := bk197 _ _ hp
        exact ⟨hf.sub ⟨rfl, rfl, rfl, rfl, rfl, rfl, rfl, trivial⟩, hp⟩
      rintro a w ⟨hf, hp⟩
      refine th_n ?_
      refine wp_if hf rfl (fun hb => ?_) (fun hb => ?_)
      · replace h := ifT h hb
        refine wp_seq ?_
        refine wp_reg ?_
        refine st_assign hf rfl rfl (by decide) ?_
        clear hf; intro a ha hf; clear ha
        refine st_nil hf ?_
        refine th_n ?_
        refine wp_ret ?_
        refine ib_r ?_
        refine th_r ?_
        obtain rfl := Option.some.inj h
        have hp : Hp _ _ _ (ow) := Hp.sel (pre := [Res.sl Ek.c128 39 v122 q105.1, Res.sl Ek.c128 39 v141 q124.1, Res.sl Ek.c128 39 v160 q143.1, Res.sl Ek.c128 39 v179 q162.1]) (tail := ow) (rs' := []) hp [] (by decide) (by simp) rfl
        exact rnd_r (by simp) ⟨rfl, ⟨hf.sub ⟨rfl, trivial⟩, hp⟩⟩
      replace h := ifF h hb
      refine wp_skip ?_
      refine ib_n ?_
      refine th_n ?_
      refine wp_reg ?_
      refine st_move hf rfl rfl (by decide) ?_
      clear hf; intro a ha hf; clear ha
      refine st_iadd hf (by decide) rfl rfl rfl ?_
      clear hf; intro a ha hf; clear ha
      refine st_assign hf rfl rfl (by decide) ?_
      clear hf; intro a ha hf; clear ha
      refine st_nil hf ?_
      obtain rfl := Option.some.inj h
      exact rnd_l ⟨hf.sub ⟨rfl, rfl, rfl, rfl, rfl, rfl, trivial⟩, hp⟩
    replace h := ifF h hb
    refine wp_exit ?_
    refine th_e ?_
    obtain rfl := Option.some.inj h
    have hp : Hp _ _ _ (ow) := Hp.sel (pre := [Res.sl Ek.c128 39 v122 q105.1, Res.sl Ek.c128 39 v141 q124.1, Res.sl Ek.c128 39 v160 q143.1, Res.sl Ek.c128 39 v179 q162.1]) (tail := ow) (rs' := []) hp [] (by decide) (by simp) rfl
    exact rnd_r (by simp) ⟨rfl, hf.sub trivial, hp⟩
  clear hl hf hp
  intro e a w hne hO
  rcases q260 with q261 | q262
  · replace h := smL h
    obtain ⟨rfl, hf, hp⟩ := hO
    refine ib_same ?_
    refine th_n ?_
    refine wp_seq ?_
    refine wp_reg ?_
    refine st_assign hf rfl rfl (by decide) ?_
    clear hf; intro a ha hf; clear ha
    refine st_nil hf ?_
    refine th_n ?_
    refine wp_ret ?_
    obtain rfl := Option.some.inj h
    exact ⟨rfl, ⟨hf.sub ⟨rfl, trivial⟩, hp⟩⟩
  replace h := smR h
  obtain ⟨rfl, hf, hp⟩ := hO
  refine ib_r ?_
  refine th_r ?_
  obtain rfl := Option.some.inj h
  exact ⟨rfl, ⟨hf.sub ⟨rfl, trivial⟩, hp⟩⟩

end Go.Proofs.Ytgdhjjdgghilhaa
