/- The functions foghorn foghornlaw03.PlaneRows: what each answers, as a plain function, and that its call answers it; printed by gen.py. -/
import Derived.Test.YteifkccomfdciaaProg
import Derived.Test.YteifkccomfdciaaGlY
import Derived.KernelRfl
import Derived.Test.YteifkccomfdciaaG4p1
set_option linter.unusedVariables false
set_option linter.unusedSimpArgs false
set_option maxRecDepth 100000
set_option maxHeartbeats 4000000
namespace Go.Proofs.Yteifkccomfdciaa
open GL
noncomputable def f_foghornlaw03_PlaneRows.s1c (q5 : (List (Fl × Fl))) (r8 : (List (Fl × Fl))) (turned9 : (List (Fl × Fl))) (i10 : Int) : Option (((List (Fl × Fl)) × (List (Fl × Fl)) × Int) ⊕ (((List (Fl × Fl)) × (List (Fl × Fl))) ⊕ Bool)) := (if (decide (i10 < (q5.length : Int))) = true then (if 0 ≤ i10 ∧ i10 < (r8.length : Int) then (if 0 ≤ i10 ∧ i10 < (q5.length : Int) then ((f_foghornref03_Same (gt r8 i10) (gt q5 i10) true).bind fun q112 => (if (!q112) = true then (some (Sum.inr (Sum.inr false))) else (if 0 ≤ i10 ∧ i10 < (q5.length : Int) then (if 0 ≤ i10 ∧ i10 < (turned9.length : Int) then (if 0 ≤ i10 ∧ i10 < ((turned9.set (i10).toNat ((gt q5 i10).2, (Fl.bits 4607182418800017408))).length : Int) then (if 0 ≤ i10 ∧ i10 < (r8.length : Int) then (some (Sum.inl ((r8.set (i10).toNat (gt (turned9.set (i10).toNat ((gt q5 i10).2, (Fl.bits 4607182418800017408))) i10)), (turned9.set (i10).toNat ((gt q5 i10).2, (Fl.bits 4607182418800017408))), (IntKind.i64.wrap (i10 + (1 : Int)))))) else none) else none) else none) else none))) else none) else none) else (some (Sum.inr (Sum.inl (r8, turned9)))))
noncomputable def f_foghornlaw03_PlaneRows.s1 (q5 : (List (Fl × Fl))) (s : ((List (Fl × Fl)) × (List (Fl × Fl)) × Int)) : Option (((List (Fl × Fl)) × (List (Fl × Fl)) × Int) ⊕ (((List (Fl × Fl)) × (List (Fl × Fl))) ⊕ Bool)) := f_foghornlaw03_PlaneRows.s1c q5 s.1 s.2.1 s.2.2
noncomputable def f_foghornlaw03_PlaneRows.s2c (q1 : (List (Fl × Fl))) (i11 : Int) : Option (Int ⊕ (Unit ⊕ Bool)) := (if (decide (i11 < (q1.length : Int))) = true then (if 0 ≤ i11 ∧ i11 < (((([] : List (Fl × Fl)) ++ q1) ++ [(Fl.bits 0, Fl.bits 4619567317775286272)]).length : Int) then (if 0 ≤ i11 ∧ i11 < (q1.length : Int) then ((f_foghornref03_Same (gt ((([] : List (Fl × Fl)) ++ q1) ++ [(Fl.bits 0, Fl.bits 4619567317775286272)]) i11) (gt q1 i11) true).bind fun q153 => (if (!q153) = true then (some (Sum.inr (Sum.inr false))) else (some (Sum.inl (IntKind.i64.wrap (i11 + (1 : Int))))))) else none) else none) else (some (Sum.inr (Sum.inl ()))))
noncomputable def f_foghornlaw03_PlaneRows.s2 (q1 : (List (Fl × Fl))) (s : Int) : Option (Int ⊕ (Unit ⊕ Bool)) := f_foghornlaw03_PlaneRows.s2c q1 s
noncomputable def f_foghornlaw03_PlaneRows (taps0 : (List (Fl × Fl))) (list1 : (List (Fl × Fl))) : Option Bool := ((f_foghornlaw03_many taps0).bind fun q1 => ((f_foghornlaw03_many list1).bind fun q5 => (if (([] : List (Fl × Fl)).length + q1.length) * 16 ≤ 140737488355328 then (if ((([] : List (Fl × Fl)) ++ q1).length + ([(Fl.bits 0, Fl.bits 4619567317775286272)]).length) * 16 ≤ 140737488355328 then (if (([] : List (Fl × Fl)).length + q5.length) * 16 ≤ 140737488355328 then (if ((([] : List (Fl × Fl)) ++ q5).length + ([(Fl.bits 0, Fl.bits 4621256167635550208)]).length) * 16 ≤ 140737488355328 then (if 0 ≤ (q1.length : Int) ∧ (q1.length : Int) ≤ (((([] : List (Fl × Fl)) ++ q1) ++ [(Fl.bits 0, Fl.bits 4619567317775286272)]).length : Int) then (if 0 ≤ (q5.length : Int) ∧ (q5.length : Int) ≤ (((([] : List (Fl × Fl)) ++ q5) ++ [(Fl.bits 0, Fl.bits 4621256167635550208)]).length : Int) then ((f_foghornlaw03_rows ((((([] : List (Fl × Fl)) ++ q1) ++ [(Fl.bits 0, Fl.bits 4619567317775286272)]).drop 0).take (((q1.length : Int)).toNat - 0)) ((((([] : List (Fl × Fl)) ++ q5) ++ [(Fl.bits 0, Fl.bits 4621256167635550208)]).drop 0).take (((q5.length : Int)).toNat - 0)) q1 q5).bind fun q57 => ((if (!q57) = true then (some true) else (if 0 ≤ (q1.length : Int) ∧ (q1.length : Int) < (((([] : List (Fl × Fl)) ++ q1) ++ [(Fl.bits 0, Fl.bits 4619567317775286272)]).length : Int) then (some (!ceq (gt ((([] : List (Fl × Fl)) ++ q1) ++ [(Fl.bits 0, Fl.bits 4619567317775286272)]) (q1.length : Int)) (Fl.bits 0, Fl.bits 4619567317775286272))) else none)).bind fun z67 => ((if z67 = true then (some true) else (if 0 ≤ (q5.length : Int) ∧ (q5.length : Int) < (((([] : List (Fl × Fl)) ++ q5) ++ [(Fl.bits 0, Fl.bits 4621256167635550208)]).length : Int) then (some (!ceq (gt ((([] : List (Fl × Fl)) ++ q5) ++ [(Fl.bits 0, Fl.bits 4621256167635550208)]) (q5.length : Int)) (Fl.bits 0, Fl.bits 4621256167635550208))) else none)).bind fun z76 => (if z76 = true then (some false) else (if 0 ≤ (q5.length : Int) ∧ (q5.length : Int) ≤ (q5.length : Int) ∧ (q5.length : Int) * 16 ≤ 281474976710656 then ((loop (f_foghornlaw03_PlaneRows.s1 q5) (((([] : List (Fl × Fl)) ++ q5) ++ [(Fl.bits 0, Fl.bits 4621256167635550208)]), (List.replicate ((q5.length : Int)).toNat (Fl.bits 0, Fl.bits 0)), (0 : Int))).bind (fun q126 => sm q126 (fun q127 => ((loop (f_foghornlaw03_PlaneRows.s2 q1) (0 : Int)).bind (fun q155 => sm q155 (fun q156 => (if 0 ≤ (q1.length : Int) ∧ (q1.length : Int) ≤ (((([] : List (Fl × Fl)) ++ q1) ++ [(Fl.bits 0, Fl.bits 4619567317775286272)]).length : Int) then (if 0 ≤ (q5.length : Int) ∧ (q5.length : Int) ≤ (q127.1.length : Int) then ((f_foghornlaw03_rows ((((([] : List (Fl × Fl)) ++ q1) ++ [(Fl.bits 0, Fl.bits 4619567317775286272)]).drop 0).take (((q1.length : Int)).toNat - 0)) ((q127.1.drop 0).take (((q5.length : Int)).toNat - 0)) q1 q127.2).bind fun q188 => ((if q188 = true then ((f_foghornlaw03_awake).bind fun q197 => (some q197)) else (some false)).bind fun z199 => (some z199))) else none) else none)) (fun q157 => (some q157))))) (fun q128 => (some q128)))) else none))))) else none) else none) else none) else none) else none) else none)))
theorem f_foghornlaw03_PlaneRows_c {S : Nat → Prop} {w0 w : World} {ow : List Res} (hp : Hp S w0 w ow) (vtaps0 : Value) (taps0 : (List (Fl × Fl))) (htaps0 : RdS (Ek.pair Ek.f64 Ek.f64) S w0 vtaps0 taps0) (vlist1 : Value) (list1 : (List (Fl × Fl))) (hlist1 : RdS (Ek.pair Ek.f64 Ek.f64) S w0 vlist1 list1) {r : Bool} (h : f_foghornlaw03_PlaneRows taps0 list1 = some r) :
    Calls Try.prog 6 #[vtaps0, vlist1] w (fun e w' => e = .returned (.bool r) ∧ Hp S w0 w' (ow)) := by
  unfold f_foghornlaw03_PlaneRows at h
  refine enter (n := 119) (args := [vtaps0, vlist1]) Try.func6 rfl rfl (Nat.le_of_ble_eq_true rfl) fun a hf => ?_
  replace hf : Fr 119 a [(0, vtaps0), (1, vlist1)] := hf
  refine wp_mono (Q := fun e a w => e = .ret ∧ Fr 119 a [(4, .bool r)] ∧ Hp S w0 w (ow)) ?_ ?_
  rotate_left
  · rintro e a w ⟨rfl, hf, hp⟩
    exact ret1 hf rfl rfl ⟨rfl, hp⟩
  refine wp_seq ?_
  refine wp_reg ?_
  refine st_assign hf rfl rfl (by decide) ?_
  clear hf; intro a ha hf; clear ha
  refine st_nil hf ?_
  refine th_n ?_
  refine wp_seq ?_
  refine wp_reg ?_
  refine st_move hf rfl rfl (by decide) ?_
  clear hf; intro a ha hf; clear ha
  obtain ⟨q1, hcall2, h⟩ := bnd h
  refine st_call hf (by decide) Try.func29 rfl rfl rfl rfl rfl (f_foghornlaw03_many_c hp _ _ htaps0 hcall2) ?_
  rintro _ w ⟨v3, rfl, hp0⟩
  clear hp; have hp := hp0; clear hp0
  replace hp : Hp _ _ _ (Res.sl Ek.c128 24 v3 q1 :: ow) := hp
  refine ⟨_, rfl, ?_⟩
  clear hf; intro a hf
  refine st_assign hf rfl rfl (by decide) ?_
  clear hf; intro a ha hf; clear ha
  refine st_nil hf ?_
  refine th_n ?_
  refine wp_seq ?_
  refine wp_reg ?_
  refine st_move hf rfl rfl (by decide) ?_
  clear hf; intro a ha hf; clear ha
  obtain ⟨q5, hcall6, h⟩ := bnd h
  refine st_call hf (by decide) Try.func29 rfl rfl rfl rfl rfl (f_foghornlaw03_many_c hp _ _ hlist1 hcall6) ?_
  rintro _ w ⟨v7, rfl, hp0⟩
  clear hp; have hp := hp0; clear hp0
  replace hp : Hp _ _ _ (Res.sl Ek.c128 24 v7 q5 :: Res.sl Ek.c128 24 v3 q1 :: ow) := hp
  refine ⟨_, rfl, ?_⟩
  clear hf; intro a hf
  refine st_assign hf rfl rfl (by decide) ?_
  clear hf; intro a ha hf; clear ha
  refine st_nil hf ?_
  refine th_n ?_
  refine wp_seq ?_
  refine wp_reg ?_
  refine st_build0 (E := Ek.c128) hf (by decide) elt24 Try.underlying41 hp rfl ?_
  clear hf; intro a w v9 hf hp0; clear hp; have hp := hp0; clear hp0
  replace hp : Hp _ _ _ (Res.sl Ek.c128 24 v9 ([] : List (Fl × Fl)) :: Res.sl Ek.c128 24 v7 q5 :: Res.sl Ek.c128 24 v3 q1 :: ow) := hp
  refine st_move hf rfl rfl (by decide) ?_
  clear hf; intro a ha hf; clear ha
  obtain ⟨hc11, h⟩ := chk h
  refine st_append (E := Ek.c128) hf (by decide) elt24 Try.underlying41 (by decide) hp (i := 0) rfl rfl rfl rfl (hp.sl (i := 2) rfl) hc11 ?_
  clear hf; intro a w v12 hf hp0; clear hp; have hp := hp0; clear hp0
  replace hp : Hp _ _ _ (Res.sl Ek.c128 24 v12 (([] : List (Fl × Fl)) ++ q1) :: Res.sl Ek.c128 24 v7 q5 :: Res.sl Ek.c128 24 v3 q1 :: ow) := hp
  refine st_build (E := Ek.c128) (xs := [(Fl.bits 0, Fl.bits 4619567317775286272)]) hf (by decide) elt24 Try.underlying41 hp (vals := #[(0, .complex .f64 0 4619567317775286272)]) (cells := #[.complex .f64 0 4619567317775286272]) rfl (by simp [hf.ev (x := (Operand.const (.complex .f64 0 4619567317775286272))) rfl]) (by decide) (by decide) (z := .complex .f64 0 0) (by kernel_rfl) (by kernel_rfl) rfl (reps_cons (cs := [.complex .f64 0 4619567317775286272]) (show Ek.c128.rep [.complex .f64 0 4619567317775286272] (Fl.bits 0, Fl.bits 4619567317775286272) from ⟨_, _, rfl, rfl, rfl⟩) (reps_nil _)) ?_
  clear hf; intro a w v13 hf hp0; clear hp; have hp := hp0; clear hp0
  replace hp : Hp _ _ _ (Res.sl Ek.c128 24 v13 ([(Fl.bits 0, Fl.bits 4619567317775286272)]) :: Res.sl Ek.c128 24 v12 (([] : List (Fl × Fl)) ++ q1) :: Res.sl Ek.c128 24 v7 q5 :: Res.sl Ek.c128 24 v3 q1 :: ow) := hp
  obtain ⟨hc15, h⟩ := chk h
  refine st_append (E := Ek.c128) hf (by decide) elt24 Try.underlying41 (by decide) hp (i := 1) rfl rfl rfl rfl (hp.sl (i := 0) rfl) hc15 ?_
  clear hf; intro a w v16 hf hp0; clear hp; have hp := hp0; clear hp0
  replace hp : Hp _ _ _ (Res.sl Ek.c128 24 v13 ([(Fl.bits 0, Fl.bits 4619567317775286272)]) :: Res.sl Ek.c128 24 v16 ((([] : List (Fl × Fl)) ++ q1) ++ [(Fl.bits 0, Fl.bits 4619567317775286272)]) :: Res.sl Ek.c128 24 v7 q5 :: Res.sl Ek.c128 24 v3 q1 :: ow) := hp
  refine st_assign hf rfl rfl (by decide) ?_
  clear hf; intro a ha hf; clear ha
  refine st_nil hf ?_
  refine th_n ?_
  refine wp_seq ?_
  refine wp_reg ?_
  refine st_build0 (E := Ek.c128) hf (by decide) elt24 Try.underlying41 hp rfl ?_
  clear hf; intro a w v17 hf hp0; clear hp; have hp := hp0; clear hp0
  replace hp : Hp _ _ _ (Res.sl Ek.c128 24 v17 ([] : List (Fl × Fl)) :: Res.sl Ek.c128 24 v13 ([(Fl.bits 0, Fl.bits 4619567317775286272)]) :: Res.sl Ek.c128 24 v16 ((([] : List (Fl × Fl)) ++ q1) ++ [(Fl.bits 0, Fl.bits 4619567317775286272)]) :: Res.sl Ek.c128 24 v7 q5 :: Res.sl Ek.c128 24 v3 q1 :: ow) := hp
  refine st_move hf rfl rfl (by decide) ?_
  clear hf; intro a ha hf; clear ha
  obtain ⟨hc19, h⟩ := chk h
  refine st_append (E := Ek.c128) hf (by decide) elt24 Try.underlying41 (by decide) hp (i := 0) rfl rfl rfl rfl (hp.sl (i := 3) rfl) hc19 ?_
  clear hf; intro a w v20 hf hp0; clear hp; have hp := hp0; clear hp0
  replace hp : Hp _ _ _ (Res.sl Ek.c128 24 v20 (([] : List (Fl × Fl)) ++ q5) :: Res.sl Ek.c128 24 v13 ([(Fl.bits 0, Fl.bits 4619567317775286272)]) :: Res.sl Ek.c128 24 v16 ((([] : List (Fl × Fl)) ++ q1) ++ [(Fl.bits 0, Fl.bits 4619567317775286272)]) :: Res.sl Ek.c128 24 v7 q5 :: Res.sl Ek.c128 24 v3 q1 :: ow) := hp
  refine st_build (E := Ek.c128) (xs := [(Fl.bits 0, Fl.bits 4621256167635550208)]) hf (by decide) elt24 Try.underlying41 hp (vals := #[(0, .complex .f64 0 4621256167635550208)]) (cells := #[.complex .f64 0 4621256167635550208]) rfl (by simp [hf.ev (x := (Operand.const (.complex .f64 0 4621256167635550208))) rfl]) (by decide) (by decide) (z := .complex .f64 0 0) (by kernel_rfl) (by kernel_rfl) rfl (reps_cons (cs := [.complex .f64 0 4621256167635550208]) (show Ek.c128.rep [.complex .f64 0 4621256167635550208] (Fl.bits 0, Fl.bits 4621256167635550208) from ⟨_, _, rfl, rfl, rfl⟩) (reps_nil _)) ?_
  clear hf; intro a w v21 hf hp0; clear hp; have hp := hp0; clear hp0
  replace hp : Hp _ _ _ (Res.sl Ek.c128 24 v21 ([(Fl.bits 0, Fl.bits 4621256167635550208)]) :: Res.sl Ek.c128 24 v20 (([] : List (Fl × Fl)) ++ q5) :: Res.sl Ek.c128 24 v13 ([(Fl.bits 0, Fl.bits 4619567317775286272)]) :: Res.sl Ek.c128 24 v16 ((([] : List (Fl × Fl)) ++ q1) ++ [(Fl.bits 0, Fl.bits 4619567317775286272)]) :: Res.sl Ek.c128 24 v7 q5 :: Res.sl Ek.c128 24 v3 q1 :: ow) := hp
  obtain ⟨hc23, h⟩ := chk h
  refine st_append (E := Ek.c128) hf (by decide) elt24 Try.underlying41 (by decide) hp (i := 1) rfl rfl rfl rfl (hp.sl (i := 0) rfl) hc23 ?_
  clear hf; intro a w v24 hf hp0; clear hp; have hp := hp0; clear hp0
  replace hp : Hp _ _ _ (Res.sl Ek.c128 24 v21 ([(Fl.bits 0, Fl.bits 4621256167635550208)]) :: Res.sl Ek.c128 24 v24 ((([] : List (Fl × Fl)) ++ q5) ++ [(Fl.bits 0, Fl.bits 4621256167635550208)]) :: Res.sl Ek.c128 24 v13 ([(Fl.bits 0, Fl.bits 4619567317775286272)]) :: Res.sl Ek.c128 24 v16 ((([] : List (Fl × Fl)) ++ q1) ++ [(Fl.bits 0, Fl.bits 4619567317775286272)]) :: Res.sl Ek.c128 24 v7 q5 :: Res.sl Ek.c128 24 v3 q1 :: ow) := hp
  refine st_assign hf rfl rfl (by decide) ?_
  clear hf; intro a ha hf; clear ha
  refine st_nil hf ?_
  refine th_n ?_
  refine wp_seq ?_
  refine wp_seq ?_
  obtain ⟨S25, hp26, rd27, up28, bk29⟩ := Hp.lendS hp (i := 5) rfl
  obtain ⟨S30, hp31, rd32, up33, bk34⟩ := Hp.lendS hp26 (i := 3) rfl
  obtain ⟨S35, hp36, rd37, up38, bk39⟩ := Hp.lendS hp31 (i := 3) rfl
  obtain ⟨S40, hp41, rd42, up43, bk44⟩ := Hp.lendS hp36 (i := 1) rfl
  have rl45 := ((((((((htaps0.now hp).mono up28).now hp26).mono up33).now hp31).mono up38).now hp36).mono up43)
  have rl46 := ((((((((hlist1.now hp).mono up28).now hp26).mono up33).now hp31).mono up38).now hp36).mono up43)
  have rl47 := ((((((rd27.now hp26).mono up33).now hp31).mono up38).now hp36).mono up43)
  have rl48 := ((rd37.now hp36).mono up43)
  have rl49 := ((((rd32.now hp31).mono up38).now hp36).mono up43)
  have rl50 := rd42
  obtain ⟨hc51, h⟩ := chk h
  have hc52 : 0 ≤ ((q1.length : Int)).toNat := by omega
  have hc53 : ((q1.length : Int)).toNat ≤ ((([] : List (Fl × Fl)) ++ q1) ++ [(Fl.bits 0, Fl.bits 4619567317775286272)]).length := by omega
  obtain ⟨hc54, h⟩ := chk h
  have hc55 : 0 ≤ ((q5.length : Int)).toNat := by omega
  have hc56 : ((q5.length : Int)).toNat ≤ ((([] : List (Fl × Fl)) ++ q5) ++ [(Fl.bits 0, Fl.bits 4621256167635550208)]).length := by omega
  obtain ⟨q57, hcall58, h⟩ := bnd h
  obtain ⟨z67, hz59, h⟩ := bnd h
  obtain ⟨z76, hz68, h⟩ := bnd h
  refine wp_cutN (fun a w => Fr 119 a [(5, v3), (6, v7), (7, v16), (8, v24), (53, .bool z76)] ∧ Hp S w0 w (Res.sl Ek.c128 24 v3 q1 :: Res.sl Ek.c128 24 v16 ((([] : List (Fl × Fl)) ++ q1) ++ [(Fl.bits 0, Fl.bits 4619567317775286272)]) :: Res.sl Ek.c128 24 v7 q5 :: Res.sl Ek.c128 24 v24 ((([] : List (Fl × Fl)) ++ q5) ++ [(Fl.bits 0, Fl.bits 4621256167635550208)]) :: Res.sl Ek.c128 24 v21 ([(Fl.bits 0, Fl.bits 4621256167635550208)]) :: Res.sl Ek.c128 24 v13 ([(Fl.bits 0, Fl.bits 4619567317775286272)]) :: ow)) ?_ ?_
  · have hp := hp41.same (Same.drew w)
    rcases Bool.eq_false_or_eq_true (!q57) with hb60 | hb60
    · skip
      replace hz59 := ifT hz59 hb60
      replace hz59 := Option.some.inj hz59
      have hb69 : z67 = true := hz59.symm
      skip
      replace hz68 := ifT hz68 hb69
      replace hz68 := Option.some.inj hz68
      refine dr_begin' (fun a w => Fr 119 a [(5, v3), (6, v7), (7, v16), (8, v24), (53, .bool z76)] ∧ Hp S w0 w (Res.sl Ek.c128 24 v3 q1 :: Res.sl Ek.c128 24 v16 ((([] : List (Fl × Fl)) ++ q1) ++ [(Fl.bits 0, Fl.bits 4619567317775286272)]) :: Res.sl Ek.c128 24 v7 q5 :: Res.sl Ek.c128 24 v24 ((([] : List (Fl × Fl)) ++ q5) ++ [(Fl.bits 0, Fl.bits 4621256167635550208)]) :: Res.sl Ek.c128 24 v21 ([(Fl.bits 0, Fl.bits 4621256167635550208)]) :: Res.sl Ek.c128 24 v13 ([(Fl.bits 0, Fl.bits 4619567317775286272)]) :: ow)) (fun w' => ∃ l, Hp S40 w w' l) [] (by kernel_rfl) ?_
      refine dr_take 0 (v16) rfl (by kernel_rfl) (by kernel_rfl) (by kernel_rfl) (by kernel_rfl) rfl rfl hf (by decide) rfl (fun w hp => ?_) ⟨_, hp⟩ ?_
      · obtain ⟨_, hp⟩ := hp
        refine st_move hf rfl rfl (by decide) ?_
        clear hf; intro a ha hf
        exact st_nil hf (th_n ⟨ha, rfl⟩)
      clear hf; intro a hf
      refine dr_take 1 (v3) rfl (by kernel_rfl) (by kernel_rfl) (by kernel_rfl) (by kernel_rfl) rfl rfl hf (by decide) rfl (fun w hp => ?_) ⟨_, hp⟩ ?_
      · obtain ⟨_, hp⟩ := hp
        refine st_move hf rfl rfl (by decide) ?_
        clear hf; intro a ha hf
        exact st_nil hf (th_n ⟨ha, rfl⟩)
      clear hf; intro a hf
      refine dr_take 2 (.int .i64 (q1.length : Int)) rfl (by kernel_rfl) (by kernel_rfl) (by kernel_rfl) (by kernel_rfl) rfl rfl hf (by decide) rfl (fun w hp => ?_) ⟨_, hp⟩ ?_
      · obtain ⟨_, hp⟩ := hp
        refine st_len (E := Ek.c128) hf (by decide) Try.underlying41 rfl rfl (rl47.sl hp) ?_
        clear hf; intro a ha hf
        exact st_nil hf (th_n ⟨ha, rfl⟩)
      clear hf; intro a hf
      refine dr_take 3 ((GL.cut v16 0 (((q1.length : Int)).toNat) 1)) rfl (by kernel_rfl) (by kernel_rfl) (by kernel_rfl) (by kernel_rfl) rfl rfl hf (by decide) rfl (fun w hp => ?_) ⟨_, hp⟩ ?_
      · obtain ⟨_, hp⟩ := hp
        refine st_cutS (E := Ek.c128) hf (by decide) Try.underlying41 elt24 rfl rfl (rl49.sl hp) (.inl ⟨rfl, rfl⟩) (.inr ⟨_, _, rfl, evI rfl (by omega)⟩) hc52 hc53 ?_
        clear hf; intro a ha hf
        exact st_nil hf (th_n ⟨ha, rfl⟩)
      clear hf; intro a hf
      refine dr_take 4 (v24) rfl (by kernel_rfl) (by kernel_rfl) (by kernel_rfl) (by kernel_rfl) rfl rfl hf (by decide) rfl (fun w hp => ?_) ⟨_, hp⟩ ?_
      · obtain ⟨_, hp⟩ := hp
        refine st_move hf rfl rfl (by decide) ?_
        clear hf; intro a ha hf
        exact st_nil hf (th_n ⟨ha, rfl⟩)
      clear hf; intro a hf
      refine dr_take 5 (v7) rfl (by kernel_rfl) (by kernel_rfl) (by kernel_rfl) (by kernel_rfl) rfl rfl hf (by decide) rfl (fun w hp => ?_) ⟨_, hp⟩ ?_
      · obtain ⟨_, hp⟩ := hp
        refine st_move hf rfl rfl (by decide) ?_
        clear hf; intro a ha hf
        exact st_nil hf (th_n ⟨ha, rfl⟩)
      clear hf; intro a hf
      refine dr_take 6 (.int .i64 (q5.length : Int)) rfl (by kernel_rfl) (by kernel_rfl) (by kernel_rfl) (by kernel_rfl) rfl rfl hf (by decide) rfl (fun w hp => ?_) ⟨_, hp⟩ ?_
      · obtain ⟨_, hp⟩ := hp
        refine st_len (E := Ek.c128) hf (by decide) Try.underlying41 rfl rfl (rl48.sl hp) ?_
        clear hf; intro a ha hf
        exact st_nil hf (th_n ⟨ha, rfl⟩)
      clear hf; intro a hf
      refine dr_take 7 ((GL.cut v24 0 (((q5.length : Int)).toNat) 1)) rfl (by kernel_rfl) (by kernel_rfl) (by kernel_rfl) (by kernel_rfl) rfl rfl hf (by decide) rfl (fun w hp => ?_) ⟨_, hp⟩ ?_
      · obtain ⟨_, hp⟩ := hp
        refine st_cutS (E := Ek.c128) hf (by decide) Try.underlying41 elt24 rfl rfl (rl50.sl hp) (.inl ⟨rfl, rfl⟩) (.inr ⟨_, _, rfl, evI rfl (by omega)⟩) hc55 hc56 ?_
        clear hf; intro a ha hf
        exact st_nil hf (th_n ⟨ha, rfl⟩)
      clear hf; intro a hf
      refine dr_take 8 (v3) rfl (by kernel_rfl) (by kernel_rfl) (by kernel_rfl) (by kernel_rfl) rfl rfl hf (by decide) rfl (fun w hp => ?_) ⟨_, hp⟩ ?_
      · obtain ⟨_, hp⟩ := hp
        refine st_move hf rfl rfl (by decide) ?_
        clear hf; intro a ha hf
        exact st_nil hf (th_n ⟨ha, rfl⟩)
      clear hf; intro a hf
      refine dr_take 9 (v7) rfl (by kernel_rfl) (by kernel_rfl) (by kernel_rfl) (by kernel_rfl) rfl rfl hf (by decide) rfl (fun w hp => ?_) ⟨_, hp⟩ ?_
      · obtain ⟨_, hp⟩ := hp
        refine st_move hf rfl rfl (by decide) ?_
        clear hf; intro a ha hf
        exact st_nil hf (th_n ⟨ha, rfl⟩)
      clear hf; intro a hf
      refine dr_one 10 rfl (by kernel_rfl) ?_
      refine st_call hf (by decide) Try.func30 rfl rfl rfl rfl rfl (f_foghornlaw03_rows_c hp _ _ (RdS.cut rl49 hc52 hc53) _ _ (RdS.cut rl50 hc55 hc56) _ _ rl47 _ _ rl48 hcall58) ?_
      rintro _ w ⟨rfl, hp0⟩
      clear hp; have hp := hp0; clear hp0
      replace hp : Hp _ _ _ (Res.sl Ek.c128 24 v21 ([(Fl.bits 0, Fl.bits 4621256167635550208)]) :: Res.sl Ek.c128 24 v13 ([(Fl.bits 0, Fl.bits 4619567317775286272)]) :: ow) := hp
      refine ⟨_, rfl, ?_⟩
      clear hf; intro a hf
      refine st_nil hf (th_n ⟨fun _ _ => ⟨_, hp⟩, ?_⟩)
      refine dr_take 11 (.bool (!q57)) rfl (by kernel_rfl) (by kernel_rfl) (by kernel_rfl) (by kernel_rfl) rfl rfl hf (by decide) rfl (fun w hp => ?_) ⟨_, hp⟩ ?_
      · obtain ⟨_, hp⟩ := hp
        refine st_not hf (by decide) rfl rfl ?_
        clear hf; intro a ha hf
        exact st_nil hf (th_n ⟨ha, rfl⟩)
      clear hf; intro a hf
      refine dr_take 12 (.bool (!q57)) rfl (by kernel_rfl) (by kernel_rfl) (by kernel_rfl) (by kernel_rfl) rfl rfl hf (by decide) rfl (fun w hp => ?_) ⟨_, hp⟩ ?_
      · obtain ⟨_, hp⟩ := hp
        refine st_move hf rfl rfl (by decide) ?_
        clear hf; intro a ha hf
        exact st_nil hf (th_n ⟨ha, rfl⟩)
      clear hf; intro a hf
      refine dr_out 13 rfl (by kernel_rfl) (by kernel_rfl) (by kernel_rfl) (by kernel_rfl) rfl hf (by decide) rfl (wantN hf rfl rfl hb60) ⟨_, hp⟩ ?_
      clear hf; intro a hf
      refine dr_out 14 rfl (by kernel_rfl) (by kernel_rfl) (by kernel_rfl) (by kernel_rfl) rfl hf (by decide) rfl (wantN hf rfl rfl hb60) ⟨_, hp⟩ ?_
      clear hf; intro a hf
      refine dr_out 15 rfl (by kernel_rfl) (by kernel_rfl) (by kernel_rfl) (by kernel_rfl) rfl hf (by decide) rfl (wantN hf rfl rfl hb60) ⟨_, hp⟩ ?_
      clear hf; intro a hf
      refine dr_out 16 rfl (by kernel_rfl) (by kernel_rfl) (by kernel_rfl) (by kernel_rfl) rfl hf (by decide) rfl (wantN hf rfl rfl hb60) ⟨_, hp⟩ ?_
      clear hf; intro a hf
      refine dr_out 17 rfl (by kernel_rfl) (by kernel_rfl) (by kernel_rfl) (by kernel_rfl) rfl hf (by decide) rfl (wantN hf rfl rfl hb60) ⟨_, hp⟩ ?_
      clear hf; intro a hf
      refine dr_out 18 rfl (by kernel_rfl) (by kernel_rfl) (by kernel_rfl) (by kernel_rfl) rfl hf (by decide) rfl (wantN hf rfl rfl hb60) ⟨_, hp⟩ ?_
      clear hf; intro a hf
      refine dr_take 19 (.bool z67) rfl (by kernel_rfl) (by kernel_rfl) (by kernel_rfl) (by kernel_rfl) rfl rfl hf (by decide) rfl (fun w hp => ?_) ⟨_, hp⟩ ?_
      · obtain ⟨_, hp⟩ := hp
        refine st_pick (v := .bool z67) hf rfl rfl (fun _ => by rw [← hz59]; rfl) (fun hb' => absurd (hb60.symm.trans hb') (by decide)) (by decide) ?_
        clear hf; intro a ha hf
        exact st_nil hf (th_n ⟨ha, rfl⟩)
      clear hf; intro a hf
      refine dr_take 20 (.bool z67) rfl (by kernel_rfl) (by kernel_rfl) (by kernel_rfl) (by kernel_rfl) rfl rfl hf (by decide) rfl (fun w hp => ?_) ⟨_, hp⟩ ?_
      · obtain ⟨_, hp⟩ := hp
        refine st_move hf rfl rfl (by decide) ?_
        clear hf; intro a ha hf
        exact st_nil hf (th_n ⟨ha, rfl⟩)
      clear hf; intro a hf
      refine dr_out 21 rfl (by kernel_rfl) (by kernel_rfl) (by kernel_rfl) (by kernel_rfl) rfl hf (by decide) rfl (wantN hf rfl rfl hb69) ⟨_, hp⟩ ?_
      clear hf; intro a hf
      refine dr_out 22 rfl (by kernel_rfl) (by kernel_rfl) (by kernel_rfl) (by kernel_rfl) rfl hf (by decide) rfl (wantN hf rfl rfl hb69) ⟨_, hp⟩ ?_
      clear hf; intro a hf
      refine dr_out 23 rfl (by kernel_rfl) (by kernel_rfl) (by kernel_rfl) (by kernel_rfl) rfl hf (by decide) rfl (wantN hf rfl rfl hb69) ⟨_, hp⟩ ?_
      clear hf; intro a hf
      refine dr_out 24 rfl (by kernel_rfl) (by kernel_rfl) (by kernel_rfl) (by kernel_rfl) rfl hf (by decide) rfl (wantN hf rfl rfl hb69) ⟨_, hp⟩ ?_
      clear hf; intro a hf
      refine dr_out 25 rfl (by kernel_rfl) (by kernel_rfl) (by kernel_rfl) (by kernel_rfl) rfl hf (by decide) rfl (wantN hf rfl rfl hb69) ⟨_, hp⟩ ?_
      clear hf; intro a hf
      refine dr_out 26 rfl (by kernel_rfl) (by kernel_rfl) (by kernel_rfl) (by kernel_rfl) rfl hf (by decide) rfl (wantN hf rfl rfl hb69) ⟨_, hp⟩ ?_
      clear hf; intro a hf
      refine dr_take 27 (.bool z76) rfl (by kernel_rfl) (by kernel_rfl) (by kernel_rfl) (by kernel_rfl) rfl rfl hf (by decide) rfl (fun w hp => ?_) ⟨_, hp⟩ ?_
      · obtain ⟨_, hp⟩ := hp
        refine st_pick (v := .bool z76) hf rfl rfl (fun _ => by rw [← hz68]; rfl) (fun hb' => absurd (hb69.symm.trans hb') (by decide)) (by decide) ?_
        clear hf; intro a ha hf
        exact st_nil hf (th_n ⟨ha, rfl⟩)
      clear hf; intro a hf
      refine dr_end (by kernel_rfl) ?_ _
      have hp := bk44 _ _ hp
      have hp := bk39 _ _ hp
      have hp := bk34 _ _ hp
      have hp := bk29 _ _ hp
      exact ⟨hf.sub ⟨rfl, rfl, rfl, rfl, rfl, trivial⟩, hp⟩
    skip
    replace hz59 := ifF hz59 hb60
    obtain ⟨hc61, hz59⟩ := chk hz59
    obtain ⟨bb63, bb64, y65, y66, hl62⟩ := RdS.pinC (p := (q1.length : Int)) rl49 hc61.1 hc61.2
    replace hz59 := Option.some.inj hz59
    rcases Bool.eq_false_or_eq_true z67 with hb69 | hb69
    · skip
      replace hz68 := ifT hz68 hb69
      replace hz68 := Option.some.inj hz68
      refine dr_begin' (fun a w => Fr 119 a [(5, v3), (6, v7), (7, v16), (8, v24), (53, .bool z76)] ∧ Hp S w0 w (Res.sl Ek.c128 24 v3 q1 :: Res.sl Ek.c128 24 v16 ((([] : List (Fl × Fl)) ++ q1) ++ [(Fl.bits 0, Fl.bits 4619567317775286272)]) :: Res.sl Ek.c128 24 v7 q5 :: Res.sl Ek.c128 24 v24 ((([] : List (Fl × Fl)) ++ q5) ++ [(Fl.bits 0, Fl.bits 4621256167635550208)]) :: Res.sl Ek.c128 24 v21 ([(Fl.bits 0, Fl.bits 4621256167635550208)]) :: Res.sl Ek.c128 24 v13 ([(Fl.bits 0, Fl.bits 4619567317775286272)]) :: ow)) (fun w' => ∃ l, Hp S40 w w' l) [] (by kernel_rfl) ?_
      refine dr_take 0 (v16) rfl (by kernel_rfl) (by kernel_rfl) (by kernel_rfl) (by kernel_rfl) rfl rfl hf (by decide) rfl (fun w hp => ?_) ⟨_, hp⟩ ?_
      · obtain ⟨_, hp⟩ := hp
        refine st_move hf rfl rfl (by decide) ?_
        clear hf; intro a ha hf
        exact st_nil hf (th_n ⟨ha, rfl⟩)
      clear hf; intro a hf
      refine dr_take 1 (v3) rfl (by kernel_rfl) (by kernel_rfl) (by kernel_rfl) (by kernel_rfl) rfl rfl hf (by decide) rfl (fun w hp => ?_) ⟨_, hp⟩ ?_
      · obtain ⟨_, hp⟩ := hp
        refine st_move hf rfl rfl (by decide) ?_
        clear hf; intro a ha hf
        exact st_nil hf (th_n ⟨ha, rfl⟩)
      clear hf; intro a hf
      refine dr_take 2 (.int .i64 (q1.length : Int)) rfl (by kernel_rfl) (by kernel_rfl) (by kernel_rfl) (by kernel_rfl) rfl rfl hf (by decide) rfl (fun w hp => ?_) ⟨_, hp⟩ ?_
      · obtain ⟨_, hp⟩ := hp
        refine st_len (E := Ek.c128) hf (by decide) Try.underlying41 rfl rfl (rl47.sl hp) ?_
        clear hf; intro a ha hf
        exact st_nil hf (th_n ⟨ha, rfl⟩)
      clear hf; intro a hf
      refine dr_take 3 ((GL.cut v16 0 (((q1.length : Int)).toNat) 1)) rfl (by kernel_rfl) (by kernel_rfl) (by kernel_rfl) (by kernel_rfl) rfl rfl hf (by decide) rfl (fun w hp => ?_) ⟨_, hp⟩ ?_
      · obtain ⟨_, hp⟩ := hp
        refine st_cutS (E := Ek.c128) hf (by decide) Try.underlying41 elt24 rfl rfl (rl49.sl hp) (.inl ⟨rfl, rfl⟩) (.inr ⟨_, _, rfl, evI rfl (by omega)⟩) hc52 hc53 ?_
        clear hf; intro a ha hf
        exact st_nil hf (th_n ⟨ha, rfl⟩)
      clear hf; intro a hf
      refine dr_take 4 (v24) rfl (by kernel_rfl) (by kernel_rfl) (by kernel_rfl) (by kernel_rfl) rfl rfl hf (by decide) rfl (fun w hp => ?_) ⟨_, hp⟩ ?_
      · obtain ⟨_, hp⟩ := hp
        refine st_move hf rfl rfl (by decide) ?_
        clear hf; intro a ha hf
        exact st_nil hf (th_n ⟨ha, rfl⟩)
      clear hf; intro a hf
      refine dr_take 5 (v7) rfl (by kernel_rfl) (by kernel_rfl) (by kernel_rfl) (by kernel_rfl) rfl rfl hf (by decide) rfl (fun w hp => ?_) ⟨_, hp⟩ ?_
      · obtain ⟨_, hp⟩ := hp
        refine st_move hf rfl rfl (by decide) ?_
        clear hf; intro a ha hf
        exact st_nil hf (th_n ⟨ha, rfl⟩)
      clear hf; intro a hf
      refine dr_take 6 (.int .i64 (q5.length : Int)) rfl (by kernel_rfl) (by kernel_rfl) (by kernel_rfl) (by kernel_rfl) rfl rfl hf (by decide) rfl (fun w hp => ?_) ⟨_, hp⟩ ?_
      · obtain ⟨_, hp⟩ := hp
        refine st_len (E := Ek.c128) hf (by decide) Try.underlying41 rfl rfl (rl48.sl hp) ?_
        clear hf; intro a ha hf
        exact st_nil hf (th_n ⟨ha, rfl⟩)
      clear hf; intro a hf
      refine dr_take 7 ((GL.cut v24 0 (((q5.length : Int)).toNat) 1)) rfl (by kernel_rfl) (by kernel_rfl) (by kernel_rfl) (by kernel_rfl) rfl rfl hf (by decide) rfl (fun w hp => ?_) ⟨_, hp⟩ ?_
      · obtain ⟨_, hp⟩ := hp
        refine st_cutS (E := Ek.c128) hf (by decide) Try.underlying41 elt24 rfl rfl (rl50.sl hp) (.inl ⟨rfl, rfl⟩) (.inr ⟨_, _, rfl, evI rfl (by omega)⟩) hc55 hc56 ?_
        clear hf; intro a ha hf
        exact st_nil hf (th_n ⟨ha, rfl⟩)
      clear hf; intro a hf
      refine dr_take 8 (v3) rfl (by kernel_rfl) (by kernel_rfl) (by kernel_rfl) (by kernel_rfl) rfl rfl hf (by decide) rfl (fun w hp => ?_) ⟨_, hp⟩ ?_
      · obtain ⟨_, hp⟩ := hp
        refine st_move hf rfl rfl (by decide) ?_
        clear hf; intro a ha hf
        exact st_nil hf (th_n ⟨ha, rfl⟩)
      clear hf; intro a hf
      refine dr_take 9 (v7) rfl (by kernel_rfl) (by kernel_rfl) (by kernel_rfl) (by kernel_rfl) rfl rfl hf (by decide) rfl (fun w hp => ?_) ⟨_, hp⟩ ?_
      · obtain ⟨_, hp⟩ := hp
        refine st_move hf rfl rfl (by decide) ?_
        clear hf; intro a ha hf
        exact st_nil hf (th_n ⟨ha, rfl⟩)
      clear hf; intro a hf
      refine dr_one 10 rfl (by kernel_rfl) ?_
      refine st_call hf (by decide) Try.func30 rfl rfl rfl rfl rfl (f_foghornlaw03_rows_c hp _ _ (RdS.cut rl49 hc52 hc53) _ _ (RdS.cut rl50 hc55 hc56) _ _ rl47 _ _ rl48 hcall58) ?_
      rintro _ w ⟨rfl, hp0⟩
      clear hp; have hp := hp0; clear hp0
      replace hp : Hp _ _ _ (Res.sl Ek.c128 24 v21 ([(Fl.bits 0, Fl.bits 4621256167635550208)]) :: Res.sl Ek.c128 24 v13 ([(Fl.bits 0, Fl.bits 4619567317775286272)]) :: ow) := hp
      refine ⟨_, rfl, ?_⟩
      clear hf; intro a hf
      refine st_nil hf (th_n ⟨fun _ _ => ⟨_, hp⟩, ?_⟩)
      refine dr_take 11 (.bool (!q57)) rfl (by kernel_rfl) (by kernel_rfl) (by kernel_rfl) (by kernel_rfl) rfl rfl hf (by decide) rfl (fun w hp => ?_) ⟨_, hp⟩ ?_
      · obtain ⟨_, hp⟩ := hp
        refine st_not hf (by decide) rfl rfl ?_
        clear hf; intro a ha hf
        exact st_nil hf (th_n ⟨ha, rfl⟩)
      clear hf; intro a hf
      refine dr_take 12 (.bool (!q57)) rfl (by kernel_rfl) (by kernel_rfl) (by kernel_rfl) (by kernel_rfl) rfl rfl hf (by decide) rfl (fun w hp => ?_) ⟨_, hp⟩ ?_
      · obtain ⟨_, hp⟩ := hp
        refine st_move hf rfl rfl (by decide) ?_
        clear hf; intro a ha hf
        exact st_nil hf (th_n ⟨ha, rfl⟩)
      clear hf; intro a hf
      refine dr_take 13 (v16) rfl (by kernel_rfl) (by kernel_rfl) (by kernel_rfl) (by kernel_rfl) rfl rfl hf (by decide) (wantY hf rfl rfl hb60) (fun w hp => ?_) ⟨_, hp⟩ ?_
      · obtain ⟨_, hp⟩ := hp
        refine st_move hf (wantY hf rfl rfl hb60) rfl (by decide) ?_
        clear hf; intro a ha hf
        exact st_nil hf (th_n ⟨ha, rfl⟩)
      clear hf; intro a hf
      refine dr_take 14 (v3) rfl (by kernel_rfl) (by kernel_rfl) (by kernel_rfl) (by kernel_rfl) rfl rfl hf (by decide) (wantY hf rfl rfl hb60) (fun w hp => ?_) ⟨_, hp⟩ ?_
      · obtain ⟨_, hp⟩ := hp
        refine st_move hf (wantY hf rfl rfl hb60) rfl (by decide) ?_
        clear hf; intro a ha hf
        exact st_nil hf (th_n ⟨ha, rfl⟩)
      clear hf; intro a hf
      refine dr_take 15 (.int .i64 (q1.length : Int)) rfl (by kernel_rfl) (by kernel_rfl) (by kernel_rfl) (by kernel_rfl) rfl rfl hf (by decide) (wantY hf rfl rfl hb60) (fun w hp => ?_) ⟨_, hp⟩ ?_
      · obtain ⟨_, hp⟩ := hp
        refine st_len (E := Ek.c128) hf (by decide) Try.underlying41 (wantY hf rfl rfl hb60) rfl (rl47.sl hp) ?_
        clear hf; intro a ha hf
        exact st_nil hf (th_n ⟨ha, rfl⟩)
      clear hf; intro a hf
      refine dr_take 16 (eptr v16 (q1.length : Int) 1) rfl (by kernel_rfl) (by kernel_rfl) (by kernel_rfl) (by kernel_rfl) rfl rfl hf (by decide) (wantY hf rfl rfl hb60) (fun w hp => ?_) ⟨_, hp⟩ ?_
      · obtain ⟨_, hp⟩ := hp
        refine st_index (E := Ek.c128) hf (by decide) Try.underlying41 elt24 (wantY hf rfl rfl hb60) rfl rfl (rl49.sl hp) hc61.1 hc61.2 ?_
        clear hf; intro a ha hf
        exact st_nil hf (th_n ⟨ha, rfl⟩)
      clear hf; intro a hf
      refine dr_take 17 (.complex .f64 bb63 bb64) rfl (by kernel_rfl) (by kernel_rfl) (by kernel_rfl) (by kernel_rfl) rfl rfl hf (by decide) (wantY hf rfl rfl hb60) (fun w hp => ?_) ⟨_, hp⟩ ?_
      · obtain ⟨_, hp⟩ := hp
        refine st_ldP hf (by decide) pl24 (wantY hf rfl rfl hb60) rfl (hl62 _ _ hp) ?_
        clear hf; intro a ha hf
        exact st_nil hf (th_n ⟨ha, rfl⟩)
      clear hf; intro a hf
      refine dr_take 18 (.bool (!ceq (gt ((([] : List (Fl × Fl)) ++ q1) ++ [(Fl.bits 0, Fl.bits 4619567317775286272)]) (q1.length : Int)) (Fl.bits 0, Fl.bits 4619567317775286272))) rfl (by kernel_rfl) (by kernel_rfl) (by kernel_rfl) (by kernel_rfl) rfl rfl hf (by decide) (wantY hf rfl rfl hb60) (fun w hp => ?_) ⟨_, hp⟩ ?_
      · obtain ⟨_, hp⟩ := hp
        refine st_ccmp (r_cne (x := (gt ((([] : List (Fl × Fl)) ++ q1) ++ [(Fl.bits 0, Fl.bits 4619567317775286272)]) (q1.length : Int))) (y := (Fl.bits 0, Fl.bits 4619567317775286272)) y65 y66 rfl rfl) hf (by decide) (wantY hf rfl rfl hb60) rfl rfl ?_
        clear hf; intro a ha hf
        exact st_nil hf (th_n ⟨ha, rfl⟩)
      clear hf; intro a hf
      refine dr_take 19 (.bool z67) rfl (by kernel_rfl) (by kernel_rfl) (by kernel_rfl) (by kernel_rfl) rfl rfl hf (by decide) rfl (fun w hp => ?_) ⟨_, hp⟩ ?_
      · obtain ⟨_, hp⟩ := hp
        refine st_pick (v := .bool z67) hf rfl rfl (fun hb' => absurd (hb60.symm.trans hb') (by decide)) (fun _ => by rw [← hz59]; rfl) (by decide) ?_
        clear hf; intro a ha hf
        exact st_nil hf (th_n ⟨ha, rfl⟩)
      clear hf; intro a hf
      refine dr_take 20 (.bool z67) rfl (by kernel_rfl) (by kernel_rfl) (by kernel_rfl) (by kernel_rfl) rfl rfl hf (by decide) rfl (fun w hp => ?_) ⟨_, hp⟩ ?_
      · obtain ⟨_, hp⟩ := hp
        refine st_move hf rfl rfl (by decide) ?_
        clear hf; intro a ha hf
        exact st_nil hf (th_n ⟨ha, rfl⟩)
      clear hf; intro a hf
      refine dr_out 21 rfl (by kernel_rfl) (by kernel_rfl) (by kernel_rfl) (by kernel_rfl) rfl hf (by decide) rfl (wantN hf rfl rfl hb69) ⟨_, hp⟩ ?_
      clear hf; intro a hf
      refine dr_out 22 rfl (by kernel_rfl) (by kernel_rfl) (by kernel_rfl) (by kernel_rfl) rfl hf (by decide) rfl (wantN hf rfl rfl hb69) ⟨_, hp⟩ ?_
      clear hf; intro a hf
      refine dr_out 23 rfl (by kernel_rfl) (by kernel_rfl) (by kernel_rfl) (by kernel_rfl) rfl hf (by decide) rfl (wantN hf rfl rfl hb69) ⟨_, hp⟩ ?_
      clear hf; intro a hf
      refine dr_out 24 rfl (by kernel_rfl) (by kernel_rfl) (by kernel_rfl) (by kernel_rfl) rfl hf (by decide) rfl (wantN hf rfl rfl hb69) ⟨_, hp⟩ ?_
      clear hf; intro a hf
      refine dr_out 25 rfl (by kernel_rfl) (by kernel_rfl) (by kernel_rfl) (by kernel_rfl) rfl hf (by decide) rfl (wantN hf rfl rfl hb69) ⟨_, hp⟩ ?_
      clear hf; intro a hf
      refine dr_out 26 rfl (by kernel_rfl) (by kernel_rfl) (by kernel_rfl) (by kernel_rfl) rfl hf (by decide) rfl (wantN hf rfl rfl hb69) ⟨_, hp⟩ ?_
      clear hf; intro a hf
      refine dr_take 27 (.bool z76) rfl (by kernel_rfl) (by kernel_rfl) (by kernel_rfl) (by kernel_rfl) rfl rfl hf (by decide) rfl (fun w hp => ?_) ⟨_, hp⟩ ?_
      · obtain ⟨_, hp⟩ := hp
        refine st_pick (v := .bool z76) hf rfl rfl (fun _ => by rw [← hz68]; rfl) (fun hb' => absurd (hb69.symm.trans hb') (by decide)) (by decide) ?_
        clear hf; intro a ha hf
        exact st_nil hf (th_n ⟨ha, rfl⟩)
      clear hf; intro a hf
      refine dr_end (by kernel_rfl) ?_ _
      have hp := bk44 _ _ hp
      have hp := bk39 _ _ hp
      have hp := bk34 _ _ hp
      have hp := bk29 _ _ hp
      exact ⟨hf.sub ⟨rfl, rfl, rfl, rfl, rfl, trivial⟩, hp⟩
    skip
    replace hz68 := ifF hz68 hb69
    obtain ⟨hc70, hz68⟩ := chk hz68
    obtain ⟨bb72, bb73, y74, y75, hl71⟩ := RdS.pinC (p := (q5.length : Int)) rl50 hc70.1 hc70.2
    replace hz68 := Option.some.inj hz68
    refine dr_begin' (fun a w => Fr 119 a [(5, v3), (6, v7), (7, v16), (8, v24), (53, .bool z76)] ∧ Hp S w0 w (Res.sl Ek.c128 24 v3 q1 :: Res.sl Ek.c128 24 v16 ((([] : List (Fl × Fl)) ++ q1) ++ [(Fl.bits 0, Fl.bits 4619567317775286272)]) :: Res.sl Ek.c128 24 v7 q5 :: Res.sl Ek.c128 24 v24 ((([] : List (Fl × Fl)) ++ q5) ++ [(Fl.bits 0, Fl.bits 4621256167635550208)]) :: Res.sl Ek.c128 24 v21 ([(Fl.bits 0, Fl.bits 4621256167635550208)]) :: Res.sl Ek.c128 24 v13 ([(Fl.bits 0, Fl.bits 4619567317775286272)]) :: ow)) (fun w' => ∃ l, Hp S40 w w' l) [] (by kernel_rfl) ?_
    refine dr_take 0 (v16) rfl (by kernel_rfl) (by kernel_rfl) (by kernel_rfl) (by kernel_rfl) rfl rfl hf (by decide) rfl (fun w hp => ?_) ⟨_, hp⟩ ?_
    · obtain ⟨_, hp⟩ := hp
      refine st_move hf rfl rfl (by decide) ?_
      clear hf; intro a ha hf
      exact st_nil hf (th_n ⟨ha, rfl⟩)
    clear hf; intro a hf
    refine dr_take 1 (v3) rfl (by kernel_rfl) (by kernel_rfl) (by kernel_rfl) (by kernel_rfl) rfl rfl hf (by decide) rfl (fun w hp => ?_) ⟨_, hp⟩ ?_
    · obtain ⟨_, hp⟩ := hp
      refine st_move hf rfl rfl (by decide) ?_
      clear hf; intro a ha hf
      exact st_nil hf (th_n ⟨ha, rfl⟩)
    clear hf; intro a hf
    refine dr_take 2 (.int .i64 (q1.length : Int)) rfl (by kernel_rfl) (by kernel_rfl) (by kernel_rfl) (by kernel_rfl) rfl rfl hf (by decide) rfl (fun w hp => ?_) ⟨_, hp⟩ ?_
    · obtain ⟨_, hp⟩ := hp
      refine st_len (E := Ek.c128) hf (by decide) Try.underlying41 rfl rfl (rl47.sl hp) ?_
      clear hf; intro a ha hf
      exact st_nil hf (th_n ⟨ha, rfl⟩)
    clear hf; intro a hf
    refine dr_take 3 ((GL.cut v16 0 (((q1.length : Int)).toNat) 1)) rfl (by kernel_rfl) (by kernel_rfl) (by kernel_rfl) (by kernel_rfl) rfl rfl hf (by decide) rfl (fun w hp => ?_) ⟨_, hp⟩ ?_
    · obtain ⟨_, hp⟩ := hp
      refine st_cutS (E := Ek.c128) hf (by decide) Try.underlying41 elt24 rfl rfl (rl49.sl hp) (.inl ⟨rfl, rfl⟩) (.inr ⟨_, _, rfl, evI rfl (by omega)⟩) hc52 hc53 ?_
      clear hf; intro a ha hf
      exact st_nil hf (th_n ⟨ha, rfl⟩)
    clear hf; intro a hf
    refine dr_take 4 (v24) rfl (by kernel_rfl) (by kernel_rfl) (by kernel_rfl) (by kernel_rfl) rfl rfl hf (by decide) rfl (fun w hp => ?_) ⟨_, hp⟩ ?_
    · obtain ⟨_, hp⟩ := hp
      refine st_move hf rfl rfl (by decide) ?_
      clear hf; intro a ha hf
      exact st_nil hf (th_n ⟨ha, rfl⟩)
    clear hf; intro a hf
    refine dr_take 5 (v7) rfl (by kernel_rfl) (by kernel_rfl) (by kernel_rfl) (by kernel_rfl) rfl rfl hf (by decide) rfl (fun w hp => ?_) ⟨_, hp⟩ ?_
    · obtain ⟨_, hp⟩ := hp
      refine st_move hf rfl rfl (by decide) ?_
      clear hf; intro a ha hf
      exact st_nil hf (th_n ⟨ha, rfl⟩)
    clear hf; intro a hf
    refine dr_take 6 (.int .i64 (q5.length : Int)) rfl (by kernel_rfl) (by kernel_rfl) (by kernel_rfl) (by kernel_rfl) rfl rfl hf (by decide) rfl (fun w hp => ?_) ⟨_, hp⟩ ?_
    · obtain ⟨_, hp⟩ := hp
      refine st_len (E := Ek.c128) hf (by decide) Try.underlying41 rfl rfl (rl48.sl hp) ?_
      clear hf; intro a ha hf
      exact st_nil hf (th_n ⟨ha, rfl⟩)
    clear hf; intro a hf
    refine dr_take 7 ((GL.cut v24 0 (((q5.length : Int)).toNat) 1)) rfl (by kernel_rfl) (by kernel_rfl) (by kernel_rfl) (by kernel_rfl) rfl rfl hf (by decide) rfl (fun w hp => ?_) ⟨_, hp⟩ ?_
    · obtain ⟨_, hp⟩ := hp
      refine st_cutS (E := Ek.c128) hf (by decide) Try.underlying41 elt24 rfl rfl (rl50.sl hp) (.inl ⟨rfl, rfl⟩) (.inr ⟨_, _, rfl, evI rfl (by omega)⟩) hc55 hc56 ?_
      clear hf; intro a ha hf
      exact st_nil hf (th_n ⟨ha, rfl⟩)
    clear hf; intro a hf
    refine dr_take 8 (v3) rfl (by kernel_rfl) (by kernel_rfl) (by kernel_rfl) (by kernel_rfl) rfl rfl hf (by decide) rfl (fun w hp => ?_) ⟨_, hp⟩ ?_
    · obtain ⟨_, hp⟩ := hp
      refine st_move hf rfl rfl (by decide) ?_
      clear hf; intro a ha hf
      exact st_nil hf (th_n ⟨ha, rfl⟩)
    clear hf; intro a hf
    refine dr_take 9 (v7) rfl (by kernel_rfl) (by kernel_rfl) (by kernel_rfl) (by kernel_rfl) rfl rfl hf (by decide) rfl (fun w hp => ?_) ⟨_, hp⟩ ?_
    · obtain ⟨_, hp⟩ := hp
      refine st_move hf rfl rfl (by decide) ?_
      clear hf; intro a ha hf
      exact st_nil hf (th_n ⟨ha, rfl⟩)
    clear hf; intro a hf
    refine dr_one 10 rfl (by kernel_rfl) ?_
    refine st_call hf (by decide) Try.func30 rfl rfl rfl rfl rfl (f_foghornlaw03_rows_c hp _ _ (RdS.cut rl49 hc52 hc53) _ _ (RdS.cut rl50 hc55 hc56) _ _ rl47 _ _ rl48 hcall58) ?_
    rintro _ w ⟨rfl, hp0⟩
    clear hp; have hp := hp0; clear hp0
    replace hp : Hp _ _ _ (Res.sl Ek.c128 24 v21 ([(Fl.bits 0, Fl.bits 4621256167635550208)]) :: Res.sl Ek.c128 24 v13 ([(Fl.bits 0, Fl.bits 4619567317775286272)]) :: ow) := hp
    refine ⟨_, rfl, ?_⟩
    clear hf; intro a hf
    refine st_nil hf (th_n ⟨fun _ _ => ⟨_, hp⟩, ?_⟩)
    refine dr_take 11 (.bool (!q57)) rfl (by kernel_rfl) (by kernel_rfl) (by kernel_rfl) (by kernel_rfl) rfl rfl hf (by decide) rfl (fun w hp => ?_) ⟨_, hp⟩ ?_
    · obtain ⟨_, hp⟩ := hp
      refine st_not hf (by decide) rfl rfl ?_
      clear hf; intro a ha hf
      exact st_nil hf (th_n ⟨ha, rfl⟩)
    clear hf; intro a hf
    refine dr_take 12 (.bool (!q57)) rfl (by kernel_rfl) (by kernel_rfl) (by kernel_rfl) (by kernel_rfl) rfl rfl hf (by decide) rfl (fun w hp => ?_) ⟨_, hp⟩ ?_
    · obtain ⟨_, hp⟩ := hp
      refine st_move hf rfl rfl (by decide) ?_
      clear hf; intro a ha hf
      exact st_nil hf (th_n ⟨ha, rfl⟩)
    clear hf; intro a hf
    refine dr_take 13 (v16) rfl (by kernel_rfl) (by kernel_rfl) (by kernel_rfl) (by kernel_rfl) rfl rfl hf (by decide) (wantY hf rfl rfl hb60) (fun w hp => ?_) ⟨_, hp⟩ ?_
    · obtain ⟨_, hp⟩ := hp
      refine st_move hf (wantY hf rfl rfl hb60) rfl (by decide) ?_
      clear hf; intro a ha hf
      exact st_nil hf (th_n ⟨ha, rfl⟩)
    clear hf; intro a hf
    refine dr_take 14 (v3) rfl (by kernel_rfl) (by kernel_rfl) (by kernel_rfl) (by kernel_rfl) rfl rfl hf (by decide) (wantY hf rfl rfl hb60) (fun w hp => ?_) ⟨_, hp⟩ ?_
    · obtain ⟨_, hp⟩ := hp
      refine st_move hf (wantY hf rfl rfl hb60) rfl (by decide) ?_
      clear hf; intro a ha hf
      exact st_nil hf (th_n ⟨ha, rfl⟩)
    clear hf; intro a hf
    refine dr_take 15 (.int .i64 (q1.length : Int)) rfl (by kernel_rfl) (by kernel_rfl) (by kernel_rfl) (by kernel_rfl) rfl rfl hf (by decide) (wantY hf rfl rfl hb60) (fun w hp => ?_) ⟨_, hp⟩ ?_
    · obtain ⟨_, hp⟩ := hp
      refine st_len (E := Ek.c128) hf (by decide) Try.underlying41 (wantY hf rfl rfl hb60) rfl (rl47.sl hp) ?_
      clear hf; intro a ha hf
      exact st_nil hf (th_n ⟨ha, rfl⟩)
    clear hf; intro a hf
    refine dr_take 16 (eptr v16 (q1.length : Int) 1) rfl (by kernel_rfl) (by kernel_rfl) (by kernel_rfl) (by kernel_rfl) rfl rfl hf (by decide) (wantY hf rfl rfl hb60) (fun w hp => ?_) ⟨_, hp⟩ ?_
    · obtain ⟨_, hp⟩ := hp
      refine st_index (E := Ek.c128) hf (by decide) Try.underlying41 elt24 (wantY hf rfl rfl hb60) rfl rfl (rl49.sl hp) hc61.1 hc61.2 ?_
      clear hf; intro a ha hf
      exact st_nil hf (th_n ⟨ha, rfl⟩)
    clear hf; intro a hf
    refine dr_take 17 (.complex .f64 bb63 bb64) rfl (by kernel_rfl) (by kernel_rfl) (by kernel_rfl) (by kernel_rfl) rfl rfl hf (by decide) (wantY hf rfl rfl hb60) (fun w hp => ?_) ⟨_, hp⟩ ?_
    · obtain ⟨_, hp⟩ := hp
      refine st_ldP hf (by decide) pl24 (wantY hf rfl rfl hb60) rfl (hl62 _ _ hp) ?_
      clear hf; intro a ha hf
      exact st_nil hf (th_n ⟨ha, rfl⟩)
    clear hf; intro a hf
    refine dr_take 18 (.bool (!ceq (gt ((([] : List (Fl × Fl)) ++ q1) ++ [(Fl.bits 0, Fl.bits 4619567317775286272)]) (q1.length : Int)) (Fl.bits 0, Fl.bits 4619567317775286272))) rfl (by kernel_rfl) (by kernel_rfl) (by kernel_rfl) (by kernel_rfl) rfl rfl hf (by decide) (wantY hf rfl rfl hb60) (fun w hp => ?_) ⟨_, hp⟩ ?_
    · obtain ⟨_, hp⟩ := hp
      refine st_ccmp (r_cne (x := (gt ((([] : List (Fl × Fl)) ++ q1) ++ [(Fl.bits 0, Fl.bits 4619567317775286272)]) (q1.length : Int))) (y := (Fl.bits 0, Fl.bits 4619567317775286272)) y65 y66 rfl rfl) hf (by decide) (wantY hf rfl rfl hb60) rfl rfl ?_
      clear hf; intro a ha hf
      exact st_nil hf (th_n ⟨ha, rfl⟩)
    clear hf; intro a hf
    refine dr_take 19 (.bool z67) rfl (by kernel_rfl) (by kernel_rfl) (by kernel_rfl) (by kernel_rfl) rfl rfl hf (by decide) rfl (fun w hp => ?_) ⟨_, hp⟩ ?_
    · obtain ⟨_, hp⟩ := hp
      refine st_pick (v := .bool z67) hf rfl rfl (fun hb' => absurd (hb60.symm.trans hb') (by decide)) (fun _ => by rw [← hz59]; rfl) (by decide) ?_
      clear hf; intro a ha hf
      exact st_nil hf (th_n ⟨ha, rfl⟩)
    clear hf; intro a hf
    refine dr_take 20 (.bool z67) rfl (by kernel_rfl) (by kernel_rfl) (by kernel_rfl) (by kernel_rfl) rfl rfl hf (by decide) rfl (fun w hp => ?_) ⟨_, hp⟩ ?_
    · obtain ⟨_, hp⟩ := hp
      refine st_move hf rfl rfl (by decide) ?_
      clear hf; intro a ha hf
      exact st_nil hf (th_n ⟨ha, rfl⟩)
    clear hf; intro a hf
    refine dr_take 21 (v24) rfl (by kernel_rfl) (by kernel_rfl) (by kernel_rfl) (by kernel_rfl) rfl rfl hf (by decide) (wantY hf rfl rfl hb69) (fun w hp => ?_) ⟨_, hp⟩ ?_
    · obtain ⟨_, hp⟩ := hp
      refine st_move hf (wantY hf rfl rfl hb69) rfl (by decide) ?_
      clear hf; intro a ha hf
      exact st_nil hf (th_n ⟨ha, rfl⟩)
    clear hf; intro a hf
    refine dr_take 22 (v7) rfl (by kernel_rfl) (by kernel_rfl) (by kernel_rfl) (by kernel_rfl) rfl rfl hf (by decide) (wantY hf rfl rfl hb69) (fun w hp => ?_) ⟨_, hp⟩ ?_
    · obtain ⟨_, hp⟩ := hp
      refine st_move hf (wantY hf rfl rfl hb69) rfl (by decide) ?_
      clear hf; intro a ha hf
      exact st_nil hf (th_n ⟨ha, rfl⟩)
    clear hf; intro a hf
    refine dr_take 23 (.int .i64 (q5.length : Int)) rfl (by kernel_rfl) (by kernel_rfl) (by kernel_rfl) (by kernel_rfl) rfl rfl hf (by decide) (wantY hf rfl rfl hb69) (fun w hp => ?_) ⟨_, hp⟩ ?_
    · obtain ⟨_, hp⟩ := hp
      refine st_len (E := Ek.c128) hf (by decide) Try.underlying41 (wantY hf rfl rfl hb69) rfl (rl48.sl hp) ?_
      clear hf; intro a ha hf
      exact st_nil hf (th_n ⟨ha, rfl⟩)
    clear hf; intro a hf
    refine dr_take 24 (eptr v24 (q5.length : Int) 1) rfl (by kernel_rfl) (by kernel_rfl) (by kernel_rfl) (by kernel_rfl) rfl rfl hf (by decide) (wantY hf rfl rfl hb69) (fun w hp => ?_) ⟨_, hp⟩ ?_
    · obtain ⟨_, hp⟩ := hp
      refine st_index (E := Ek.c128) hf (by decide) Try.underlying41 elt24 (wantY hf rfl rfl hb69) rfl rfl (rl50.sl hp) hc70.1 hc70.2 ?_
      clear hf; intro a ha hf
      exact st_nil hf (th_n ⟨ha, rfl⟩)
    clear hf; intro a hf
    refine dr_take 25 (.complex .f64 bb72 bb73) rfl (by kernel_rfl) (by kernel_rfl) (by kernel_rfl) (by kernel_rfl) rfl rfl hf (by decide) (wantY hf rfl rfl hb69) (fun w hp => ?_) ⟨_, hp⟩ ?_
    · obtain ⟨_, hp⟩ := hp
      refine st_ldP hf (by decide) pl24 (wantY hf rfl rfl hb69) rfl (hl71 _ _ hp) ?_
      clear hf; intro a ha hf
      exact st_nil hf (th_n ⟨ha, rfl⟩)
    clear hf; intro a hf
    refine dr_take 26 (.bool (!ceq (gt ((([] : List (Fl × Fl)) ++ q5) ++ [(Fl.bits 0, Fl.bits 4621256167635550208)]) (q5.length : Int)) (Fl.bits 0, Fl.bits 4621256167635550208))) rfl (by kernel_rfl) (by kernel_rfl) (by kernel_rfl) (by kernel_rfl) rfl rfl hf (by decide) (wantY hf rfl rfl hb69) (fun w hp => ?_) ⟨_, hp⟩ ?_
    · obtain ⟨_, hp⟩ := hp
      refine st_ccmp (r_cne (x := (gt ((([] : List (Fl × Fl)) ++ q5) ++ [(Fl.bits 0, Fl.bits 4621256167635550208)]) (q5.length : Int))) (y := (Fl.bits 0, Fl.bits 4621256167635550208)) y74 y75 rfl rfl) hf (by decide) (wantY hf rfl rfl hb69) rfl rfl ?_
      clear hf; intro a ha hf
      exact st_nil hf (th_n ⟨ha, rfl⟩)
    clear hf; intro a hf
    refine dr_take 27 (.bool z76) rfl (by kernel_rfl) (by kernel_rfl) (by kernel_rfl) (by kernel_rfl) rfl rfl hf (by decide) rfl (fun w hp => ?_) ⟨_, hp⟩ ?_
    · obtain ⟨_, hp⟩ := hp
      refine st_pick (v := .bool z76) hf rfl rfl (fun hb' => absurd (hb69.symm.trans hb') (by decide)) (fun _ => by rw [← hz68]; rfl) (by decide) ?_
      clear hf; intro a ha hf
      exact st_nil hf (th_n ⟨ha, rfl⟩)
    clear hf; intro a hf
    refine dr_end (by kernel_rfl) ?_ _
    have hp := bk44 _ _ hp
    have hp := bk39 _ _ hp
    have hp := bk34 _ _ hp
    have hp := bk29 _ _ hp
    exact ⟨hf.sub ⟨rfl, rfl, rfl, rfl, rfl, trivial⟩, hp⟩
  rintro a w ⟨hf, hp⟩
  refine th_n ?_
  refine wp_if hf rfl (fun hb => ?_) (fun hb => ?_)
  · replace h := ifT h hb
    refine wp_seq ?_
    refine wp_reg ?_
    refine st_assign hf rfl rfl (by decide) ?_
    clear hf; intro a ha hf; clear ha
    refine st_nil hf ?_
    refine th_n ?_
    refine wp_ret ?_
    refine th_r ?_
    obtain rfl := Option.some.inj h
    have hp : Hp _ _ _ (ow) := Hp.sel (pre := [Res.sl Ek.c128 24 v3 q1, Res.sl Ek.c128 24 v16 ((([] : List (Fl × Fl)) ++ q1) ++ [(Fl.bits 0, Fl.bits 4619567317775286272)]), Res.sl Ek.c128 24 v7 q5, Res.sl Ek.c128 24 v24 ((([] : List (Fl × Fl)) ++ q5) ++ [(Fl.bits 0, Fl.bits 4621256167635550208)]), Res.sl Ek.c128 24 v21 ([(Fl.bits 0, Fl.bits 4621256167635550208)]), Res.sl Ek.c128 24 v13 ([(Fl.bits 0, Fl.bits 4619567317775286272)])]) (tail := ow) (rs' := []) hp [] (by decide) (by simp) rfl
    exact ⟨rfl, ⟨hf.sub ⟨rfl, trivial⟩, hp⟩⟩
  replace h := ifF h hb
  refine wp_skip ?_
  refine th_n ?_
  refine wp_seq ?_
  refine wp_reg ?_
  refine st_move hf rfl rfl (by decide) ?_
  clear hf; intro a ha hf; clear ha
  refine st_len (E := Ek.c128) hf (by decide) Try.underlying41 rfl rfl (hp.sl (i := 2) rfl) ?_
  clear hf; intro a ha hf; clear ha
  obtain ⟨hc77, h⟩ := chk h
  refine st_make (E := Ek.c128) hf (by decide) elt24 Try.underlying41 (by decide) hp rfl rfl rfl hc77.1 hc77.2.1 hc77.2.2 ?_
  clear hf; intro a w v78 hf hp0; clear hp; have hp := hp0; clear hp0
  replace hp : Hp _ _ _ (Res.sl Ek.c128 24 v78 (List.replicate ((q5.length : Int)).toNat (Fl.bits 0, Fl.bits 0)) :: Res.sl Ek.c128 24 v3 q1 :: Res.sl Ek.c128 24 v16 ((([] : List (Fl × Fl)) ++ q1) ++ [(Fl.bits 0, Fl.bits 4619567317775286272)]) :: Res.sl Ek.c128 24 v7 q5 :: Res.sl Ek.c128 24 v24 ((([] : List (Fl × Fl)) ++ q5) ++ [(Fl.bits 0, Fl.bits 4621256167635550208)]) :: Res.sl Ek.c128 24 v21 ([(Fl.bits 0, Fl.bits 4621256167635550208)]) :: Res.sl Ek.c128 24 v13 ([(Fl.bits 0, Fl.bits 4619567317775286272)]) :: ow) := hp
  refine st_assign hf rfl rfl (by decide) ?_
  clear hf; intro a ha hf; clear ha
  refine st_nil hf ?_
  refine th_n ?_
  refine wp_seq ?_
  refine wp_seq ?_
  refine wp_reg ?_
  refine st_assign hf rfl rfl (by decide) ?_
  clear hf; intro a ha hf; clear ha
  refine st_nil hf ?_
  refine th_n ?_
  refine wp_block ?_
  obtain ⟨q126, hl, h⟩ := bnd h
  have hp : Hp _ _ _ (Res.sl Ek.c128 24 v24 ((([] : List (Fl × Fl)) ++ q5) ++ [(Fl.bits 0, Fl.bits 4621256167635550208)]) :: Res.sl Ek.c128 24 v78 (List.replicate ((q5.length : Int)).toNat (Fl.bits 0, Fl.bits 0)) :: Res.sl Ek.c128 24 v3 q1 :: Res.sl Ek.c128 24 v7 q5 :: Res.sl Ek.c128 24 v16 ((([] : List (Fl × Fl)) ++ q1) ++ [(Fl.bits 0, Fl.bits 4619567317775286272)]) :: ow) := Hp.sel (pre := [Res.sl Ek.c128 24 v78 (List.replicate ((q5.length : Int)).toNat (Fl.bits 0, Fl.bits 0)), Res.sl Ek.c128 24 v3 q1, Res.sl Ek.c128 24 v16 ((([] : List (Fl × Fl)) ++ q1) ++ [(Fl.bits 0, Fl.bits 4619567317775286272)]), Res.sl Ek.c128 24 v7 q5, Res.sl Ek.c128 24 v24 ((([] : List (Fl × Fl)) ++ q5) ++ [(Fl.bits 0, Fl.bits 4621256167635550208)]), Res.sl Ek.c128 24 v21 ([(Fl.bits 0, Fl.bits 4621256167635550208)]), Res.sl Ek.c128 24 v13 ([(Fl.bits 0, Fl.bits 4619567317775286272)])]) (tail := ow) (rs' := [Res.sl Ek.c128 24 v24 ((([] : List (Fl × Fl)) ++ q5) ++ [(Fl.bits 0, Fl.bits 4621256167635550208)]), Res.sl Ek.c128 24 v78 (List.replicate ((q5.length : Int)).toNat (Fl.bits 0, Fl.bits 0)), Res.sl Ek.c128 24 v3 q1, Res.sl Ek.c128 24 v7 q5, Res.sl Ek.c128 24 v16 ((([] : List (Fl × Fl)) ++ q1) ++ [(Fl.bits 0, Fl.bits 4619567317775286272)])]) hp [4, 0, 1, 3, 2] (by decide) (by simp) rfl
  refine wp_loop_pure (f := (f_foghornlaw03_PlaneRows.s1 q5)) (s := (((([] : List (Fl × Fl)) ++ q5) ++ [(Fl.bits 0, Fl.bits 4621256167635550208)]), (List.replicate ((q5.length : Int)).toNat (Fl.bits 0, Fl.bits 0)), (0 : Int))) (fun s a w => ∃ (v80 : Value) (v82 : Value), Fr 119 a [(5, v3), (6, v7), (7, v16), (8, v80), (9, v82), (10, .int .i64 s.2.2)] ∧ Hp S w0 w (Res.sl Ek.c128 24 v80 s.1 :: Res.sl Ek.c128 24 v82 s.2.1 :: Res.sl Ek.c128 24 v3 q1 :: Res.sl Ek.c128 24 v7 q5 :: Res.sl Ek.c128 24 v16 ((([] : List (Fl × Fl)) ++ q1) ++ [(Fl.bits 0, Fl.bits 4619567317775286272)]) :: ow)) (fun q e a w => match q with | (Sum.inl q) => e = .exit 0 ∧ ∃ (v84 : Value) (v86 : Value), Fr 119 a [(5, v3), (6, v7), (7, v16), (8, v84), (9, v86)] ∧ Hp S w0 w (Res.sl Ek.c128 24 v84 q.1 :: Res.sl Ek.c128 24 v86 q.2 :: Res.sl Ek.c128 24 v3 q1 :: Res.sl Ek.c128 24 v7 q5 :: Res.sl Ek.c128 24 v16 ((([] : List (Fl × Fl)) ++ q1) ++ [(Fl.bits 0, Fl.bits 4619567317775286272)]) :: ow) | (Sum.inr q) => e = .ret ∧ Fr 119 a [(4, .bool q)] ∧ Hp S w0 w (ow)) ?_ hl ⟨_, _, hf.sub ⟨rfl, rfl, rfl, rfl, rfl, rfl, trivial⟩, hp⟩ ?_
  · clear hl hf hp
    intro s x a w h hI
    obtain ⟨r8, turned9, i10⟩ := s
    obtain ⟨v80, v82, hf, hp⟩ : ∃ (v80 : Value) (v82 : Value), Fr 119 a [(5, v3), (6, v7), (7, v16), (8, v80), (9, v82), (10, .int .i64 i10)] ∧ Hp S w0 w (Res.sl Ek.c128 24 v80 r8 :: Res.sl Ek.c128 24 v82 turned9 :: Res.sl Ek.c128 24 v3 q1 :: Res.sl Ek.c128 24 v7 q5 :: Res.sl Ek.c128 24 v16 ((([] : List (Fl × Fl)) ++ q1) ++ [(Fl.bits 0, Fl.bits 4619567317775286272)]) :: ow) := hI
    replace h : f_foghornlaw03_PlaneRows.s1c q5 r8 turned9 i10 = some x := h
    unfold f_foghornlaw03_PlaneRows.s1c at h
    refine wp_seq ?_
    refine wp_seq ?_
    refine wp_reg ?_
    refine st_move hf rfl rfl (by decide) ?_
    clear hf; intro a ha hf; clear ha
    refine st_move hf rfl rfl (by decide) ?_
    clear hf; intro a ha hf; clear ha
    refine st_len (E := Ek.c128) hf (by decide) Try.underlying41 rfl rfl (hp.sl (i := 3) rfl) ?_
    clear hf; intro a ha hf; clear ha
    refine st_ilss hf (by decide) rfl rfl rfl ?_
    clear hf; intro a ha hf; clear ha
    refine st_nil hf ?_
    refine th_n ?_
    refine wp_if hf rfl (fun hb => ?_) (fun hb => ?_)
    · replace h := ifT h hb
      refine wp_skip ?_
      refine th_n ?_
      refine wp_seq ?_
      refine wp_block ?_
      refine wp_seq ?_
      refine wp_seq ?_
      obtain ⟨S88, hp89, rd90, up91, bk92⟩ := Hp.lendS hp (i := 0) rfl
      obtain ⟨S93, hp94, rd95, up96, bk97⟩ := Hp.lendS hp89 (i := 2) rfl
      have rl98 := rd95
      have rl99 := ((rd90.now hp89).mono up96)
      obtain ⟨hc100, h⟩ := chk h
      obtain ⟨bb102, bb103, y104, y105, hl101⟩ := RdS.pinC (p := i10) rl99 hc100.1 hc100.2
      obtain ⟨hc106, h⟩ := chk h
      obtain ⟨bb108, bb109, y110, y111, hl107⟩ := RdS.pinC (p := i10) rl98 hc106.1 hc106.2
      obtain ⟨q112, hcall113, h⟩ := bnd h
      refine wp_cutN (fun a w => Fr 119 a [(5, v3), (6, v7), (7, v16), (8, v80), (9, v82), (10, .int .i64 i10), (72, .bool (!q112))] ∧ Hp S w0 w (Res.sl Ek.c128 24 v80 r8 :: Res.sl Ek.c128 24 v7 q5 :: Res.sl Ek.c128 24 v82 turned9 :: Res.sl Ek.c128 24 v3 q1 :: Res.sl Ek.c128 24 v16 ((([] : List (Fl × Fl)) ++ q1) ++ [(Fl.bits 0, Fl.bits 4619567317775286272)]) :: ow)) ?_ ?_
      · have hp := hp94.same (Same.drew w)
        refine dr_begin' (fun a w => Fr 119 a [(5, v3), (6, v7), (7, v16), (8, v80), (9, v82), (10, .int .i64 i10), (72, .bool (!q112))] ∧ Hp S w0 w (Res.sl Ek.c128 24 v80 r8 :: Res.sl Ek.c128 24 v7 q5 :: Res.sl Ek.c128 24 v82 turned9 :: Res.sl Ek.c128 24 v3 q1 :: Res.sl Ek.c128 24 v16 ((([] : List (Fl × Fl)) ++ q1) ++ [(Fl.bits 0, Fl.bits 4619567317775286272)]) :: ow)) (fun w' => ∃ l, Hp S93 w w' l) [] (by kernel_rfl) ?_
        refine dr_take 0 (v80) rfl (by kernel_rfl) (by kernel_rfl) (by kernel_rfl) (by kernel_rfl) rfl rfl hf (by decide) rfl (fun w hp => ?_) ⟨_, hp⟩ ?_
        · obtain ⟨_, hp⟩ := hp
          refine st_move hf rfl rfl (by decide) ?_
          clear hf; intro a ha hf
          exact st_nil hf (th_n ⟨ha, rfl⟩)
        clear hf; intro a hf
        refine dr_take 1 (.int .i64 i10) rfl (by kernel_rfl) (by kernel_rfl) (by kernel_rfl) (by kernel_rfl) rfl rfl hf (by decide) rfl (fun w hp => ?_) ⟨_, hp⟩ ?_
        · obtain ⟨_, hp⟩ := hp
          refine st_move hf rfl rfl (by decide) ?_
          clear hf; intro a ha hf
          exact st_nil hf (th_n ⟨ha, rfl⟩)
        clear hf; intro a hf
        refine dr_take 2 (eptr v80 i10 1) rfl (by kernel_rfl) (by kernel_rfl) (by kernel_rfl) (by kernel_rfl) rfl rfl hf (by decide) rfl (fun w hp => ?_) ⟨_, hp⟩ ?_
        · obtain ⟨_, hp⟩ := hp
          refine st_index (E := Ek.c128) hf (by decide) Try.underlying41 elt24 rfl rfl rfl (rl99.sl hp) hc100.1 hc100.2 ?_
          clear hf; intro a ha hf
          exact st_nil hf (th_n ⟨ha, rfl⟩)
        clear hf; intro a hf
        refine dr_take 3 (.complex .f64 bb102 bb103) rfl (by kernel_rfl) (by kernel_rfl) (by kernel_rfl) (by kernel_rfl) rfl rfl hf (by decide) rfl (fun w hp => ?_) ⟨_, hp⟩ ?_
        · obtain ⟨_, hp⟩ := hp
          refine st_ldP hf (by decide) pl24 rfl rfl (hl101 _ _ hp) ?_
          clear hf; intro a ha hf
          exact st_nil hf (th_n ⟨ha, rfl⟩)
        clear hf; intro a hf
        refine dr_take 4 (v7) rfl (by kernel_rfl) (by kernel_rfl) (by kernel_rfl) (by kernel_rfl) rfl rfl hf (by decide) rfl (fun w hp => ?_) ⟨_, hp⟩ ?_
        · obtain ⟨_, hp⟩ := hp
          refine st_move hf rfl rfl (by decide) ?_
          clear hf; intro a ha hf
          exact st_nil hf (th_n ⟨ha, rfl⟩)
        clear hf; intro a hf
        refine dr_take 5 (.int .i64 i10) rfl (by kernel_rfl) (by kernel_rfl) (by kernel_rfl) (by kernel_rfl) rfl rfl hf (by decide) rfl (fun w hp => ?_) ⟨_, hp⟩ ?_
        · obtain ⟨_, hp⟩ := hp
          refine st_move hf rfl rfl (by decide) ?_
          clear hf; intro a ha hf
          exact st_nil hf (th_n ⟨ha, rfl⟩)
        clear hf; intro a hf
        refine dr_take 6 (eptr v7 i10 1) rfl (by kernel_rfl) (by kernel_rfl) (by kernel_rfl) (by kernel_rfl) rfl rfl hf (by decide) rfl (fun w hp => ?_) ⟨_, hp⟩ ?_
        · obtain ⟨_, hp⟩ := hp
          refine st_index (E := Ek.c128) hf (by decide) Try.underlying41 elt24 rfl rfl rfl (rl98.sl hp) hc106.1 hc106.2 ?_
          clear hf; intro a ha hf
          exact st_nil hf (th_n ⟨ha, rfl⟩)
        clear hf; intro a hf
        refine dr_take 7 (.complex .f64 bb108 bb109) rfl (by kernel_rfl) (by kernel_rfl) (by kernel_rfl) (by kernel_rfl) rfl rfl hf (by decide) rfl (fun w hp => ?_) ⟨_, hp⟩ ?_
        · obtain ⟨_, hp⟩ := hp
          refine st_ldP hf (by decide) pl24 rfl rfl (hl107 _ _ hp) ?_
          clear hf; intro a ha hf
          exact st_nil hf (th_n ⟨ha, rfl⟩)
        clear hf; intro a hf
        refine dr_one 8 rfl (by kernel_rfl) ?_
        refine st_call hf (by decide) Try.func12 rfl rfl rfl rfl rfl (f_foghornref03_Same_c hp _ _ _ (show Fl.rep bb102 ((gt r8 i10)).1 from y104) (show Fl.rep bb103 ((gt r8 i10)).2 from y105) _ _ _ (show Fl.rep bb108 ((gt q5 i10)).1 from y110) (show Fl.rep bb109 ((gt q5 i10)).2 from y111) _ hcall113) ?_
        rintro _ w ⟨rfl, hp0⟩
        clear hp; have hp := hp0; clear hp0
        replace hp : Hp _ _ _ (Res.sl Ek.c128 24 v82 turned9 :: Res.sl Ek.c128 24 v3 q1 :: Res.sl Ek.c128 24 v16 ((([] : List (Fl × Fl)) ++ q1) ++ [(Fl.bits 0, Fl.bits 4619567317775286272)]) :: ow) := hp
        refine ⟨_, rfl, ?_⟩
        clear hf; intro a hf
        refine st_nil hf (th_n ⟨fun _ _ => ⟨_, hp⟩, ?_⟩)
        refine dr_take 9 (.bool (!q112)) rfl (by kernel_rfl) (by kernel_rfl) (by kernel_rfl) (by kernel_rfl) rfl rfl hf (by decide) rfl (fun w hp => ?_) ⟨_, hp⟩ ?_
        · obtain ⟨_, hp⟩ := hp
          refine st_not hf (by decide) rfl rfl ?_
          clear hf; intro a ha hf
          exact st_nil hf (th_n ⟨ha, rfl⟩)
        clear hf; intro a hf
        refine dr_end (by kernel_rfl) ?_ _
        have hp := bk97 _ _ hp
        have hp := bk92 _ _ hp
        exact ⟨hf.sub ⟨rfl, rfl, rfl, rfl, rfl, rfl, rfl, trivial⟩, hp⟩
      rintro a w ⟨hf, hp⟩
      refine th_n ?_
      refine wp_if hf rfl (fun hb => ?_) (fun hb => ?_)
      · replace h := ifT h hb
        refine wp_seq ?_
        refine wp_reg ?_
        refine st_assign hf rfl rfl (by decide) ?_
        clear hf; intro a ha hf; clear ha
        refine st_nil hf ?_
        refine th_n ?_
        refine wp_ret ?_
        refine th_r ?_
        refine ib_r ?_
        refine th_r ?_
        obtain rfl := Option.some.inj h
        have hp : Hp _ _ _ (ow) := Hp.sel (pre := [Res.sl Ek.c128 24 v80 r8, Res.sl Ek.c128 24 v7 q5, Res.sl Ek.c128 24 v82 turned9, Res.sl Ek.c128 24 v3 q1, Res.sl Ek.c128 24 v16 ((([] : List (Fl × Fl)) ++ q1) ++ [(Fl.bits 0, Fl.bits 4619567317775286272)])]) (tail := ow) (rs' := []) hp [] (by decide) (by simp) rfl
        exact rnd_r (by simp) ⟨rfl, ⟨hf.sub ⟨rfl, trivial⟩, hp⟩⟩
      replace h := ifF h hb
      refine wp_skip ?_
      refine th_n ?_
      refine wp_seq ?_
      refine wp_reg ?_
      refine st_move hf rfl rfl (by decide) ?_
      clear hf; intro a ha hf; clear ha
      refine st_move hf rfl rfl (by decide) ?_
      clear hf; intro a ha hf; clear ha
      refine st_move hf rfl rfl (by decide) ?_
      clear hf; intro a ha hf; clear ha
      refine st_move hf rfl rfl (by decide) ?_
      clear hf; intro a ha hf; clear ha
      obtain ⟨hc114, h⟩ := chk h
      refine st_index (E := Ek.c128) hf (by decide) Try.underlying41 elt24 rfl rfl rfl (hp.sl (i := 1) rfl) hc114.1 hc114.2 ?_
      clear hf; intro a ha hf; clear ha
      refine st_ldC hf (by decide) pl24 rfl rfl (hp.sl (i := 1) rfl) hc114.1 hc114.2 ?_
      clear hf; intro a bb115 bb116 y117 y118 ha hf; clear ha
      refine st_imag hf (by decide) rfl rfl ?_
      clear hf; intro a ha hf; clear ha
      refine st_complex hf (by decide) rfl rfl rfl ?_
      clear hf; intro a ha hf; clear ha
      obtain ⟨hc119, h⟩ := chk h
      refine st_index (E := Ek.c128) hf (by decide) Try.underlying41 elt24 rfl rfl rfl (hp.sl (i := 2) rfl) hc119.1 hc119.2 ?_
      clear hf; intro a ha hf; clear ha
      refine st_store (E := Ek.c128) hf elt24 hp (i := 2) rfl rfl rfl rfl (show Ek.c128.rep [.complex .f64 bb116 4607182418800017408] ((gt q5 i10).2, (Fl.bits 4607182418800017408)) from ⟨_, _, rfl, y118, rfl⟩) hc119.1 hc119.2 ?_
      clear hf; intro a w hf hp0; clear hp; have hp := hp0; clear hp0
      replace hp : Hp _ _ _ (Res.sl Ek.c128 24 v80 r8 :: Res.sl Ek.c128 24 v7 q5 :: Res.sl Ek.c128 24 v82 (turned9.set (i10).toNat ((gt q5 i10).2, (Fl.bits 4607182418800017408))) :: Res.sl Ek.c128 24 v3 q1 :: Res.sl Ek.c128 24 v16 ((([] : List (Fl × Fl)) ++ q1) ++ [(Fl.bits 0, Fl.bits 4619567317775286272)]) :: ow) := hp
      refine st_nil hf ?_
      refine th_n ?_
      refine wp_reg ?_
      refine st_move hf rfl rfl (by decide) ?_
      clear hf; intro a ha hf; clear ha
      refine st_move hf rfl rfl (by decide) ?_
      clear hf; intro a ha hf; clear ha
      refine st_move hf rfl rfl (by decide) ?_
      clear hf; intro a ha hf; clear ha
      refine st_move hf rfl rfl (by decide) ?_
      clear hf; intro a ha hf; clear ha
      obtain ⟨hc120, h⟩ := chk h
      refine st_index (E := Ek.c128) hf (by decide) Try.underlying41 elt24 rfl rfl rfl (hp.sl (i := 2) rfl) hc120.1 hc120.2 ?_
      clear hf; intro a ha hf; clear ha
      refine st_ldC hf (by decide) pl24 rfl rfl (hp.sl (i := 2) rfl) hc120.1 hc120.2 ?_
      clear hf; intro a bb121 bb122 y123 y124 ha hf; clear ha
      obtain ⟨hc125, h⟩ := chk h
      refine st_index (E := Ek.c128) hf (by decide) Try.underlying41 elt24 rfl rfl rfl (hp.sl (i := 0) rfl) hc125.1 hc125.2 ?_
      clear hf; intro a ha hf; clear ha
      refine st_store (E := Ek.c128) hf elt24 hp (i := 0) rfl rfl rfl rfl (show Ek.c128.rep [.complex .f64 bb121 bb122] (gt (turned9.set (i10).toNat ((gt q5 i10).2, (Fl.bits 4607182418800017408))) i10) from ⟨_, _, rfl, y123, y124⟩) hc125.1 hc125.2 ?_
      clear hf; intro a w hf hp0; clear hp; have hp := hp0; clear hp0
      replace hp : Hp _ _ _ (Res.sl Ek.c128 24 v80 (r8.set (i10).toNat (gt (turned9.set (i10).toNat ((gt q5 i10).2, (Fl.bits 4607182418800017408))) i10)) :: Res.sl Ek.c128 24 v7 q5 :: Res.sl Ek.c128 24 v82 (turned9.set (i10).toNat ((gt q5 i10).2, (Fl.bits 4607182418800017408))) :: Res.sl Ek.c128 24 v3 q1 :: Res.sl Ek.c128 24 v16 ((([] : List (Fl × Fl)) ++ q1) ++ [(Fl.bits 0, Fl.bits 4619567317775286272)]) :: ow) := hp
      refine st_nil hf ?_
      refine ib_n ?_
      refine th_n ?_
      refine wp_reg ?_
      refine st_move hf rfl rfl (by decide) ?_
      clear hf; intro a ha hf; clear ha
      refine st_iadd hf (by decide) rfl rfl rfl ?_
      clear hf; intro a ha hf; clear ha
      refine st_assign hf rfl rfl (by decide) ?_
      clear hf; intro a ha hf; clear ha
      refine st_nil hf ?_
      obtain rfl := Option.some.inj h
      have hp : Hp _ _ _ (Res.sl Ek.c128 24 v80 (r8.set (i10).toNat (gt (turned9.set (i10).toNat ((gt q5 i10).2, (Fl.bits 4607182418800017408))) i10)) :: Res.sl Ek.c128 24 v82 (turned9.set (i10).toNat ((gt q5 i10).2, (Fl.bits 4607182418800017408))) :: Res.sl Ek.c128 24 v3 q1 :: Res.sl Ek.c128 24 v7 q5 :: Res.sl Ek.c128 24 v16 ((([] : List (Fl × Fl)) ++ q1) ++ [(Fl.bits 0, Fl.bits 4619567317775286272)]) :: ow) := Hp.sel (pre := [Res.sl Ek.c128 24 v80 (r8.set (i10).toNat (gt (turned9.set (i10).toNat ((gt q5 i10).2, (Fl.bits 4607182418800017408))) i10)), Res.sl Ek.c128 24 v7 q5, Res.sl Ek.c128 24 v82 (turned9.set (i10).toNat ((gt q5 i10).2, (Fl.bits 4607182418800017408))), Res.sl Ek.c128 24 v3 q1, Res.sl Ek.c128 24 v16 ((([] : List (Fl × Fl)) ++ q1) ++ [(Fl.bits 0, Fl.bits 4619567317775286272)])]) (tail := ow) (rs' := [Res.sl Ek.c128 24 v80 (r8.set (i10).toNat (gt (turned9.set (i10).toNat ((gt q5 i10).2, (Fl.bits 4607182418800017408))) i10)), Res.sl Ek.c128 24 v82 (turned9.set (i10).toNat ((gt q5 i10).2, (Fl.bits 4607182418800017408))), Res.sl Ek.c128 24 v3 q1, Res.sl Ek.c128 24 v7 q5, Res.sl Ek.c128 24 v16 ((([] : List (Fl × Fl)) ++ q1) ++ [(Fl.bits 0, Fl.bits 4619567317775286272)])]) hp [0, 2, 3, 1, 4] (by decide) (by simp) rfl
      exact rnd_l ⟨_, _, hf.sub ⟨rfl, rfl, rfl, rfl, rfl, rfl, trivial⟩, hp⟩
    replace h := ifF h hb
    refine wp_exit ?_
    refine th_e ?_
    obtain rfl := Option.some.inj h
    exact rnd_r (by simp) ⟨rfl, _, _, hf.sub ⟨rfl, rfl, rfl, rfl, rfl, trivial⟩, hp⟩
  clear hl hf hp
  intro e a w hne hO
  rcases q126 with q127 | q128
  · replace h := smL h
    obtain ⟨rfl, v84, v86, hf, hp⟩ := hO
    refine ib_same ?_
    refine th_n ?_
    refine wp_seq ?_
    refine wp_seq ?_
    refine wp_reg ?_
    refine st_assign hf rfl rfl (by decide) ?_
    clear hf; intro a ha hf; clear ha
    refine st_nil hf ?_
    refine th_n ?_
    refine wp_block ?_
    obtain ⟨q155, hl, h⟩ := bnd h
    have hp : Hp _ _ _ (Res.sl Ek.c128 24 v3 q1 :: Res.sl Ek.c128 24 v7 q5 :: Res.sl Ek.c128 24 v16 ((([] : List (Fl × Fl)) ++ q1) ++ [(Fl.bits 0, Fl.bits 4619567317775286272)]) :: Res.sl Ek.c128 24 v84 q127.1 :: Res.sl Ek.c128 24 v86 q127.2 :: ow) := Hp.sel (pre := [Res.sl Ek.c128 24 v84 q127.1, Res.sl Ek.c128 24 v86 q127.2, Res.sl Ek.c128 24 v3 q1, Res.sl Ek.c128 24 v7 q5, Res.sl Ek.c128 24 v16 ((([] : List (Fl × Fl)) ++ q1) ++ [(Fl.bits 0, Fl.bits 4619567317775286272)])]) (tail := ow) (rs' := [Res.sl Ek.c128 24 v3 q1, Res.sl Ek.c128 24 v7 q5, Res.sl Ek.c128 24 v16 ((([] : List (Fl × Fl)) ++ q1) ++ [(Fl.bits 0, Fl.bits 4619567317775286272)]), Res.sl Ek.c128 24 v84 q127.1, Res.sl Ek.c128 24 v86 q127.2]) hp [2, 3, 4, 0, 1] (by decide) (by simp) rfl
    refine wp_loop_pure (f := (f_foghornlaw03_PlaneRows.s2 q1)) (s := (0 : Int)) (fun s a w => Fr 119 a [(5, v3), (6, v7), (7, v16), (8, v84), (9, v86), (11, .int .i64 s)] ∧ Hp S w0 w (Res.sl Ek.c128 24 v3 q1 :: Res.sl Ek.c128 24 v7 q5 :: Res.sl Ek.c128 24 v16 ((([] : List (Fl × Fl)) ++ q1) ++ [(Fl.bits 0, Fl.bits 4619567317775286272)]) :: Res.sl Ek.c128 24 v84 q127.1 :: Res.sl Ek.c128 24 v86 q127.2 :: ow)) (fun q e a w => match q with | (Sum.inl q) => e = .exit 2 ∧ Fr 119 a [(5, v3), (6, v7), (7, v16), (8, v84), (9, v86)] ∧ Hp S w0 w (Res.sl Ek.c128 24 v3 q1 :: Res.sl Ek.c128 24 v7 q5 :: Res.sl Ek.c128 24 v16 ((([] : List (Fl × Fl)) ++ q1) ++ [(Fl.bits 0, Fl.bits 4619567317775286272)]) :: Res.sl Ek.c128 24 v84 q127.1 :: Res.sl Ek.c128 24 v86 q127.2 :: ow) | (Sum.inr q) => e = .ret ∧ Fr 119 a [(4, .bool q)] ∧ Hp S w0 w (ow)) ?_ hl ⟨hf.sub ⟨rfl, rfl, rfl, rfl, rfl, rfl, trivial⟩, hp⟩ ?_
    · clear hl hf hp
      intro s x a w h hI
      obtain ⟨i11, hs⟩ : ∃ z, z = s := ⟨s, rfl⟩; subst hs
      obtain ⟨hf, hp⟩ : Fr 119 a [(5, v3), (6, v7), (7, v16), (8, v84), (9, v86), (11, .int .i64 i11)] ∧ Hp S w0 w (Res.sl Ek.c128 24 v3 q1 :: Res.sl Ek.c128 24 v7 q5 :: Res.sl Ek.c128 24 v16 ((([] : List (Fl × Fl)) ++ q1) ++ [(Fl.bits 0, Fl.bits 4619567317775286272)]) :: Res.sl Ek.c128 24 v84 q127.1 :: Res.sl Ek.c128 24 v86 q127.2 :: ow) := hI
      replace h : f_foghornlaw03_PlaneRows.s2c q1 i11 = some x := h
      unfold f_foghornlaw03_PlaneRows.s2c at h
      refine wp_seq ?_
      refine wp_seq ?_
      refine wp_reg ?_
      refine st_move hf rfl rfl (by decide) ?_
      clear hf; intro a ha hf; clear ha
      refine st_move hf rfl rfl (by decide) ?_
      clear hf; intro a ha hf; clear ha
      refine st_len (E := Ek.c128) hf (by decide) Try.underlying41 rfl rfl (hp.sl (i := 0) rfl) ?_
      clear hf; intro a ha hf; clear ha
      refine st_ilss hf (by decide) rfl rfl rfl ?_
      clear hf; intro a ha hf; clear ha
      refine st_nil hf ?_
      refine th_n ?_
      refine wp_if hf rfl (fun hb => ?_) (fun hb => ?_)
      · replace h := ifT h hb
        refine wp_skip ?_
        refine th_n ?_
        refine wp_seq ?_
        refine wp_block ?_
        refine wp_seq ?_
        obtain ⟨S129, hp130, rd131, up132, bk133⟩ := Hp.lendS hp (i := 2) rfl
        obtain ⟨S134, hp135, rd136, up137, bk138⟩ := Hp.lendS hp130 (i := 0) rfl
        have rl139 := rd136
        have rl140 := ((rd131.now hp130).mono up137)
        obtain ⟨hc141, h⟩ := chk h
        obtain ⟨bb143, bb144, y145, y146, hl142⟩ := RdS.pinC (p := i11) rl140 hc141.1 hc141.2
        obtain ⟨hc147, h⟩ := chk h
        obtain ⟨bb149, bb150, y151, y152, hl148⟩ := RdS.pinC (p := i11) rl139 hc147.1 hc147.2
        obtain ⟨q153, hcall154, h⟩ := bnd h
        refine wp_cutN (fun a w => Fr 119 a [(5, v3), (6, v7), (7, v16), (8, v84), (9, v86), (11, .int .i64 i11), (104, .bool (!q153))] ∧ Hp S w0 w (Res.sl Ek.c128 24 v16 ((([] : List (Fl × Fl)) ++ q1) ++ [(Fl.bits 0, Fl.bits 4619567317775286272)]) :: Res.sl Ek.c128 24 v3 q1 :: Res.sl Ek.c128 24 v7 q5 :: Res.sl Ek.c128 24 v84 q127.1 :: Res.sl Ek.c128 24 v86 q127.2 :: ow)) ?_ ?_
        · have hp := hp135.same (Same.drew w)
          refine dr_begin' (fun a w => Fr 119 a [(5, v3), (6, v7), (7, v16), (8, v84), (9, v86), (11, .int .i64 i11), (104, .bool (!q153))] ∧ Hp S w0 w (Res.sl Ek.c128 24 v16 ((([] : List (Fl × Fl)) ++ q1) ++ [(Fl.bits 0, Fl.bits 4619567317775286272)]) :: Res.sl Ek.c128 24 v3 q1 :: Res.sl Ek.c128 24 v7 q5 :: Res.sl Ek.c128 24 v84 q127.1 :: Res.sl Ek.c128 24 v86 q127.2 :: ow)) (fun w' => ∃ l, Hp S134 w w' l) [] (by kernel_rfl) ?_
          refine dr_take 0 (v16) rfl (by kernel_rfl) (by kernel_rfl) (by kernel_rfl) (by kernel_rfl) rfl rfl hf (by decide) rfl (fun w hp => ?_) ⟨_, hp⟩ ?_
          · obtain ⟨_, hp⟩ := hp
            refine st_move hf rfl rfl (by decide) ?_
            clear hf; intro a ha hf
            exact st_nil hf (th_n ⟨ha, rfl⟩)
          clear hf; intro a hf
          refine dr_take 1 (.int .i64 i11) rfl (by kernel_rfl) (by kernel_rfl) (by kernel_rfl) (by kernel_rfl) rfl rfl hf (by decide) rfl (fun w hp => ?_) ⟨_, hp⟩ ?_
          · obtain ⟨_, hp⟩ := hp
            refine st_move hf rfl rfl (by decide) ?_
            clear hf; intro a ha hf
            exact st_nil hf (th_n ⟨ha, rfl⟩)
          clear hf; intro a hf
          refine dr_take 2 (eptr v16 i11 1) rfl (by kernel_rfl) (by kernel_rfl) (by kernel_rfl) (by kernel_rfl) rfl rfl hf (by decide) rfl (fun w hp => ?_) ⟨_, hp⟩ ?_
          · obtain ⟨_, hp⟩ := hp
            refine st_index (E := Ek.c128) hf (by decide) Try.underlying41 elt24 rfl rfl rfl (rl140.sl hp) hc141.1 hc141.2 ?_
            clear hf; intro a ha hf
            exact st_nil hf (th_n ⟨ha, rfl⟩)
          clear hf; intro a hf
          refine dr_take 3 (.complex .f64 bb143 bb144) rfl (by kernel_rfl) (by kernel_rfl) (by kernel_rfl) (by kernel_rfl) rfl rfl hf (by decide) rfl (fun w hp => ?_) ⟨_, hp⟩ ?_
          · obtain ⟨_, hp⟩ := hp
            refine st_ldP hf (by decide) pl24 rfl rfl (hl142 _ _ hp) ?_
            clear hf; intro a ha hf
            exact st_nil hf (th_n ⟨ha, rfl⟩)
          clear hf; intro a hf
          refine dr_take 4 (v3) rfl (by kernel_rfl) (by kernel_rfl) (by kernel_rfl) (by kernel_rfl) rfl rfl hf (by decide) rfl (fun w hp => ?_) ⟨_, hp⟩ ?_
          · obtain ⟨_, hp⟩ := hp
            refine st_move hf rfl rfl (by decide) ?_
            clear hf; intro a ha hf
            exact st_nil hf (th_n ⟨ha, rfl⟩)
          clear hf; intro a hf
          refine dr_take 5 (.int .i64 i11) rfl (by kernel_rfl) (by kernel_rfl) (by kernel_rfl) (by kernel_rfl) rfl rfl hf (by decide) rfl (fun w hp => ?_) ⟨_, hp⟩ ?_
          · obtain ⟨_, hp⟩ := hp
            refine st_move hf rfl rfl (by decide) ?_
            clear hf; intro a ha hf
            exact st_nil hf (th_n ⟨ha, rfl⟩)
          clear hf; intro a hf
          refine dr_take 6 (eptr v3 i11 1) rfl (by kernel_rfl) (by kernel_rfl) (by kernel_rfl) (by kernel_rfl) rfl rfl hf (by decide) rfl (fun w hp => ?_) ⟨_, hp⟩ ?_
          · obtain ⟨_, hp⟩ := hp
            refine st_index (E := Ek.c128) hf (by decide) Try.underlying41 elt24 rfl rfl rfl (rl139.sl hp) hc147.1 hc147.2 ?_
            clear hf; intro a ha hf
            exact st_nil hf (th_n ⟨ha, rfl⟩)
          clear hf; intro a hf
          refine dr_take 7 (.complex .f64 bb149 bb150) rfl (by kernel_rfl) (by kernel_rfl) (by kernel_rfl) (by kernel_rfl) rfl rfl hf (by decide) rfl (fun w hp => ?_) ⟨_, hp⟩ ?_
          · obtain ⟨_, hp⟩ := hp
            refine st_ldP hf (by decide) pl24 rfl rfl (hl148 _ _ hp) ?_
            clear hf; intro a ha hf
            exact st_nil hf (th_n ⟨ha, rfl⟩)
          clear hf; intro a hf
          refine dr_one 8 rfl (by kernel_rfl) ?_
          refine st_call hf (by decide) Try.func12 rfl rfl rfl rfl rfl (f_foghornref03_Same_c hp _ _ _ (show Fl.rep bb143 ((gt ((([] : List (Fl × Fl)) ++ q1) ++ [(Fl.bits 0, Fl.bits 4619567317775286272)]) i11)).1 from y145) (show Fl.rep bb144 ((gt ((([] : List (Fl × Fl)) ++ q1) ++ [(Fl.bits 0, Fl.bits 4619567317775286272)]) i11)).2 from y146) _ _ _ (show Fl.rep bb149 ((gt q1 i11)).1 from y151) (show Fl.rep bb150 ((gt q1 i11)).2 from y152) _ hcall154) ?_
          rintro _ w ⟨rfl, hp0⟩
          clear hp; have hp := hp0; clear hp0
          replace hp : Hp _ _ _ (Res.sl Ek.c128 24 v7 q5 :: Res.sl Ek.c128 24 v84 q127.1 :: Res.sl Ek.c128 24 v86 q127.2 :: ow) := hp
          refine ⟨_, rfl, ?_⟩
          clear hf; intro a hf
          refine st_nil hf (th_n ⟨fun _ _ => ⟨_, hp⟩, ?_⟩)
          refine dr_take 9 (.bool (!q153)) rfl (by kernel_rfl) (by kernel_rfl) (by kernel_rfl) (by kernel_rfl) rfl rfl hf (by decide) rfl (fun w hp => ?_) ⟨_, hp⟩ ?_
          · obtain ⟨_, hp⟩ := hp
            refine st_not hf (by decide) rfl rfl ?_
            clear hf; intro a ha hf
            exact st_nil hf (th_n ⟨ha, rfl⟩)
          clear hf; intro a hf
          refine dr_end (by kernel_rfl) ?_ _
          have hp := bk138 _ _ hp
          have hp := bk133 _ _ hp
          exact ⟨hf.sub ⟨rfl, rfl, rfl, rfl, rfl, rfl, rfl, trivial⟩, hp⟩
        rintro a w ⟨hf, hp⟩
        refine th_n ?_
        refine wp_if hf rfl (fun hb => ?_) (fun hb => ?_)
        · replace h := ifT h hb
          refine wp_seq ?_
          refine wp_reg ?_
          refine st_assign hf rfl rfl (by decide) ?_
          clear hf; intro a ha hf; clear ha
          refine st_nil hf ?_
          refine th_n ?_
          refine wp_ret ?_
          refine ib_r ?_
          refine th_r ?_
          obtain rfl := Option.some.inj h
          have hp : Hp _ _ _ (ow) := Hp.sel (pre := [Res.sl Ek.c128 24 v16 ((([] : List (Fl × Fl)) ++ q1) ++ [(Fl.bits 0, Fl.bits 4619567317775286272)]), Res.sl Ek.c128 24 v3 q1, Res.sl Ek.c128 24 v7 q5, Res.sl Ek.c128 24 v84 q127.1, Res.sl Ek.c128 24 v86 q127.2]) (tail := ow) (rs' := []) hp [] (by decide) (by simp) rfl
          exact rnd_r (by simp) ⟨rfl, ⟨hf.sub ⟨rfl, trivial⟩, hp⟩⟩
        replace h := ifF h hb
        refine wp_skip ?_
        refine ib_n ?_
        refine th_n ?_
        refine wp_reg ?_
        refine st_move hf rfl rfl (by decide) ?_
        clear hf; intro a ha hf; clear ha
        refine st_iadd hf (by decide) rfl rfl rfl ?_
        clear hf; intro a ha hf; clear ha
        refine st_assign hf rfl rfl (by decide) ?_
        clear hf; intro a ha hf; clear ha
        refine st_nil hf ?_
        obtain rfl := Option.some.inj h
        have hp : Hp _ _ _ (Res.sl Ek.c128 24 v3 q1 :: Res.sl Ek.c128 24 v7 q5 :: Res.sl Ek.c128 24 v16 ((([] : List (Fl × Fl)) ++ q1) ++ [(Fl.bits 0, Fl.bits 4619567317775286272)]) :: Res.sl Ek.c128 24 v84 q127.1 :: Res.sl Ek.c128 24 v86 q127.2 :: ow) := Hp.sel (pre := [Res.sl Ek.c128 24 v16 ((([] : List (Fl × Fl)) ++ q1) ++ [(Fl.bits 0, Fl.bits 4619567317775286272)]), Res.sl Ek.c128 24 v3 q1, Res.sl Ek.c128 24 v7 q5, Res.sl Ek.c128 24 v84 q127.1, Res.sl Ek.c128 24 v86 q127.2]) (tail := ow) (rs' := [Res.sl Ek.c128 24 v3 q1, Res.sl Ek.c128 24 v7 q5, Res.sl Ek.c128 24 v16 ((([] : List (Fl × Fl)) ++ q1) ++ [(Fl.bits 0, Fl.bits 4619567317775286272)]), Res.sl Ek.c128 24 v84 q127.1, Res.sl Ek.c128 24 v86 q127.2]) hp [1, 2, 0, 3, 4] (by decide) (by simp) rfl
        exact rnd_l ⟨hf.sub ⟨rfl, rfl, rfl, rfl, rfl, rfl, trivial⟩, hp⟩
      replace h := ifF h hb
      refine wp_exit ?_
      refine th_e ?_
      obtain rfl := Option.some.inj h
      exact rnd_r (by simp) ⟨rfl, hf.sub ⟨rfl, rfl, rfl, rfl, rfl, trivial⟩, hp⟩
    clear hl hf hp
    intro e a w hne hO
    rcases q155 with q156 | q157
    · replace h := smL h
      obtain ⟨rfl, hf, hp⟩ := hO
      refine ib_same ?_
      refine th_n ?_
      refine wp_seq ?_
      obtain ⟨S158, hp159, rd160, up161, bk162⟩ := Hp.lendS hp (i := 0) rfl
      obtain ⟨S163, hp164, rd165, up166, bk167⟩ := Hp.lendS hp159 (i := 1) rfl
      obtain ⟨S168, hp169, rd170, up171, bk172⟩ := Hp.lendS hp164 (i := 0) rfl
      obtain ⟨S173, hp174, rd175, up176, bk177⟩ := Hp.lendS hp169 (i := 0) rfl
      have rl178 := ((((((rd160.now hp159).mono up166).now hp164).mono up171).now hp169).mono up176)
      have rl179 := ((rd170.now hp169).mono up176)
      have rl180 := ((((rd165.now hp164).mono up171).now hp169).mono up176)
      have rl181 := rd175
      obtain ⟨hc182, h⟩ := chk h
      have hc183 : 0 ≤ ((q1.length : Int)).toNat := by omega
      have hc184 : ((q1.length : Int)).toNat ≤ ((([] : List (Fl × Fl)) ++ q1) ++ [(Fl.bits 0, Fl.bits 4619567317775286272)]).length := by omega
      obtain ⟨hc185, h⟩ := chk h
      have hc186 : 0 ≤ ((q5.length : Int)).toNat := by omega
      have hc187 : ((q5.length : Int)).toNat ≤ q127.1.length := by omega
      obtain ⟨q188, hcall189, h⟩ := bnd h
      obtain ⟨z199, hz195, h⟩ := bnd h
      refine wp_cutN (fun a w => Fr 119 a [(4, .bool z199)] ∧ Hp S w0 w (Res.sl Ek.c128 24 v3 q1 :: Res.sl Ek.c128 24 v16 ((([] : List (Fl × Fl)) ++ q1) ++ [(Fl.bits 0, Fl.bits 4619567317775286272)]) :: Res.sl Ek.c128 24 v7 q5 :: Res.sl Ek.c128 24 v84 q127.1 :: Res.sl Ek.c128 24 v86 q127.2 :: ow)) ?_ ?_
      · have hp := hp174.same (Same.drew w)
        rcases Bool.eq_false_or_eq_true q188 with hb196 | hb196
        · skip
          replace hz195 := ifT hz195 hb196
          obtain ⟨q197, hcall198, hz195⟩ := bnd hz195
          replace hz195 := Option.some.inj hz195
          refine dr_begin' (fun a w => Fr 119 a [(4, .bool z199)] ∧ Hp S w0 w (Res.sl Ek.c128 24 v3 q1 :: Res.sl Ek.c128 24 v16 ((([] : List (Fl × Fl)) ++ q1) ++ [(Fl.bits 0, Fl.bits 4619567317775286272)]) :: Res.sl Ek.c128 24 v7 q5 :: Res.sl Ek.c128 24 v84 q127.1 :: Res.sl Ek.c128 24 v86 q127.2 :: ow)) (fun w' => ∃ l, Hp S173 w w' l) [] (by kernel_rfl) ?_
          refine dr_take 0 (v16) rfl (by kernel_rfl) (by kernel_rfl) (by kernel_rfl) (by kernel_rfl) rfl rfl hf (by decide) rfl (fun w hp => ?_) ⟨_, hp⟩ ?_
          · obtain ⟨_, hp⟩ := hp
            refine st_move hf rfl rfl (by decide) ?_
            clear hf; intro a ha hf
            exact st_nil hf (th_n ⟨ha, rfl⟩)
          clear hf; intro a hf
          refine dr_take 1 (v3) rfl (by kernel_rfl) (by kernel_rfl) (by kernel_rfl) (by kernel_rfl) rfl rfl hf (by decide) rfl (fun w hp => ?_) ⟨_, hp⟩ ?_
          · obtain ⟨_, hp⟩ := hp
            refine st_move hf rfl rfl (by decide) ?_
            clear hf; intro a ha hf
            exact st_nil hf (th_n ⟨ha, rfl⟩)
          clear hf; intro a hf
          refine dr_take 2 (.int .i64 (q1.length : Int)) rfl (by kernel_rfl) (by kernel_rfl) (by kernel_rfl) (by kernel_rfl) rfl rfl hf (by decide) rfl (fun w hp => ?_) ⟨_, hp⟩ ?_
          · obtain ⟨_, hp⟩ := hp
            refine st_len (E := Ek.c128) hf (by decide) Try.underlying41 rfl rfl (rl178.sl hp) ?_
            clear hf; intro a ha hf
            exact st_nil hf (th_n ⟨ha, rfl⟩)
          clear hf; intro a hf
          refine dr_take 3 ((GL.cut v16 0 (((q1.length : Int)).toNat) 1)) rfl (by kernel_rfl) (by kernel_rfl) (by kernel_rfl) (by kernel_rfl) rfl rfl hf (by decide) rfl (fun w hp => ?_) ⟨_, hp⟩ ?_
          · obtain ⟨_, hp⟩ := hp
            refine st_cutS (E := Ek.c128) hf (by decide) Try.underlying41 elt24 rfl rfl (rl180.sl hp) (.inl ⟨rfl, rfl⟩) (.inr ⟨_, _, rfl, evI rfl (by omega)⟩) hc183 hc184 ?_
            clear hf; intro a ha hf
            exact st_nil hf (th_n ⟨ha, rfl⟩)
          clear hf; intro a hf
          refine dr_take 4 (v84) rfl (by kernel_rfl) (by kernel_rfl) (by kernel_rfl) (by kernel_rfl) rfl rfl hf (by decide) rfl (fun w hp => ?_) ⟨_, hp⟩ ?_
          · obtain ⟨_, hp⟩ := hp
            refine st_move hf rfl rfl (by decide) ?_
            clear hf; intro a ha hf
            exact st_nil hf (th_n ⟨ha, rfl⟩)
          clear hf; intro a hf
          refine dr_take 5 (v7) rfl (by kernel_rfl) (by kernel_rfl) (by kernel_rfl) (by kernel_rfl) rfl rfl hf (by decide) rfl (fun w hp => ?_) ⟨_, hp⟩ ?_
          · obtain ⟨_, hp⟩ := hp
            refine st_move hf rfl rfl (by decide) ?_
            clear hf; intro a ha hf
            exact st_nil hf (th_n ⟨ha, rfl⟩)
          clear hf; intro a hf
          refine dr_take 6 (.int .i64 (q5.length : Int)) rfl (by kernel_rfl) (by kernel_rfl) (by kernel_rfl) (by kernel_rfl) rfl rfl hf (by decide) rfl (fun w hp => ?_) ⟨_, hp⟩ ?_
          · obtain ⟨_, hp⟩ := hp
            refine st_len (E := Ek.c128) hf (by decide) Try.underlying41 rfl rfl (rl179.sl hp) ?_
            clear hf; intro a ha hf
            exact st_nil hf (th_n ⟨ha, rfl⟩)
          clear hf; intro a hf
          refine dr_take 7 ((GL.cut v84 0 (((q5.length : Int)).toNat) 1)) rfl (by kernel_rfl) (by kernel_rfl) (by kernel_rfl) (by kernel_rfl) rfl rfl hf (by decide) rfl (fun w hp => ?_) ⟨_, hp⟩ ?_
          · obtain ⟨_, hp⟩ := hp
            refine st_cutS (E := Ek.c128) hf (by decide) Try.underlying41 elt24 rfl rfl (rl181.sl hp) (.inl ⟨rfl, rfl⟩) (.inr ⟨_, _, rfl, evI rfl (by omega)⟩) hc186 hc187 ?_
            clear hf; intro a ha hf
            exact st_nil hf (th_n ⟨ha, rfl⟩)
          clear hf; intro a hf
          refine dr_take 8 (v3) rfl (by kernel_rfl) (by kernel_rfl) (by kernel_rfl) (by kernel_rfl) rfl rfl hf (by decide) rfl (fun w hp => ?_) ⟨_, hp⟩ ?_
          · obtain ⟨_, hp⟩ := hp
            refine st_move hf rfl rfl (by decide) ?_
            clear hf; intro a ha hf
            exact st_nil hf (th_n ⟨ha, rfl⟩)
          clear hf; intro a hf
          refine dr_take 9 (v86) rfl (by kernel_rfl) (by kernel_rfl) (by kernel_rfl) (by kernel_rfl) rfl rfl hf (by decide) rfl (fun w hp => ?_) ⟨_, hp⟩ ?_
          · obtain ⟨_, hp⟩ := hp
            refine st_move hf rfl rfl (by decide) ?_
            clear hf; intro a ha hf
            exact st_nil hf (th_n ⟨ha, rfl⟩)
          clear hf; intro a hf
          refine dr_one 10 rfl (by kernel_rfl) ?_
          obtain ⟨S190, hp191, rd192, up193, bk194⟩ := Hp.lendS hp (i := 0) rfl
          refine st_call hf (by decide) Try.func30 rfl rfl rfl rfl rfl (f_foghornlaw03_rows_c hp191 _ _ (((RdS.cut rl180 hc183 hc184).now hp).mono up193) _ _ (((RdS.cut rl181 hc186 hc187).now hp).mono up193) _ _ ((rl178.now hp).mono up193) _ _ rd192 hcall189) ?_
          rintro _ w ⟨rfl, hp0⟩
          have hp0 := bk194 _ _ hp0
          clear hp; have hp := hp0; clear hp0
          replace hp : Hp _ _ _ (Res.sl Ek.c128 24 v86 q127.2 :: ow) := hp
          refine ⟨_, rfl, ?_⟩
          clear hf; intro a hf
          refine st_nil hf (th_n ⟨fun _ _ => ⟨_, hp⟩, ?_⟩)
          refine dr_take 11 (.bool q188) rfl (by kernel_rfl) (by kernel_rfl) (by kernel_rfl) (by kernel_rfl) rfl rfl hf (by decide) rfl (fun w hp => ?_) ⟨_, hp⟩ ?_
          · obtain ⟨_, hp⟩ := hp
            refine st_move hf rfl rfl (by decide) ?_
            clear hf; intro a ha hf
            exact st_nil hf (th_n ⟨ha, rfl⟩)
          clear hf; intro a hf
          refine dr_one 12 rfl (by kernel_rfl) ?_
          refine st_call hf (by decide) Try.func24 rfl rfl (wantY hf rfl rfl hb196) rfl rfl (f_foghornlaw03_awake_c hp  hcall198) ?_
          rintro _ w ⟨rfl, hp0⟩
          clear hp; have hp := hp0; clear hp0
          replace hp : Hp _ _ _ (Res.sl Ek.c128 24 v86 q127.2 :: ow) := hp
          refine ⟨_, rfl, ?_⟩
          clear hf; intro a hf
          refine st_nil hf (th_n ⟨fun _ _ => ⟨_, hp⟩, ?_⟩)
          refine dr_take 13 (.bool z199) rfl (by kernel_rfl) (by kernel_rfl) (by kernel_rfl) (by kernel_rfl) rfl rfl hf (by decide) rfl (fun w hp => ?_) ⟨_, hp⟩ ?_
          · obtain ⟨_, hp⟩ := hp
            refine st_pick (v := .bool z199) hf rfl rfl (fun _ => by rw [← hz195]; rfl) (fun hb' => absurd (hb196.symm.trans hb') (by decide)) (by decide) ?_
            clear hf; intro a ha hf
            exact st_nil hf (th_n ⟨ha, rfl⟩)
          clear hf; intro a hf
          refine dr_take 14 (.bool z199) rfl (by kernel_rfl) (by kernel_rfl) (by kernel_rfl) (by kernel_rfl) rfl rfl hf (by decide) rfl (fun w hp => ?_) ⟨_, hp⟩ ?_
          · obtain ⟨_, hp⟩ := hp
            refine st_assign hf rfl rfl (by decide) ?_
            clear hf; intro a ha hf
            exact st_nil hf (th_n ⟨ha, rfl⟩)
          clear hf; intro a hf
          refine dr_end (by kernel_rfl) ?_ _
          have hp := bk177 _ _ hp
          have hp := bk172 _ _ hp
          have hp := bk167 _ _ hp
          have hp := bk162 _ _ hp
          exact ⟨hf.sub ⟨rfl, trivial⟩, hp⟩
        skip
        replace hz195 := ifF hz195 hb196
        replace hz195 := Option.some.inj hz195
        refine dr_begin' (fun a w => Fr 119 a [(4, .bool z199)] ∧ Hp S w0 w (Res.sl Ek.c128 24 v3 q1 :: Res.sl Ek.c128 24 v16 ((([] : List (Fl × Fl)) ++ q1) ++ [(Fl.bits 0, Fl.bits 4619567317775286272)]) :: Res.sl Ek.c128 24 v7 q5 :: Res.sl Ek.c128 24 v84 q127.1 :: Res.sl Ek.c128 24 v86 q127.2 :: ow)) (fun w' => ∃ l, Hp S173 w w' l) [] (by kernel_rfl) ?_
        refine dr_take 0 (v16) rfl (by kernel_rfl) (by kernel_rfl) (by kernel_rfl) (by kernel_rfl) rfl rfl hf (by decide) rfl (fun w hp => ?_) ⟨_, hp⟩ ?_
        · obtain ⟨_, hp⟩ := hp
          refine st_move hf rfl rfl (by decide) ?_
          clear hf; intro a ha hf
          exact st_nil hf (th_n ⟨ha, rfl⟩)
        clear hf; intro a hf
        refine dr_take 1 (v3) rfl (by kernel_rfl) (by kernel_rfl) (by kernel_rfl) (by kernel_rfl) rfl rfl hf (by decide) rfl (fun w hp => ?_) ⟨_, hp⟩ ?_
        · obtain ⟨_, hp⟩ := hp
          refine st_move hf rfl rfl (by decide) ?_
          clear hf; intro a ha hf
          exact st_nil hf (th_n ⟨ha, rfl⟩)
        clear hf; intro a hf
        refine dr_take 2 (.int .i64 (q1.length : Int)) rfl (by kernel_rfl) (by kernel_rfl) (by kernel_rfl) (by kernel_rfl) rfl rfl hf (by decide) rfl (fun w hp => ?_) ⟨_, hp⟩ ?_
        · obtain ⟨_, hp⟩ := hp
          refine st_len (E := Ek.c128) hf (by decide) Try.underlying41 rfl rfl (rl178.sl hp) ?_
          clear hf; intro a ha hf
          exact st_nil hf (th_n ⟨ha, rfl⟩)
        clear hf; intro a hf
        refine dr_take 3 ((GL.cut v16 0 (((q1.length : Int)).toNat) 1)) rfl (by kernel_rfl) (by kernel_rfl) (by kernel_rfl) (by kernel_rfl) rfl rfl hf (by decide) rfl (fun w hp => ?_) ⟨_, hp⟩ ?_
        · obtain ⟨_, hp⟩ := hp
          refine st_cutS (E := Ek.c128) hf (by decide) Try.underlying41 elt24 rfl rfl (rl180.sl hp) (.inl ⟨rfl, rfl⟩) (.inr ⟨_, _, rfl, evI rfl (by omega)⟩) hc183 hc184 ?_
          clear hf; intro a ha hf
          exact st_nil hf (th_n ⟨ha, rfl⟩)
        clear hf; intro a hf
        refine dr_take 4 (v84) rfl (by kernel_rfl) (by kernel_rfl) (by kernel_rfl) (by kernel_rfl) rfl rfl hf (by decide) rfl (fun w hp => ?_) ⟨_, hp⟩ ?_
        · obtain ⟨_, hp⟩ := hp
          refine st_move hf rfl rfl (by decide) ?_
          clear hf; intro a ha hf
          exact st_nil hf (th_n ⟨ha, rfl⟩)
        clear hf; intro a hf
        refine dr_take 5 (v7) rfl (by kernel_rfl) (by kernel_rfl) (by kernel_rfl) (by kernel_rfl) rfl rfl hf (by decide) rfl (fun w hp => ?_) ⟨_, hp⟩ ?_
        · obtain ⟨_, hp⟩ := hp
          refine st_move hf rfl rfl (by decide) ?_
          clear hf; intro a ha hf
          exact st_nil hf (th_n ⟨ha, rfl⟩)
        clear hf; intro a hf
        refine dr_take 6 (.int .i64 (q5.length : Int)) rfl (by kernel_rfl) (by kernel_rfl) (by kernel_rfl) (by kernel_rfl) rfl rfl hf (by decide) rfl (fun w hp => ?_) ⟨_, hp⟩ ?_
        · obtain ⟨_, hp⟩ := hp
          refine st_len (E := Ek.c128) hf (by decide) Try.underlying41 rfl rfl (rl179.sl hp) ?_
          clear hf; intro a ha hf
          exact st_nil hf (th_n ⟨ha, rfl⟩)
        clear hf; intro a hf
        refine dr_take 7 ((GL.cut v84 0 (((q5.length : Int)).toNat) 1)) rfl (by kernel_rfl) (by kernel_rfl) (by kernel_rfl) (by kernel_rfl) rfl rfl hf (by decide) rfl (fun w hp => ?_) ⟨_, hp⟩ ?_
        · obtain ⟨_, hp⟩ := hp
          refine st_cutS (E := Ek.c128) hf (by decide) Try.underlying41 elt24 rfl rfl (rl181.sl hp) (.inl ⟨rfl, rfl⟩) (.inr ⟨_, _, rfl, evI rfl (by omega)⟩) hc186 hc187 ?_
          clear hf; intro a ha hf
          exact st_nil hf (th_n ⟨ha, rfl⟩)
        clear hf; intro a hf
        refine dr_take 8 (v3) rfl (by kernel_rfl) (by kernel_rfl) (by kernel_rfl) (by kernel_rfl) rfl rfl hf (by decide) rfl (fun w hp => ?_) ⟨_, hp⟩ ?_
        · obtain ⟨_, hp⟩ := hp
          refine st_move hf rfl rfl (by decide) ?_
          clear hf; intro a ha hf
          exact st_nil hf (th_n ⟨ha, rfl⟩)
        clear hf; intro a hf
        refine dr_take 9 (v86) rfl (by kernel_rfl) (by kernel_rfl) (by kernel_rfl) (by kernel_rfl) rfl rfl hf (by decide) rfl (fun w hp => ?_) ⟨_, hp⟩ ?_
        · obtain ⟨_, hp⟩ := hp
          refine st_move hf rfl rfl (by decide) ?_
          clear hf; intro a ha hf
          exact st_nil hf (th_n ⟨ha, rfl⟩)
        clear hf; intro a hf
        refine dr_one 10 rfl (by kernel_rfl) ?_
        obtain ⟨S190, hp191, rd192, up193, bk194⟩ := Hp.lendS hp (i := 0) rfl
        refine st_call hf (by decide) Try.func30 rfl rfl rfl rfl rfl (f_foghornlaw03_rows_c hp191 _ _ (((RdS.cut rl180 hc183 hc184).now hp).mono up193) _ _ (((RdS.cut rl181 hc186 hc187).now hp).mono up193) _ _ ((rl178.now hp).mono up193) _ _ rd192 hcall189) ?_
        rintro _ w ⟨rfl, hp0⟩
        have hp0 := bk194 _ _ hp0
        clear hp; have hp := hp0; clear hp0
        replace hp : Hp _ _ _ (Res.sl Ek.c128 24 v86 q127.2 :: ow) := hp
        refine ⟨_, rfl, ?_⟩
        clear hf; intro a hf
        refine st_nil hf (th_n ⟨fun _ _ => ⟨_, hp⟩, ?_⟩)
        refine dr_take 11 (.bool q188) rfl (by kernel_rfl) (by kernel_rfl) (by kernel_rfl) (by kernel_rfl) rfl rfl hf (by decide) rfl (fun w hp => ?_) ⟨_, hp⟩ ?_
        · obtain ⟨_, hp⟩ := hp
          refine st_move hf rfl rfl (by decide) ?_
          clear hf; intro a ha hf
          exact st_nil hf (th_n ⟨ha, rfl⟩)
        clear hf; intro a hf
        refine dr_out 12 rfl (by kernel_rfl) (by kernel_rfl) (by kernel_rfl) (by kernel_rfl) rfl hf (by decide) rfl (wantN hf rfl rfl hb196) ⟨_, hp⟩ ?_
        clear hf; intro a hf
        refine dr_take 13 (.bool z199) rfl (by kernel_rfl) (by kernel_rfl) (by kernel_rfl) (by kernel_rfl) rfl rfl hf (by decide) rfl (fun w hp => ?_) ⟨_, hp⟩ ?_
        · obtain ⟨_, hp⟩ := hp
          refine st_pick (v := .bool z199) hf rfl rfl (fun hb' => absurd (hb196.symm.trans hb') (by decide)) (fun _ => by rw [← hz195]; rfl) (by decide) ?_
          clear hf; intro a ha hf
          exact st_nil hf (th_n ⟨ha, rfl⟩)
        clear hf; intro a hf
        refine dr_take 14 (.bool z199) rfl (by kernel_rfl) (by kernel_rfl) (by kernel_rfl) (by kernel_rfl) rfl rfl hf (by decide) rfl (fun w hp => ?_) ⟨_, hp⟩ ?_
        · obtain ⟨_, hp⟩ := hp
          refine st_assign hf rfl rfl (by decide) ?_
          clear hf; intro a ha hf
          exact st_nil hf (th_n ⟨ha, rfl⟩)
        clear hf; intro a hf
        refine dr_end (by kernel_rfl) ?_ _
        have hp := bk177 _ _ hp
        have hp := bk172 _ _ hp
        have hp := bk167 _ _ hp
        have hp := bk162 _ _ hp
        exact ⟨hf.sub ⟨rfl, trivial⟩, hp⟩
      rintro a w ⟨hf, hp⟩
      refine th_n ?_
      refine wp_ret ?_
      obtain rfl := Option.some.inj h
      have hp : Hp _ _ _ (ow) := Hp.sel (pre := [Res.sl Ek.c128 24 v3 q1, Res.sl Ek.c128 24 v16 ((([] : List (Fl × Fl)) ++ q1) ++ [(Fl.bits 0, Fl.bits 4619567317775286272)]), Res.sl Ek.c128 24 v7 q5, Res.sl Ek.c128 24 v84 q127.1, Res.sl Ek.c128 24 v86 q127.2]) (tail := ow) (rs' := []) hp [] (by decide) (by simp) rfl
      exact ⟨rfl, ⟨hf.sub ⟨rfl, trivial⟩, hp⟩⟩
    replace h := smR h
    obtain ⟨rfl, hf, hp⟩ := hO
    refine ib_r ?_
    refine th_r ?_
    obtain rfl := Option.some.inj h
    exact ⟨rfl, ⟨hf.sub ⟨rfl, trivial⟩, hp⟩⟩
  replace h := smR h
  obtain ⟨rfl, hf, hp⟩ := hO
  refine ib_r ?_
  refine th_r ?_
  obtain rfl := Option.some.inj h
  exact ⟨rfl, ⟨hf.sub ⟨rfl, trivial⟩, hp⟩⟩

end Go.Proofs.Yteifkccomfdciaa
