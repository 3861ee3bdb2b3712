/- The functions foghorn foghornlaw06.TurnsRows: what each answers, as a plain function, and that its call answers it; printed by gen.py. -/
import Derived.Test.YtienojgmpjpcjaaProg
import Derived.Test.YtienojgmpjpcjaaGlY
import Derived.KernelRfl
import Derived.Test.YtienojgmpjpcjaaG3p1
set_option linter.unusedVariables false
set_option linter.unusedSimpArgs false
set_option maxRecDepth 100000
set_option maxHeartbeats 4000000
namespace Go.Proofs.Ytienojgmpjpcjaa
open GL
noncomputable def f_foghornlaw06_rows.s1c (ax9 : (List Int)) (i15 : Int) : Option (((List Int) × Int) ⊕ Unit) := (if (decide (i15 < (ax9.length : Int))) = true then (if 0 ≤ i15 ∧ i15 < (ax9.length : Int) then (some (Sum.inl ((ax9.set (i15).toNat (77 : Int)), (IntKind.i64.wrap (i15 + (1 : Int)))))) else none) else (some (Sum.inr ())))
noncomputable def f_foghornlaw06_rows.s1  (s : ((List Int) × Int)) : Option (((List Int) × Int) ⊕ Unit) := f_foghornlaw06_rows.s1c s.1 s.2
noncomputable def f_foghornlaw06_rows.s2c (hx19 : (List Bool)) (k22 : Int) : Option (((List Bool) × Int) ⊕ Unit) := (if (decide (k22 < (hx19.length : Int))) = true then (if 0 ≤ k22 ∧ k22 < (hx19.length : Int) then (if 0 ≤ k22 ∧ k22 < (hx19.length : Int) then (some (Sum.inl ((hx19.set (k22).toNat (!(gt hx19 k22))), (IntKind.i64.wrap (k22 + (1 : Int)))))) else none) else none) else (some (Sum.inr ())))
noncomputable def f_foghornlaw06_rows.s2  (s : ((List Bool) × Int)) : Option (((List Bool) × Int) ⊕ Unit) := f_foghornlaw06_rows.s2c s.1 s.2
noncomputable def f_foghornlaw06_rows.s3c (l26 : (List Bool)) (k28 : Int) : Option (((List Bool) × Int) ⊕ Unit) := (if (decide (k28 < (l26.length : Int))) = true then (if 0 ≤ k28 ∧ k28 < (l26.length : Int) then (if 0 ≤ k28 ∧ k28 < (l26.length : Int) then (some (Sum.inl ((l26.set (k28).toNat (!(gt l26 k28))), (IntKind.i64.wrap (k28 + (1 : Int)))))) else none) else none) else (some (Sum.inr ())))
noncomputable def f_foghornlaw06_rows.s3  (s : ((List Bool) × Int)) : Option (((List Bool) × Int) ⊕ Unit) := f_foghornlaw06_rows.s3c s.1 s.2
noncomputable def f_foghornlaw06_rows (m0 : (List Int)) (t1 : (List Bool)) (qx2 : (List Int)) (there3 : (List Bool)) : Option Bool := ((f_turns_Into m0).bind fun q1 => ((f_foghornref06_Into qx2).bind fun q5 => ((f_turns_Into m0).bind fun q9 => ((if (q1.2 != q5.2) = true then (some true) else ((f_foghornlaw06_quarters q1.1 q5.1).bind fun q16 => (some (!q16)))).bind fun z15 => (if z15 = true then (some false) else ((loop f_foghornlaw06_rows.s1 (q1.1, (0 : Int))).bind (fun q31 => ((f_turns_Out m0).bind fun q32 => ((f_foghornref06_Out qx2).bind fun q36 => ((if (q32.2 != q36.2) = true then (some true) else ((f_foghornlaw06_quarters q32.1 q36.1).bind fun q43 => (some (!q43)))).bind fun z42 => ((if z42 = true then (some true) else ((f_foghornlaw06_quarters q9.1 q5.1).bind fun q58 => (some (!q58)))).bind fun z57 => (if z57 = true then (some false) else ((f_turns_Marked m0 t1).bind fun q70 => ((f_foghornref06_Marked qx2 there3).bind fun q76 => ((if (q70.2.2 != q76.2.2) = true then (some true) else ((f_foghornlaw06_quarters q70.1 q76.1).bind fun q85 => (some (!q85)))).bind fun z84 => ((if z84 = true then (some true) else ((f_foghornlaw06_truths q70.2.1 q76.2.1).bind fun q100 => (some (!q100)))).bind fun z99 => (if z99 = true then (some false) else ((loop f_foghornlaw06_rows.s2 (q70.2.1, (0 : Int))).bind (fun q116 => ((f_turns_Marked m0 t1).bind fun q117 => ((f_turns_Bits m0).bind fun q123 => ((f_foghornref06_Bits qx2).bind fun q127 => ((if (q123.2 != q127.2) = true then (some true) else ((f_foghornlaw06_truths q123.1 q127.1).bind fun q134 => (some (!q134)))).bind fun z133 => ((if z133 = true then (some true) else ((f_foghornlaw06_truths q117.2.1 q76.2.1).bind fun q149 => (some (!q149)))).bind fun z148 => (if z148 = true then (some false) else ((loop f_foghornlaw06_rows.s3 (q123.1, (0 : Int))).bind (fun q165 => ((f_turns_Bits m0).bind fun q166 => ((f_turns_Counts m0).bind fun q170 => ((f_foghornref06_Counts qx2).bind fun q174 => ((if ((q170.2 == q174.2) && ((q170.1.1 == q174.1.1) && ((q170.1.2.1 == q174.1.2.1) && ((q170.1.2.2.1 == q174.1.2.2.1) && (q170.1.2.2.2 == q174.1.2.2.2))))) = true then ((f_foghornlaw06_truths q166.1 q127.1).bind fun q183 => (some q183)) else (some false)).bind fun z182 => (some z182))))))))))))))))))))))))))))))))
theorem f_foghornlaw06_rows_c {S : Nat → Prop} {w0 w : World} {ow : List Res} (hp : Hp S w0 w ow) (vm0 : Value) (m0 : (List Int)) (hm0 : RdS (Ek.int .u8) S w0 vm0 m0) (vt1 : Value) (t1 : (List Bool)) (ht1 : RdS Ek.bool S w0 vt1 t1) (vqx2 : Value) (qx2 : (List Int)) (hqx2 : RdS (Ek.int .u8) S w0 vqx2 qx2) (vthere3 : Value) (there3 : (List Bool)) (hthere3 : RdS Ek.bool S w0 vthere3 there3) {r : Bool} (h : f_foghornlaw06_rows m0 t1 qx2 there3 = some r) :
    Calls Try.prog 15 #[vm0, vt1, vqx2, vthere3] w (fun e w' => e = .returned (.bool r) ∧ Hp S w0 w' (ow)) := by
  unfold f_foghornlaw06_rows at h
  refine enter (n := 208) (args := [vm0, vt1, vqx2, vthere3]) Try.func15 rfl rfl (Nat.le_of_ble_eq_true rfl) fun a hf => ?_
  replace hf : Fr 208 a [(0, vm0), (1, vt1), (2, vqx2), (3, vthere3)] := hf
  refine wp_mono (Q := fun e a w => e = .ret ∧ Fr 208 a [(8, .bool r)] ∧ Hp S w0 w (ow)) ?_ ?_
  rotate_left
  · rintro e a w ⟨rfl, hf, hp⟩
    exact ret1 hf rfl rfl ⟨rfl, hp⟩
  refine wp_seq ?_
  refine wp_reg ?_
  refine st_assign hf rfl rfl (by decide) ?_
  clear hf; intro a ha hf; clear ha
  refine st_nil hf ?_
  refine th_n ?_
  refine wp_seq ?_
  refine wp_reg ?_
  refine st_move hf rfl rfl (by decide) ?_
  clear hf; intro a ha hf; clear ha
  obtain ⟨q1, hcall2, h⟩ := bnd h
  refine st_call hf (by decide) Try.func9 rfl rfl rfl rfl rfl (f_turns_Into_c hp _ _ hm0 hcall2) ?_
  rintro _ w ⟨v3, rfl, hp0⟩
  clear hp; have hp := hp0; clear hp0
  replace hp : Hp _ _ _ (Res.sl (Ek.int .u8) 5 v3 q1.1 :: ow) := hp
  refine ⟨_, rfl, ?_⟩
  clear hf; intro a hf
  refine st_move hf rfl rfl (by decide) ?_
  clear hf; intro a ha hf; clear ha
  refine st_extract hf (by decide) rfl rfl rfl ?_
  clear hf; intro a ha hf; clear ha
  refine st_extract hf (by decide) rfl rfl rfl ?_
  clear hf; intro a ha hf; clear ha
  refine st_assign hf rfl rfl (by decide) ?_
  clear hf; intro a ha hf; clear ha
  refine st_assign hf rfl rfl (by decide) ?_
  clear hf; intro a ha hf; clear ha
  refine st_nil hf ?_
  refine th_n ?_
  refine wp_seq ?_
  refine wp_reg ?_
  refine st_move hf rfl rfl (by decide) ?_
  clear hf; intro a ha hf; clear ha
  obtain ⟨q5, hcall6, h⟩ := bnd h
  refine st_call hf (by decide) Try.func37 rfl rfl rfl rfl rfl (f_foghornref06_Into_c hp _ _ hqx2 hcall6) ?_
  rintro _ w ⟨v7, rfl, hp0⟩
  clear hp; have hp := hp0; clear hp0
  replace hp : Hp _ _ _ (Res.sl (Ek.int .u8) 5 v7 q5.1 :: Res.sl (Ek.int .u8) 5 v3 q1.1 :: ow) := hp
  refine ⟨_, rfl, ?_⟩
  clear hf; intro a hf
  refine st_move hf rfl rfl (by decide) ?_
  clear hf; intro a ha hf; clear ha
  refine st_extract hf (by decide) rfl rfl rfl ?_
  clear hf; intro a ha hf; clear ha
  refine st_extract hf (by decide) rfl rfl rfl ?_
  clear hf; intro a ha hf; clear ha
  refine st_assign hf rfl rfl (by decide) ?_
  clear hf; intro a ha hf; clear ha
  refine st_assign hf rfl rfl (by decide) ?_
  clear hf; intro a ha hf; clear ha
  refine st_nil hf ?_
  refine th_n ?_
  refine wp_seq ?_
  refine wp_reg ?_
  refine st_move hf rfl rfl (by decide) ?_
  clear hf; intro a ha hf; clear ha
  obtain ⟨q9, hcall10, h⟩ := bnd h
  refine st_call hf (by decide) Try.func9 rfl rfl rfl rfl rfl (f_turns_Into_c hp _ _ hm0 hcall10) ?_
  rintro _ w ⟨v11, rfl, hp0⟩
  clear hp; have hp := hp0; clear hp0
  replace hp : Hp _ _ _ (Res.sl (Ek.int .u8) 5 v11 q9.1 :: Res.sl (Ek.int .u8) 5 v7 q5.1 :: Res.sl (Ek.int .u8) 5 v3 q1.1 :: ow) := hp
  refine ⟨_, rfl, ?_⟩
  clear hf; intro a hf
  refine st_move hf rfl rfl (by decide) ?_
  clear hf; intro a ha hf; clear ha
  refine st_extract hf (by decide) rfl rfl rfl ?_
  clear hf; intro a ha hf; clear ha
  refine st_extract hf (by decide) rfl rfl rfl ?_
  clear hf; intro a ha hf; clear ha
  refine st_assign hf rfl rfl (by decide) ?_
  clear hf; intro a ha hf; clear ha
  refine st_assign hf rfl rfl (by decide) ?_
  clear hf; intro a ha hf; clear ha
  refine st_nil hf ?_
  refine th_n ?_
  refine wp_seq ?_
  refine wp_seq ?_
  refine wp_reg ?_
  refine st_move hf rfl rfl (by decide) ?_
  clear hf; intro a ha hf; clear ha
  refine st_move hf rfl rfl (by decide) ?_
  clear hf; intro a ha hf; clear ha
  refine st_ineq hf (by decide) rfl rfl rfl ?_
  clear hf; intro a ha hf; clear ha
  refine st_move hf rfl rfl (by decide) ?_
  clear hf; intro a ha hf; clear ha
  obtain ⟨z15, hz13, h⟩ := bnd h
  refine wpList_cut 5 (fun a w => Fr 208 a [(0, vm0), (1, vt1), (2, vqx2), (3, vthere3), (9, v3), (11, v7), (13, v11), (56, .bool z15)] ∧ Hp S w0 w (Res.sl (Ek.int .u8) 5 v11 q9.1 :: Res.sl (Ek.int .u8) 5 v7 q5.1 :: Res.sl (Ek.int .u8) 5 v3 q1.1 :: ow)) ?_ ?_
  · rcases Bool.eq_false_or_eq_true (q1.2 != q5.2) with hb14 | hb14
    · skip
      replace hz13 := ifT hz13 hb14
      refine st_skip hf (wantN hf rfl rfl hb14) rfl (by decide) ?_ rfl
      clear hf; intro a hf
      refine st_skip hf (wantN hf rfl rfl hb14) rfl (by decide) ?_ rfl
      clear hf; intro a hf
      refine st_skip hf (wantN hf rfl rfl hb14) rfl (by decide) ?_ rfl
      clear hf; intro a hf
      refine st_skip hf (wantN hf rfl rfl hb14) rfl (by decide) ?_ rfl
      clear hf; intro a hf
      obtain rfl := Option.some.inj hz13
      refine st_pick (v := .bool true) hf rfl rfl (fun hb' => ?_) (fun hb' => ?_) (by decide) ?_
      · rfl
      · exact absurd (hb14.symm.trans hb') (by decide)
      clear hf; intro a ha hf; clear ha
      refine st_nil hf (th_n ?_)
      exact ⟨hf.sub ⟨rfl, rfl, rfl, rfl, rfl, rfl, rfl, rfl, trivial⟩, hp⟩
    replace hz13 := ifF hz13 hb14
    refine st_move hf (wantY hf rfl rfl hb14) rfl (by decide) ?_
    clear hf; intro a ha hf; clear ha
    refine st_move hf (wantY hf rfl rfl hb14) rfl (by decide) ?_
    clear hf; intro a ha hf; clear ha
    obtain ⟨q16, hcall17, hz13⟩ := bnd hz13
    obtain ⟨S18, hp19, rd20, up21, bk22⟩ := Hp.lendS hp (i := 2) rfl
    obtain ⟨S23, hp24, rd25, up26, bk27⟩ := Hp.lendS hp19 (i := 1) rfl
    refine st_call hf (by decide) Try.func13 rfl rfl (wantY hf rfl rfl hb14) rfl rfl (f_foghornlaw06_quarters_c hp24 _ _ ((rd20.now hp19).mono up26) _ _ rd25 hcall17) ?_
    rintro _ w ⟨rfl, hp0⟩
    have hp0 := bk27 _ _ hp0
    have hp0 := bk22 _ _ hp0
    clear hp; have hp := hp0; clear hp0
    replace hp : Hp _ _ _ (Res.sl (Ek.int .u8) 5 v3 q1.1 :: Res.sl (Ek.int .u8) 5 v7 q5.1 :: Res.sl (Ek.int .u8) 5 v11 q9.1 :: ow) := hp
    refine ⟨_, rfl, ?_⟩
    clear hf; intro a hf
    refine st_not hf (by decide) (wantY hf rfl rfl hb14) rfl ?_
    clear hf; intro a ha hf; clear ha
    obtain rfl := Option.some.inj hz13
    refine st_pick (v := .bool (!q16)) hf rfl rfl (fun hb' => ?_) (fun hb' => ?_) (by decide) ?_
    · exact absurd (hb14.symm.trans hb') (by decide)
    · rfl
    clear hf; intro a ha hf; clear ha
    refine st_nil hf (th_n ?_)
    have hp : Hp _ _ _ (Res.sl (Ek.int .u8) 5 v11 q9.1 :: Res.sl (Ek.int .u8) 5 v7 q5.1 :: Res.sl (Ek.int .u8) 5 v3 q1.1 :: ow) := Hp.sel (pre := [Res.sl (Ek.int .u8) 5 v3 q1.1, Res.sl (Ek.int .u8) 5 v7 q5.1, Res.sl (Ek.int .u8) 5 v11 q9.1]) (tail := ow) (rs' := [Res.sl (Ek.int .u8) 5 v11 q9.1, Res.sl (Ek.int .u8) 5 v7 q5.1, Res.sl (Ek.int .u8) 5 v3 q1.1]) hp [2, 1, 0] (by decide) (by simp) rfl
    exact ⟨hf.sub ⟨rfl, rfl, rfl, rfl, rfl, rfl, rfl, rfl, trivial⟩, hp⟩
  rintro a w ⟨hf, hp⟩
  refine st_nil hf ?_
  refine th_n ?_
  refine wp_if hf rfl (fun hb => ?_) (fun hb => ?_)
  · replace h := ifT h hb
    refine wp_seq ?_
    refine wp_reg ?_
    refine st_assign hf rfl rfl (by decide) ?_
    clear hf; intro a ha hf; clear ha
    refine st_nil hf ?_
    refine th_n ?_
    refine wp_ret ?_
    refine th_r ?_
    obtain rfl := Option.some.inj h
    have hp : Hp _ _ _ (ow) := Hp.sel (pre := [Res.sl (Ek.int .u8) 5 v11 q9.1, Res.sl (Ek.int .u8) 5 v7 q5.1, Res.sl (Ek.int .u8) 5 v3 q1.1]) (tail := ow) (rs' := []) hp [] (by decide) (by simp) rfl
    exact ⟨rfl, ⟨hf.sub ⟨rfl, trivial⟩, hp⟩⟩
  replace h := ifF h hb
  refine wp_skip ?_
  refine th_n ?_
  refine wp_seq ?_
  refine wp_seq ?_
  refine wp_reg ?_
  refine st_assign hf rfl rfl (by decide) ?_
  clear hf; intro a ha hf; clear ha
  refine st_nil hf ?_
  refine th_n ?_
  refine wp_block ?_
  obtain ⟨q31, hl, h⟩ := bnd h
  have hp : Hp _ _ _ (Res.sl (Ek.int .u8) 5 v3 q1.1 :: Res.sl (Ek.int .u8) 5 v7 q5.1 :: Res.sl (Ek.int .u8) 5 v11 q9.1 :: ow) := Hp.sel (pre := [Res.sl (Ek.int .u8) 5 v11 q9.1, Res.sl (Ek.int .u8) 5 v7 q5.1, Res.sl (Ek.int .u8) 5 v3 q1.1]) (tail := ow) (rs' := [Res.sl (Ek.int .u8) 5 v3 q1.1, Res.sl (Ek.int .u8) 5 v7 q5.1, Res.sl (Ek.int .u8) 5 v11 q9.1]) hp [2, 1, 0] (by decide) (by simp) rfl
  refine wp_loop_pure (f := f_foghornlaw06_rows.s1) (s := (q1.1, (0 : Int))) (fun s a w => ∃ (v28 : Value), Fr 208 a [(0, vm0), (1, vt1), (2, vqx2), (3, vthere3), (9, v28), (11, v7), (13, v11), (15, .int .i64 s.2)] ∧ Hp S w0 w (Res.sl (Ek.int .u8) 5 v28 s.1 :: Res.sl (Ek.int .u8) 5 v7 q5.1 :: Res.sl (Ek.int .u8) 5 v11 q9.1 :: ow)) (fun q e a w => e = .exit 0 ∧ Fr 208 a [(0, vm0), (1, vt1), (2, vqx2), (3, vthere3), (11, v7), (13, v11)] ∧ Hp S w0 w (Res.sl (Ek.int .u8) 5 v7 q5.1 :: Res.sl (Ek.int .u8) 5 v11 q9.1 :: ow)) ?_ hl ⟨_, hf.sub ⟨rfl, rfl, rfl, rfl, rfl, rfl, rfl, rfl, trivial⟩, hp⟩ ?_
  · clear hl hf hp
    intro s x a w h hI
    obtain ⟨ax9, i15⟩ := s
    obtain ⟨v28, hf, hp⟩ : ∃ (v28 : Value), Fr 208 a [(0, vm0), (1, vt1), (2, vqx2), (3, vthere3), (9, v28), (11, v7), (13, v11), (15, .int .i64 i15)] ∧ Hp S w0 w (Res.sl (Ek.int .u8) 5 v28 ax9 :: Res.sl (Ek.int .u8) 5 v7 q5.1 :: Res.sl (Ek.int .u8) 5 v11 q9.1 :: ow) := hI
    replace h : f_foghornlaw06_rows.s1c ax9 i15 = some x := h
    unfold f_foghornlaw06_rows.s1c at h
    refine wp_seq ?_
    refine wp_seq ?_
    refine wp_reg ?_
    refine st_move hf rfl rfl (by decide) ?_
    clear hf; intro a ha hf; clear ha
    refine st_move hf rfl rfl (by decide) ?_
    clear hf; intro a ha hf; clear ha
    refine st_len (E := (Ek.int .u8)) hf (by decide) Try.underlying22 rfl rfl (hp.sl (i := 0) rfl) ?_
    clear hf; intro a ha hf; clear ha
    refine st_ilss hf (by decide) rfl rfl rfl ?_
    clear hf; intro a ha hf; clear ha
    refine st_nil hf ?_
    refine th_n ?_
    refine wp_if hf rfl (fun hb => ?_) (fun hb => ?_)
    · replace h := ifT h hb
      refine wp_skip ?_
      refine th_n ?_
      refine wp_seq ?_
      refine wp_block ?_
      refine wp_reg ?_
      refine st_move hf rfl rfl (by decide) ?_
      clear hf; intro a ha hf; clear ha
      refine st_move hf rfl rfl (by decide) ?_
      clear hf; intro a ha hf; clear ha
      obtain ⟨hc30, h⟩ := chk h
      refine st_index (E := (Ek.int .u8)) hf (by decide) Try.underlying22 elt5 rfl rfl rfl (hp.sl (i := 0) rfl) hc30.1 hc30.2 ?_
      clear hf; intro a ha hf; clear ha
      refine st_store (E := (Ek.int .u8)) hf elt5 hp (i := 0) rfl rfl rfl rfl rfl hc30.1 hc30.2 ?_
      clear hf; intro a w hf hp0; clear hp; have hp := hp0; clear hp0
      replace hp : Hp _ _ _ (Res.sl (Ek.int .u8) 5 v28 (ax9.set (i15).toNat (77 : Int)) :: Res.sl (Ek.int .u8) 5 v7 q5.1 :: Res.sl (Ek.int .u8) 5 v11 q9.1 :: ow) := hp
      refine st_nil hf ?_
      refine ib_n ?_
      refine th_n ?_
      refine wp_reg ?_
      refine st_move hf rfl rfl (by decide) ?_
      clear hf; intro a ha hf; clear ha
      refine st_iadd hf (by decide) rfl rfl rfl ?_
      clear hf; intro a ha hf; clear ha
      refine st_assign hf rfl rfl (by decide) ?_
      clear hf; intro a ha hf; clear ha
      refine st_nil hf ?_
      obtain rfl := Option.some.inj h
      exact rnd_l ⟨_, hf.sub ⟨rfl, rfl, rfl, rfl, rfl, rfl, rfl, rfl, trivial⟩, hp⟩
    replace h := ifF h hb
    refine wp_exit ?_
    refine th_e ?_
    obtain rfl := Option.some.inj h
    have hp : Hp _ _ _ (Res.sl (Ek.int .u8) 5 v7 q5.1 :: Res.sl (Ek.int .u8) 5 v11 q9.1 :: ow) := Hp.sel (pre := [Res.sl (Ek.int .u8) 5 v28 ax9, Res.sl (Ek.int .u8) 5 v7 q5.1, Res.sl (Ek.int .u8) 5 v11 q9.1]) (tail := ow) (rs' := [Res.sl (Ek.int .u8) 5 v7 q5.1, Res.sl (Ek.int .u8) 5 v11 q9.1]) hp [1, 2] (by decide) (by simp) rfl
    exact rnd_r (by simp) ⟨rfl, hf.sub ⟨rfl, rfl, rfl, rfl, rfl, rfl, trivial⟩, hp⟩
  clear hl hf hp
  intro e a w hne hO
  obtain ⟨rfl, hf, hp⟩ := hO
  refine ib_same ?_
  refine th_n ?_
  refine wp_seq ?_
  refine wp_reg ?_
  refine st_move hf rfl rfl (by decide) ?_
  clear hf; intro a ha hf; clear ha
  obtain ⟨q32, hcall33, h⟩ := bnd h
  refine st_call hf (by decide) Try.func10 rfl rfl rfl rfl rfl (f_turns_Out_c hp _ _ hm0 hcall33) ?_
  rintro _ w ⟨v34, rfl, hp0⟩
  clear hp; have hp := hp0; clear hp0
  replace hp : Hp _ _ _ (Res.sl (Ek.int .u8) 5 v34 q32.1 :: Res.sl (Ek.int .u8) 5 v7 q5.1 :: Res.sl (Ek.int .u8) 5 v11 q9.1 :: ow) := hp
  refine ⟨_, rfl, ?_⟩
  clear hf; intro a hf
  refine st_move hf rfl rfl (by decide) ?_
  clear hf; intro a ha hf; clear ha
  refine st_extract hf (by decide) rfl rfl rfl ?_
  clear hf; intro a ha hf; clear ha
  refine st_extract hf (by decide) rfl rfl rfl ?_
  clear hf; intro a ha hf; clear ha
  refine st_assign hf rfl rfl (by decide) ?_
  clear hf; intro a ha hf; clear ha
  refine st_assign hf rfl rfl (by decide) ?_
  clear hf; intro a ha hf; clear ha
  refine st_nil hf ?_
  refine th_n ?_
  refine wp_seq ?_
  refine wp_reg ?_
  refine st_move hf rfl rfl (by decide) ?_
  clear hf; intro a ha hf; clear ha
  obtain ⟨q36, hcall37, h⟩ := bnd h
  refine st_call hf (by decide) Try.func38 rfl rfl rfl rfl rfl (f_foghornref06_Out_c hp _ _ hqx2 hcall37) ?_
  rintro _ w ⟨v38, rfl, hp0⟩
  clear hp; have hp := hp0; clear hp0
  replace hp : Hp _ _ _ (Res.sl (Ek.int .u8) 5 v38 q36.1 :: Res.sl (Ek.int .u8) 5 v34 q32.1 :: Res.sl (Ek.int .u8) 5 v7 q5.1 :: Res.sl (Ek.int .u8) 5 v11 q9.1 :: ow) := hp
  refine ⟨_, rfl, ?_⟩
  clear hf; intro a hf
  refine st_move hf rfl rfl (by decide) ?_
  clear hf; intro a ha hf; clear ha
  refine st_extract hf (by decide) rfl rfl rfl ?_
  clear hf; intro a ha hf; clear ha
  refine st_extract hf (by decide) rfl rfl rfl ?_
  clear hf; intro a ha hf; clear ha
  refine st_assign hf rfl rfl (by decide) ?_
  clear hf; intro a ha hf; clear ha
  refine st_assign hf rfl rfl (by decide) ?_
  clear hf; intro a ha hf; clear ha
  refine st_nil hf ?_
  refine th_n ?_
  refine wp_seq ?_
  refine wp_seq ?_
  refine wp_reg ?_
  refine st_move hf rfl rfl (by decide) ?_
  clear hf; intro a ha hf; clear ha
  refine st_move hf rfl rfl (by decide) ?_
  clear hf; intro a ha hf; clear ha
  refine st_ineq hf (by decide) rfl rfl rfl ?_
  clear hf; intro a ha hf; clear ha
  refine st_move hf rfl rfl (by decide) ?_
  clear hf; intro a ha hf; clear ha
  obtain ⟨z42, hz40, h⟩ := bnd h
  refine wpList_cut 5 (fun a w => Fr 208 a [(0, vm0), (1, vt1), (2, vqx2), (3, vthere3), (11, v7), (13, v11), (84, .bool z42)] ∧ Hp S w0 w (Res.sl (Ek.int .u8) 5 v38 q36.1 :: Res.sl (Ek.int .u8) 5 v34 q32.1 :: Res.sl (Ek.int .u8) 5 v7 q5.1 :: Res.sl (Ek.int .u8) 5 v11 q9.1 :: ow)) ?_ ?_
  · rcases Bool.eq_false_or_eq_true (q32.2 != q36.2) with hb41 | hb41
    · skip
      replace hz40 := ifT hz40 hb41
      refine st_skip hf (wantN hf rfl rfl hb41) rfl (by decide) ?_ rfl
      clear hf; intro a hf
      refine st_skip hf (wantN hf rfl rfl hb41) rfl (by decide) ?_ rfl
      clear hf; intro a hf
      refine st_skip hf (wantN hf rfl rfl hb41) rfl (by decide) ?_ rfl
      clear hf; intro a hf
      refine st_skip hf (wantN hf rfl rfl hb41) rfl (by decide) ?_ rfl
      clear hf; intro a hf
      obtain rfl := Option.some.inj hz40
      refine st_pick (v := .bool true) hf rfl rfl (fun hb' => ?_) (fun hb' => ?_) (by decide) ?_
      · rfl
      · exact absurd (hb41.symm.trans hb') (by decide)
      clear hf; intro a ha hf; clear ha
      refine st_nil hf (th_n ?_)
      exact ⟨hf.sub ⟨rfl, rfl, rfl, rfl, rfl, rfl, rfl, trivial⟩, hp⟩
    replace hz40 := ifF hz40 hb41
    refine st_move hf (wantY hf rfl rfl hb41) rfl (by decide) ?_
    clear hf; intro a ha hf; clear ha
    refine st_move hf (wantY hf rfl rfl hb41) rfl (by decide) ?_
    clear hf; intro a ha hf; clear ha
    obtain ⟨q43, hcall44, hz40⟩ := bnd hz40
    obtain ⟨S45, hp46, rd47, up48, bk49⟩ := Hp.lendS hp (i := 1) rfl
    obtain ⟨S50, hp51, rd52, up53, bk54⟩ := Hp.lendS hp46 (i := 0) rfl
    refine st_call hf (by decide) Try.func13 rfl rfl (wantY hf rfl rfl hb41) rfl rfl (f_foghornlaw06_quarters_c hp51 _ _ ((rd47.now hp46).mono up53) _ _ rd52 hcall44) ?_
    rintro _ w ⟨rfl, hp0⟩
    have hp0 := bk54 _ _ hp0
    have hp0 := bk49 _ _ hp0
    clear hp; have hp := hp0; clear hp0
    replace hp : Hp _ _ _ (Res.sl (Ek.int .u8) 5 v34 q32.1 :: Res.sl (Ek.int .u8) 5 v38 q36.1 :: Res.sl (Ek.int .u8) 5 v7 q5.1 :: Res.sl (Ek.int .u8) 5 v11 q9.1 :: ow) := hp
    refine ⟨_, rfl, ?_⟩
    clear hf; intro a hf
    refine st_not hf (by decide) (wantY hf rfl rfl hb41) rfl ?_
    clear hf; intro a ha hf; clear ha
    obtain rfl := Option.some.inj hz40
    refine st_pick (v := .bool (!q43)) hf rfl rfl (fun hb' => ?_) (fun hb' => ?_) (by decide) ?_
    · exact absurd (hb41.symm.trans hb') (by decide)
    · rfl
    clear hf; intro a ha hf; clear ha
    refine st_nil hf (th_n ?_)
    have hp : Hp _ _ _ (Res.sl (Ek.int .u8) 5 v38 q36.1 :: Res.sl (Ek.int .u8) 5 v34 q32.1 :: Res.sl (Ek.int .u8) 5 v7 q5.1 :: Res.sl (Ek.int .u8) 5 v11 q9.1 :: ow) := Hp.sel (pre := [Res.sl (Ek.int .u8) 5 v34 q32.1, Res.sl (Ek.int .u8) 5 v38 q36.1, Res.sl (Ek.int .u8) 5 v7 q5.1, Res.sl (Ek.int .u8) 5 v11 q9.1]) (tail := ow) (rs' := [Res.sl (Ek.int .u8) 5 v38 q36.1, Res.sl (Ek.int .u8) 5 v34 q32.1, Res.sl (Ek.int .u8) 5 v7 q5.1, Res.sl (Ek.int .u8) 5 v11 q9.1]) hp [1, 0, 2, 3] (by decide) (by simp) rfl
    exact ⟨hf.sub ⟨rfl, rfl, rfl, rfl, rfl, rfl, rfl, trivial⟩, hp⟩
  rintro a w ⟨hf, hp⟩
  refine st_move hf rfl rfl (by decide) ?_
  clear hf; intro a ha hf; clear ha
  obtain ⟨z57, hz55, h⟩ := bnd h
  refine wpList_cut 5 (fun a w => Fr 208 a [(0, vm0), (1, vt1), (2, vqx2), (3, vthere3), (90, .bool z57)] ∧ Hp S w0 w (Res.sl (Ek.int .u8) 5 v38 q36.1 :: Res.sl (Ek.int .u8) 5 v34 q32.1 :: Res.sl (Ek.int .u8) 5 v7 q5.1 :: Res.sl (Ek.int .u8) 5 v11 q9.1 :: ow)) ?_ ?_
  · rcases Bool.eq_false_or_eq_true z42 with hb56 | hb56
    · skip
      replace hz55 := ifT hz55 hb56
      refine st_skip hf (wantN hf rfl rfl hb56) rfl (by decide) ?_ rfl
      clear hf; intro a hf
      refine st_skip hf (wantN hf rfl rfl hb56) rfl (by decide) ?_ rfl
      clear hf; intro a hf
      refine st_skip hf (wantN hf rfl rfl hb56) rfl (by decide) ?_ rfl
      clear hf; intro a hf
      refine st_skip hf (wantN hf rfl rfl hb56) rfl (by decide) ?_ rfl
      clear hf; intro a hf
      obtain rfl := Option.some.inj hz55
      refine st_pick (v := .bool true) hf rfl rfl (fun hb' => ?_) (fun hb' => ?_) (by decide) ?_
      · rfl
      · exact absurd (hb56.symm.trans hb') (by decide)
      clear hf; intro a ha hf; clear ha
      refine st_nil hf (th_n ?_)
      exact ⟨hf.sub ⟨rfl, rfl, rfl, rfl, rfl, trivial⟩, hp⟩
    replace hz55 := ifF hz55 hb56
    refine st_move hf (wantY hf rfl rfl hb56) rfl (by decide) ?_
    clear hf; intro a ha hf; clear ha
    refine st_move hf (wantY hf rfl rfl hb56) rfl (by decide) ?_
    clear hf; intro a ha hf; clear ha
    obtain ⟨q58, hcall59, hz55⟩ := bnd hz55
    obtain ⟨S60, hp61, rd62, up63, bk64⟩ := Hp.lendS hp (i := 3) rfl
    obtain ⟨S65, hp66, rd67, up68, bk69⟩ := Hp.lendS hp61 (i := 2) rfl
    refine st_call hf (by decide) Try.func13 rfl rfl (wantY hf rfl rfl hb56) rfl rfl (f_foghornlaw06_quarters_c hp66 _ _ ((rd62.now hp61).mono up68) _ _ rd67 hcall59) ?_
    rintro _ w ⟨rfl, hp0⟩
    have hp0 := bk69 _ _ hp0
    have hp0 := bk64 _ _ hp0
    clear hp; have hp := hp0; clear hp0
    replace hp : Hp _ _ _ (Res.sl (Ek.int .u8) 5 v11 q9.1 :: Res.sl (Ek.int .u8) 5 v7 q5.1 :: Res.sl (Ek.int .u8) 5 v38 q36.1 :: Res.sl (Ek.int .u8) 5 v34 q32.1 :: ow) := hp
    refine ⟨_, rfl, ?_⟩
    clear hf; intro a hf
    refine st_not hf (by decide) (wantY hf rfl rfl hb56) rfl ?_
    clear hf; intro a ha hf; clear ha
    obtain rfl := Option.some.inj hz55
    refine st_pick (v := .bool (!q58)) hf rfl rfl (fun hb' => ?_) (fun hb' => ?_) (by decide) ?_
    · exact absurd (hb56.symm.trans hb') (by decide)
    · rfl
    clear hf; intro a ha hf; clear ha
    refine st_nil hf (th_n ?_)
    have hp : Hp _ _ _ (Res.sl (Ek.int .u8) 5 v38 q36.1 :: Res.sl (Ek.int .u8) 5 v34 q32.1 :: Res.sl (Ek.int .u8) 5 v7 q5.1 :: Res.sl (Ek.int .u8) 5 v11 q9.1 :: ow) := Hp.sel (pre := [Res.sl (Ek.int .u8) 5 v11 q9.1, Res.sl (Ek.int .u8) 5 v7 q5.1, Res.sl (Ek.int .u8) 5 v38 q36.1, Res.sl (Ek.int .u8) 5 v34 q32.1]) (tail := ow) (rs' := [Res.sl (Ek.int .u8) 5 v38 q36.1, Res.sl (Ek.int .u8) 5 v34 q32.1, Res.sl (Ek.int .u8) 5 v7 q5.1, Res.sl (Ek.int .u8) 5 v11 q9.1]) hp [2, 3, 1, 0] (by decide) (by simp) rfl
    exact ⟨hf.sub ⟨rfl, rfl, rfl, rfl, rfl, trivial⟩, hp⟩
  rintro a w ⟨hf, hp⟩
  refine st_nil hf ?_
  refine th_n ?_
  refine wp_if hf rfl (fun hb => ?_) (fun hb => ?_)
  · replace h := ifT h hb
    refine wp_seq ?_
    refine wp_reg ?_
    refine st_assign hf rfl rfl (by decide) ?_
    clear hf; intro a ha hf; clear ha
    refine st_nil hf ?_
    refine th_n ?_
    refine wp_ret ?_
    refine th_r ?_
    obtain rfl := Option.some.inj h
    have hp : Hp _ _ _ (ow) := Hp.sel (pre := [Res.sl (Ek.int .u8) 5 v38 q36.1, Res.sl (Ek.int .u8) 5 v34 q32.1, Res.sl (Ek.int .u8) 5 v7 q5.1, Res.sl (Ek.int .u8) 5 v11 q9.1]) (tail := ow) (rs' := []) hp [] (by decide) (by simp) rfl
    exact ⟨rfl, ⟨hf.sub ⟨rfl, trivial⟩, hp⟩⟩
  replace h := ifF h hb
  refine wp_skip ?_
  refine th_n ?_
  refine wp_seq ?_
  refine wp_reg ?_
  refine st_move hf rfl rfl (by decide) ?_
  clear hf; intro a ha hf; clear ha
  refine st_move hf rfl rfl (by decide) ?_
  clear hf; intro a ha hf; clear ha
  obtain ⟨q70, hcall71, h⟩ := bnd h
  refine st_call hf (by decide) Try.func32 rfl rfl rfl rfl rfl (f_turns_Marked_c hp _ _ hm0 _ _ ht1 hcall71) ?_
  rintro _ w ⟨v72, v73, rfl, hp0⟩
  clear hp; have hp := hp0; clear hp0
  replace hp : Hp _ _ _ (Res.sl (Ek.int .u8) 5 v72 q70.1 :: Res.sl Ek.bool 4 v73 q70.2.1 :: Res.sl (Ek.int .u8) 5 v38 q36.1 :: Res.sl (Ek.int .u8) 5 v34 q32.1 :: Res.sl (Ek.int .u8) 5 v7 q5.1 :: Res.sl (Ek.int .u8) 5 v11 q9.1 :: ow) := hp
  refine ⟨_, rfl, ?_⟩
  clear hf; intro a hf
  refine st_move hf rfl rfl (by decide) ?_
  clear hf; intro a ha hf; clear ha
  refine st_extract hf (by decide) rfl rfl rfl ?_
  clear hf; intro a ha hf; clear ha
  refine st_extract hf (by decide) rfl rfl rfl ?_
  clear hf; intro a ha hf; clear ha
  refine st_extract hf (by decide) rfl rfl rfl ?_
  clear hf; intro a ha hf; clear ha
  refine st_assign hf rfl rfl (by decide) ?_
  clear hf; intro a ha hf; clear ha
  refine st_assign hf rfl rfl (by decide) ?_
  clear hf; intro a ha hf; clear ha
  refine st_assign hf rfl rfl (by decide) ?_
  clear hf; intro a ha hf; clear ha
  refine st_nil hf ?_
  refine th_n ?_
  refine wp_seq ?_
  refine wp_reg ?_
  refine st_move hf rfl rfl (by decide) ?_
  clear hf; intro a ha hf; clear ha
  refine st_move hf rfl rfl (by decide) ?_
  clear hf; intro a ha hf; clear ha
  obtain ⟨q76, hcall77, h⟩ := bnd h
  refine st_call hf (by decide) Try.func39 rfl rfl rfl rfl rfl (f_foghornref06_Marked_c hp _ _ hqx2 _ _ hthere3 hcall77) ?_
  rintro _ w ⟨v78, v79, rfl, hp0⟩
  clear hp; have hp := hp0; clear hp0
  replace hp : Hp _ _ _ (Res.sl (Ek.int .u8) 5 v78 q76.1 :: Res.sl Ek.bool 4 v79 q76.2.1 :: Res.sl (Ek.int .u8) 5 v72 q70.1 :: Res.sl Ek.bool 4 v73 q70.2.1 :: Res.sl (Ek.int .u8) 5 v38 q36.1 :: Res.sl (Ek.int .u8) 5 v34 q32.1 :: Res.sl (Ek.int .u8) 5 v7 q5.1 :: Res.sl (Ek.int .u8) 5 v11 q9.1 :: ow) := hp
  refine ⟨_, rfl, ?_⟩
  clear hf; intro a hf
  refine st_move hf rfl rfl (by decide) ?_
  clear hf; intro a ha hf; clear ha
  refine st_extract hf (by decide) rfl rfl rfl ?_
  clear hf; intro a ha hf; clear ha
  refine st_extract hf (by decide) rfl rfl rfl ?_
  clear hf; intro a ha hf; clear ha
  refine st_extract hf (by decide) rfl rfl rfl ?_
  clear hf; intro a ha hf; clear ha
  refine st_assign hf rfl rfl (by decide) ?_
  clear hf; intro a ha hf; clear ha
  refine st_assign hf rfl rfl (by decide) ?_
  clear hf; intro a ha hf; clear ha
  refine st_assign hf rfl rfl (by decide) ?_
  clear hf; intro a ha hf; clear ha
  refine st_nil hf ?_
  refine th_n ?_
  refine wp_seq ?_
  refine wp_seq ?_
  refine wp_reg ?_
  refine st_move hf rfl rfl (by decide) ?_
  clear hf; intro a ha hf; clear ha
  refine st_move hf rfl rfl (by decide) ?_
  clear hf; intro a ha hf; clear ha
  refine st_ineq hf (by decide) rfl rfl rfl ?_
  clear hf; intro a ha hf; clear ha
  refine st_move hf rfl rfl (by decide) ?_
  clear hf; intro a ha hf; clear ha
  obtain ⟨z84, hz82, h⟩ := bnd h
  refine wpList_cut 5 (fun a w => Fr 208 a [(0, vm0), (1, vt1), (2, vqx2), (19, v73), (21, v79), (113, .bool z84)] ∧ Hp S w0 w (Res.sl (Ek.int .u8) 5 v78 q76.1 :: Res.sl Ek.bool 4 v79 q76.2.1 :: Res.sl (Ek.int .u8) 5 v72 q70.1 :: Res.sl Ek.bool 4 v73 q70.2.1 :: Res.sl (Ek.int .u8) 5 v38 q36.1 :: Res.sl (Ek.int .u8) 5 v34 q32.1 :: Res.sl (Ek.int .u8) 5 v7 q5.1 :: Res.sl (Ek.int .u8) 5 v11 q9.1 :: ow)) ?_ ?_
  · rcases Bool.eq_false_or_eq_true (q70.2.2 != q76.2.2) with hb83 | hb83
    · skip
      replace hz82 := ifT hz82 hb83
      refine st_skip hf (wantN hf rfl rfl hb83) rfl (by decide) ?_ rfl
      clear hf; intro a hf
      refine st_skip hf (wantN hf rfl rfl hb83) rfl (by decide) ?_ rfl
      clear hf; intro a hf
      refine st_skip hf (wantN hf rfl rfl hb83) rfl (by decide) ?_ rfl
      clear hf; intro a hf
      refine st_skip hf (wantN hf rfl rfl hb83) rfl (by decide) ?_ rfl
      clear hf; intro a hf
      obtain rfl := Option.some.inj hz82
      refine st_pick (v := .bool true) hf rfl rfl (fun hb' => ?_) (fun hb' => ?_) (by decide) ?_
      · rfl
      · exact absurd (hb83.symm.trans hb') (by decide)
      clear hf; intro a ha hf; clear ha
      refine st_nil hf (th_n ?_)
      exact ⟨hf.sub ⟨rfl, rfl, rfl, rfl, rfl, rfl, trivial⟩, hp⟩
    replace hz82 := ifF hz82 hb83
    refine st_move hf (wantY hf rfl rfl hb83) rfl (by decide) ?_
    clear hf; intro a ha hf; clear ha
    refine st_move hf (wantY hf rfl rfl hb83) rfl (by decide) ?_
    clear hf; intro a ha hf; clear ha
    obtain ⟨q85, hcall86, hz82⟩ := bnd hz82
    obtain ⟨S87, hp88, rd89, up90, bk91⟩ := Hp.lendS hp (i := 2) rfl
    obtain ⟨S92, hp93, rd94, up95, bk96⟩ := Hp.lendS hp88 (i := 0) rfl
    refine st_call hf (by decide) Try.func13 rfl rfl (wantY hf rfl rfl hb83) rfl rfl (f_foghornlaw06_quarters_c hp93 _ _ ((rd89.now hp88).mono up95) _ _ rd94 hcall86) ?_
    rintro _ w ⟨rfl, hp0⟩
    have hp0 := bk96 _ _ hp0
    have hp0 := bk91 _ _ hp0
    clear hp; have hp := hp0; clear hp0
    replace hp : Hp _ _ _ (Res.sl (Ek.int .u8) 5 v72 q70.1 :: Res.sl (Ek.int .u8) 5 v78 q76.1 :: Res.sl Ek.bool 4 v79 q76.2.1 :: Res.sl Ek.bool 4 v73 q70.2.1 :: Res.sl (Ek.int .u8) 5 v38 q36.1 :: Res.sl (Ek.int .u8) 5 v34 q32.1 :: Res.sl (Ek.int .u8) 5 v7 q5.1 :: Res.sl (Ek.int .u8) 5 v11 q9.1 :: ow) := hp
    refine ⟨_, rfl, ?_⟩
    clear hf; intro a hf
    refine st_not hf (by decide) (wantY hf rfl rfl hb83) rfl ?_
    clear hf; intro a ha hf; clear ha
    obtain rfl := Option.some.inj hz82
    refine st_pick (v := .bool (!q85)) hf rfl rfl (fun hb' => ?_) (fun hb' => ?_) (by decide) ?_
    · exact absurd (hb83.symm.trans hb') (by decide)
    · rfl
    clear hf; intro a ha hf; clear ha
    refine st_nil hf (th_n ?_)
    have hp : Hp _ _ _ (Res.sl (Ek.int .u8) 5 v78 q76.1 :: Res.sl Ek.bool 4 v79 q76.2.1 :: Res.sl (Ek.int .u8) 5 v72 q70.1 :: Res.sl Ek.bool 4 v73 q70.2.1 :: Res.sl (Ek.int .u8) 5 v38 q36.1 :: Res.sl (Ek.int .u8) 5 v34 q32.1 :: Res.sl (Ek.int .u8) 5 v7 q5.1 :: Res.sl (Ek.int .u8) 5 v11 q9.1 :: ow) := Hp.sel (pre := [Res.sl (Ek.int .u8) 5 v72 q70.1, Res.sl (Ek.int .u8) 5 v78 q76.1, Res.sl Ek.bool 4 v79 q76.2.1, Res.sl Ek.bool 4 v73 q70.2.1, Res.sl (Ek.int .u8) 5 v38 q36.1, Res.sl (Ek.int .u8) 5 v34 q32.1, Res.sl (Ek.int .u8) 5 v7 q5.1, Res.sl (Ek.int .u8) 5 v11 q9.1]) (tail := ow) (rs' := [Res.sl (Ek.int .u8) 5 v78 q76.1, Res.sl Ek.bool 4 v79 q76.2.1, Res.sl (Ek.int .u8) 5 v72 q70.1, Res.sl Ek.bool 4 v73 q70.2.1, Res.sl (Ek.int .u8) 5 v38 q36.1, Res.sl (Ek.int .u8) 5 v34 q32.1, Res.sl (Ek.int .u8) 5 v7 q5.1, Res.sl (Ek.int .u8) 5 v11 q9.1]) hp [1, 2, 0, 3, 4, 5, 6, 7] (by decide) (by simp) rfl
    exact ⟨hf.sub ⟨rfl, rfl, rfl, rfl, rfl, rfl, trivial⟩, hp⟩
  rintro a w ⟨hf, hp⟩
  refine st_move hf rfl rfl (by decide) ?_
  clear hf; intro a ha hf; clear ha
  obtain ⟨z99, hz97, h⟩ := bnd h
  refine wpList_cut 5 (fun a w => Fr 208 a [(0, vm0), (1, vt1), (2, vqx2), (19, v73), (21, v79), (119, .bool z99)] ∧ Hp S w0 w (Res.sl (Ek.int .u8) 5 v78 q76.1 :: Res.sl Ek.bool 4 v79 q76.2.1 :: Res.sl (Ek.int .u8) 5 v72 q70.1 :: Res.sl Ek.bool 4 v73 q70.2.1 :: Res.sl (Ek.int .u8) 5 v38 q36.1 :: Res.sl (Ek.int .u8) 5 v34 q32.1 :: Res.sl (Ek.int .u8) 5 v7 q5.1 :: Res.sl (Ek.int .u8) 5 v11 q9.1 :: ow)) ?_ ?_
  · rcases Bool.eq_false_or_eq_true z84 with hb98 | hb98
    · skip
      replace hz97 := ifT hz97 hb98
      refine st_skip hf (wantN hf rfl rfl hb98) rfl (by decide) ?_ rfl
      clear hf; intro a hf
      refine st_skip hf (wantN hf rfl rfl hb98) rfl (by decide) ?_ rfl
      clear hf; intro a hf
      refine st_skip hf (wantN hf rfl rfl hb98) rfl (by decide) ?_ rfl
      clear hf; intro a hf
      refine st_skip hf (wantN hf rfl rfl hb98) rfl (by decide) ?_ rfl
      clear hf; intro a hf
      obtain rfl := Option.some.inj hz97
      refine st_pick (v := .bool true) hf rfl rfl (fun hb' => ?_) (fun hb' => ?_) (by decide) ?_
      · rfl
      · exact absurd (hb98.symm.trans hb') (by decide)
      clear hf; intro a ha hf; clear ha
      refine st_nil hf (th_n ?_)
      exact ⟨hf.sub ⟨rfl, rfl, rfl, rfl, rfl, rfl, trivial⟩, hp⟩
    replace hz97 := ifF hz97 hb98
    refine st_move hf (wantY hf rfl rfl hb98) rfl (by decide) ?_
    clear hf; intro a ha hf; clear ha
    refine st_move hf (wantY hf rfl rfl hb98) rfl (by decide) ?_
    clear hf; intro a ha hf; clear ha
    obtain ⟨q100, hcall101, hz97⟩ := bnd hz97
    obtain ⟨S102, hp103, rd104, up105, bk106⟩ := Hp.lendS hp (i := 3) rfl
    obtain ⟨S107, hp108, rd109, up110, bk111⟩ := Hp.lendS hp103 (i := 1) rfl
    refine st_call hf (by decide) Try.func16 rfl rfl (wantY hf rfl rfl hb98) rfl rfl (f_foghornlaw06_truths_c hp108 _ _ ((rd104.now hp103).mono up110) _ _ rd109 hcall101) ?_
    rintro _ w ⟨rfl, hp0⟩
    have hp0 := bk111 _ _ hp0
    have hp0 := bk106 _ _ hp0
    clear hp; have hp := hp0; clear hp0
    replace hp : Hp _ _ _ (Res.sl Ek.bool 4 v73 q70.2.1 :: Res.sl Ek.bool 4 v79 q76.2.1 :: Res.sl (Ek.int .u8) 5 v78 q76.1 :: Res.sl (Ek.int .u8) 5 v72 q70.1 :: Res.sl (Ek.int .u8) 5 v38 q36.1 :: Res.sl (Ek.int .u8) 5 v34 q32.1 :: Res.sl (Ek.int .u8) 5 v7 q5.1 :: Res.sl (Ek.int .u8) 5 v11 q9.1 :: ow) := hp
    refine ⟨_, rfl, ?_⟩
    clear hf; intro a hf
    refine st_not hf (by decide) (wantY hf rfl rfl hb98) rfl ?_
    clear hf; intro a ha hf; clear ha
    obtain rfl := Option.some.inj hz97
    refine st_pick (v := .bool (!q100)) hf rfl rfl (fun hb' => ?_) (fun hb' => ?_) (by decide) ?_
    · exact absurd (hb98.symm.trans hb') (by decide)
    · rfl
    clear hf; intro a ha hf; clear ha
    refine st_nil hf (th_n ?_)
    have hp : Hp _ _ _ (Res.sl (Ek.int .u8) 5 v78 q76.1 :: Res.sl Ek.bool 4 v79 q76.2.1 :: Res.sl (Ek.int .u8) 5 v72 q70.1 :: Res.sl Ek.bool 4 v73 q70.2.1 :: Res.sl (Ek.int .u8) 5 v38 q36.1 :: Res.sl (Ek.int .u8) 5 v34 q32.1 :: Res.sl (Ek.int .u8) 5 v7 q5.1 :: Res.sl (Ek.int .u8) 5 v11 q9.1 :: ow) := Hp.sel (pre := [Res.sl Ek.bool 4 v73 q70.2.1, Res.sl Ek.bool 4 v79 q76.2.1, Res.sl (Ek.int .u8) 5 v78 q76.1, Res.sl (Ek.int .u8) 5 v72 q70.1, Res.sl (Ek.int .u8) 5 v38 q36.1, Res.sl (Ek.int .u8) 5 v34 q32.1, Res.sl (Ek.int .u8) 5 v7 q5.1, Res.sl (Ek.int .u8) 5 v11 q9.1]) (tail := ow) (rs' := [Res.sl (Ek.int .u8) 5 v78 q76.1, Res.sl Ek.bool 4 v79 q76.2.1, Res.sl (Ek.int .u8) 5 v72 q70.1, Res.sl Ek.bool 4 v73 q70.2.1, Res.sl (Ek.int .u8) 5 v38 q36.1, Res.sl (Ek.int .u8) 5 v34 q32.1, Res.sl (Ek.int .u8) 5 v7 q5.1, Res.sl (Ek.int .u8) 5 v11 q9.1]) hp [2, 1, 3, 0, 4, 5, 6, 7] (by decide) (by simp) rfl
    exact ⟨hf.sub ⟨rfl, rfl, rfl, rfl, rfl, rfl, trivial⟩, hp⟩
  rintro a w ⟨hf, hp⟩
  refine st_nil hf ?_
  refine th_n ?_
  refine wp_if hf rfl (fun hb => ?_) (fun hb => ?_)
  · replace h := ifT h hb
    refine wp_seq ?_
    refine wp_reg ?_
    refine st_assign hf rfl rfl (by decide) ?_
    clear hf; intro a ha hf; clear ha
    refine st_nil hf ?_
    refine th_n ?_
    refine wp_ret ?_
    refine th_r ?_
    obtain rfl := Option.some.inj h
    have hp : Hp _ _ _ (ow) := Hp.sel (pre := [Res.sl (Ek.int .u8) 5 v78 q76.1, Res.sl Ek.bool 4 v79 q76.2.1, Res.sl (Ek.int .u8) 5 v72 q70.1, Res.sl Ek.bool 4 v73 q70.2.1, Res.sl (Ek.int .u8) 5 v38 q36.1, Res.sl (Ek.int .u8) 5 v34 q32.1, Res.sl (Ek.int .u8) 5 v7 q5.1, Res.sl (Ek.int .u8) 5 v11 q9.1]) (tail := ow) (rs' := []) hp [] (by decide) (by simp) rfl
    exact ⟨rfl, ⟨hf.sub ⟨rfl, trivial⟩, hp⟩⟩
  replace h := ifF h hb
  refine wp_skip ?_
  refine th_n ?_
  refine wp_seq ?_
  refine wp_seq ?_
  refine wp_reg ?_
  refine st_assign hf rfl rfl (by decide) ?_
  clear hf; intro a ha hf; clear ha
  refine st_nil hf ?_
  refine th_n ?_
  refine wp_block ?_
  obtain ⟨q116, hl, h⟩ := bnd h
  have hp : Hp _ _ _ (Res.sl Ek.bool 4 v73 q70.2.1 :: Res.sl Ek.bool 4 v79 q76.2.1 :: ow) := Hp.sel (pre := [Res.sl (Ek.int .u8) 5 v78 q76.1, Res.sl Ek.bool 4 v79 q76.2.1, Res.sl (Ek.int .u8) 5 v72 q70.1, Res.sl Ek.bool 4 v73 q70.2.1, Res.sl (Ek.int .u8) 5 v38 q36.1, Res.sl (Ek.int .u8) 5 v34 q32.1, Res.sl (Ek.int .u8) 5 v7 q5.1, Res.sl (Ek.int .u8) 5 v11 q9.1]) (tail := ow) (rs' := [Res.sl Ek.bool 4 v73 q70.2.1, Res.sl Ek.bool 4 v79 q76.2.1]) hp [3, 1] (by decide) (by simp) rfl
  refine wp_loop_pure (f := f_foghornlaw06_rows.s2) (s := (q70.2.1, (0 : Int))) (fun s a w => ∃ (v112 : Value), Fr 208 a [(0, vm0), (1, vt1), (2, vqx2), (19, v112), (21, v79), (22, .int .i64 s.2)] ∧ Hp S w0 w (Res.sl Ek.bool 4 v112 s.1 :: Res.sl Ek.bool 4 v79 q76.2.1 :: ow)) (fun q e a w => e = .exit 2 ∧ Fr 208 a [(0, vm0), (1, vt1), (2, vqx2), (21, v79)] ∧ Hp S w0 w (Res.sl Ek.bool 4 v79 q76.2.1 :: ow)) ?_ hl ⟨_, hf.sub ⟨rfl, rfl, rfl, rfl, rfl, rfl, trivial⟩, hp⟩ ?_
  · clear hl hf hp
    intro s x a w h hI
    obtain ⟨hx19, k22⟩ := s
    obtain ⟨v112, hf, hp⟩ : ∃ (v112 : Value), Fr 208 a [(0, vm0), (1, vt1), (2, vqx2), (19, v112), (21, v79), (22, .int .i64 k22)] ∧ Hp S w0 w (Res.sl Ek.bool 4 v112 hx19 :: Res.sl Ek.bool 4 v79 q76.2.1 :: ow) := hI
    replace h : f_foghornlaw06_rows.s2c hx19 k22 = some x := h
    unfold f_foghornlaw06_rows.s2c at h
    refine wp_seq ?_
    refine wp_seq ?_
    refine wp_reg ?_
    refine st_move hf rfl rfl (by decide) ?_
    clear hf; intro a ha hf; clear ha
    refine st_move hf rfl rfl (by decide) ?_
    clear hf; intro a ha hf; clear ha
    refine st_len (E := Ek.bool) hf (by decide) Try.underlying27 rfl rfl (hp.sl (i := 0) rfl) ?_
    clear hf; intro a ha hf; clear ha
    refine st_ilss hf (by decide) rfl rfl rfl ?_
    clear hf; intro a ha hf; clear ha
    refine st_nil hf ?_
    refine th_n ?_
    refine wp_if hf rfl (fun hb => ?_) (fun hb => ?_)
    · replace h := ifT h hb
      refine wp_skip ?_
      refine th_n ?_
      refine wp_seq ?_
      refine wp_block ?_
      refine wp_reg ?_
      refine st_move hf rfl rfl (by decide) ?_
      clear hf; intro a ha hf; clear ha
      refine st_move hf rfl rfl (by decide) ?_
      clear hf; intro a ha hf; clear ha
      refine st_move hf rfl rfl (by decide) ?_
      clear hf; intro a ha hf; clear ha
      refine st_move hf rfl rfl (by decide) ?_
      clear hf; intro a ha hf; clear ha
      obtain ⟨hc114, h⟩ := chk h
      refine st_index (E := Ek.bool) hf (by decide) Try.underlying27 elt4 rfl rfl rfl (hp.sl (i := 0) rfl) hc114.1 hc114.2 ?_
      clear hf; intro a ha hf; clear ha
      refine st_ldB hf (by decide) pl4 rfl rfl (hp.sl (i := 0) rfl) hc114.1 hc114.2 ?_
      clear hf; intro a ha hf; clear ha
      refine st_not hf (by decide) rfl rfl ?_
      clear hf; intro a ha hf; clear ha
      obtain ⟨hc115, h⟩ := chk h
      refine st_index (E := Ek.bool) hf (by decide) Try.underlying27 elt4 rfl rfl rfl (hp.sl (i := 0) rfl) hc115.1 hc115.2 ?_
      clear hf; intro a ha hf; clear ha
      refine st_store (E := Ek.bool) hf elt4 hp (i := 0) rfl rfl rfl rfl rfl hc115.1 hc115.2 ?_
      clear hf; intro a w hf hp0; clear hp; have hp := hp0; clear hp0
      replace hp : Hp _ _ _ (Res.sl Ek.bool 4 v112 (hx19.set (k22).toNat (!(gt hx19 k22))) :: Res.sl Ek.bool 4 v79 q76.2.1 :: ow) := hp
      refine st_nil hf ?_
      refine ib_n ?_
      refine th_n ?_
      refine wp_reg ?_
      refine st_move hf rfl rfl (by decide) ?_
      clear hf; intro a ha hf; clear ha
      refine st_iadd hf (by decide) rfl rfl rfl ?_
      clear hf; intro a ha hf; clear ha
      refine st_assign hf rfl rfl (by decide) ?_
      clear hf; intro a ha hf; clear ha
      refine st_nil hf ?_
      obtain rfl := Option.some.inj h
      exact rnd_l ⟨_, hf.sub ⟨rfl, rfl, rfl, rfl, rfl, rfl, trivial⟩, hp⟩
    replace h := ifF h hb
    refine wp_exit ?_
    refine th_e ?_
    obtain rfl := Option.some.inj h
    have hp : Hp _ _ _ (Res.sl Ek.bool 4 v79 q76.2.1 :: ow) := Hp.sel (pre := [Res.sl Ek.bool 4 v112 hx19, Res.sl Ek.bool 4 v79 q76.2.1]) (tail := ow) (rs' := [Res.sl Ek.bool 4 v79 q76.2.1]) hp [1] (by decide) (by simp) rfl
    exact rnd_r (by simp) ⟨rfl, hf.sub ⟨rfl, rfl, rfl, rfl, trivial⟩, hp⟩
  clear hl hf hp
  intro e a w hne hO
  obtain ⟨rfl, hf, hp⟩ := hO
  refine ib_same ?_
  refine th_n ?_
  refine wp_seq ?_
  refine wp_reg ?_
  refine st_move hf rfl rfl (by decide) ?_
  clear hf; intro a ha hf; clear ha
  refine st_move hf rfl rfl (by decide) ?_
  clear hf; intro a ha hf; clear ha
  obtain ⟨q117, hcall118, h⟩ := bnd h
  refine st_call hf (by decide) Try.func32 rfl rfl rfl rfl rfl (f_turns_Marked_c hp _ _ hm0 _ _ ht1 hcall118) ?_
  rintro _ w ⟨v119, v120, rfl, hp0⟩
  clear hp; have hp := hp0; clear hp0
  replace hp : Hp _ _ _ (Res.sl (Ek.int .u8) 5 v119 q117.1 :: Res.sl Ek.bool 4 v120 q117.2.1 :: Res.sl Ek.bool 4 v79 q76.2.1 :: ow) := hp
  refine ⟨_, rfl, ?_⟩
  clear hf; intro a hf
  refine st_move hf rfl rfl (by decide) ?_
  clear hf; intro a ha hf; clear ha
  refine st_extract hf (by decide) rfl rfl rfl ?_
  clear hf; intro a ha hf; clear ha
  refine st_extract hf (by decide) rfl rfl rfl ?_
  clear hf; intro a ha hf; clear ha
  refine st_extract hf (by decide) rfl rfl rfl ?_
  clear hf; intro a ha hf; clear ha
  refine st_assign hf rfl rfl (by decide) ?_
  clear hf; intro a ha hf; clear ha
  refine st_assign hf rfl rfl (by decide) ?_
  clear hf; intro a ha hf; clear ha
  refine st_assign hf rfl rfl (by decide) ?_
  clear hf; intro a ha hf; clear ha
  refine st_nil hf ?_
  refine th_n ?_
  refine wp_seq ?_
  refine wp_reg ?_
  refine st_move hf rfl rfl (by decide) ?_
  clear hf; intro a ha hf; clear ha
  obtain ⟨q123, hcall124, h⟩ := bnd h
  refine st_call hf (by decide) Try.func11 rfl rfl rfl rfl rfl (f_turns_Bits_c hp _ _ hm0 hcall124) ?_
  rintro _ w ⟨v125, rfl, hp0⟩
  clear hp; have hp := hp0; clear hp0
  replace hp : Hp _ _ _ (Res.sl Ek.bool 4 v125 q123.1 :: Res.sl (Ek.int .u8) 5 v119 q117.1 :: Res.sl Ek.bool 4 v120 q117.2.1 :: Res.sl Ek.bool 4 v79 q76.2.1 :: ow) := hp
  refine ⟨_, rfl, ?_⟩
  clear hf; intro a hf
  refine st_move hf rfl rfl (by decide) ?_
  clear hf; intro a ha hf; clear ha
  refine st_extract hf (by decide) rfl rfl rfl ?_
  clear hf; intro a ha hf; clear ha
  refine st_extract hf (by decide) rfl rfl rfl ?_
  clear hf; intro a ha hf; clear ha
  refine st_assign hf rfl rfl (by decide) ?_
  clear hf; intro a ha hf; clear ha
  refine st_assign hf rfl rfl (by decide) ?_
  clear hf; intro a ha hf; clear ha
  refine st_nil hf ?_
  refine th_n ?_
  refine wp_seq ?_
  refine wp_reg ?_
  refine st_move hf rfl rfl (by decide) ?_
  clear hf; intro a ha hf; clear ha
  obtain ⟨q127, hcall128, h⟩ := bnd h
  refine st_call hf (by decide) Try.func40 rfl rfl rfl rfl rfl (f_foghornref06_Bits_c hp _ _ hqx2 hcall128) ?_
  rintro _ w ⟨v129, rfl, hp0⟩
  clear hp; have hp := hp0; clear hp0
  replace hp : Hp _ _ _ (Res.sl Ek.bool 4 v129 q127.1 :: Res.sl Ek.bool 4 v125 q123.1 :: Res.sl (Ek.int .u8) 5 v119 q117.1 :: Res.sl Ek.bool 4 v120 q117.2.1 :: Res.sl Ek.bool 4 v79 q76.2.1 :: ow) := hp
  refine ⟨_, rfl, ?_⟩
  clear hf; intro a hf
  refine st_move hf rfl rfl (by decide) ?_
  clear hf; intro a ha hf; clear ha
  refine st_extract hf (by decide) rfl rfl rfl ?_
  clear hf; intro a ha hf; clear ha
  refine st_extract hf (by decide) rfl rfl rfl ?_
  clear hf; intro a ha hf; clear ha
  refine st_assign hf rfl rfl (by decide) ?_
  clear hf; intro a ha hf; clear ha
  refine st_assign hf rfl rfl (by decide) ?_
  clear hf; intro a ha hf; clear ha
  refine st_nil hf ?_
  refine th_n ?_
  refine wp_seq ?_
  refine wp_seq ?_
  refine wp_reg ?_
  refine st_move hf rfl rfl (by decide) ?_
  clear hf; intro a ha hf; clear ha
  refine st_move hf rfl rfl (by decide) ?_
  clear hf; intro a ha hf; clear ha
  refine st_ineq hf (by decide) rfl rfl rfl ?_
  clear hf; intro a ha hf; clear ha
  refine st_move hf rfl rfl (by decide) ?_
  clear hf; intro a ha hf; clear ha
  obtain ⟨z133, hz131, h⟩ := bnd h
  refine wpList_cut 5 (fun a w => Fr 208 a [(0, vm0), (2, vqx2), (21, v79), (24, v120), (26, v125), (27, v129), (159, .bool z133)] ∧ Hp S w0 w (Res.sl Ek.bool 4 v129 q127.1 :: Res.sl Ek.bool 4 v125 q123.1 :: Res.sl (Ek.int .u8) 5 v119 q117.1 :: Res.sl Ek.bool 4 v120 q117.2.1 :: Res.sl Ek.bool 4 v79 q76.2.1 :: ow)) ?_ ?_
  · rcases Bool.eq_false_or_eq_true (q123.2 != q127.2) with hb132 | hb132
    · skip
      replace hz131 := ifT hz131 hb132
      refine st_skip hf (wantN hf rfl rfl hb132) rfl (by decide) ?_ rfl
      clear hf; intro a hf
      refine st_skip hf (wantN hf rfl rfl hb132) rfl (by decide) ?_ rfl
      clear hf; intro a hf
      refine st_skip hf (wantN hf rfl rfl hb132) rfl (by decide) ?_ rfl
      clear hf; intro a hf
      refine st_skip hf (wantN hf rfl rfl hb132) rfl (by decide) ?_ rfl
      clear hf; intro a hf
      obtain rfl := Option.some.inj hz131
      refine st_pick (v := .bool true) hf rfl rfl (fun hb' => ?_) (fun hb' => ?_) (by decide) ?_
      · rfl
      · exact absurd (hb132.symm.trans hb') (by decide)
      clear hf; intro a ha hf; clear ha
      refine st_nil hf (th_n ?_)
      exact ⟨hf.sub ⟨rfl, rfl, rfl, rfl, rfl, rfl, rfl, trivial⟩, hp⟩
    replace hz131 := ifF hz131 hb132
    refine st_move hf (wantY hf rfl rfl hb132) rfl (by decide) ?_
    clear hf; intro a ha hf; clear ha
    refine st_move hf (wantY hf rfl rfl hb132) rfl (by decide) ?_
    clear hf; intro a ha hf; clear ha
    obtain ⟨q134, hcall135, hz131⟩ := bnd hz131
    obtain ⟨S136, hp137, rd138, up139, bk140⟩ := Hp.lendS hp (i := 1) rfl
    obtain ⟨S141, hp142, rd143, up144, bk145⟩ := Hp.lendS hp137 (i := 0) rfl
    refine st_call hf (by decide) Try.func16 rfl rfl (wantY hf rfl rfl hb132) rfl rfl (f_foghornlaw06_truths_c hp142 _ _ ((rd138.now hp137).mono up144) _ _ rd143 hcall135) ?_
    rintro _ w ⟨rfl, hp0⟩
    have hp0 := bk145 _ _ hp0
    have hp0 := bk140 _ _ hp0
    clear hp; have hp := hp0; clear hp0
    replace hp : Hp _ _ _ (Res.sl Ek.bool 4 v125 q123.1 :: Res.sl Ek.bool 4 v129 q127.1 :: Res.sl (Ek.int .u8) 5 v119 q117.1 :: Res.sl Ek.bool 4 v120 q117.2.1 :: Res.sl Ek.bool 4 v79 q76.2.1 :: ow) := hp
    refine ⟨_, rfl, ?_⟩
    clear hf; intro a hf
    refine st_not hf (by decide) (wantY hf rfl rfl hb132) rfl ?_
    clear hf; intro a ha hf; clear ha
    obtain rfl := Option.some.inj hz131
    refine st_pick (v := .bool (!q134)) hf rfl rfl (fun hb' => ?_) (fun hb' => ?_) (by decide) ?_
    · exact absurd (hb132.symm.trans hb') (by decide)
    · rfl
    clear hf; intro a ha hf; clear ha
    refine st_nil hf (th_n ?_)
    have hp : Hp _ _ _ (Res.sl Ek.bool 4 v129 q127.1 :: Res.sl Ek.bool 4 v125 q123.1 :: Res.sl (Ek.int .u8) 5 v119 q117.1 :: Res.sl Ek.bool 4 v120 q117.2.1 :: Res.sl Ek.bool 4 v79 q76.2.1 :: ow) := Hp.sel (pre := [Res.sl Ek.bool 4 v125 q123.1, Res.sl Ek.bool 4 v129 q127.1, Res.sl (Ek.int .u8) 5 v119 q117.1, Res.sl Ek.bool 4 v120 q117.2.1, Res.sl Ek.bool 4 v79 q76.2.1]) (tail := ow) (rs' := [Res.sl Ek.bool 4 v129 q127.1, Res.sl Ek.bool 4 v125 q123.1, Res.sl (Ek.int .u8) 5 v119 q117.1, Res.sl Ek.bool 4 v120 q117.2.1, Res.sl Ek.bool 4 v79 q76.2.1]) hp [1, 0, 2, 3, 4] (by decide) (by simp) rfl
    exact ⟨hf.sub ⟨rfl, rfl, rfl, rfl, rfl, rfl, rfl, trivial⟩, hp⟩
  rintro a w ⟨hf, hp⟩
  refine st_move hf rfl rfl (by decide) ?_
  clear hf; intro a ha hf; clear ha
  obtain ⟨z148, hz146, h⟩ := bnd h
  refine wpList_cut 5 (fun a w => Fr 208 a [(0, vm0), (2, vqx2), (26, v125), (27, v129), (165, .bool z148)] ∧ Hp S w0 w (Res.sl Ek.bool 4 v129 q127.1 :: Res.sl Ek.bool 4 v125 q123.1 :: Res.sl (Ek.int .u8) 5 v119 q117.1 :: Res.sl Ek.bool 4 v120 q117.2.1 :: Res.sl Ek.bool 4 v79 q76.2.1 :: ow)) ?_ ?_
  · rcases Bool.eq_false_or_eq_true z133 with hb147 | hb147
    · skip
      replace hz146 := ifT hz146 hb147
      refine st_skip hf (wantN hf rfl rfl hb147) rfl (by decide) ?_ rfl
      clear hf; intro a hf
      refine st_skip hf (wantN hf rfl rfl hb147) rfl (by decide) ?_ rfl
      clear hf; intro a hf
      refine st_skip hf (wantN hf rfl rfl hb147) rfl (by decide) ?_ rfl
      clear hf; intro a hf
      refine st_skip hf (wantN hf rfl rfl hb147) rfl (by decide) ?_ rfl
      clear hf; intro a hf
      obtain rfl := Option.some.inj hz146
      refine st_pick (v := .bool true) hf rfl rfl (fun hb' => ?_) (fun hb' => ?_) (by decide) ?_
      · rfl
      · exact absurd (hb147.symm.trans hb') (by decide)
      clear hf; intro a ha hf; clear ha
      refine st_nil hf (th_n ?_)
      exact ⟨hf.sub ⟨rfl, rfl, rfl, rfl, rfl, trivial⟩, hp⟩
    replace hz146 := ifF hz146 hb147
    refine st_move hf (wantY hf rfl rfl hb147) rfl (by decide) ?_
    clear hf; intro a ha hf; clear ha
    refine st_move hf (wantY hf rfl rfl hb147) rfl (by decide) ?_
    clear hf; intro a ha hf; clear ha
    obtain ⟨q149, hcall150, hz146⟩ := bnd hz146
    obtain ⟨S151, hp152, rd153, up154, bk155⟩ := Hp.lendS hp (i := 3) rfl
    obtain ⟨S156, hp157, rd158, up159, bk160⟩ := Hp.lendS hp152 (i := 3) rfl
    refine st_call hf (by decide) Try.func16 rfl rfl (wantY hf rfl rfl hb147) rfl rfl (f_foghornlaw06_truths_c hp157 _ _ ((rd153.now hp152).mono up159) _ _ rd158 hcall150) ?_
    rintro _ w ⟨rfl, hp0⟩
    have hp0 := bk160 _ _ hp0
    have hp0 := bk155 _ _ hp0
    clear hp; have hp := hp0; clear hp0
    replace hp : Hp _ _ _ (Res.sl Ek.bool 4 v120 q117.2.1 :: Res.sl Ek.bool 4 v79 q76.2.1 :: Res.sl Ek.bool 4 v129 q127.1 :: Res.sl Ek.bool 4 v125 q123.1 :: Res.sl (Ek.int .u8) 5 v119 q117.1 :: ow) := hp
    refine ⟨_, rfl, ?_⟩
    clear hf; intro a hf
    refine st_not hf (by decide) (wantY hf rfl rfl hb147) rfl ?_
    clear hf; intro a ha hf; clear ha
    obtain rfl := Option.some.inj hz146
    refine st_pick (v := .bool (!q149)) hf rfl rfl (fun hb' => ?_) (fun hb' => ?_) (by decide) ?_
    · exact absurd (hb147.symm.trans hb') (by decide)
    · rfl
    clear hf; intro a ha hf; clear ha
    refine st_nil hf (th_n ?_)
    have hp : Hp _ _ _ (Res.sl Ek.bool 4 v129 q127.1 :: Res.sl Ek.bool 4 v125 q123.1 :: Res.sl (Ek.int .u8) 5 v119 q117.1 :: Res.sl Ek.bool 4 v120 q117.2.1 :: Res.sl Ek.bool 4 v79 q76.2.1 :: ow) := Hp.sel (pre := [Res.sl Ek.bool 4 v120 q117.2.1, Res.sl Ek.bool 4 v79 q76.2.1, Res.sl Ek.bool 4 v129 q127.1, Res.sl Ek.bool 4 v125 q123.1, Res.sl (Ek.int .u8) 5 v119 q117.1]) (tail := ow) (rs' := [Res.sl Ek.bool 4 v129 q127.1, Res.sl Ek.bool 4 v125 q123.1, Res.sl (Ek.int .u8) 5 v119 q117.1, Res.sl Ek.bool 4 v120 q117.2.1, Res.sl Ek.bool 4 v79 q76.2.1]) hp [2, 3, 4, 0, 1] (by decide) (by simp) rfl
    exact ⟨hf.sub ⟨rfl, rfl, rfl, rfl, rfl, trivial⟩, hp⟩
  rintro a w ⟨hf, hp⟩
  refine st_nil hf ?_
  refine th_n ?_
  refine wp_if hf rfl (fun hb => ?_) (fun hb => ?_)
  · replace h := ifT h hb
    refine wp_seq ?_
    refine wp_reg ?_
    refine st_assign hf rfl rfl (by decide) ?_
    clear hf; intro a ha hf; clear ha
    refine st_nil hf ?_
    refine th_n ?_
    refine wp_ret ?_
    refine th_r ?_
    obtain rfl := Option.some.inj h
    have hp : Hp _ _ _ (ow) := Hp.sel (pre := [Res.sl Ek.bool 4 v129 q127.1, Res.sl Ek.bool 4 v125 q123.1, Res.sl (Ek.int .u8) 5 v119 q117.1, Res.sl Ek.bool 4 v120 q117.2.1, Res.sl Ek.bool 4 v79 q76.2.1]) (tail := ow) (rs' := []) hp [] (by decide) (by simp) rfl
    exact ⟨rfl, ⟨hf.sub ⟨rfl, trivial⟩, hp⟩⟩
  replace h := ifF h hb
  refine wp_skip ?_
  refine th_n ?_
  refine wp_seq ?_
  refine wp_seq ?_
  refine wp_reg ?_
  refine st_assign hf rfl rfl (by decide) ?_
  clear hf; intro a ha hf; clear ha
  refine st_nil hf ?_
  refine th_n ?_
  refine wp_block ?_
  obtain ⟨q165, hl, h⟩ := bnd h
  have hp : Hp _ _ _ (Res.sl Ek.bool 4 v125 q123.1 :: Res.sl Ek.bool 4 v129 q127.1 :: ow) := Hp.sel (pre := [Res.sl Ek.bool 4 v129 q127.1, Res.sl Ek.bool 4 v125 q123.1, Res.sl (Ek.int .u8) 5 v119 q117.1, Res.sl Ek.bool 4 v120 q117.2.1, Res.sl Ek.bool 4 v79 q76.2.1]) (tail := ow) (rs' := [Res.sl Ek.bool 4 v125 q123.1, Res.sl Ek.bool 4 v129 q127.1]) hp [1, 0] (by decide) (by simp) rfl
  refine wp_loop_pure (f := f_foghornlaw06_rows.s3) (s := (q123.1, (0 : Int))) (fun s a w => ∃ (v161 : Value), Fr 208 a [(0, vm0), (2, vqx2), (26, v161), (27, v129), (28, .int .i64 s.2)] ∧ Hp S w0 w (Res.sl Ek.bool 4 v161 s.1 :: Res.sl Ek.bool 4 v129 q127.1 :: ow)) (fun q e a w => e = .exit 4 ∧ Fr 208 a [(0, vm0), (2, vqx2), (27, v129)] ∧ Hp S w0 w (Res.sl Ek.bool 4 v129 q127.1 :: ow)) ?_ hl ⟨_, hf.sub ⟨rfl, rfl, rfl, rfl, rfl, trivial⟩, hp⟩ ?_
  · clear hl hf hp
    intro s x a w h hI
    obtain ⟨l26, k28⟩ := s
    obtain ⟨v161, hf, hp⟩ : ∃ (v161 : Value), Fr 208 a [(0, vm0), (2, vqx2), (26, v161), (27, v129), (28, .int .i64 k28)] ∧ Hp S w0 w (Res.sl Ek.bool 4 v161 l26 :: Res.sl Ek.bool 4 v129 q127.1 :: ow) := hI
    replace h : f_foghornlaw06_rows.s3c l26 k28 = some x := h
    unfold f_foghornlaw06_rows.s3c at h
    refine wp_seq ?_
    refine wp_seq ?_
    refine wp_reg ?_
    refine st_move hf rfl rfl (by decide) ?_
    clear hf; intro a ha hf; clear ha
    refine st_move hf rfl rfl (by decide) ?_
    clear hf; intro a ha hf; clear ha
    refine st_len (E := Ek.bool) hf (by decide) Try.underlying27 rfl rfl (hp.sl (i := 0) rfl) ?_
    clear hf; intro a ha hf; clear ha
    refine st_ilss hf (by decide) rfl rfl rfl ?_
    clear hf; intro a ha hf; clear ha
    refine st_nil hf ?_
    refine th_n ?_
    refine wp_if hf rfl (fun hb => ?_) (fun hb => ?_)
    · replace h := ifT h hb
      refine wp_skip ?_
      refine th_n ?_
      refine wp_seq ?_
      refine wp_block ?_
      refine wp_reg ?_
      refine st_move hf rfl rfl (by decide) ?_
      clear hf; intro a ha hf; clear ha
      refine st_move hf rfl rfl (by decide) ?_
      clear hf; intro a ha hf; clear ha
      refine st_move hf rfl rfl (by decide) ?_
      clear hf; intro a ha hf; clear ha
      refine st_move hf rfl rfl (by decide) ?_
      clear hf; intro a ha hf; clear ha
      obtain ⟨hc163, h⟩ := chk h
      refine st_index (E := Ek.bool) hf (by decide) Try.underlying27 elt4 rfl rfl rfl (hp.sl (i := 0) rfl) hc163.1 hc163.2 ?_
      clear hf; intro a ha hf; clear ha
      refine st_ldB hf (by decide) pl4 rfl rfl (hp.sl (i := 0) rfl) hc163.1 hc163.2 ?_
      clear hf; intro a ha hf; clear ha
      refine st_not hf (by decide) rfl rfl ?_
      clear hf; intro a ha hf; clear ha
      obtain ⟨hc164, h⟩ := chk h
      refine st_index (E := Ek.bool) hf (by decide) Try.underlying27 elt4 rfl rfl rfl (hp.sl (i := 0) rfl) hc164.1 hc164.2 ?_
      clear hf; intro a ha hf; clear ha
      refine st_store (E := Ek.bool) hf elt4 hp (i := 0) rfl rfl rfl rfl rfl hc164.1 hc164.2 ?_
      clear hf; intro a w hf hp0; clear hp; have hp := hp0; clear hp0
      replace hp : Hp _ _ _ (Res.sl Ek.bool 4 v161 (l26.set (k28).toNat (!(gt l26 k28))) :: Res.sl Ek.bool 4 v129 q127.1 :: ow) := hp
      refine st_nil hf ?_
      refine ib_n ?_
      refine th_n ?_
      refine wp_reg ?_
      refine st_move hf rfl rfl (by decide) ?_
      clear hf; intro a ha hf; clear ha
      refine st_iadd hf (by decide) rfl rfl rfl ?_
      clear hf; intro a ha hf; clear ha
      refine st_assign hf rfl rfl (by decide) ?_
      clear hf; intro a ha hf; clear ha
      refine st_nil hf ?_
      obtain rfl := Option.some.inj h
      exact rnd_l ⟨_, hf.sub ⟨rfl, rfl, rfl, rfl, rfl, trivial⟩, hp⟩
    replace h := ifF h hb
    refine wp_exit ?_
    refine th_e ?_
    obtain rfl := Option.some.inj h
    have hp : Hp _ _ _ (Res.sl Ek.bool 4 v129 q127.1 :: ow) := Hp.sel (pre := [Res.sl Ek.bool 4 v161 l26, Res.sl Ek.bool 4 v129 q127.1]) (tail := ow) (rs' := [Res.sl Ek.bool 4 v129 q127.1]) hp [1] (by decide) (by simp) rfl
    exact rnd_r (by simp) ⟨rfl, hf.sub ⟨rfl, rfl, rfl, trivial⟩, hp⟩
  clear hl hf hp
  intro e a w hne hO
  obtain ⟨rfl, hf, hp⟩ := hO
  refine ib_same ?_
  refine th_n ?_
  refine wp_seq ?_
  refine wp_reg ?_
  refine st_move hf rfl rfl (by decide) ?_
  clear hf; intro a ha hf; clear ha
  obtain ⟨q166, hcall167, h⟩ := bnd h
  refine st_call hf (by decide) Try.func11 rfl rfl rfl rfl rfl (f_turns_Bits_c hp _ _ hm0 hcall167) ?_
  rintro _ w ⟨v168, rfl, hp0⟩
  clear hp; have hp := hp0; clear hp0
  replace hp : Hp _ _ _ (Res.sl Ek.bool 4 v168 q166.1 :: Res.sl Ek.bool 4 v129 q127.1 :: ow) := hp
  refine ⟨_, rfl, ?_⟩
  clear hf; intro a hf
  refine st_move hf rfl rfl (by decide) ?_
  clear hf; intro a ha hf; clear ha
  refine st_extract hf (by decide) rfl rfl rfl ?_
  clear hf; intro a ha hf; clear ha
  refine st_extract hf (by decide) rfl rfl rfl ?_
  clear hf; intro a ha hf; clear ha
  refine st_assign hf rfl rfl (by decide) ?_
  clear hf; intro a ha hf; clear ha
  refine st_assign hf rfl rfl (by decide) ?_
  clear hf; intro a ha hf; clear ha
  refine st_nil hf ?_
  refine th_n ?_
  refine wp_seq ?_
  refine wp_reg ?_
  refine st_move hf rfl rfl (by decide) ?_
  clear hf; intro a ha hf; clear ha
  obtain ⟨q170, hcall171, h⟩ := bnd h
  refine st_call hf (by decide) Try.func41 rfl rfl rfl rfl rfl (f_turns_Counts_c hp _ _ hm0 hcall171) ?_
  rintro _ w ⟨rfl, hp0⟩
  clear hp; have hp := hp0; clear hp0
  replace hp : Hp _ _ _ (Res.sl Ek.bool 4 v168 q166.1 :: Res.sl Ek.bool 4 v129 q127.1 :: ow) := hp
  refine ⟨_, rfl, ?_⟩
  clear hf; intro a hf
  refine st_move hf rfl rfl (by decide) ?_
  clear hf; intro a ha hf; clear ha
  refine st_extract hf (by decide) rfl rfl rfl ?_
  clear hf; intro a ha hf; clear ha
  refine st_extract hf (by decide) rfl rfl rfl ?_
  clear hf; intro a ha hf; clear ha
  refine st_alloc (cs := [.int .i64 (0 : Int), .int .i64 (0 : Int), .int .i64 (0 : Int), .int .i64 (0 : Int)]) (zv := .agg #[.int .i64 (0 : Int), .int .i64 (0 : Int), .int .i64 (0 : Int), .int .i64 (0 : Int)]) hf (by decide) (by kernel_rfl) rfl hp rfl ?_
  clear hf; intro a w v172 hf hp0; clear hp; have hp := hp0; clear hp0
  replace hp : Hp _ _ _ (Res.obj 72 v172 [.int .i64 (0 : Int), .int .i64 (0 : Int), .int .i64 (0 : Int), .int .i64 (0 : Int)] :: Res.sl Ek.bool 4 v168 q166.1 :: Res.sl Ek.bool 4 v129 q127.1 :: ow) := hp
  refine st_stO (us := [.int .i64 q170.1.1, .int .i64 q170.1.2.1, .int .i64 q170.1.2.2.1, .int .i64 q170.1.2.2.2]) hf hp (i := 0) rfl rfl rfl rfl rfl (by rfl) (by kernel_rfl) (Nat.le_of_ble_eq_true rfl) ?_
  clear hf; intro a w hf hp0; clear hp; have hp := hp0; clear hp0
  replace hp : Hp _ _ _ (Res.obj 72 v172 [.int .i64 q170.1.1, .int .i64 q170.1.2.1, .int .i64 q170.1.2.2.1, .int .i64 q170.1.2.2.2] :: Res.sl Ek.bool 4 v168 q166.1 :: Res.sl Ek.bool 4 v129 q127.1 :: ow) := hp
  refine st_assign hf rfl rfl (by decide) ?_
  clear hf; intro a ha hf; clear ha
  refine st_nil hf ?_
  refine th_n ?_
  refine wp_seq ?_
  refine wp_reg ?_
  refine st_move hf rfl rfl (by decide) ?_
  clear hf; intro a ha hf; clear ha
  obtain ⟨q174, hcall175, h⟩ := bnd h
  refine st_call hf (by decide) Try.func42 rfl rfl rfl rfl rfl (f_foghornref06_Counts_c hp _ _ hqx2 hcall175) ?_
  rintro _ w ⟨rfl, hp0⟩
  clear hp; have hp := hp0; clear hp0
  replace hp : Hp _ _ _ (Res.obj 72 v172 [.int .i64 q170.1.1, .int .i64 q170.1.2.1, .int .i64 q170.1.2.2.1, .int .i64 q170.1.2.2.2] :: Res.sl Ek.bool 4 v168 q166.1 :: Res.sl Ek.bool 4 v129 q127.1 :: ow) := hp
  refine ⟨_, rfl, ?_⟩
  clear hf; intro a hf
  refine st_move hf rfl rfl (by decide) ?_
  clear hf; intro a ha hf; clear ha
  refine st_extract hf (by decide) rfl rfl rfl ?_
  clear hf; intro a ha hf; clear ha
  refine st_extract hf (by decide) rfl rfl rfl ?_
  clear hf; intro a ha hf; clear ha
  refine st_alloc (cs := [.int .i64 (0 : Int), .int .i64 (0 : Int), .int .i64 (0 : Int), .int .i64 (0 : Int)]) (zv := .agg #[.int .i64 (0 : Int), .int .i64 (0 : Int), .int .i64 (0 : Int), .int .i64 (0 : Int)]) hf (by decide) (by kernel_rfl) rfl hp rfl ?_
  clear hf; intro a w v176 hf hp0; clear hp; have hp := hp0; clear hp0
  replace hp : Hp _ _ _ (Res.obj 72 v176 [.int .i64 (0 : Int), .int .i64 (0 : Int), .int .i64 (0 : Int), .int .i64 (0 : Int)] :: Res.obj 72 v172 [.int .i64 q170.1.1, .int .i64 q170.1.2.1, .int .i64 q170.1.2.2.1, .int .i64 q170.1.2.2.2] :: Res.sl Ek.bool 4 v168 q166.1 :: Res.sl Ek.bool 4 v129 q127.1 :: ow) := hp
  refine st_stO (us := [.int .i64 q174.1.1, .int .i64 q174.1.2.1, .int .i64 q174.1.2.2.1, .int .i64 q174.1.2.2.2]) hf hp (i := 0) rfl rfl rfl rfl rfl (by rfl) (by kernel_rfl) (Nat.le_of_ble_eq_true rfl) ?_
  clear hf; intro a w hf hp0; clear hp; have hp := hp0; clear hp0
  replace hp : Hp _ _ _ (Res.obj 72 v176 [.int .i64 q174.1.1, .int .i64 q174.1.2.1, .int .i64 q174.1.2.2.1, .int .i64 q174.1.2.2.2] :: Res.obj 72 v172 [.int .i64 q170.1.1, .int .i64 q170.1.2.1, .int .i64 q170.1.2.2.1, .int .i64 q170.1.2.2.2] :: Res.sl Ek.bool 4 v168 q166.1 :: Res.sl Ek.bool 4 v129 q127.1 :: ow) := hp
  refine st_assign hf rfl rfl (by decide) ?_
  clear hf; intro a ha hf; clear ha
  refine st_nil hf ?_
  refine th_n ?_
  refine wp_seq ?_
  refine wp_reg ?_
  refine st_move hf rfl rfl (by decide) ?_
  clear hf; intro a ha hf; clear ha
  refine st_move hf rfl rfl (by decide) ?_
  clear hf; intro a ha hf; clear ha
  refine st_ieql hf (by decide) rfl rfl rfl ?_
  clear hf; intro a ha hf; clear ha
  refine st_move hf rfl rfl (by decide) ?_
  clear hf; intro a ha hf; clear ha
  refine wpList_cut 4 (fun a w => Fr 208 a [(27, v129), (29, v168), (202, .bool ((q170.2 == q174.2) && ((q170.1.1 == q174.1.1) && ((q170.1.2.1 == q174.1.2.1) && ((q170.1.2.2.1 == q174.1.2.2.1) && (q170.1.2.2.2 == q174.1.2.2.2))))))] ∧ Hp S w0 w (Res.obj 72 v176 [.int .i64 q174.1.1, .int .i64 q174.1.2.1, .int .i64 q174.1.2.2.1, .int .i64 q174.1.2.2.2] :: Res.obj 72 v172 [.int .i64 q170.1.1, .int .i64 q170.1.2.1, .int .i64 q170.1.2.2.1, .int .i64 q170.1.2.2.2] :: Res.sl Ek.bool 4 v168 q166.1 :: Res.sl Ek.bool 4 v129 q127.1 :: ow)) ?_ ?_
  · rcases Bool.eq_false_or_eq_true (q170.2 == q174.2) with hb179 | hb179
    · skip
      refine st_ldOA (m := 4) (us := [.int .i64 q170.1.1, .int .i64 q170.1.2.1, .int .i64 q170.1.2.2.1, .int .i64 q170.1.2.2.2]) hf (by decide) (by kernel_rfl) (wantY hf rfl rfl hb179) rfl (hp.ob (i := 1) rfl) rfl rfl ?_
      clear hf; intro a ha hf; clear ha
      refine st_ldOA (m := 4) (us := [.int .i64 q174.1.1, .int .i64 q174.1.2.1, .int .i64 q174.1.2.2.1, .int .i64 q174.1.2.2.2]) hf (by decide) (by kernel_rfl) (wantY hf rfl rfl hb179) rfl (hp.ob (i := 0) rfl) rfl rfl ?_
      clear hf; intro a ha hf; clear ha
      refine st_eqArr4 hf (by decide) Try.underlying72 (by kernel_rfl) (by kernel_rfl) (by rfl) (by rfl) (by rfl) (by rfl)  (wantY hf rfl rfl hb179) rfl rfl (b := ((q170.1.1 == q174.1.1) && ((q170.1.2.1 == q174.1.2.1) && ((q170.1.2.2.1 == q174.1.2.2.1) && (q170.1.2.2.2 == q174.1.2.2.2))))) rfl ?_
      clear hf; intro a ha hf; clear ha
      refine st_pick (v := .bool ((q170.1.1 == q174.1.1) && ((q170.1.2.1 == q174.1.2.1) && ((q170.1.2.2.1 == q174.1.2.2.1) && (q170.1.2.2.2 == q174.1.2.2.2))))) hf rfl rfl (fun hb' => ?_) (fun hb' => ?_) (by decide) ?_
      · rfl
      · exact absurd (hb179.symm.trans hb') (by decide)
      clear hf; intro a ha hf; clear ha
      refine st_nil hf (th_n ?_)
      exact ⟨hf.sub ⟨rfl, rfl, (by rw [hb179]; rfl), trivial⟩, hp⟩
    refine st_skip hf (wantN hf rfl rfl hb179) rfl (by decide) ?_ rfl
    clear hf; intro a hf
    refine st_skip hf (wantN hf rfl rfl hb179) rfl (by decide) ?_ rfl
    clear hf; intro a hf
    refine st_skip hf (wantN hf rfl rfl hb179) rfl (by decide) ?_ rfl
    clear hf; intro a hf
    refine st_pick (v := .bool false) hf rfl rfl (fun hb' => ?_) (fun hb' => ?_) (by decide) ?_
    · exact absurd (hb179.symm.trans hb') (by decide)
    · rfl
    clear hf; intro a ha hf; clear ha
    refine st_nil hf (th_n ?_)
    exact ⟨hf.sub ⟨rfl, rfl, (by rw [hb179]; rfl), trivial⟩, hp⟩
  rintro a w ⟨hf, hp⟩
  refine st_move hf rfl rfl (by decide) ?_
  clear hf; intro a ha hf; clear ha
  obtain ⟨z182, hz180, h⟩ := bnd h
  refine wpList_cut 4 (fun a w => Fr 208 a [(207, .bool z182)] ∧ Hp S w0 w (Res.obj 72 v176 [.int .i64 q174.1.1, .int .i64 q174.1.2.1, .int .i64 q174.1.2.2.1, .int .i64 q174.1.2.2.2] :: Res.obj 72 v172 [.int .i64 q170.1.1, .int .i64 q170.1.2.1, .int .i64 q170.1.2.2.1, .int .i64 q170.1.2.2.2] :: Res.sl Ek.bool 4 v168 q166.1 :: Res.sl Ek.bool 4 v129 q127.1 :: ow)) ?_ ?_
  · rcases Bool.eq_false_or_eq_true ((q170.2 == q174.2) && ((q170.1.1 == q174.1.1) && ((q170.1.2.1 == q174.1.2.1) && ((q170.1.2.2.1 == q174.1.2.2.1) && (q170.1.2.2.2 == q174.1.2.2.2))))) with hb181 | hb181
    · skip
      replace hz180 := ifT hz180 hb181
      refine st_move hf (wantY hf rfl rfl hb181) rfl (by decide) ?_
      clear hf; intro a ha hf; clear ha
      refine st_move hf (wantY hf rfl rfl hb181) rfl (by decide) ?_
      clear hf; intro a ha hf; clear ha
      obtain ⟨q183, hcall184, hz180⟩ := bnd hz180
      obtain ⟨S185, hp186, rd187, up188, bk189⟩ := Hp.lendS hp (i := 2) rfl
      obtain ⟨S190, hp191, rd192, up193, bk194⟩ := Hp.lendS hp186 (i := 2) rfl
      refine st_call hf (by decide) Try.func16 rfl rfl (wantY hf rfl rfl hb181) rfl rfl (f_foghornlaw06_truths_c hp191 _ _ ((rd187.now hp186).mono up193) _ _ rd192 hcall184) ?_
      rintro _ w ⟨rfl, hp0⟩
      have hp0 := bk194 _ _ hp0
      have hp0 := bk189 _ _ hp0
      clear hp; have hp := hp0; clear hp0
      replace hp : Hp _ _ _ (Res.sl Ek.bool 4 v168 q166.1 :: Res.sl Ek.bool 4 v129 q127.1 :: Res.obj 72 v176 [.int .i64 q174.1.1, .int .i64 q174.1.2.1, .int .i64 q174.1.2.2.1, .int .i64 q174.1.2.2.2] :: Res.obj 72 v172 [.int .i64 q170.1.1, .int .i64 q170.1.2.1, .int .i64 q170.1.2.2.1, .int .i64 q170.1.2.2.2] :: ow) := hp
      refine ⟨_, rfl, ?_⟩
      clear hf; intro a hf
      obtain rfl := Option.some.inj hz180
      refine st_pick (v := .bool q183) hf rfl rfl (fun hb' => ?_) (fun hb' => ?_) (by decide) ?_
      · rfl
      · exact absurd (hb181.symm.trans hb') (by decide)
      clear hf; intro a ha hf; clear ha
      refine st_nil hf (th_n ?_)
      have hp : Hp _ _ _ (Res.obj 72 v176 [.int .i64 q174.1.1, .int .i64 q174.1.2.1, .int .i64 q174.1.2.2.1, .int .i64 q174.1.2.2.2] :: Res.obj 72 v172 [.int .i64 q170.1.1, .int .i64 q170.1.2.1, .int .i64 q170.1.2.2.1, .int .i64 q170.1.2.2.2] :: Res.sl Ek.bool 4 v168 q166.1 :: Res.sl Ek.bool 4 v129 q127.1 :: ow) := Hp.sel (pre := [Res.sl Ek.bool 4 v168 q166.1, Res.sl Ek.bool 4 v129 q127.1, Res.obj 72 v176 [.int .i64 q174.1.1, .int .i64 q174.1.2.1, .int .i64 q174.1.2.2.1, .int .i64 q174.1.2.2.2], Res.obj 72 v172 [.int .i64 q170.1.1, .int .i64 q170.1.2.1, .int .i64 q170.1.2.2.1, .int .i64 q170.1.2.2.2]]) (tail := ow) (rs' := [Res.obj 72 v176 [.int .i64 q174.1.1, .int .i64 q174.1.2.1, .int .i64 q174.1.2.2.1, .int .i64 q174.1.2.2.2], Res.obj 72 v172 [.int .i64 q170.1.1, .int .i64 q170.1.2.1, .int .i64 q170.1.2.2.1, .int .i64 q170.1.2.2.2], Res.sl Ek.bool 4 v168 q166.1, Res.sl Ek.bool 4 v129 q127.1]) hp [2, 3, 0, 1] (by decide) (by simp) rfl
      exact ⟨hf.sub ⟨rfl, trivial⟩, hp⟩
    replace hz180 := ifF hz180 hb181
    refine st_skip hf (wantN hf rfl rfl hb181) rfl (by decide) ?_ rfl
    clear hf; intro a hf
    refine st_skip hf (wantN hf rfl rfl hb181) rfl (by decide) ?_ rfl
    clear hf; intro a hf
    refine st_skip hf (wantN hf rfl rfl hb181) rfl (by decide) ?_ rfl
    clear hf; intro a hf
    obtain rfl := Option.some.inj hz180
    refine st_pick (v := .bool false) hf rfl rfl (fun hb' => ?_) (fun hb' => ?_) (by decide) ?_
    · exact absurd (hb181.symm.trans hb') (by decide)
    · rfl
    clear hf; intro a ha hf; clear ha
    refine st_nil hf (th_n ?_)
    exact ⟨hf.sub ⟨rfl, trivial⟩, hp⟩
  rintro a w ⟨hf, hp⟩
  refine st_assign hf rfl rfl (by decide) ?_
  clear hf; intro a ha hf; clear ha
  refine st_nil hf ?_
  refine th_n ?_
  refine wp_ret ?_
  obtain rfl := Option.some.inj h
  have hp : Hp _ _ _ (ow) := Hp.sel (pre := [Res.obj 72 v176 [.int .i64 q174.1.1, .int .i64 q174.1.2.1, .int .i64 q174.1.2.2.1, .int .i64 q174.1.2.2.2], Res.obj 72 v172 [.int .i64 q170.1.1, .int .i64 q170.1.2.1, .int .i64 q170.1.2.2.1, .int .i64 q170.1.2.2.2], Res.sl Ek.bool 4 v168 q166.1, Res.sl Ek.bool 4 v129 q127.1]) (tail := ow) (rs' := []) hp [] (by decide) (by simp) rfl
  exact ⟨rfl, ⟨hf.sub ⟨rfl, trivial⟩, hp⟩⟩

noncomputable def f_turns_Of.j1 (bits0 : (List Bool)) (qx4 : (List Int)) (i5 : Int) (n6 : Int) : Option (((List Int) × Int) ⊕ (List Int)) := (if 0 ≤ (IntKind.i64.wrap (i5 + (1 : Int))) ∧ (IntKind.i64.wrap (i5 + (1 : Int))) < (bits0.length : Int) then (if (gt bits0 (IntKind.i64.wrap (i5 + (1 : Int)))) = true then (if (qx4.length + ([(ixor .u8 n6 (1 : Int))]).length) * 1 ≤ 140737488355328 then (some (Sum.inl ((qx4 ++ [(ixor .u8 n6 (1 : Int))]), (IntKind.i64.wrap (i5 + (2 : Int)))))) else none) else (if (qx4.length + ([n6]).length) * 1 ≤ 140737488355328 then (some (Sum.inl ((qx4 ++ [n6]), (IntKind.i64.wrap (i5 + (2 : Int)))))) else none)) else none)
noncomputable def f_turns_Of.s1c (bits0 : (List Bool)) (qx4 : (List Int)) (i5 : Int) : Option (((List Int) × Int) ⊕ (List Int)) := (if (decide (i5 < (bits0.length : Int))) = true then (if 0 ≤ i5 ∧ i5 < (bits0.length : Int) then (if (gt bits0 i5) = true then (f_turns_Of.j1 bits0 qx4 i5 (3 : Int)) else (f_turns_Of.j1 bits0 qx4 i5 (0 : Int))) else none) else (some (Sum.inr qx4)))
noncomputable def f_turns_Of.s1 (bits0 : (List Bool)) (s : ((List Int) × Int)) : Option (((List Int) × Int) ⊕ (List Int)) := f_turns_Of.s1c bits0 s.1 s.2
noncomputable def f_turns_Of (bits0 : (List Bool)) : Option ((List Int) × Int) := (if ((decide ((32768 : Int) < (bits0.length : Int))) || (decide ((0 : Int) < (iand .i64 (bits0.length : Int) (1 : Int))))) = true then (some ([], (1 : Int))) else ((loop (f_turns_Of.s1 bits0) ([], (0 : Int))).bind (fun q18 => (some (q18, (0 : Int))))))
theorem f_turns_Of_c {S : Nat → Prop} {w0 w : World} {ow : List Res} (hp : Hp S w0 w ow) (vbits0 : Value) (bits0 : (List Bool)) (hbits0 : RdS Ek.bool S w0 vbits0 bits0) {r : ((List Int) × Int)} (h : f_turns_Of bits0 = some r) :
    Calls Try.prog 12 #[vbits0] w (fun e w' => ∃ (u0 : Value), e = .returned (.tuple #[u0, .int .i64 r.2]) ∧ Hp S w0 w' (Res.sl (Ek.int .u8) 5 u0 r.1 :: ow)) := by
  unfold f_turns_Of at h
  refine enter (n := 38) (args := [vbits0]) Try.func12 rfl rfl (Nat.le_of_ble_eq_true rfl) fun a hf => ?_
  replace hf : Fr 38 a [(0, vbits0)] := hf
  refine wp_mono (Q := fun e a w => e = .ret ∧ ∃ (u0 : Value), Fr 38 a [(2, u0), (3, .int .i64 r.2)] ∧ Hp S w0 w (Res.sl (Ek.int .u8) 5 u0 r.1 :: ow)) ?_ ?_
  rotate_left
  · rintro e a w ⟨rfl, x0, hf, hp⟩
    exact ret2 hf rfl rfl rfl ⟨x0, rfl, hp⟩
  refine wp_seq ?_
  refine wp_reg ?_
  refine st_assign hf rfl rfl (by decide) ?_
  clear hf; intro a ha hf; clear ha
  refine st_assign hf rfl rfl (by decide) ?_
  clear hf; intro a ha hf; clear ha
  refine st_nil hf ?_
  refine th_n ?_
  refine wp_seq ?_
  refine wp_seq ?_
  refine wp_reg ?_
  refine st_move hf rfl rfl (by decide) ?_
  clear hf; intro a ha hf; clear ha
  refine st_len (E := Ek.bool) hf (by decide) Try.underlying27 rfl rfl (hbits0.sl hp) ?_
  clear hf; intro a ha hf; clear ha
  refine st_igtr hf (by decide) rfl rfl rfl ?_
  clear hf; intro a ha hf; clear ha
  refine st_move hf rfl rfl (by decide) ?_
  clear hf; intro a ha hf; clear ha
  refine wpList_cut 5 (fun a w => Fr 38 a [(0, vbits0), (15, .bool ((decide ((32768 : Int) < (bits0.length : Int))) || (decide ((0 : Int) < (iand .i64 (bits0.length : Int) (1 : Int))))))] ∧ Hp S w0 w (ow)) ?_ ?_
  · rcases Bool.eq_false_or_eq_true (decide ((32768 : Int) < (bits0.length : Int))) with hb2 | hb2
    · skip
      refine st_skip hf (wantN hf rfl rfl hb2) rfl (by decide) ?_ rfl
      clear hf; intro a hf
      refine st_skip hf (wantN hf rfl rfl hb2) rfl (by decide) ?_ rfl
      clear hf; intro a hf
      refine st_skip hf (wantN hf rfl rfl hb2) rfl (by decide) ?_ rfl
      clear hf; intro a hf
      refine st_skip hf (wantN hf rfl rfl hb2) rfl (by decide) ?_ rfl
      clear hf; intro a hf
      refine st_pick (v := .bool true) hf rfl rfl (fun hb' => ?_) (fun hb' => ?_) (by decide) ?_
      · rfl
      · exact absurd (hb2.symm.trans hb') (by decide)
      clear hf; intro a ha hf; clear ha
      refine st_nil hf (th_n ?_)
      exact ⟨hf.sub ⟨rfl, (by rw [hb2]; rfl), trivial⟩, hp⟩
    refine st_move hf (wantY hf rfl rfl hb2) rfl (by decide) ?_
    clear hf; intro a ha hf; clear ha
    refine st_len (E := Ek.bool) hf (by decide) Try.underlying27 (wantY hf rfl rfl hb2) rfl (hbits0.sl hp) ?_
    clear hf; intro a ha hf; clear ha
    refine st_iand hf (by decide) (wantY hf rfl rfl hb2) rfl rfl ?_
    clear hf; intro a ha hf; clear ha
    refine st_igtr hf (by decide) (wantY hf rfl rfl hb2) rfl rfl ?_
    clear hf; intro a ha hf; clear ha
    refine st_pick (v := .bool (decide ((0 : Int) < (iand .i64 (bits0.length : Int) (1 : Int))))) hf rfl rfl (fun hb' => ?_) (fun hb' => ?_) (by decide) ?_
    · exact absurd (hb2.symm.trans hb') (by decide)
    · rfl
    clear hf; intro a ha hf; clear ha
    refine st_nil hf (th_n ?_)
    exact ⟨hf.sub ⟨rfl, (by rw [hb2]; rfl), trivial⟩, hp⟩
  rintro a w ⟨hf, hp⟩
  refine st_nil hf ?_
  refine th_n ?_
  refine wp_if hf rfl (fun hb => ?_) (fun hb => ?_)
  · replace h := ifT h hb
    refine wp_seq ?_
    refine wp_reg ?_
    refine st_assign hf rfl rfl (by decide) ?_
    clear hf; intro a ha hf; clear ha
    refine st_assign hf rfl rfl (by decide) ?_
    clear hf; intro a ha hf; clear ha
    refine st_nil hf ?_
    refine th_n ?_
    refine wp_ret ?_
    refine th_r ?_
    obtain rfl := Option.some.inj h
    have hp := hp.nil (Ek.int .u8) 5
    exact ⟨rfl, ⟨_, hf.sub ⟨rfl, rfl, trivial⟩, hp⟩⟩
  replace h := ifF h hb
  refine wp_skip ?_
  refine th_n ?_
  refine wp_seq ?_
  refine wp_reg ?_
  refine st_assign hf rfl rfl (by decide) ?_
  clear hf; intro a ha hf; clear ha
  refine st_nil hf ?_
  refine th_n ?_
  refine wp_seq ?_
  refine wp_seq ?_
  refine wp_reg ?_
  refine st_assign hf rfl rfl (by decide) ?_
  clear hf; intro a ha hf; clear ha
  refine st_nil hf ?_
  refine th_n ?_
  refine wp_block ?_
  obtain ⟨q18, hl, h⟩ := bnd h
  have hp := hp.nil (Ek.int .u8) 5
  refine wp_loop_pure (f := (f_turns_Of.s1 bits0)) (s := ([], (0 : Int))) (fun s a w => ∃ (v4 : Value), Fr 38 a [(0, vbits0), (4, v4), (5, .int .i64 s.2)] ∧ Hp S w0 w (Res.sl (Ek.int .u8) 5 v4 s.1 :: ow)) (fun q e a w => e = .exit 0 ∧ ∃ (v6 : Value), Fr 38 a [(4, v6)] ∧ Hp S w0 w (Res.sl (Ek.int .u8) 5 v6 q :: ow)) ?_ hl ⟨_, hf.sub ⟨rfl, rfl, rfl, trivial⟩, hp⟩ ?_
  · clear hl hf hp
    intro s x a w h hI
    obtain ⟨qx4, i5⟩ := s
    obtain ⟨v4, hf, hp⟩ : ∃ (v4 : Value), Fr 38 a [(0, vbits0), (4, v4), (5, .int .i64 i5)] ∧ Hp S w0 w (Res.sl (Ek.int .u8) 5 v4 qx4 :: ow) := hI
    replace h : f_turns_Of.s1c bits0 qx4 i5 = some x := h
    unfold f_turns_Of.s1c at h
    refine wp_seq ?_
    refine wp_seq ?_
    refine wp_reg ?_
    refine st_move hf rfl rfl (by decide) ?_
    clear hf; intro a ha hf; clear ha
    refine st_move hf rfl rfl (by decide) ?_
    clear hf; intro a ha hf; clear ha
    refine st_len (E := Ek.bool) hf (by decide) Try.underlying27 rfl rfl (hbits0.sl hp) ?_
    clear hf; intro a ha hf; clear ha
    refine st_ilss hf (by decide) rfl rfl rfl ?_
    clear hf; intro a ha hf; clear ha
    refine st_nil hf ?_
    refine th_n ?_
    refine wp_if hf rfl (fun hb => ?_) (fun hb => ?_)
    · replace h := ifT h hb
      refine wp_skip ?_
      refine th_n ?_
      refine wp_seq ?_
      refine wp_block ?_
      refine wp_seq ?_
      refine wp_reg ?_
      refine st_assign hf rfl rfl (by decide) ?_
      clear hf; intro a ha hf; clear ha
      refine st_nil hf ?_
      refine th_n ?_
      refine wp_seq_cut (fun a w => ∃ (n6 : Int), f_turns_Of.j1 bits0 qx4 i5 n6 = some x ∧ Fr 38 a [(0, vbits0), (4, v4), (5, .int .i64 i5), (6, .int .u8 n6)] ∧ Hp S w0 w (Res.sl (Ek.int .u8) 5 v4 qx4 :: ow)) ?_ ?_
      · skip
        refine wp_seq ?_
        refine wp_reg ?_
        refine st_move hf rfl rfl (by decide) ?_
        clear hf; intro a ha hf; clear ha
        refine st_move hf rfl rfl (by decide) ?_
        clear hf; intro a ha hf; clear ha
        obtain ⟨hc17, h⟩ := chk h
        refine st_index (E := Ek.bool) hf (by decide) Try.underlying27 elt4 rfl rfl rfl (hbits0.sl hp) hc17.1 hc17.2 ?_
        clear hf; intro a ha hf; clear ha
        refine st_ldB hf (by decide) pl4 rfl rfl (hbits0.sl hp) hc17.1 hc17.2 ?_
        clear hf; intro a ha hf; clear ha
        refine st_nil hf ?_
        refine th_n ?_
        refine wp_if hf rfl (fun hb => ?_) (fun hb => ?_)
        · replace h := ifT h hb
          refine wp_reg ?_
          refine st_assign hf rfl rfl (by decide) ?_
          clear hf; intro a ha hf; clear ha
          refine st_nil hf ?_
          refine th_n ?_
          exact ⟨_, h, hf.sub ⟨rfl, rfl, rfl, rfl, trivial⟩, hp⟩
        replace h := ifF h hb
        refine wp_skip ?_
        refine th_n ?_
        exact ⟨_, h, hf.sub ⟨rfl, rfl, rfl, rfl, trivial⟩, hp⟩
      rintro a w ⟨n6, h, hf, hp⟩
      unfold f_turns_Of.j1 at h
      refine wp_seq ?_
      refine wp_seq ?_
      refine wp_reg ?_
      refine st_move hf rfl rfl (by decide) ?_
      clear hf; intro a ha hf; clear ha
      refine st_move hf rfl rfl (by decide) ?_
      clear hf; intro a ha hf; clear ha
      refine st_iadd hf (by decide) rfl rfl rfl ?_
      clear hf; intro a ha hf; clear ha
      obtain ⟨hc8, h⟩ := chk h
      refine st_index (E := Ek.bool) hf (by decide) Try.underlying27 elt4 rfl rfl rfl (hbits0.sl hp) hc8.1 hc8.2 ?_
      clear hf; intro a ha hf; clear ha
      refine st_ldB hf (by decide) pl4 rfl rfl (hbits0.sl hp) hc8.1 hc8.2 ?_
      clear hf; intro a ha hf; clear ha
      refine st_nil hf ?_
      refine th_n ?_
      refine wp_if hf rfl (fun hb => ?_) (fun hb => ?_)
      · replace h := ifT h hb
        refine wp_reg ?_
        refine st_move hf rfl rfl (by decide) ?_
        clear hf; intro a ha hf; clear ha
        refine st_ixor hf (by decide) rfl rfl rfl ?_
        clear hf; intro a ha hf; clear ha
        refine st_assign hf rfl rfl (by decide) ?_
        clear hf; intro a ha hf; clear ha
        refine st_nil hf ?_
        refine th_n ?_
        refine wp_reg ?_
        refine st_move hf rfl rfl (by decide) ?_
        clear hf; intro a ha hf; clear ha
        refine st_move hf rfl rfl (by decide) ?_
        clear hf; intro a ha hf; clear ha
        refine st_build (E := (Ek.int .u8)) (xs := [(ixor .u8 n6 (1 : Int))]) hf (by decide) elt5 Try.underlying22 hp (vals := #[(0, .int .u8 (ixor .u8 n6 (1 : Int)))]) (cells := #[.int .u8 (ixor .u8 n6 (1 : Int))]) rfl (by simp [hf.ev (x := (Operand.tmp 34)) rfl]) (by decide) (by decide) (z := .int .u8 0) (by kernel_rfl) (by kernel_rfl) rfl (reps_cons (cs := [.int .u8 (ixor .u8 n6 (1 : Int))]) rfl (reps_nil _)) ?_
        clear hf; intro a w v9 hf hp0; clear hp; have hp := hp0; clear hp0
        replace hp : Hp _ _ _ (Res.sl (Ek.int .u8) 5 v9 ([(ixor .u8 n6 (1 : Int))]) :: Res.sl (Ek.int .u8) 5 v4 qx4 :: ow) := hp
        obtain ⟨hc11, h⟩ := chk h
        refine st_append (E := (Ek.int .u8)) hf (by decide) elt5 Try.underlying22 (by decide) hp (i := 1) rfl rfl rfl rfl (hp.sl (i := 0) rfl) hc11 ?_
        clear hf; intro a w v12 hf hp0; clear hp; have hp := hp0; clear hp0
        replace hp : Hp _ _ _ (Res.sl (Ek.int .u8) 5 v9 ([(ixor .u8 n6 (1 : Int))]) :: Res.sl (Ek.int .u8) 5 v12 (qx4 ++ [(ixor .u8 n6 (1 : Int))]) :: ow) := hp
        refine st_assign hf rfl rfl (by decide) ?_
        clear hf; intro a ha hf; clear ha
        refine st_nil hf ?_
        refine ib_n ?_
        refine th_n ?_
        refine wp_reg ?_
        refine st_move hf rfl rfl (by decide) ?_
        clear hf; intro a ha hf; clear ha
        refine st_iadd hf (by decide) rfl rfl rfl ?_
        clear hf; intro a ha hf; clear ha
        refine st_assign hf rfl rfl (by decide) ?_
        clear hf; intro a ha hf; clear ha
        refine st_nil hf ?_
        obtain rfl := Option.some.inj h
        have hp : Hp _ _ _ (Res.sl (Ek.int .u8) 5 v12 (qx4 ++ [(ixor .u8 n6 (1 : Int))]) :: ow) := Hp.sel (pre := [Res.sl (Ek.int .u8) 5 v9 ([(ixor .u8 n6 (1 : Int))]), Res.sl (Ek.int .u8) 5 v12 (qx4 ++ [(ixor .u8 n6 (1 : Int))])]) (tail := ow) (rs' := [Res.sl (Ek.int .u8) 5 v12 (qx4 ++ [(ixor .u8 n6 (1 : Int))])]) hp [1] (by decide) (by simp) rfl
        exact rnd_l ⟨_, hf.sub ⟨rfl, rfl, rfl, trivial⟩, hp⟩
      replace h := ifF h hb
      refine wp_skip ?_
      refine th_n ?_
      refine wp_reg ?_
      refine st_move hf rfl rfl (by decide) ?_
      clear hf; intro a ha hf; clear ha
      refine st_move hf rfl rfl (by decide) ?_
      clear hf; intro a ha hf; clear ha
      refine st_build (E := (Ek.int .u8)) (xs := [n6]) hf (by decide) elt5 Try.underlying22 hp (vals := #[(0, .int .u8 n6)]) (cells := #[.int .u8 n6]) rfl (by simp [hf.ev (x := (Operand.tmp 34)) rfl]) (by decide) (by decide) (z := .int .u8 0) (by kernel_rfl) (by kernel_rfl) rfl (reps_cons (cs := [.int .u8 n6]) rfl (reps_nil _)) ?_
      clear hf; intro a w v13 hf hp0; clear hp; have hp := hp0; clear hp0
      replace hp : Hp _ _ _ (Res.sl (Ek.int .u8) 5 v13 ([n6]) :: Res.sl (Ek.int .u8) 5 v4 qx4 :: ow) := hp
      obtain ⟨hc15, h⟩ := chk h
      refine st_append (E := (Ek.int .u8)) hf (by decide) elt5 Try.underlying22 (by decide) hp (i := 1) rfl rfl rfl rfl (hp.sl (i := 0) rfl) hc15 ?_
      clear hf; intro a w v16 hf hp0; clear hp; have hp := hp0; clear hp0
      replace hp : Hp _ _ _ (Res.sl (Ek.int .u8) 5 v13 ([n6]) :: Res.sl (Ek.int .u8) 5 v16 (qx4 ++ [n6]) :: ow) := hp
      refine st_assign hf rfl rfl (by decide) ?_
      clear hf; intro a ha hf; clear ha
      refine st_nil hf ?_
      refine ib_n ?_
      refine th_n ?_
      refine wp_reg ?_
      refine st_move hf rfl rfl (by decide) ?_
      clear hf; intro a ha hf; clear ha
      refine st_iadd hf (by decide) rfl rfl rfl ?_
      clear hf; intro a ha hf; clear ha
      refine st_assign hf rfl rfl (by decide) ?_
      clear hf; intro a ha hf; clear ha
      refine st_nil hf ?_
      obtain rfl := Option.some.inj h
      have hp : Hp _ _ _ (Res.sl (Ek.int .u8) 5 v16 (qx4 ++ [n6]) :: ow) := Hp.sel (pre := [Res.sl (Ek.int .u8) 5 v13 ([n6]), Res.sl (Ek.int .u8) 5 v16 (qx4 ++ [n6])]) (tail := ow) (rs' := [Res.sl (Ek.int .u8) 5 v16 (qx4 ++ [n6])]) hp [1] (by decide) (by simp) rfl
      exact rnd_l ⟨_, hf.sub ⟨rfl, rfl, rfl, trivial⟩, hp⟩
    replace h := ifF h hb
    refine wp_exit ?_
    refine th_e ?_
    obtain rfl := Option.some.inj h
    exact rnd_r (by simp) ⟨rfl, _, hf.sub ⟨rfl, trivial⟩, hp⟩
  clear hl hf hp
  intro e a w hne hO
  obtain ⟨rfl, v6, hf, hp⟩ := hO
  refine ib_same ?_
  refine th_n ?_
  refine wp_seq ?_
  refine wp_reg ?_
  refine st_move hf rfl rfl (by decide) ?_
  clear hf; intro a ha hf; clear ha
  refine st_assign hf rfl rfl (by decide) ?_
  clear hf; intro a ha hf; clear ha
  refine st_assign hf rfl rfl (by decide) ?_
  clear hf; intro a ha hf; clear ha
  refine st_nil hf ?_
  refine th_n ?_
  refine wp_ret ?_
  obtain rfl := Option.some.inj h
  exact ⟨rfl, ⟨_, hf.sub ⟨rfl, rfl, trivial⟩, hp⟩⟩

noncomputable def f_foghornref06_Of.s1c (bits0 : (List Bool)) (out4 : (List Int)) (i5 : Int) : Option (((List Int) × Int) ⊕ (List Int)) := (if (decide (i5 < (bits0.length : Int))) = true then (if 0 ≤ i5 ∧ i5 < (bits0.length : Int) then ((if (!(gt bits0 i5)) = true then (if 0 ≤ (IntKind.i64.wrap (i5 + (1 : Int))) ∧ (IntKind.i64.wrap (i5 + (1 : Int))) < (bits0.length : Int) then (some (!(gt bits0 (IntKind.i64.wrap (i5 + (1 : Int)))))) else none) else (some false)).bind fun z11 => (if z11 = true then (if (out4.length + ([(0 : Int)]).length) * 1 ≤ 140737488355328 then (some (Sum.inl ((out4 ++ [(0 : Int)]), (IntKind.i64.wrap (i5 + (2 : Int)))))) else none) else (if 0 ≤ i5 ∧ i5 < (bits0.length : Int) then (if (!(gt bits0 i5)) = true then (if (out4.length + ([(1 : Int)]).length) * 1 ≤ 140737488355328 then (some (Sum.inl ((out4 ++ [(1 : Int)]), (IntKind.i64.wrap (i5 + (2 : Int)))))) else none) else (if 0 ≤ (IntKind.i64.wrap (i5 + (1 : Int))) ∧ (IntKind.i64.wrap (i5 + (1 : Int))) < (bits0.length : Int) then (if (gt bits0 (IntKind.i64.wrap (i5 + (1 : Int)))) = true then (if (out4.length + ([(2 : Int)]).length) * 1 ≤ 140737488355328 then (some (Sum.inl ((out4 ++ [(2 : Int)]), (IntKind.i64.wrap (i5 + (2 : Int)))))) else none) else (if (out4.length + ([(3 : Int)]).length) * 1 ≤ 140737488355328 then (some (Sum.inl ((out4 ++ [(3 : Int)]), (IntKind.i64.wrap (i5 + (2 : Int)))))) else none)) else none)) else none))) else none) else (some (Sum.inr out4)))
noncomputable def f_foghornref06_Of.s1 (bits0 : (List Bool)) (s : ((List Int) × Int)) : Option (((List Int) × Int) ⊕ (List Int)) := f_foghornref06_Of.s1c bits0 s.1 s.2
noncomputable def f_foghornref06_Of (bits0 : (List Bool)) : Option ((List Int) × Int) := (if ((decide ((32768 : Int) < (bits0.length : Int))) || ((((bits0.length : Int)).tmod (2 : Int)) == (1 : Int))) = true then (some ([], (1 : Int))) else ((loop (f_foghornref06_Of.s1 bits0) ([], (0 : Int))).bind (fun q31 => (some (q31, (0 : Int))))))
theorem f_foghornref06_Of_c {S : Nat → Prop} {w0 w : World} {ow : List Res} (hp : Hp S w0 w ow) (vbits0 : Value) (bits0 : (List Bool)) (hbits0 : RdS Ek.bool S w0 vbits0 bits0) {r : ((List Int) × Int)} (h : f_foghornref06_Of bits0 = some r) :
    Calls Try.prog 43 #[vbits0] w (fun e w' => ∃ (u0 : Value), e = .returned (.tuple #[u0, .int .i64 r.2]) ∧ Hp S w0 w' (Res.sl (Ek.int .u8) 5 u0 r.1 :: ow)) := by
  unfold f_foghornref06_Of at h
  refine enter (n := 60) (args := [vbits0]) Try.func43 rfl rfl (Nat.le_of_ble_eq_true rfl) fun a hf => ?_
  replace hf : Fr 60 a [(0, vbits0)] := hf
  refine wp_mono (Q := fun e a w => e = .ret ∧ ∃ (u0 : Value), Fr 60 a [(2, u0), (3, .int .i64 r.2)] ∧ Hp S w0 w (Res.sl (Ek.int .u8) 5 u0 r.1 :: ow)) ?_ ?_
  rotate_left
  · rintro e a w ⟨rfl, x0, hf, hp⟩
    exact ret2 hf rfl rfl rfl ⟨x0, rfl, hp⟩
  refine wp_seq ?_
  refine wp_reg ?_
  refine st_assign hf rfl rfl (by decide) ?_
  clear hf; intro a ha hf; clear ha
  refine st_assign hf rfl rfl (by decide) ?_
  clear hf; intro a ha hf; clear ha
  refine st_nil hf ?_
  refine th_n ?_
  refine wp_seq ?_
  refine wp_seq ?_
  refine wp_reg ?_
  refine st_move hf rfl rfl (by decide) ?_
  clear hf; intro a ha hf; clear ha
  refine st_len (E := Ek.bool) hf (by decide) Try.underlying27 rfl rfl (hbits0.sl hp) ?_
  clear hf; intro a ha hf; clear ha
  refine st_igtr hf (by decide) rfl rfl rfl ?_
  clear hf; intro a ha hf; clear ha
  refine st_move hf rfl rfl (by decide) ?_
  clear hf; intro a ha hf; clear ha
  refine wpList_cut 5 (fun a w => Fr 60 a [(0, vbits0), (14, .bool ((decide ((32768 : Int) < (bits0.length : Int))) || ((((bits0.length : Int)).tmod (2 : Int)) == (1 : Int))))] ∧ Hp S w0 w (ow)) ?_ ?_
  · rcases Bool.eq_false_or_eq_true (decide ((32768 : Int) < (bits0.length : Int))) with hb2 | hb2
    · skip
      refine st_skip hf (wantN hf rfl rfl hb2) rfl (by decide) ?_ rfl
      clear hf; intro a hf
      refine st_skip hf (wantN hf rfl rfl hb2) rfl (by decide) ?_ rfl
      clear hf; intro a hf
      refine st_skip hf (wantN hf rfl rfl hb2) rfl (by decide) ?_ rfl
      clear hf; intro a hf
      refine st_skip hf (wantN hf rfl rfl hb2) rfl (by decide) ?_ rfl
      clear hf; intro a hf
      refine st_pick (v := .bool true) hf rfl rfl (fun hb' => ?_) (fun hb' => ?_) (by decide) ?_
      · rfl
      · exact absurd (hb2.symm.trans hb') (by decide)
      clear hf; intro a ha hf; clear ha
      refine st_nil hf (th_n ?_)
      exact ⟨hf.sub ⟨rfl, (by rw [hb2]; rfl), trivial⟩, hp⟩
    refine st_move hf (wantY hf rfl rfl hb2) rfl (by decide) ?_
    clear hf; intro a ha hf; clear ha
    refine st_len (E := Ek.bool) hf (by decide) Try.underlying27 (wantY hf rfl rfl hb2) rfl (hbits0.sl hp) ?_
    clear hf; intro a ha hf; clear ha
    refine st_irem hf (by decide) (wantY hf rfl rfl hb2) rfl rfl (by decide) ?_
    clear hf; intro a ha hf; clear ha
    refine st_ieql hf (by decide) (wantY hf rfl rfl hb2) rfl rfl ?_
    clear hf; intro a ha hf; clear ha
    refine st_pick (v := .bool ((((bits0.length : Int)).tmod (2 : Int)) == (1 : Int))) hf rfl rfl (fun hb' => ?_) (fun hb' => ?_) (by decide) ?_
    · exact absurd (hb2.symm.trans hb') (by decide)
    · rfl
    clear hf; intro a ha hf; clear ha
    refine st_nil hf (th_n ?_)
    exact ⟨hf.sub ⟨rfl, (by rw [hb2]; rfl), trivial⟩, hp⟩
  rintro a w ⟨hf, hp⟩
  refine st_nil hf ?_
  refine th_n ?_
  refine wp_if hf rfl (fun hb => ?_) (fun hb => ?_)
  · replace h := ifT h hb
    refine wp_seq ?_
    refine wp_reg ?_
    refine st_assign hf rfl rfl (by decide) ?_
    clear hf; intro a ha hf; clear ha
    refine st_assign hf rfl rfl (by decide) ?_
    clear hf; intro a ha hf; clear ha
    refine st_nil hf ?_
    refine th_n ?_
    refine wp_ret ?_
    refine th_r ?_
    obtain rfl := Option.some.inj h
    have hp := hp.nil (Ek.int .u8) 5
    exact ⟨rfl, ⟨_, hf.sub ⟨rfl, rfl, trivial⟩, hp⟩⟩
  replace h := ifF h hb
  refine wp_skip ?_
  refine th_n ?_
  refine wp_seq ?_
  refine wp_reg ?_
  refine st_assign hf rfl rfl (by decide) ?_
  clear hf; intro a ha hf; clear ha
  refine st_nil hf ?_
  refine th_n ?_
  refine wp_seq ?_
  refine wp_seq ?_
  refine wp_reg ?_
  refine st_assign hf rfl rfl (by decide) ?_
  clear hf; intro a ha hf; clear ha
  refine st_nil hf ?_
  refine th_n ?_
  refine wp_block ?_
  obtain ⟨q31, hl, h⟩ := bnd h
  have hp := hp.nil (Ek.int .u8) 5
  refine wp_loop_pure (f := (f_foghornref06_Of.s1 bits0)) (s := ([], (0 : Int))) (fun s a w => ∃ (v4 : Value), Fr 60 a [(0, vbits0), (4, v4), (5, .int .i64 s.2)] ∧ Hp S w0 w (Res.sl (Ek.int .u8) 5 v4 s.1 :: ow)) (fun q e a w => e = .exit 0 ∧ ∃ (v6 : Value), Fr 60 a [(4, v6)] ∧ Hp S w0 w (Res.sl (Ek.int .u8) 5 v6 q :: ow)) ?_ hl ⟨_, hf.sub ⟨rfl, rfl, rfl, trivial⟩, hp⟩ ?_
  · clear hl hf hp
    intro s x a w h hI
    obtain ⟨out4, i5⟩ := s
    obtain ⟨v4, hf, hp⟩ : ∃ (v4 : Value), Fr 60 a [(0, vbits0), (4, v4), (5, .int .i64 i5)] ∧ Hp S w0 w (Res.sl (Ek.int .u8) 5 v4 out4 :: ow) := hI
    replace h : f_foghornref06_Of.s1c bits0 out4 i5 = some x := h
    unfold f_foghornref06_Of.s1c at h
    refine wp_seq ?_
    refine wp_seq ?_
    refine wp_reg ?_
    refine st_move hf rfl rfl (by decide) ?_
    clear hf; intro a ha hf; clear ha
    refine st_move hf rfl rfl (by decide) ?_
    clear hf; intro a ha hf; clear ha
    refine st_len (E := Ek.bool) hf (by decide) Try.underlying27 rfl rfl (hbits0.sl hp) ?_
    clear hf; intro a ha hf; clear ha
    refine st_ilss hf (by decide) rfl rfl rfl ?_
    clear hf; intro a ha hf; clear ha
    refine st_nil hf ?_
    refine th_n ?_
    refine wp_if hf rfl (fun hb => ?_) (fun hb => ?_)
    · replace h := ifT h hb
      refine wp_skip ?_
      refine th_n ?_
      refine wp_seq ?_
      refine wp_block ?_
      refine wp_block ?_
      refine wp_seq ?_
      refine wp_reg ?_
      refine st_move hf rfl rfl (by decide) ?_
      clear hf; intro a ha hf; clear ha
      refine st_move hf rfl rfl (by decide) ?_
      clear hf; intro a ha hf; clear ha
      obtain ⟨hc8, h⟩ := chk h
      refine st_index (E := Ek.bool) hf (by decide) Try.underlying27 elt4 rfl rfl rfl (hbits0.sl hp) hc8.1 hc8.2 ?_
      clear hf; intro a ha hf; clear ha
      refine st_ldB hf (by decide) pl4 rfl rfl (hbits0.sl hp) hc8.1 hc8.2 ?_
      clear hf; intro a ha hf; clear ha
      refine st_not hf (by decide) rfl rfl ?_
      clear hf; intro a ha hf; clear ha
      refine st_move hf rfl rfl (by decide) ?_
      clear hf; intro a ha hf; clear ha
      obtain ⟨z11, hz9, h⟩ := bnd h
      refine wpList_cut 7 (fun a w => Fr 60 a [(0, vbits0), (4, v4), (5, .int .i64 i5), (37, .bool z11)] ∧ Hp S w0 w (Res.sl (Ek.int .u8) 5 v4 out4 :: ow)) ?_ ?_
      · rcases Bool.eq_false_or_eq_true (!(gt bits0 i5)) with hb10 | hb10
        · skip
          replace hz9 := ifT hz9 hb10
          refine st_move hf (wantY hf rfl rfl hb10) rfl (by decide) ?_
          clear hf; intro a ha hf; clear ha
          refine st_move hf (wantY hf rfl rfl hb10) rfl (by decide) ?_
          clear hf; intro a ha hf; clear ha
          refine st_iadd hf (by decide) (wantY hf rfl rfl hb10) rfl rfl ?_
          clear hf; intro a ha hf; clear ha
          obtain ⟨hc12, hz9⟩ := chk hz9
          refine st_index (E := Ek.bool) hf (by decide) Try.underlying27 elt4 (wantY hf rfl rfl hb10) rfl rfl (hbits0.sl hp) hc12.1 hc12.2 ?_
          clear hf; intro a ha hf; clear ha
          refine st_ldB hf (by decide) pl4 (wantY hf rfl rfl hb10) rfl (hbits0.sl hp) hc12.1 hc12.2 ?_
          clear hf; intro a ha hf; clear ha
          refine st_not hf (by decide) (wantY hf rfl rfl hb10) rfl ?_
          clear hf; intro a ha hf; clear ha
          obtain rfl := Option.some.inj hz9
          refine st_pick (v := .bool (!(gt bits0 (IntKind.i64.wrap (i5 + (1 : Int)))))) hf rfl rfl (fun hb' => ?_) (fun hb' => ?_) (by decide) ?_
          · rfl
          · exact absurd (hb10.symm.trans hb') (by decide)
          clear hf; intro a ha hf; clear ha
          refine st_nil hf (th_n ?_)
          exact ⟨hf.sub ⟨rfl, rfl, rfl, rfl, trivial⟩, hp⟩
        replace hz9 := ifF hz9 hb10
        refine st_skip hf (wantN hf rfl rfl hb10) rfl (by decide) ?_ rfl
        clear hf; intro a hf
        refine st_skip hf (wantN hf rfl rfl hb10) rfl (by decide) ?_ rfl
        clear hf; intro a hf
        refine st_skip hf (wantN hf rfl rfl hb10) rfl (by decide) ?_ rfl
        clear hf; intro a hf
        refine st_skip hf (wantN hf rfl rfl hb10) rfl (by decide) ?_ rfl
        clear hf; intro a hf
        refine st_skip hf (wantN hf rfl rfl hb10) rfl (by decide) ?_ rfl
        clear hf; intro a hf
        refine st_skip hf (wantN hf rfl rfl hb10) rfl (by decide) ?_ rfl
        clear hf; intro a hf
        obtain rfl := Option.some.inj hz9
        refine st_pick (v := .bool false) hf rfl rfl (fun hb' => ?_) (fun hb' => ?_) (by decide) ?_
        · exact absurd (hb10.symm.trans hb') (by decide)
        · rfl
        clear hf; intro a ha hf; clear ha
        refine st_nil hf (th_n ?_)
        exact ⟨hf.sub ⟨rfl, rfl, rfl, rfl, trivial⟩, hp⟩
      rintro a w ⟨hf, hp⟩
      refine st_assign hf rfl rfl (by decide) ?_
      clear hf; intro a ha hf; clear ha
      refine st_nil hf ?_
      refine th_n ?_
      refine wp_if hf rfl (fun hb => ?_) (fun hb => ?_)
      · replace h := ifT h hb
        refine wp_reg ?_
        refine st_move hf rfl rfl (by decide) ?_
        clear hf; intro a ha hf; clear ha
        refine st_build (E := (Ek.int .u8)) (xs := [(0 : Int)]) hf (by decide) elt5 Try.underlying22 hp (vals := #[(0, .int .u8 (0 : Int))]) (cells := #[.int .u8 (0 : Int)]) rfl (by simp [hf.ev (x := (Operand.const (.int .u8 (0 : Int)))) rfl]) (by decide) (by decide) (z := .int .u8 0) (by kernel_rfl) (by kernel_rfl) rfl (reps_cons (cs := [.int .u8 (0 : Int)]) rfl (reps_nil _)) ?_
        clear hf; intro a w v13 hf hp0; clear hp; have hp := hp0; clear hp0
        replace hp : Hp _ _ _ (Res.sl (Ek.int .u8) 5 v13 ([(0 : Int)]) :: Res.sl (Ek.int .u8) 5 v4 out4 :: ow) := hp
        obtain ⟨hc15, h⟩ := chk h
        refine st_append (E := (Ek.int .u8)) hf (by decide) elt5 Try.underlying22 (by decide) hp (i := 1) rfl rfl rfl rfl (hp.sl (i := 0) rfl) hc15 ?_
        clear hf; intro a w v16 hf hp0; clear hp; have hp := hp0; clear hp0
        replace hp : Hp _ _ _ (Res.sl (Ek.int .u8) 5 v13 ([(0 : Int)]) :: Res.sl (Ek.int .u8) 5 v16 (out4 ++ [(0 : Int)]) :: ow) := hp
        refine st_assign hf rfl rfl (by decide) ?_
        clear hf; intro a ha hf; clear ha
        refine st_nil hf ?_
        refine ib_n ?_
        refine ib_n ?_
        refine th_n ?_
        refine wp_reg ?_
        refine st_move hf rfl rfl (by decide) ?_
        clear hf; intro a ha hf; clear ha
        refine st_iadd hf (by decide) rfl rfl rfl ?_
        clear hf; intro a ha hf; clear ha
        refine st_assign hf rfl rfl (by decide) ?_
        clear hf; intro a ha hf; clear ha
        refine st_nil hf ?_
        obtain rfl := Option.some.inj h
        have hp : Hp _ _ _ (Res.sl (Ek.int .u8) 5 v16 (out4 ++ [(0 : Int)]) :: ow) := Hp.sel (pre := [Res.sl (Ek.int .u8) 5 v13 ([(0 : Int)]), Res.sl (Ek.int .u8) 5 v16 (out4 ++ [(0 : Int)])]) (tail := ow) (rs' := [Res.sl (Ek.int .u8) 5 v16 (out4 ++ [(0 : Int)])]) hp [1] (by decide) (by simp) rfl
        exact rnd_l ⟨_, hf.sub ⟨rfl, rfl, rfl, trivial⟩, hp⟩
      replace h := ifF h hb
      refine wp_seq ?_
      refine wp_reg ?_
      refine st_move hf rfl rfl (by decide) ?_
      clear hf; intro a ha hf; clear ha
      refine st_move hf rfl rfl (by decide) ?_
      clear hf; intro a ha hf; clear ha
      obtain ⟨hc17, h⟩ := chk h
      refine st_index (E := Ek.bool) hf (by decide) Try.underlying27 elt4 rfl rfl rfl (hbits0.sl hp) hc17.1 hc17.2 ?_
      clear hf; intro a ha hf; clear ha
      refine st_ldB hf (by decide) pl4 rfl rfl (hbits0.sl hp) hc17.1 hc17.2 ?_
      clear hf; intro a ha hf; clear ha
      refine st_not hf (by decide) rfl rfl ?_
      clear hf; intro a ha hf; clear ha
      refine st_assign hf rfl rfl (by decide) ?_
      clear hf; intro a ha hf; clear ha
      refine st_nil hf ?_
      refine th_n ?_
      refine wp_if hf rfl (fun hb => ?_) (fun hb => ?_)
      · replace h := ifT h hb
        refine wp_reg ?_
        refine st_move hf rfl rfl (by decide) ?_
        clear hf; intro a ha hf; clear ha
        refine st_build (E := (Ek.int .u8)) (xs := [(1 : Int)]) hf (by decide) elt5 Try.underlying22 hp (vals := #[(0, .int .u8 (1 : Int))]) (cells := #[.int .u8 (1 : Int)]) rfl (by simp [hf.ev (x := (Operand.const (.int .u8 (1 : Int)))) rfl]) (by decide) (by decide) (z := .int .u8 0) (by kernel_rfl) (by kernel_rfl) rfl (reps_cons (cs := [.int .u8 (1 : Int)]) rfl (reps_nil _)) ?_
        clear hf; intro a w v18 hf hp0; clear hp; have hp := hp0; clear hp0
        replace hp : Hp _ _ _ (Res.sl (Ek.int .u8) 5 v18 ([(1 : Int)]) :: Res.sl (Ek.int .u8) 5 v4 out4 :: ow) := hp
        obtain ⟨hc20, h⟩ := chk h
        refine st_append (E := (Ek.int .u8)) hf (by decide) elt5 Try.underlying22 (by decide) hp (i := 1) rfl rfl rfl rfl (hp.sl (i := 0) rfl) hc20 ?_
        clear hf; intro a w v21 hf hp0; clear hp; have hp := hp0; clear hp0
        replace hp : Hp _ _ _ (Res.sl (Ek.int .u8) 5 v18 ([(1 : Int)]) :: Res.sl (Ek.int .u8) 5 v21 (out4 ++ [(1 : Int)]) :: ow) := hp
        refine st_assign hf rfl rfl (by decide) ?_
        clear hf; intro a ha hf; clear ha
        refine st_nil hf ?_
        refine ib_n ?_
        refine ib_n ?_
        refine th_n ?_
        refine wp_reg ?_
        refine st_move hf rfl rfl (by decide) ?_
        clear hf; intro a ha hf; clear ha
        refine st_iadd hf (by decide) rfl rfl rfl ?_
        clear hf; intro a ha hf; clear ha
        refine st_assign hf rfl rfl (by decide) ?_
        clear hf; intro a ha hf; clear ha
        refine st_nil hf ?_
        obtain rfl := Option.some.inj h
        have hp : Hp _ _ _ (Res.sl (Ek.int .u8) 5 v21 (out4 ++ [(1 : Int)]) :: ow) := Hp.sel (pre := [Res.sl (Ek.int .u8) 5 v18 ([(1 : Int)]), Res.sl (Ek.int .u8) 5 v21 (out4 ++ [(1 : Int)])]) (tail := ow) (rs' := [Res.sl (Ek.int .u8) 5 v21 (out4 ++ [(1 : Int)])]) hp [1] (by decide) (by simp) rfl
        exact rnd_l ⟨_, hf.sub ⟨rfl, rfl, rfl, trivial⟩, hp⟩
      replace h := ifF h hb
      refine wp_seq ?_
      refine wp_reg ?_
      refine st_move hf rfl rfl (by decide) ?_
      clear hf; intro a ha hf; clear ha
      refine st_move hf rfl rfl (by decide) ?_
      clear hf; intro a ha hf; clear ha
      refine st_iadd hf (by decide) rfl rfl rfl ?_
      clear hf; intro a ha hf; clear ha
      obtain ⟨hc22, h⟩ := chk h
      refine st_index (E := Ek.bool) hf (by decide) Try.underlying27 elt4 rfl rfl rfl (hbits0.sl hp) hc22.1 hc22.2 ?_
      clear hf; intro a ha hf; clear ha
      refine st_ldB hf (by decide) pl4 rfl rfl (hbits0.sl hp) hc22.1 hc22.2 ?_
      clear hf; intro a ha hf; clear ha
      refine st_assign hf rfl rfl (by decide) ?_
      clear hf; intro a ha hf; clear ha
      refine st_nil hf ?_
      refine th_n ?_
      refine wp_if hf rfl (fun hb => ?_) (fun hb => ?_)
      · replace h := ifT h hb
        refine wp_reg ?_
        refine st_move hf rfl rfl (by decide) ?_
        clear hf; intro a ha hf; clear ha
        refine st_build (E := (Ek.int .u8)) (xs := [(2 : Int)]) hf (by decide) elt5 Try.underlying22 hp (vals := #[(0, .int .u8 (2 : Int))]) (cells := #[.int .u8 (2 : Int)]) rfl (by simp [hf.ev (x := (Operand.const (.int .u8 (2 : Int)))) rfl]) (by decide) (by decide) (z := .int .u8 0) (by kernel_rfl) (by kernel_rfl) rfl (reps_cons (cs := [.int .u8 (2 : Int)]) rfl (reps_nil _)) ?_
        clear hf; intro a w v23 hf hp0; clear hp; have hp := hp0; clear hp0
        replace hp : Hp _ _ _ (Res.sl (Ek.int .u8) 5 v23 ([(2 : Int)]) :: Res.sl (Ek.int .u8) 5 v4 out4 :: ow) := hp
        obtain ⟨hc25, h⟩ := chk h
        refine st_append (E := (Ek.int .u8)) hf (by decide) elt5 Try.underlying22 (by decide) hp (i := 1) rfl rfl rfl rfl (hp.sl (i := 0) rfl) hc25 ?_
        clear hf; intro a w v26 hf hp0; clear hp; have hp := hp0; clear hp0
        replace hp : Hp _ _ _ (Res.sl (Ek.int .u8) 5 v23 ([(2 : Int)]) :: Res.sl (Ek.int .u8) 5 v26 (out4 ++ [(2 : Int)]) :: ow) := hp
        refine st_assign hf rfl rfl (by decide) ?_
        clear hf; intro a ha hf; clear ha
        refine st_nil hf ?_
        refine ib_n ?_
        refine ib_n ?_
        refine th_n ?_
        refine wp_reg ?_
        refine st_move hf rfl rfl (by decide) ?_
        clear hf; intro a ha hf; clear ha
        refine st_iadd hf (by decide) rfl rfl rfl ?_
        clear hf; intro a ha hf; clear ha
        refine st_assign hf rfl rfl (by decide) ?_
        clear hf; intro a ha hf; clear ha
        refine st_nil hf ?_
        obtain rfl := Option.some.inj h
        have hp : Hp _ _ _ (Res.sl (Ek.int .u8) 5 v26 (out4 ++ [(2 : Int)]) :: ow) := Hp.sel (pre := [Res.sl (Ek.int .u8) 5 v23 ([(2 : Int)]), Res.sl (Ek.int .u8) 5 v26 (out4 ++ [(2 : Int)])]) (tail := ow) (rs' := [Res.sl (Ek.int .u8) 5 v26 (out4 ++ [(2 : Int)])]) hp [1] (by decide) (by simp) rfl
        exact rnd_l ⟨_, hf.sub ⟨rfl, rfl, rfl, trivial⟩, hp⟩
      replace h := ifF h hb
      refine wp_reg ?_
      refine st_move hf rfl rfl (by decide) ?_
      clear hf; intro a ha hf; clear ha
      refine st_build (E := (Ek.int .u8)) (xs := [(3 : Int)]) hf (by decide) elt5 Try.underlying22 hp (vals := #[(0, .int .u8 (3 : Int))]) (cells := #[.int .u8 (3 : Int)]) rfl (by simp [hf.ev (x := (Operand.const (.int .u8 (3 : Int)))) rfl]) (by decide) (by decide) (z := .int .u8 0) (by kernel_rfl) (by kernel_rfl) rfl (reps_cons (cs := [.int .u8 (3 : Int)]) rfl (reps_nil _)) ?_
      clear hf; intro a w v27 hf hp0; clear hp; have hp := hp0; clear hp0
      replace hp : Hp _ _ _ (Res.sl (Ek.int .u8) 5 v27 ([(3 : Int)]) :: Res.sl (Ek.int .u8) 5 v4 out4 :: ow) := hp
      obtain ⟨hc29, h⟩ := chk h
      refine st_append (E := (Ek.int .u8)) hf (by decide) elt5 Try.underlying22 (by decide) hp (i := 1) rfl rfl rfl rfl (hp.sl (i := 0) rfl) hc29 ?_
      clear hf; intro a w v30 hf hp0; clear hp; have hp := hp0; clear hp0
      replace hp : Hp _ _ _ (Res.sl (Ek.int .u8) 5 v27 ([(3 : Int)]) :: Res.sl (Ek.int .u8) 5 v30 (out4 ++ [(3 : Int)]) :: ow) := hp
      refine st_assign hf rfl rfl (by decide) ?_
      clear hf; intro a ha hf; clear ha
      refine st_nil hf ?_
      refine ib_n ?_
      refine ib_n ?_
      refine th_n ?_
      refine wp_reg ?_
      refine st_move hf rfl rfl (by decide) ?_
      clear hf; intro a ha hf; clear ha
      refine st_iadd hf (by decide) rfl rfl rfl ?_
      clear hf; intro a ha hf; clear ha
      refine st_assign hf rfl rfl (by decide) ?_
      clear hf; intro a ha hf; clear ha
      refine st_nil hf ?_
      obtain rfl := Option.some.inj h
      have hp : Hp _ _ _ (Res.sl (Ek.int .u8) 5 v30 (out4 ++ [(3 : Int)]) :: ow) := Hp.sel (pre := [Res.sl (Ek.int .u8) 5 v27 ([(3 : Int)]), Res.sl (Ek.int .u8) 5 v30 (out4 ++ [(3 : Int)])]) (tail := ow) (rs' := [Res.sl (Ek.int .u8) 5 v30 (out4 ++ [(3 : Int)])]) hp [1] (by decide) (by simp) rfl
      exact rnd_l ⟨_, hf.sub ⟨rfl, rfl, rfl, trivial⟩, hp⟩
    replace h := ifF h hb
    refine wp_exit ?_
    refine th_e ?_
    obtain rfl := Option.some.inj h
    exact rnd_r (by simp) ⟨rfl, _, hf.sub ⟨rfl, trivial⟩, hp⟩
  clear hl hf hp
  intro e a w hne hO
  obtain ⟨rfl, v6, hf, hp⟩ := hO
  refine ib_same ?_
  refine th_n ?_
  refine wp_seq ?_
  refine wp_reg ?_
  refine st_move hf rfl rfl (by decide) ?_
  clear hf; intro a ha hf; clear ha
  refine st_assign hf rfl rfl (by decide) ?_
  clear hf; intro a ha hf; clear ha
  refine st_assign hf rfl rfl (by decide) ?_
  clear hf; intro a ha hf; clear ha
  refine st_nil hf ?_
  refine th_n ?_
  refine wp_ret ?_
  obtain rfl := Option.some.inj h
  exact ⟨rfl, ⟨_, hf.sub ⟨rfl, rfl, trivial⟩, hp⟩⟩

noncomputable def f_foghornlaw06_spelt (bx0 : (List Bool)) (bits1 : (List Bool)) : Option Bool := ((f_turns_Of bx0).bind fun q1 => ((f_foghornref06_Of bits1).bind fun q5 => ((if (q1.2 == q5.2) = true then ((f_foghornlaw06_quarters q1.1 q5.1).bind fun q12 => (some q12)) else (some false)).bind fun z11 => (some z11))))
theorem f_foghornlaw06_spelt_c {S : Nat → Prop} {w0 w : World} {ow : List Res} (hp : Hp S w0 w ow) (vbx0 : Value) (bx0 : (List Bool)) (hbx0 : RdS Ek.bool S w0 vbx0 bx0) (vbits1 : Value) (bits1 : (List Bool)) (hbits1 : RdS Ek.bool S w0 vbits1 bits1) {r : Bool} (h : f_foghornlaw06_spelt bx0 bits1 = some r) :
    Calls Try.prog 17 #[vbx0, vbits1] w (fun e w' => e = .returned (.bool r) ∧ Hp S w0 w' (ow)) := by
  unfold f_foghornlaw06_spelt at h
  refine enter (n := 27) (args := [vbx0, vbits1]) Try.func17 rfl rfl (Nat.le_of_ble_eq_true rfl) fun a hf => ?_
  replace hf : Fr 27 a [(0, vbx0), (1, vbits1)] := hf
  refine wp_mono (Q := fun e a w => e = .ret ∧ Fr 27 a [(4, .bool r)] ∧ Hp S w0 w (ow)) ?_ ?_
  rotate_left
  · rintro e a w ⟨rfl, hf, hp⟩
    exact ret1 hf rfl rfl ⟨rfl, hp⟩
  refine wp_seq ?_
  refine wp_reg ?_
  refine st_assign hf rfl rfl (by decide) ?_
  clear hf; intro a ha hf; clear ha
  refine st_nil hf ?_
  refine th_n ?_
  refine wp_seq ?_
  refine wp_reg ?_
  refine st_move hf rfl rfl (by decide) ?_
  clear hf; intro a ha hf; clear ha
  obtain ⟨q1, hcall2, h⟩ := bnd h
  refine st_call hf (by decide) Try.func12 rfl rfl rfl rfl rfl (f_turns_Of_c hp _ _ hbx0 hcall2) ?_
  rintro _ w ⟨v3, rfl, hp0⟩
  clear hp; have hp := hp0; clear hp0
  replace hp : Hp _ _ _ (Res.sl (Ek.int .u8) 5 v3 q1.1 :: ow) := hp
  refine ⟨_, rfl, ?_⟩
  clear hf; intro a hf
  refine st_move hf rfl rfl (by decide) ?_
  clear hf; intro a ha hf; clear ha
  refine st_extract hf (by decide) rfl rfl rfl ?_
  clear hf; intro a ha hf; clear ha
  refine st_extract hf (by decide) rfl rfl rfl ?_
  clear hf; intro a ha hf; clear ha
  refine st_assign hf rfl rfl (by decide) ?_
  clear hf; intro a ha hf; clear ha
  refine st_assign hf rfl rfl (by decide) ?_
  clear hf; intro a ha hf; clear ha
  refine st_nil hf ?_
  refine th_n ?_
  refine wp_seq ?_
  refine wp_reg ?_
  refine st_move hf rfl rfl (by decide) ?_
  clear hf; intro a ha hf; clear ha
  obtain ⟨q5, hcall6, h⟩ := bnd h
  refine st_call hf (by decide) Try.func43 rfl rfl rfl rfl rfl (f_foghornref06_Of_c hp _ _ hbits1 hcall6) ?_
  rintro _ w ⟨v7, rfl, hp0⟩
  clear hp; have hp := hp0; clear hp0
  replace hp : Hp _ _ _ (Res.sl (Ek.int .u8) 5 v7 q5.1 :: Res.sl (Ek.int .u8) 5 v3 q1.1 :: ow) := hp
  refine ⟨_, rfl, ?_⟩
  clear hf; intro a hf
  refine st_move hf rfl rfl (by decide) ?_
  clear hf; intro a ha hf; clear ha
  refine st_extract hf (by decide) rfl rfl rfl ?_
  clear hf; intro a ha hf; clear ha
  refine st_extract hf (by decide) rfl rfl rfl ?_
  clear hf; intro a ha hf; clear ha
  refine st_assign hf rfl rfl (by decide) ?_
  clear hf; intro a ha hf; clear ha
  refine st_assign hf rfl rfl (by decide) ?_
  clear hf; intro a ha hf; clear ha
  refine st_nil hf ?_
  refine th_n ?_
  refine wp_seq ?_
  refine wp_reg ?_
  refine st_move hf rfl rfl (by decide) ?_
  clear hf; intro a ha hf; clear ha
  refine st_move hf rfl rfl (by decide) ?_
  clear hf; intro a ha hf; clear ha
  refine st_ieql hf (by decide) rfl rfl rfl ?_
  clear hf; intro a ha hf; clear ha
  refine st_move hf rfl rfl (by decide) ?_
  clear hf; intro a ha hf; clear ha
  obtain ⟨z11, hz9, h⟩ := bnd h
  refine wpList_cut 4 (fun a w => Fr 27 a [(26, .bool z11)] ∧ Hp S w0 w (Res.sl (Ek.int .u8) 5 v7 q5.1 :: Res.sl (Ek.int .u8) 5 v3 q1.1 :: ow)) ?_ ?_
  · rcases Bool.eq_false_or_eq_true (q1.2 == q5.2) with hb10 | hb10
    · skip
      replace hz9 := ifT hz9 hb10
      refine st_move hf (wantY hf rfl rfl hb10) rfl (by decide) ?_
      clear hf; intro a ha hf; clear ha
      refine st_move hf (wantY hf rfl rfl hb10) rfl (by decide) ?_
      clear hf; intro a ha hf; clear ha
      obtain ⟨q12, hcall13, hz9⟩ := bnd hz9
      obtain ⟨S14, hp15, rd16, up17, bk18⟩ := Hp.lendS hp (i := 1) rfl
      obtain ⟨S19, hp20, rd21, up22, bk23⟩ := Hp.lendS hp15 (i := 0) rfl
      refine st_call hf (by decide) Try.func13 rfl rfl (wantY hf rfl rfl hb10) rfl rfl (f_foghornlaw06_quarters_c hp20 _ _ ((rd16.now hp15).mono up22) _ _ rd21 hcall13) ?_
      rintro _ w ⟨rfl, hp0⟩
      have hp0 := bk23 _ _ hp0
      have hp0 := bk18 _ _ hp0
      clear hp; have hp := hp0; clear hp0
      replace hp : Hp _ _ _ (Res.sl (Ek.int .u8) 5 v3 q1.1 :: Res.sl (Ek.int .u8) 5 v7 q5.1 :: ow) := hp
      refine ⟨_, rfl, ?_⟩
      clear hf; intro a hf
      obtain rfl := Option.some.inj hz9
      refine st_pick (v := .bool q12) hf rfl rfl (fun hb' => ?_) (fun hb' => ?_) (by decide) ?_
      · rfl
      · exact absurd (hb10.symm.trans hb') (by decide)
      clear hf; intro a ha hf; clear ha
      refine st_nil hf (th_n ?_)
      have hp : Hp _ _ _ (Res.sl (Ek.int .u8) 5 v7 q5.1 :: Res.sl (Ek.int .u8) 5 v3 q1.1 :: ow) := Hp.sel (pre := [Res.sl (Ek.int .u8) 5 v3 q1.1, Res.sl (Ek.int .u8) 5 v7 q5.1]) (tail := ow) (rs' := [Res.sl (Ek.int .u8) 5 v7 q5.1, Res.sl (Ek.int .u8) 5 v3 q1.1]) hp [1, 0] (by decide) (by simp) rfl
      exact ⟨hf.sub ⟨rfl, trivial⟩, hp⟩
    replace hz9 := ifF hz9 hb10
    refine st_skip hf (wantN hf rfl rfl hb10) rfl (by decide) ?_ rfl
    clear hf; intro a hf
    refine st_skip hf (wantN hf rfl rfl hb10) rfl (by decide) ?_ rfl
    clear hf; intro a hf
    refine st_skip hf (wantN hf rfl rfl hb10) rfl (by decide) ?_ rfl
    clear hf; intro a hf
    obtain rfl := Option.some.inj hz9
    refine st_pick (v := .bool false) hf rfl rfl (fun hb' => ?_) (fun hb' => ?_) (by decide) ?_
    · exact absurd (hb10.symm.trans hb') (by decide)
    · rfl
    clear hf; intro a ha hf; clear ha
    refine st_nil hf (th_n ?_)
    exact ⟨hf.sub ⟨rfl, trivial⟩, hp⟩
  rintro a w ⟨hf, hp⟩
  refine st_assign hf rfl rfl (by decide) ?_
  clear hf; intro a ha hf; clear ha
  refine st_nil hf ?_
  refine th_n ?_
  refine wp_ret ?_
  obtain rfl := Option.some.inj h
  have hp : Hp _ _ _ (ow) := Hp.sel (pre := [Res.sl (Ek.int .u8) 5 v7 q5.1, Res.sl (Ek.int .u8) 5 v3 q1.1]) (tail := ow) (rs' := []) hp [] (by decide) (by simp) rfl
  exact ⟨rfl, ⟨hf.sub ⟨rfl, trivial⟩, hp⟩⟩

noncomputable def f_foghornlaw06_awake  : Option Bool := ((f_turns_Into ([(1 : Int), (1 : Int), (3 : Int), (2 : Int)])).bind fun q3 => ((f_turns_Out ([(1 : Int), (2 : Int), (1 : Int), (3 : Int)])).bind fun q14 => ((if ((q3.2 == (0 : Int)) && (q14.2 == (0 : Int))) = true then ((f_foghornlaw06_quarters q3.1 ([(1 : Int), (2 : Int), (1 : Int), (3 : Int)])).bind fun q30 => (some q30)) else (some false)).bind fun z27 => ((if z27 = true then ((f_foghornlaw06_quarters q14.1 ([(1 : Int), (1 : Int), (3 : Int), (2 : Int)])).bind fun q47 => (some q47)) else (some false)).bind fun z44 => (some z44)))))
theorem f_foghornlaw06_awake_c {S : Nat → Prop} {w0 w : World} {ow : List Res} (hp : Hp S w0 w ow) {r : Bool} (h : f_foghornlaw06_awake = some r) :
    Calls Try.prog 14 #[] w (fun e w' => e = .returned (.bool r) ∧ Hp S w0 w' (ow)) := by
  unfold f_foghornlaw06_awake at h
  refine enter (n := 31) (args := []) Try.func14 rfl rfl (Nat.le_of_ble_eq_true rfl) fun a hf => ?_
  replace hf : Fr 31 a [] := hf
  refine wp_mono (Q := fun e a w => e = .ret ∧ Fr 31 a [(0, .bool r)] ∧ Hp S w0 w (ow)) ?_ ?_
  rotate_left
  · rintro e a w ⟨rfl, hf, hp⟩
    exact ret1 hf rfl rfl ⟨rfl, hp⟩
  refine wp_seq ?_
  refine wp_reg ?_
  refine st_assign hf rfl rfl (by decide) ?_
  clear hf; intro a ha hf; clear ha
  refine st_nil hf ?_
  refine th_n ?_
  refine wp_seq ?_
  refine wp_reg ?_
  refine st_build (E := (Ek.int .u8)) (xs := [(1 : Int), (1 : Int), (3 : Int), (2 : Int)]) hf (by decide) elt5 Try.underlying22 hp (vals := #[(0, .int .u8 (1 : Int)), (1, .int .u8 (1 : Int)), (2, .int .u8 (3 : Int)), (3, .int .u8 (2 : Int))]) (cells := #[.int .u8 (1 : Int), .int .u8 (1 : Int), .int .u8 (3 : Int), .int .u8 (2 : Int)]) rfl (by simp [hf.ev (x := (Operand.const (.int .u8 (1 : Int)))) rfl, hf.ev (x := (Operand.const (.int .u8 (1 : Int)))) rfl, hf.ev (x := (Operand.const (.int .u8 (3 : Int)))) rfl, hf.ev (x := (Operand.const (.int .u8 (2 : Int)))) rfl]) (by decide) (by decide) (z := .int .u8 0) (by kernel_rfl) (by kernel_rfl) rfl (reps_cons (cs := [.int .u8 (1 : Int)]) rfl (reps_cons (cs := [.int .u8 (1 : Int)]) rfl (reps_cons (cs := [.int .u8 (3 : Int)]) rfl (reps_cons (cs := [.int .u8 (2 : Int)]) rfl (reps_nil _))))) ?_
  clear hf; intro a w v1 hf hp0; clear hp; have hp := hp0; clear hp0
  replace hp : Hp _ _ _ (Res.sl (Ek.int .u8) 5 v1 ([(1 : Int), (1 : Int), (3 : Int), (2 : Int)]) :: ow) := hp
  obtain ⟨q3, hcall4, h⟩ := bnd h
  obtain ⟨S5, hp6, rd7, up8, bk9⟩ := Hp.lendS hp (i := 0) rfl
  refine st_call hf (by decide) Try.func9 rfl rfl rfl rfl rfl (f_turns_Into_c hp6 _ _ rd7 hcall4) ?_
  rintro _ w ⟨v10, rfl, hp0⟩
  have hp0 := bk9 _ _ hp0
  clear hp; have hp := hp0; clear hp0
  replace hp : Hp _ _ _ (Res.sl (Ek.int .u8) 5 v1 ([(1 : Int), (1 : Int), (3 : Int), (2 : Int)]) :: Res.sl (Ek.int .u8) 5 v10 q3.1 :: ow) := hp
  refine ⟨_, rfl, ?_⟩
  clear hf; intro a hf
  refine st_move hf rfl rfl (by decide) ?_
  clear hf; intro a ha hf; clear ha
  refine st_extract hf (by decide) rfl rfl rfl ?_
  clear hf; intro a ha hf; clear ha
  refine st_extract hf (by decide) rfl rfl rfl ?_
  clear hf; intro a ha hf; clear ha
  refine st_assign hf rfl rfl (by decide) ?_
  clear hf; intro a ha hf; clear ha
  refine st_assign hf rfl rfl (by decide) ?_
  clear hf; intro a ha hf; clear ha
  refine st_nil hf ?_
  refine th_n ?_
  refine wp_seq ?_
  refine wp_reg ?_
  refine st_build (E := (Ek.int .u8)) (xs := [(1 : Int), (2 : Int), (1 : Int), (3 : Int)]) hf (by decide) elt5 Try.underlying22 hp (vals := #[(0, .int .u8 (1 : Int)), (1, .int .u8 (2 : Int)), (2, .int .u8 (1 : Int)), (3, .int .u8 (3 : Int))]) (cells := #[.int .u8 (1 : Int), .int .u8 (2 : Int), .int .u8 (1 : Int), .int .u8 (3 : Int)]) rfl (by simp [hf.ev (x := (Operand.const (.int .u8 (1 : Int)))) rfl, hf.ev (x := (Operand.const (.int .u8 (2 : Int)))) rfl, hf.ev (x := (Operand.const (.int .u8 (1 : Int)))) rfl, hf.ev (x := (Operand.const (.int .u8 (3 : Int)))) rfl]) (by decide) (by decide) (z := .int .u8 0) (by kernel_rfl) (by kernel_rfl) rfl (reps_cons (cs := [.int .u8 (1 : Int)]) rfl (reps_cons (cs := [.int .u8 (2 : Int)]) rfl (reps_cons (cs := [.int .u8 (1 : Int)]) rfl (reps_cons (cs := [.int .u8 (3 : Int)]) rfl (reps_nil _))))) ?_
  clear hf; intro a w v12 hf hp0; clear hp; have hp := hp0; clear hp0
  replace hp : Hp _ _ _ (Res.sl (Ek.int .u8) 5 v12 ([(1 : Int), (2 : Int), (1 : Int), (3 : Int)]) :: Res.sl (Ek.int .u8) 5 v1 ([(1 : Int), (1 : Int), (3 : Int), (2 : Int)]) :: Res.sl (Ek.int .u8) 5 v10 q3.1 :: ow) := hp
  obtain ⟨q14, hcall15, h⟩ := bnd h
  obtain ⟨S16, hp17, rd18, up19, bk20⟩ := Hp.lendS hp (i := 0) rfl
  refine st_call hf (by decide) Try.func10 rfl rfl rfl rfl rfl (f_turns_Out_c hp17 _ _ rd18 hcall15) ?_
  rintro _ w ⟨v21, rfl, hp0⟩
  have hp0 := bk20 _ _ hp0
  clear hp; have hp := hp0; clear hp0
  replace hp : Hp _ _ _ (Res.sl (Ek.int .u8) 5 v12 ([(1 : Int), (2 : Int), (1 : Int), (3 : Int)]) :: Res.sl (Ek.int .u8) 5 v21 q14.1 :: Res.sl (Ek.int .u8) 5 v1 ([(1 : Int), (1 : Int), (3 : Int), (2 : Int)]) :: Res.sl (Ek.int .u8) 5 v10 q3.1 :: ow) := hp
  refine ⟨_, rfl, ?_⟩
  clear hf; intro a hf
  refine st_move hf rfl rfl (by decide) ?_
  clear hf; intro a ha hf; clear ha
  refine st_extract hf (by decide) rfl rfl rfl ?_
  clear hf; intro a ha hf; clear ha
  refine st_extract hf (by decide) rfl rfl rfl ?_
  clear hf; intro a ha hf; clear ha
  refine st_assign hf rfl rfl (by decide) ?_
  clear hf; intro a ha hf; clear ha
  refine st_assign hf rfl rfl (by decide) ?_
  clear hf; intro a ha hf; clear ha
  refine st_nil hf ?_
  refine th_n ?_
  refine wp_seq ?_
  refine wp_reg ?_
  refine st_move hf rfl rfl (by decide) ?_
  clear hf; intro a ha hf; clear ha
  refine st_ieql hf (by decide) rfl rfl rfl ?_
  clear hf; intro a ha hf; clear ha
  refine st_move hf rfl rfl (by decide) ?_
  clear hf; intro a ha hf; clear ha
  refine wpList_cut 3 (fun a w => Fr 31 a [(1, v10), (3, v21), (20, .bool ((q3.2 == (0 : Int)) && (q14.2 == (0 : Int))))] ∧ Hp S w0 w (Res.sl (Ek.int .u8) 5 v12 ([(1 : Int), (2 : Int), (1 : Int), (3 : Int)]) :: Res.sl (Ek.int .u8) 5 v21 q14.1 :: Res.sl (Ek.int .u8) 5 v1 ([(1 : Int), (1 : Int), (3 : Int), (2 : Int)]) :: Res.sl (Ek.int .u8) 5 v10 q3.1 :: ow)) ?_ ?_
  · rcases Bool.eq_false_or_eq_true (q3.2 == (0 : Int)) with hb24 | hb24
    · skip
      refine st_move hf (wantY hf rfl rfl hb24) rfl (by decide) ?_
      clear hf; intro a ha hf; clear ha
      refine st_ieql hf (by decide) (wantY hf rfl rfl hb24) rfl rfl ?_
      clear hf; intro a ha hf; clear ha
      refine st_pick (v := .bool (q14.2 == (0 : Int))) hf rfl rfl (fun hb' => ?_) (fun hb' => ?_) (by decide) ?_
      · rfl
      · exact absurd (hb24.symm.trans hb') (by decide)
      clear hf; intro a ha hf; clear ha
      refine st_nil hf (th_n ?_)
      exact ⟨hf.sub ⟨rfl, rfl, (by rw [hb24]; rfl), trivial⟩, hp⟩
    refine st_skip hf (wantN hf rfl rfl hb24) rfl (by decide) ?_ rfl
    clear hf; intro a hf
    refine st_skip hf (wantN hf rfl rfl hb24) rfl (by decide) ?_ rfl
    clear hf; intro a hf
    refine st_pick (v := .bool false) hf rfl rfl (fun hb' => ?_) (fun hb' => ?_) (by decide) ?_
    · exact absurd (hb24.symm.trans hb') (by decide)
    · rfl
    clear hf; intro a ha hf; clear ha
    refine st_nil hf (th_n ?_)
    exact ⟨hf.sub ⟨rfl, rfl, (by rw [hb24]; rfl), trivial⟩, hp⟩
  rintro a w ⟨hf, hp⟩
  refine st_move hf rfl rfl (by decide) ?_
  clear hf; intro a ha hf; clear ha
  obtain ⟨z27, hz25, h⟩ := bnd h
  refine wpList_cut 4 (fun a w => Fr 31 a [(3, v21), (25, .bool z27)] ∧ Hp S w0 w (Res.sl (Ek.int .u8) 5 v12 ([(1 : Int), (2 : Int), (1 : Int), (3 : Int)]) :: Res.sl (Ek.int .u8) 5 v21 q14.1 :: Res.sl (Ek.int .u8) 5 v1 ([(1 : Int), (1 : Int), (3 : Int), (2 : Int)]) :: Res.sl (Ek.int .u8) 5 v10 q3.1 :: ow)) ?_ ?_
  · rcases Bool.eq_false_or_eq_true ((q3.2 == (0 : Int)) && (q14.2 == (0 : Int))) with hb26 | hb26
    · skip
      replace hz25 := ifT hz25 hb26
      refine st_move hf (wantY hf rfl rfl hb26) rfl (by decide) ?_
      clear hf; intro a ha hf; clear ha
      refine st_build (E := (Ek.int .u8)) (xs := [(1 : Int), (2 : Int), (1 : Int), (3 : Int)]) hf (by decide) elt5 Try.underlying22 hp (vals := #[(0, .int .u8 (1 : Int)), (1, .int .u8 (2 : Int)), (2, .int .u8 (1 : Int)), (3, .int .u8 (3 : Int))]) (cells := #[.int .u8 (1 : Int), .int .u8 (2 : Int), .int .u8 (1 : Int), .int .u8 (3 : Int)]) (wantY hf rfl rfl hb26) (by simp [hf.ev (x := (Operand.const (.int .u8 (1 : Int)))) rfl, hf.ev (x := (Operand.const (.int .u8 (2 : Int)))) rfl, hf.ev (x := (Operand.const (.int .u8 (1 : Int)))) rfl, hf.ev (x := (Operand.const (.int .u8 (3 : Int)))) rfl]) (by decide) (by decide) (z := .int .u8 0) (by kernel_rfl) (by kernel_rfl) rfl (reps_cons (cs := [.int .u8 (1 : Int)]) rfl (reps_cons (cs := [.int .u8 (2 : Int)]) rfl (reps_cons (cs := [.int .u8 (1 : Int)]) rfl (reps_cons (cs := [.int .u8 (3 : Int)]) rfl (reps_nil _))))) ?_
      clear hf; intro a w v28 hf hp0; clear hp; have hp := hp0; clear hp0
      replace hp : Hp _ _ _ (Res.sl (Ek.int .u8) 5 v28 ([(1 : Int), (2 : Int), (1 : Int), (3 : Int)]) :: Res.sl (Ek.int .u8) 5 v12 ([(1 : Int), (2 : Int), (1 : Int), (3 : Int)]) :: Res.sl (Ek.int .u8) 5 v21 q14.1 :: Res.sl (Ek.int .u8) 5 v1 ([(1 : Int), (1 : Int), (3 : Int), (2 : Int)]) :: Res.sl (Ek.int .u8) 5 v10 q3.1 :: ow) := hp
      obtain ⟨q30, hcall31, hz25⟩ := bnd hz25
      obtain ⟨S32, hp33, rd34, up35, bk36⟩ := Hp.lendS hp (i := 4) rfl
      obtain ⟨S37, hp38, rd39, up40, bk41⟩ := Hp.lendS hp33 (i := 0) rfl
      refine st_call hf (by decide) Try.func13 rfl rfl (wantY hf rfl rfl hb26) rfl rfl (f_foghornlaw06_quarters_c hp38 _ _ ((rd34.now hp33).mono up40) _ _ rd39 hcall31) ?_
      rintro _ w ⟨rfl, hp0⟩
      have hp0 := bk41 _ _ hp0
      have hp0 := bk36 _ _ hp0
      clear hp; have hp := hp0; clear hp0
      replace hp : Hp _ _ _ (Res.sl (Ek.int .u8) 5 v10 q3.1 :: Res.sl (Ek.int .u8) 5 v28 ([(1 : Int), (2 : Int), (1 : Int), (3 : Int)]) :: Res.sl (Ek.int .u8) 5 v12 ([(1 : Int), (2 : Int), (1 : Int), (3 : Int)]) :: Res.sl (Ek.int .u8) 5 v21 q14.1 :: Res.sl (Ek.int .u8) 5 v1 ([(1 : Int), (1 : Int), (3 : Int), (2 : Int)]) :: ow) := hp
      refine ⟨_, rfl, ?_⟩
      clear hf; intro a hf
      obtain rfl := Option.some.inj hz25
      refine st_pick (v := .bool q30) hf rfl rfl (fun hb' => ?_) (fun hb' => ?_) (by decide) ?_
      · rfl
      · exact absurd (hb26.symm.trans hb') (by decide)
      clear hf; intro a ha hf; clear ha
      refine st_nil hf (th_n ?_)
      have hp : Hp _ _ _ (Res.sl (Ek.int .u8) 5 v12 ([(1 : Int), (2 : Int), (1 : Int), (3 : Int)]) :: Res.sl (Ek.int .u8) 5 v21 q14.1 :: Res.sl (Ek.int .u8) 5 v1 ([(1 : Int), (1 : Int), (3 : Int), (2 : Int)]) :: Res.sl (Ek.int .u8) 5 v10 q3.1 :: ow) := Hp.sel (pre := [Res.sl (Ek.int .u8) 5 v10 q3.1, Res.sl (Ek.int .u8) 5 v28 ([(1 : Int), (2 : Int), (1 : Int), (3 : Int)]), Res.sl (Ek.int .u8) 5 v12 ([(1 : Int), (2 : Int), (1 : Int), (3 : Int)]), Res.sl (Ek.int .u8) 5 v21 q14.1, Res.sl (Ek.int .u8) 5 v1 ([(1 : Int), (1 : Int), (3 : Int), (2 : Int)])]) (tail := ow) (rs' := [Res.sl (Ek.int .u8) 5 v12 ([(1 : Int), (2 : Int), (1 : Int), (3 : Int)]), Res.sl (Ek.int .u8) 5 v21 q14.1, Res.sl (Ek.int .u8) 5 v1 ([(1 : Int), (1 : Int), (3 : Int), (2 : Int)]), Res.sl (Ek.int .u8) 5 v10 q3.1]) hp [2, 3, 4, 0] (by decide) (by simp) rfl
      exact ⟨hf.sub ⟨rfl, rfl, trivial⟩, hp⟩
    replace hz25 := ifF hz25 hb26
    refine st_skip hf (wantN hf rfl rfl hb26) rfl (by decide) ?_ rfl
    clear hf; intro a hf
    refine st_skip hf (wantN hf rfl rfl hb26) rfl (by decide) ?_ rfl
    clear hf; intro a hf
    refine st_skip hf (wantN hf rfl rfl hb26) rfl (by decide) ?_ rfl
    clear hf; intro a hf
    obtain rfl := Option.some.inj hz25
    refine st_pick (v := .bool false) hf rfl rfl (fun hb' => ?_) (fun hb' => ?_) (by decide) ?_
    · exact absurd (hb26.symm.trans hb') (by decide)
    · rfl
    clear hf; intro a ha hf; clear ha
    refine st_nil hf (th_n ?_)
    exact ⟨hf.sub ⟨rfl, rfl, trivial⟩, hp⟩
  rintro a w ⟨hf, hp⟩
  refine st_move hf rfl rfl (by decide) ?_
  clear hf; intro a ha hf; clear ha
  obtain ⟨z44, hz42, h⟩ := bnd h
  refine wpList_cut 4 (fun a w => Fr 31 a [(30, .bool z44)] ∧ Hp S w0 w (Res.sl (Ek.int .u8) 5 v12 ([(1 : Int), (2 : Int), (1 : Int), (3 : Int)]) :: Res.sl (Ek.int .u8) 5 v21 q14.1 :: Res.sl (Ek.int .u8) 5 v1 ([(1 : Int), (1 : Int), (3 : Int), (2 : Int)]) :: Res.sl (Ek.int .u8) 5 v10 q3.1 :: ow)) ?_ ?_
  · rcases Bool.eq_false_or_eq_true z27 with hb43 | hb43
    · skip
      replace hz42 := ifT hz42 hb43
      refine st_move hf (wantY hf rfl rfl hb43) rfl (by decide) ?_
      clear hf; intro a ha hf; clear ha
      refine st_build (E := (Ek.int .u8)) (xs := [(1 : Int), (1 : Int), (3 : Int), (2 : Int)]) hf (by decide) elt5 Try.underlying22 hp (vals := #[(0, .int .u8 (1 : Int)), (1, .int .u8 (1 : Int)), (2, .int .u8 (3 : Int)), (3, .int .u8 (2 : Int))]) (cells := #[.int .u8 (1 : Int), .int .u8 (1 : Int), .int .u8 (3 : Int), .int .u8 (2 : Int)]) (wantY hf rfl rfl hb43) (by simp [hf.ev (x := (Operand.const (.int .u8 (1 : Int)))) rfl, hf.ev (x := (Operand.const (.int .u8 (1 : Int)))) rfl, hf.ev (x := (Operand.const (.int .u8 (3 : Int)))) rfl, hf.ev (x := (Operand.const (.int .u8 (2 : Int)))) rfl]) (by decide) (by decide) (z := .int .u8 0) (by kernel_rfl) (by kernel_rfl) rfl (reps_cons (cs := [.int .u8 (1 : Int)]) rfl (reps_cons (cs := [.int .u8 (1 : Int)]) rfl (reps_cons (cs := [.int .u8 (3 : Int)]) rfl (reps_cons (cs := [.int .u8 (2 : Int)]) rfl (reps_nil _))))) ?_
      clear hf; intro a w v45 hf hp0; clear hp; have hp := hp0; clear hp0
      replace hp : Hp _ _ _ (Res.sl (Ek.int .u8) 5 v45 ([(1 : Int), (1 : Int), (3 : Int), (2 : Int)]) :: Res.sl (Ek.int .u8) 5 v12 ([(1 : Int), (2 : Int), (1 : Int), (3 : Int)]) :: Res.sl (Ek.int .u8) 5 v21 q14.1 :: Res.sl (Ek.int .u8) 5 v1 ([(1 : Int), (1 : Int), (3 : Int), (2 : Int)]) :: Res.sl (Ek.int .u8) 5 v10 q3.1 :: ow) := hp
      obtain ⟨q47, hcall48, hz42⟩ := bnd hz42
      obtain ⟨S49, hp50, rd51, up52, bk53⟩ := Hp.lendS hp (i := 2) rfl
      obtain ⟨S54, hp55, rd56, up57, bk58⟩ := Hp.lendS hp50 (i := 0) rfl
      refine st_call hf (by decide) Try.func13 rfl rfl (wantY hf rfl rfl hb43) rfl rfl (f_foghornlaw06_quarters_c hp55 _ _ ((rd51.now hp50).mono up57) _ _ rd56 hcall48) ?_
      rintro _ w ⟨rfl, hp0⟩
      have hp0 := bk58 _ _ hp0
      have hp0 := bk53 _ _ hp0
      clear hp; have hp := hp0; clear hp0
      replace hp : Hp _ _ _ (Res.sl (Ek.int .u8) 5 v21 q14.1 :: Res.sl (Ek.int .u8) 5 v45 ([(1 : Int), (1 : Int), (3 : Int), (2 : Int)]) :: Res.sl (Ek.int .u8) 5 v12 ([(1 : Int), (2 : Int), (1 : Int), (3 : Int)]) :: Res.sl (Ek.int .u8) 5 v1 ([(1 : Int), (1 : Int), (3 : Int), (2 : Int)]) :: Res.sl (Ek.int .u8) 5 v10 q3.1 :: ow) := hp
      refine ⟨_, rfl, ?_⟩
      clear hf; intro a hf
      obtain rfl := Option.some.inj hz42
      refine st_pick (v := .bool q47) hf rfl rfl (fun hb' => ?_) (fun hb' => ?_) (by decide) ?_
      · rfl
      · exact absurd (hb43.symm.trans hb') (by decide)
      clear hf; intro a ha hf; clear ha
      refine st_nil hf (th_n ?_)
      have hp : Hp _ _ _ (Res.sl (Ek.int .u8) 5 v12 ([(1 : Int), (2 : Int), (1 : Int), (3 : Int)]) :: Res.sl (Ek.int .u8) 5 v21 q14.1 :: Res.sl (Ek.int .u8) 5 v1 ([(1 : Int), (1 : Int), (3 : Int), (2 : Int)]) :: Res.sl (Ek.int .u8) 5 v10 q3.1 :: ow) := Hp.sel (pre := [Res.sl (Ek.int .u8) 5 v21 q14.1, Res.sl (Ek.int .u8) 5 v45 ([(1 : Int), (1 : Int), (3 : Int), (2 : Int)]), Res.sl (Ek.int .u8) 5 v12 ([(1 : Int), (2 : Int), (1 : Int), (3 : Int)]), Res.sl (Ek.int .u8) 5 v1 ([(1 : Int), (1 : Int), (3 : Int), (2 : Int)]), Res.sl (Ek.int .u8) 5 v10 q3.1]) (tail := ow) (rs' := [Res.sl (Ek.int .u8) 5 v12 ([(1 : Int), (2 : Int), (1 : Int), (3 : Int)]), Res.sl (Ek.int .u8) 5 v21 q14.1, Res.sl (Ek.int .u8) 5 v1 ([(1 : Int), (1 : Int), (3 : Int), (2 : Int)]), Res.sl (Ek.int .u8) 5 v10 q3.1]) hp [2, 0, 3, 4] (by decide) (by simp) rfl
      exact ⟨hf.sub ⟨rfl, trivial⟩, hp⟩
    replace hz42 := ifF hz42 hb43
    refine st_skip hf (wantN hf rfl rfl hb43) rfl (by decide) ?_ rfl
    clear hf; intro a hf
    refine st_skip hf (wantN hf rfl rfl hb43) rfl (by decide) ?_ rfl
    clear hf; intro a hf
    refine st_skip hf (wantN hf rfl rfl hb43) rfl (by decide) ?_ rfl
    clear hf; intro a hf
    obtain rfl := Option.some.inj hz42
    refine st_pick (v := .bool false) hf rfl rfl (fun hb' => ?_) (fun hb' => ?_) (by decide) ?_
    · exact absurd (hb43.symm.trans hb') (by decide)
    · rfl
    clear hf; intro a ha hf; clear ha
    refine st_nil hf (th_n ?_)
    exact ⟨hf.sub ⟨rfl, trivial⟩, hp⟩
  rintro a w ⟨hf, hp⟩
  refine st_assign hf rfl rfl (by decide) ?_
  clear hf; intro a ha hf; clear ha
  refine st_nil hf ?_
  refine th_n ?_
  refine wp_ret ?_
  obtain rfl := Option.some.inj h
  have hp : Hp _ _ _ (ow) := Hp.sel (pre := [Res.sl (Ek.int .u8) 5 v12 ([(1 : Int), (2 : Int), (1 : Int), (3 : Int)]), Res.sl (Ek.int .u8) 5 v21 q14.1, Res.sl (Ek.int .u8) 5 v1 ([(1 : Int), (1 : Int), (3 : Int), (2 : Int)]), Res.sl (Ek.int .u8) 5 v10 q3.1]) (tail := ow) (rs' := []) hp [] (by decide) (by simp) rfl
  exact ⟨rfl, ⟨hf.sub ⟨rfl, trivial⟩, hp⟩⟩

end Go.Proofs.Ytienojgmpjpcjaa
