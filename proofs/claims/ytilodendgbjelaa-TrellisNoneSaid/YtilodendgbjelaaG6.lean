/- The functions foghorn foghornlaw21.TrellisNone: what each answers, as a plain function, and that its call answers it; printed by gen.py. -/
import Derived.Test.YtilodendgbjelaaProg
import Derived.Test.YtilodendgbjelaaGlX
import Derived.KernelRfl
import Derived.Test.YtilodendgbjelaaG6p1
set_option linter.unusedVariables false
set_option linter.unusedSimpArgs false
set_option maxRecDepth 100000
set_option maxHeartbeats 4000000
namespace Go.Proofs.Ytilodendgbjelaa
open GL
noncomputable def f_trellis_Code_Exact.s1c (c0_Length : Int) (c0_One : Int) (c0_Two : Int) (coded1 : (List Bool)) (out8 : (List Bool)) (state9 : Int) (t28 : Int) : Option (((List Bool) × Int × Int) ⊕ (((List Bool) × Int) ⊕ ((List Bool) × Int))) := (if (decide (t28 < (IntKind.i64.wrap (((coded1.length : Int)).tdiv (2 : Int))))) = true then ((f_trellis_Code_step c0_Length c0_One c0_Two state9 false).bind fun q12 => (if 0 ≤ (IntKind.i64.wrap ((2 : Int) * t28)) ∧ (IntKind.i64.wrap ((2 : Int) * t28)) < (coded1.length : Int) then ((if (q12.2.1 != (gt coded1 (IntKind.i64.wrap ((2 : Int) * t28)))) = true then (some true) else (if 0 ≤ (IntKind.i64.wrap ((IntKind.i64.wrap ((2 : Int) * t28)) + (1 : Int))) ∧ (IntKind.i64.wrap ((IntKind.i64.wrap ((2 : Int) * t28)) + (1 : Int))) < (coded1.length : Int) then (some (q12.2.2 != (gt coded1 (IntKind.i64.wrap ((IntKind.i64.wrap ((2 : Int) * t28)) + (1 : Int)))))) else none)).bind fun z17 => ((f_trellis_Code_step c0_Length c0_One c0_Two state9 z17).bind fun q19 => (if 0 ≤ (IntKind.i64.wrap ((2 : Int) * t28)) ∧ (IntKind.i64.wrap ((2 : Int) * t28)) < (coded1.length : Int) then ((if (q19.2.1 != (gt coded1 (IntKind.i64.wrap ((2 : Int) * t28)))) = true then (some true) else (if 0 ≤ (IntKind.i64.wrap ((IntKind.i64.wrap ((2 : Int) * t28)) + (1 : Int))) ∧ (IntKind.i64.wrap ((IntKind.i64.wrap ((2 : Int) * t28)) + (1 : Int))) < (coded1.length : Int) then (some (q19.2.2 != (gt coded1 (IntKind.i64.wrap ((IntKind.i64.wrap ((2 : Int) * t28)) + (1 : Int)))))) else none)).bind fun z24 => (if z24 = true then (some (Sum.inr (Sum.inr ([], (6 : Int))))) else (if (out8.length + ([z17]).length) * 1 ≤ 140737488355328 then (some (Sum.inl ((out8 ++ [z17]), q19.1, (IntKind.i64.wrap (t28 + (1 : Int)))))) else none))) else none))) else none)) else (some (Sum.inr (Sum.inl (out8, state9)))))
noncomputable def f_trellis_Code_Exact.s1 (c0_Length : Int) (c0_One : Int) (c0_Two : Int) (coded1 : (List Bool)) (s : ((List Bool) × Int × Int)) : Option (((List Bool) × Int × Int) ⊕ (((List Bool) × Int) ⊕ ((List Bool) × Int))) := f_trellis_Code_Exact.s1c c0_Length c0_One c0_Two coded1 s.1 s.2.1 s.2.2
noncomputable def f_trellis_Code_Exact (c0_Length : Int) (c0_One : Int) (c0_Two : Int) (coded1 : (List Bool)) : Option ((List Bool) × Int) := ((f_trellis_Code_Check c0_Length c0_One c0_Two).bind fun q3 => (if ((q3 != (0 : Int)) || (decide ((32768 : Int) < (coded1.length : Int)))) = true then (some ([], (1 : Int))) else ((loop (f_trellis_Code_Exact.s1 c0_Length c0_One c0_Two coded1) ([], (0 : Int), (0 : Int))).bind (fun q31 => sm q31 (fun q33 => (if (((decide ((0 : Int) < (iand .i64 (coded1.length : Int) (1 : Int)))) || (decide ((IntKind.i64.wrap (((coded1.length : Int)).tdiv (2 : Int))) < (IntKind.i64.wrap (c0_Length - (1 : Int)))))) || (q33.2 != (0 : Int))) = true then (some ([], (6 : Int))) else (if 0 ≤ (IntKind.i64.wrap ((IntKind.i64.wrap ((IntKind.i64.wrap (((coded1.length : Int)).tdiv (2 : Int))) - c0_Length)) + (1 : Int))) ∧ (IntKind.i64.wrap ((IntKind.i64.wrap ((IntKind.i64.wrap (((coded1.length : Int)).tdiv (2 : Int))) - c0_Length)) + (1 : Int))) ≤ ((q33.1 ++ ([] : List Bool)).length : Int) then (some (((q33.1 ++ ([] : List Bool)).take (((IntKind.i64.wrap ((IntKind.i64.wrap ((IntKind.i64.wrap (((coded1.length : Int)).tdiv (2 : Int))) - c0_Length)) + (1 : Int)))).toNat)), (0 : Int))) else none))) (fun q34 => (some (q34.1, q34.2)))))))
theorem f_trellis_Code_Exact_c {S : Nat → Prop} {w0 w : World} {ow : List Res} (hp : Hp S w0 w ow) (c0_Length : Int) (c0_One : Int) (c0_Two : Int) (vcoded1 : Value) (coded1 : (List Bool)) (hcoded1 : RdS Ek.bool S w0 vcoded1 coded1) {r : ((List Bool) × Int)} (h : f_trellis_Code_Exact c0_Length c0_One c0_Two coded1 = some r) :
    Calls Try.prog 20 #[.agg #[.int .i64 c0_Length, .int .u32 c0_One, .int .u32 c0_Two], vcoded1] w (fun e w' => ∃ (u0 : Value), e = .returned (.tuple #[u0, .int .i64 r.2]) ∧ Hp S w0 w' (Res.sl Ek.bool 4 u0 r.1 :: ow)) := by
  unfold f_trellis_Code_Exact at h
  refine enter (n := 107) (args := [.agg #[.int .i64 c0_Length, .int .u32 c0_One, .int .u32 c0_Two], vcoded1]) Try.func20 rfl rfl (Nat.le_of_ble_eq_true rfl) fun a hf => ?_
  replace hf : Fr 107 a [(0, .agg #[.int .i64 c0_Length, .int .u32 c0_One, .int .u32 c0_Two]), (1, vcoded1)] := hf
  refine wp_mono (Q := fun e a w => e = .ret ∧ ∃ (u0 : Value), Fr 107 a [(4, u0), (5, .int .i64 r.2)] ∧ Hp S w0 w (Res.sl Ek.bool 4 u0 r.1 :: ow)) ?_ ?_
  rotate_left
  · rintro e a w ⟨rfl, x0, hf, hp⟩
    exact ret2 hf rfl rfl rfl ⟨x0, rfl, hp⟩
  refine wp_seq ?_
  refine wp_reg ?_
  refine st_boxO (cs := [.int .i64 c0_Length, .int .u32 c0_One, .int .u32 c0_Two]) hf (by decide) hp rfl rfl rfl ?_
  clear hf; intro a w v1 hf hp0; clear hp; have hp := hp0; clear hp0
  replace hp : Hp _ _ _ (Res.obj 34 v1 [.int .i64 c0_Length, .int .u32 c0_One, .int .u32 c0_Two] :: ow) := hp
  refine st_assign hf rfl rfl (by decide) ?_
  clear hf; intro a ha hf; clear ha
  refine st_assign hf rfl rfl (by decide) ?_
  clear hf; intro a ha hf; clear ha
  refine st_nil hf ?_
  refine th_n ?_
  refine wp_seq ?_
  refine wp_seq ?_
  refine wp_reg ?_
  refine st_ldOA (m := 3) (us := [.int .i64 c0_Length, .int .u32 c0_One, .int .u32 c0_Two]) hf (by decide) (by kernel_rfl) rfl rfl (hp.ob (i := 0) rfl) rfl rfl ?_
  clear hf; intro a ha hf; clear ha
  obtain ⟨q3, hcall4, h⟩ := bnd h
  refine st_call hf (by decide) Try.func26 rfl rfl rfl rfl rfl (f_trellis_Code_Check_c hp _ _ _ hcall4) ?_
  rintro _ w ⟨rfl, hp0⟩
  clear hp; have hp := hp0; clear hp0
  replace hp : Hp _ _ _ (Res.obj 34 v1 [.int .i64 c0_Length, .int .u32 c0_One, .int .u32 c0_Two] :: ow) := hp
  refine ⟨_, rfl, ?_⟩
  clear hf; intro a hf
  refine st_assign hf rfl rfl (by decide) ?_
  clear hf; intro a ha hf; clear ha
  refine st_nil hf ?_
  refine th_n ?_
  refine wp_seq ?_
  refine wp_reg ?_
  refine st_move hf rfl rfl (by decide) ?_
  clear hf; intro a ha hf; clear ha
  refine st_ineq hf (by decide) rfl rfl rfl ?_
  clear hf; intro a ha hf; clear ha
  refine st_move hf rfl rfl (by decide) ?_
  clear hf; intro a ha hf; clear ha
  refine wpList_cut 4 (fun a w => Fr 107 a [(1, vcoded1), (2, optr v1 0), (23, .bool ((q3 != (0 : Int)) || (decide ((32768 : Int) < (coded1.length : Int)))))] ∧ Hp S w0 w (Res.obj 34 v1 [.int .i64 c0_Length, .int .u32 c0_One, .int .u32 c0_Two] :: ow)) ?_ ?_
  · rcases Bool.eq_false_or_eq_true (q3 != (0 : Int)) with hb6 | hb6
    · skip
      refine st_skip hf (wantN hf rfl rfl hb6) rfl (by decide) ?_ rfl
      clear hf; intro a hf
      refine st_skip hf (wantN hf rfl rfl hb6) rfl (by decide) ?_ rfl
      clear hf; intro a hf
      refine st_skip hf (wantN hf rfl rfl hb6) rfl (by decide) ?_ rfl
      clear hf; intro a hf
      refine st_pick (v := .bool true) hf rfl rfl (fun hb' => ?_) (fun hb' => ?_) (by decide) ?_
      · rfl
      · exact absurd (hb6.symm.trans hb') (by decide)
      clear hf; intro a ha hf; clear ha
      refine st_nil hf (th_n ?_)
      exact ⟨hf.sub ⟨rfl, rfl, (by rw [hb6]; rfl), trivial⟩, hp⟩
    refine st_move hf (wantY hf rfl rfl hb6) rfl (by decide) ?_
    clear hf; intro a ha hf; clear ha
    refine st_len (E := Ek.bool) hf (by decide) Try.underlying25 (wantY hf rfl rfl hb6) rfl (hcoded1.sl hp) ?_
    clear hf; intro a ha hf; clear ha
    refine st_igtr hf (by decide) (wantY hf rfl rfl hb6) rfl rfl ?_
    clear hf; intro a ha hf; clear ha
    refine st_pick (v := .bool (decide ((32768 : Int) < (coded1.length : Int)))) hf rfl rfl (fun hb' => ?_) (fun hb' => ?_) (by decide) ?_
    · exact absurd (hb6.symm.trans hb') (by decide)
    · rfl
    clear hf; intro a ha hf; clear ha
    refine st_nil hf (th_n ?_)
    exact ⟨hf.sub ⟨rfl, rfl, (by rw [hb6]; rfl), trivial⟩, hp⟩
  rintro a w ⟨hf, hp⟩
  refine st_nil hf ?_
  refine th_n ?_
  refine wp_if hf rfl (fun hb => ?_) (fun hb => ?_)
  · replace h := ifT h hb
    refine wp_seq ?_
    refine wp_reg ?_
    refine st_assign hf rfl rfl (by decide) ?_
    clear hf; intro a ha hf; clear ha
    refine st_assign hf rfl rfl (by decide) ?_
    clear hf; intro a ha hf; clear ha
    refine st_nil hf ?_
    refine th_n ?_
    refine wp_ret ?_
    refine th_r ?_
    obtain rfl := Option.some.inj h
    have hp := hp.nil Ek.bool 4
    have hp : Hp _ _ _ (Res.sl Ek.bool 4 (.slice none 0 0) ([]) :: ow) := Hp.sel (pre := [Res.sl Ek.bool 4 (.slice none 0 0) ([]), Res.obj 34 v1 [.int .i64 c0_Length, .int .u32 c0_One, .int .u32 c0_Two]]) (tail := ow) (rs' := [Res.sl Ek.bool 4 (.slice none 0 0) ([])]) hp [0] (by decide) (by simp) rfl
    exact ⟨rfl, ⟨_, hf.sub ⟨rfl, rfl, trivial⟩, hp⟩⟩
  replace h := ifF h hb
  refine wp_skip ?_
  refine th_n ?_
  refine wp_seq ?_
  refine wp_reg ?_
  refine st_move hf rfl rfl (by decide) ?_
  clear hf; intro a ha hf; clear ha
  refine st_len (E := Ek.bool) hf (by decide) Try.underlying25 rfl rfl (hcoded1.sl hp) ?_
  clear hf; intro a ha hf; clear ha
  refine st_iquo hf (by decide) rfl rfl rfl (by decide) ?_
  clear hf; intro a ha hf; clear ha
  refine st_assign hf rfl rfl (by decide) ?_
  clear hf; intro a ha hf; clear ha
  refine st_nil hf ?_
  refine th_n ?_
  refine wp_seq ?_
  refine wp_reg ?_
  refine st_assign hf rfl rfl (by decide) ?_
  clear hf; intro a ha hf; clear ha
  refine st_nil hf ?_
  refine th_n ?_
  refine wp_seq ?_
  refine wp_reg ?_
  refine st_assign hf rfl rfl (by decide) ?_
  clear hf; intro a ha hf; clear ha
  refine st_nil hf ?_
  refine th_n ?_
  refine wp_seq ?_
  refine wp_seq ?_
  refine wp_reg ?_
  refine st_move hf rfl rfl (by decide) ?_
  clear hf; intro a ha hf; clear ha
  refine st_move hf rfl rfl (by decide) ?_
  clear hf; intro a ha hf; clear ha
  refine st_nil hf ?_
  refine th_n ?_
  refine wp_block ?_
  obtain ⟨q31, hl, h⟩ := bnd h
  have hp := hp.nil Ek.bool 4
  refine wp_loop_pure (f := (f_trellis_Code_Exact.s1 c0_Length c0_One c0_Two coded1)) (s := ([], (0 : Int), (0 : Int))) (fun s a w => ∃ (v8 : Value), Fr 107 a [(1, vcoded1), (2, optr v1 0), (7, .int .i64 (IntKind.i64.wrap (((coded1.length : Int)).tdiv (2 : Int)))), (8, v8), (9, .int .i64 s.2.1), (27, .int .i64 (IntKind.i64.wrap (((coded1.length : Int)).tdiv (2 : Int)))), (28, .int .i64 s.2.2)] ∧ Hp S w0 w (Res.sl Ek.bool 4 v8 s.1 :: Res.obj 34 v1 [.int .i64 c0_Length, .int .u32 c0_One, .int .u32 c0_Two] :: ow)) (fun q e a w => match q with | (Sum.inl q) => e = .exit 0 ∧ ∃ (v10 : Value), Fr 107 a [(1, vcoded1), (2, optr v1 0), (7, .int .i64 (IntKind.i64.wrap (((coded1.length : Int)).tdiv (2 : Int)))), (8, v10), (9, .int .i64 q.2)] ∧ Hp S w0 w (Res.sl Ek.bool 4 v10 q.1 :: Res.obj 34 v1 [.int .i64 c0_Length, .int .u32 c0_One, .int .u32 c0_Two] :: ow) | (Sum.inr q) => e = .ret ∧ ∃ (u0 : Value), Fr 107 a [(4, u0), (5, .int .i64 q.2)] ∧ Hp S w0 w (Res.sl Ek.bool 4 u0 q.1 :: ow)) ?_ hl ⟨_, hf.sub ⟨rfl, rfl, rfl, rfl, rfl, rfl, rfl, trivial⟩, hp⟩ ?_
  · clear hl hf hp
    intro s x a w h hI
    obtain ⟨out8, state9, t28⟩ := s
    obtain ⟨v8, hf, hp⟩ : ∃ (v8 : Value), Fr 107 a [(1, vcoded1), (2, optr v1 0), (7, .int .i64 (IntKind.i64.wrap (((coded1.length : Int)).tdiv (2 : Int)))), (8, v8), (9, .int .i64 state9), (27, .int .i64 (IntKind.i64.wrap (((coded1.length : Int)).tdiv (2 : Int)))), (28, .int .i64 t28)] ∧ Hp S w0 w (Res.sl Ek.bool 4 v8 out8 :: Res.obj 34 v1 [.int .i64 c0_Length, .int .u32 c0_One, .int .u32 c0_Two] :: ow) := hI
    replace h : f_trellis_Code_Exact.s1c c0_Length c0_One c0_Two coded1 out8 state9 t28 = some x := h
    unfold f_trellis_Code_Exact.s1c at h
    refine wp_seq ?_
    refine wp_reg ?_
    refine st_ilss hf (by decide) rfl rfl rfl ?_
    clear hf; intro a ha hf; clear ha
    refine st_nil hf ?_
    refine th_n ?_
    refine wp_seq ?_
    refine wp_if hf rfl (fun hb => ?_) (fun hb => ?_)
    · replace h := ifT h hb
      refine wp_skip ?_
      refine th_n ?_
      refine wp_seq ?_
      refine wp_block ?_
      refine wp_seq ?_
      refine wp_reg ?_
      refine st_move hf rfl rfl (by decide) ?_
      clear hf; intro a ha hf; clear ha
      refine st_assign hf rfl rfl (by decide) ?_
      clear hf; intro a ha hf; clear ha
      refine st_nil hf ?_
      refine th_n ?_
      refine wp_seq ?_
      refine wp_reg ?_
      refine st_ldOA (m := 3) (us := [.int .i64 c0_Length, .int .u32 c0_One, .int .u32 c0_Two]) hf (by decide) (by kernel_rfl) rfl rfl (hp.ob (i := 1) rfl) rfl rfl ?_
      clear hf; intro a ha hf; clear ha
      refine st_move hf rfl rfl (by decide) ?_
      clear hf; intro a ha hf; clear ha
      obtain ⟨q12, hcall13, h⟩ := bnd h
      refine st_call hf (by decide) Try.func37 rfl rfl rfl rfl rfl (f_trellis_Code_step_c hp _ _ _ _ _ hcall13) ?_
      rintro _ w ⟨rfl, hp0⟩
      clear hp; have hp := hp0; clear hp0
      replace hp : Hp _ _ _ (Res.sl Ek.bool 4 v8 out8 :: Res.obj 34 v1 [.int .i64 c0_Length, .int .u32 c0_One, .int .u32 c0_Two] :: ow) := hp
      refine ⟨_, rfl, ?_⟩
      clear hf; intro a hf
      refine st_move hf rfl rfl (by decide) ?_
      clear hf; intro a ha hf; clear ha
      refine st_extract hf (by decide) rfl rfl rfl ?_
      clear hf; intro a ha hf; clear ha
      refine st_extract hf (by decide) rfl rfl rfl ?_
      clear hf; intro a ha hf; clear ha
      refine st_extract hf (by decide) rfl rfl rfl ?_
      clear hf; intro a ha hf; clear ha
      refine st_assign hf rfl rfl (by decide) ?_
      clear hf; intro a ha hf; clear ha
      refine st_assign hf rfl rfl (by decide) ?_
      clear hf; intro a ha hf; clear ha
      refine st_assign hf rfl rfl (by decide) ?_
      clear hf; intro a ha hf; clear ha
      refine st_nil hf ?_
      refine th_n ?_
      refine wp_seq ?_
      refine wp_reg ?_
      refine st_move hf rfl rfl (by decide) ?_
      clear hf; intro a ha hf; clear ha
      refine st_move hf rfl rfl (by decide) ?_
      clear hf; intro a ha hf; clear ha
      refine st_move hf rfl rfl (by decide) ?_
      clear hf; intro a ha hf; clear ha
      refine st_imul hf (by decide) rfl rfl rfl ?_
      clear hf; intro a ha hf; clear ha
      obtain ⟨hc14, h⟩ := chk h
      refine st_index (E := Ek.bool) hf (by decide) Try.underlying25 elt4 rfl rfl rfl (hcoded1.sl hp) hc14.1 hc14.2 ?_
      clear hf; intro a ha hf; clear ha
      refine st_ldB hf (by decide) pl4 rfl rfl (hcoded1.sl hp) hc14.1 hc14.2 ?_
      clear hf; intro a ha hf; clear ha
      refine st_bneq hf (by decide) Try.underlying4 rfl rfl rfl ?_
      clear hf; intro a ha hf; clear ha
      refine st_move hf rfl rfl (by decide) ?_
      clear hf; intro a ha hf; clear ha
      obtain ⟨z17, hz15, h⟩ := bnd h
      refine wpList_cut 9 (fun a w => Fr 107 a [(1, vcoded1), (2, optr v1 0), (7, .int .i64 (IntKind.i64.wrap (((coded1.length : Int)).tdiv (2 : Int)))), (8, v8), (9, .int .i64 state9), (10, .int .i64 t28), (27, .int .i64 (IntKind.i64.wrap (((coded1.length : Int)).tdiv (2 : Int)))), (28, .int .i64 t28), (54, .bool z17)] ∧ Hp S w0 w (Res.sl Ek.bool 4 v8 out8 :: Res.obj 34 v1 [.int .i64 c0_Length, .int .u32 c0_One, .int .u32 c0_Two] :: ow)) ?_ ?_
      · rcases Bool.eq_false_or_eq_true (q12.2.1 != (gt coded1 (IntKind.i64.wrap ((2 : Int) * t28)))) with hb16 | hb16
        · skip
          replace hz15 := ifT hz15 hb16
          refine st_skip hf (wantN hf rfl rfl hb16) rfl (by decide) ?_ rfl
          clear hf; intro a hf
          refine st_skip hf (wantN hf rfl rfl hb16) rfl (by decide) ?_ rfl
          clear hf; intro a hf
          refine st_skip hf (wantN hf rfl rfl hb16) rfl (by decide) ?_ rfl
          clear hf; intro a hf
          refine st_skip hf (wantN hf rfl rfl hb16) rfl (by decide) ?_ rfl
          clear hf; intro a hf
          refine st_skip hf (wantN hf rfl rfl hb16) rfl (by decide) ?_ rfl
          clear hf; intro a hf
          refine st_skip hf (wantN hf rfl rfl hb16) rfl (by decide) ?_ rfl
          clear hf; intro a hf
          refine st_skip hf (wantN hf rfl rfl hb16) rfl (by decide) ?_ rfl
          clear hf; intro a hf
          refine st_skip hf (wantN hf rfl rfl hb16) rfl (by decide) ?_ rfl
          clear hf; intro a hf
          obtain rfl := Option.some.inj hz15
          refine st_pick (v := .bool true) hf rfl rfl (fun hb' => ?_) (fun hb' => ?_) (by decide) ?_
          · rfl
          · exact absurd (hb16.symm.trans hb') (by decide)
          clear hf; intro a ha hf; clear ha
          refine st_nil hf (th_n ?_)
          exact ⟨hf.sub ⟨rfl, rfl, rfl, rfl, rfl, rfl, rfl, rfl, rfl, trivial⟩, hp⟩
        replace hz15 := ifF hz15 hb16
        refine st_move hf (wantY hf rfl rfl hb16) rfl (by decide) ?_
        clear hf; intro a ha hf; clear ha
        refine st_move hf (wantY hf rfl rfl hb16) rfl (by decide) ?_
        clear hf; intro a ha hf; clear ha
        refine st_move hf (wantY hf rfl rfl hb16) rfl (by decide) ?_
        clear hf; intro a ha hf; clear ha
        refine st_imul hf (by decide) (wantY hf rfl rfl hb16) rfl rfl ?_
        clear hf; intro a ha hf; clear ha
        refine st_iadd hf (by decide) (wantY hf rfl rfl hb16) rfl rfl ?_
        clear hf; intro a ha hf; clear ha
        obtain ⟨hc18, hz15⟩ := chk hz15
        refine st_index (E := Ek.bool) hf (by decide) Try.underlying25 elt4 (wantY hf rfl rfl hb16) rfl rfl (hcoded1.sl hp) hc18.1 hc18.2 ?_
        clear hf; intro a ha hf; clear ha
        refine st_ldB hf (by decide) pl4 (wantY hf rfl rfl hb16) rfl (hcoded1.sl hp) hc18.1 hc18.2 ?_
        clear hf; intro a ha hf; clear ha
        refine st_bneq hf (by decide) Try.underlying4 (wantY hf rfl rfl hb16) rfl rfl ?_
        clear hf; intro a ha hf; clear ha
        obtain rfl := Option.some.inj hz15
        refine st_pick (v := .bool (q12.2.2 != (gt coded1 (IntKind.i64.wrap ((IntKind.i64.wrap ((2 : Int) * t28)) + (1 : Int)))))) hf rfl rfl (fun hb' => ?_) (fun hb' => ?_) (by decide) ?_
        · exact absurd (hb16.symm.trans hb') (by decide)
        · rfl
        clear hf; intro a ha hf; clear ha
        refine st_nil hf (th_n ?_)
        exact ⟨hf.sub ⟨rfl, rfl, rfl, rfl, rfl, rfl, rfl, rfl, rfl, trivial⟩, hp⟩
      rintro a w ⟨hf, hp⟩
      refine st_assign hf rfl rfl (by decide) ?_
      clear hf; intro a ha hf; clear ha
      refine st_nil hf ?_
      refine th_n ?_
      refine wp_seq ?_
      refine wp_reg ?_
      refine st_ldOA (m := 3) (us := [.int .i64 c0_Length, .int .u32 c0_One, .int .u32 c0_Two]) hf (by decide) (by kernel_rfl) rfl rfl (hp.ob (i := 1) rfl) rfl rfl ?_
      clear hf; intro a ha hf; clear ha
      refine st_move hf rfl rfl (by decide) ?_
      clear hf; intro a ha hf; clear ha
      refine st_move hf rfl rfl (by decide) ?_
      clear hf; intro a ha hf; clear ha
      obtain ⟨q19, hcall20, h⟩ := bnd h
      refine st_call hf (by decide) Try.func37 rfl rfl rfl rfl rfl (f_trellis_Code_step_c hp _ _ _ _ _ hcall20) ?_
      rintro _ w ⟨rfl, hp0⟩
      clear hp; have hp := hp0; clear hp0
      replace hp : Hp _ _ _ (Res.sl Ek.bool 4 v8 out8 :: Res.obj 34 v1 [.int .i64 c0_Length, .int .u32 c0_One, .int .u32 c0_Two] :: ow) := hp
      refine ⟨_, rfl, ?_⟩
      clear hf; intro a hf
      refine st_move hf rfl rfl (by decide) ?_
      clear hf; intro a ha hf; clear ha
      refine st_extract hf (by decide) rfl rfl rfl ?_
      clear hf; intro a ha hf; clear ha
      refine st_extract hf (by decide) rfl rfl rfl ?_
      clear hf; intro a ha hf; clear ha
      refine st_extract hf (by decide) rfl rfl rfl ?_
      clear hf; intro a ha hf; clear ha
      refine st_assign hf rfl rfl (by decide) ?_
      clear hf; intro a ha hf; clear ha
      refine st_assign hf rfl rfl (by decide) ?_
      clear hf; intro a ha hf; clear ha
      refine st_assign hf rfl rfl (by decide) ?_
      clear hf; intro a ha hf; clear ha
      refine st_nil hf ?_
      refine th_n ?_
      refine wp_seq ?_
      refine wp_seq ?_
      refine wp_reg ?_
      refine st_move hf rfl rfl (by decide) ?_
      clear hf; intro a ha hf; clear ha
      refine st_move hf rfl rfl (by decide) ?_
      clear hf; intro a ha hf; clear ha
      refine st_move hf rfl rfl (by decide) ?_
      clear hf; intro a ha hf; clear ha
      refine st_imul hf (by decide) rfl rfl rfl ?_
      clear hf; intro a ha hf; clear ha
      obtain ⟨hc21, h⟩ := chk h
      refine st_index (E := Ek.bool) hf (by decide) Try.underlying25 elt4 rfl rfl rfl (hcoded1.sl hp) hc21.1 hc21.2 ?_
      clear hf; intro a ha hf; clear ha
      refine st_ldB hf (by decide) pl4 rfl rfl (hcoded1.sl hp) hc21.1 hc21.2 ?_
      clear hf; intro a ha hf; clear ha
      refine st_bneq hf (by decide) Try.underlying4 rfl rfl rfl ?_
      clear hf; intro a ha hf; clear ha
      refine st_move hf rfl rfl (by decide) ?_
      clear hf; intro a ha hf; clear ha
      obtain ⟨z24, hz22, h⟩ := bnd h
      refine wpList_cut 9 (fun a w => Fr 107 a [(1, vcoded1), (2, optr v1 0), (7, .int .i64 (IntKind.i64.wrap (((coded1.length : Int)).tdiv (2 : Int)))), (8, v8), (9, .int .i64 q19.1), (14, .bool z17), (27, .int .i64 (IntKind.i64.wrap (((coded1.length : Int)).tdiv (2 : Int)))), (28, .int .i64 t28), (79, .bool z24)] ∧ Hp S w0 w (Res.sl Ek.bool 4 v8 out8 :: Res.obj 34 v1 [.int .i64 c0_Length, .int .u32 c0_One, .int .u32 c0_Two] :: ow)) ?_ ?_
      · rcases Bool.eq_false_or_eq_true (q19.2.1 != (gt coded1 (IntKind.i64.wrap ((2 : Int) * t28)))) with hb23 | hb23
        · skip
          replace hz22 := ifT hz22 hb23
          refine st_skip hf (wantN hf rfl rfl hb23) rfl (by decide) ?_ rfl
          clear hf; intro a hf
          refine st_skip hf (wantN hf rfl rfl hb23) rfl (by decide) ?_ rfl
          clear hf; intro a hf
          refine st_skip hf (wantN hf rfl rfl hb23) rfl (by decide) ?_ rfl
          clear hf; intro a hf
          refine st_skip hf (wantN hf rfl rfl hb23) rfl (by decide) ?_ rfl
          clear hf; intro a hf
          refine st_skip hf (wantN hf rfl rfl hb23) rfl (by decide) ?_ rfl
          clear hf; intro a hf
          refine st_skip hf (wantN hf rfl rfl hb23) rfl (by decide) ?_ rfl
          clear hf; intro a hf
          refine st_skip hf (wantN hf rfl rfl hb23) rfl (by decide) ?_ rfl
          clear hf; intro a hf
          refine st_skip hf (wantN hf rfl rfl hb23) rfl (by decide) ?_ rfl
          clear hf; intro a hf
          obtain rfl := Option.some.inj hz22
          refine st_pick (v := .bool true) hf rfl rfl (fun hb' => ?_) (fun hb' => ?_) (by decide) ?_
          · rfl
          · exact absurd (hb23.symm.trans hb') (by decide)
          clear hf; intro a ha hf; clear ha
          refine st_nil hf (th_n ?_)
          exact ⟨hf.sub ⟨rfl, rfl, rfl, rfl, rfl, rfl, rfl, rfl, rfl, trivial⟩, hp⟩
        replace hz22 := ifF hz22 hb23
        refine st_move hf (wantY hf rfl rfl hb23) rfl (by decide) ?_
        clear hf; intro a ha hf; clear ha
        refine st_move hf (wantY hf rfl rfl hb23) rfl (by decide) ?_
        clear hf; intro a ha hf; clear ha
        refine st_move hf (wantY hf rfl rfl hb23) rfl (by decide) ?_
        clear hf; intro a ha hf; clear ha
        refine st_imul hf (by decide) (wantY hf rfl rfl hb23) rfl rfl ?_
        clear hf; intro a ha hf; clear ha
        refine st_iadd hf (by decide) (wantY hf rfl rfl hb23) rfl rfl ?_
        clear hf; intro a ha hf; clear ha
        obtain ⟨hc25, hz22⟩ := chk hz22
        refine st_index (E := Ek.bool) hf (by decide) Try.underlying25 elt4 (wantY hf rfl rfl hb23) rfl rfl (hcoded1.sl hp) hc25.1 hc25.2 ?_
        clear hf; intro a ha hf; clear ha
        refine st_ldB hf (by decide) pl4 (wantY hf rfl rfl hb23) rfl (hcoded1.sl hp) hc25.1 hc25.2 ?_
        clear hf; intro a ha hf; clear ha
        refine st_bneq hf (by decide) Try.underlying4 (wantY hf rfl rfl hb23) rfl rfl ?_
        clear hf; intro a ha hf; clear ha
        obtain rfl := Option.some.inj hz22
        refine st_pick (v := .bool (q19.2.2 != (gt coded1 (IntKind.i64.wrap ((IntKind.i64.wrap ((2 : Int) * t28)) + (1 : Int)))))) hf rfl rfl (fun hb' => ?_) (fun hb' => ?_) (by decide) ?_
        · exact absurd (hb23.symm.trans hb') (by decide)
        · rfl
        clear hf; intro a ha hf; clear ha
        refine st_nil hf (th_n ?_)
        exact ⟨hf.sub ⟨rfl, rfl, rfl, rfl, rfl, rfl, rfl, rfl, rfl, trivial⟩, hp⟩
      rintro a w ⟨hf, hp⟩
      refine st_nil hf ?_
      refine th_n ?_
      refine wp_if hf rfl (fun hb => ?_) (fun hb => ?_)
      · replace h := ifT h hb
        refine wp_seq ?_
        refine wp_reg ?_
        refine st_assign hf rfl rfl (by decide) ?_
        clear hf; intro a ha hf; clear ha
        refine st_assign hf rfl rfl (by decide) ?_
        clear hf; intro a ha hf; clear ha
        refine st_nil hf ?_
        refine th_n ?_
        refine wp_ret ?_
        refine th_r ?_
        refine ib_r ?_
        refine th_r ?_
        obtain rfl := Option.some.inj h
        have hp := hp.nil Ek.bool 4
        have hp : Hp _ _ _ (Res.sl Ek.bool 4 (.slice none 0 0) ([]) :: ow) := Hp.sel (pre := [Res.sl Ek.bool 4 (.slice none 0 0) ([]), Res.sl Ek.bool 4 v8 out8, Res.obj 34 v1 [.int .i64 c0_Length, .int .u32 c0_One, .int .u32 c0_Two]]) (tail := ow) (rs' := [Res.sl Ek.bool 4 (.slice none 0 0) ([])]) hp [0] (by decide) (by simp) rfl
        exact rnd_r (by simp) ⟨rfl, ⟨_, hf.sub ⟨rfl, rfl, trivial⟩, hp⟩⟩
      replace h := ifF h hb
      refine wp_skip ?_
      refine th_n ?_
      refine wp_reg ?_
      refine st_move hf rfl rfl (by decide) ?_
      clear hf; intro a ha hf; clear ha
      refine st_move hf rfl rfl (by decide) ?_
      clear hf; intro a ha hf; clear ha
      refine st_build (E := Ek.bool) (xs := [z17]) hf (by decide) elt4 Try.underlying25 hp (vals := #[(0, .bool z17)]) (cells := #[.bool z17]) rfl (by simp [hf.ev (x := (Operand.tmp 81)) rfl]) (by decide) (by decide) (z := .bool false) (by kernel_rfl) (by kernel_rfl) rfl (reps_cons (cs := [.bool z17]) rfl (reps_nil _)) ?_
      clear hf; intro a w v27 hf hp0; clear hp; have hp := hp0; clear hp0
      replace hp : Hp _ _ _ (Res.sl Ek.bool 4 v27 ([z17]) :: Res.sl Ek.bool 4 v8 out8 :: Res.obj 34 v1 [.int .i64 c0_Length, .int .u32 c0_One, .int .u32 c0_Two] :: ow) := hp
      obtain ⟨hc29, h⟩ := chk h
      refine st_append (E := Ek.bool) hf (by decide) elt4 Try.underlying25 (by decide) hp (i := 1) rfl rfl rfl rfl (hp.sl (i := 0) rfl) hc29 ?_
      clear hf; intro a w v30 hf hp0; clear hp; have hp := hp0; clear hp0
      replace hp : Hp _ _ _ (Res.sl Ek.bool 4 v27 ([z17]) :: Res.sl Ek.bool 4 v30 (out8 ++ [z17]) :: Res.obj 34 v1 [.int .i64 c0_Length, .int .u32 c0_One, .int .u32 c0_Two] :: ow) := hp
      refine st_assign hf rfl rfl (by decide) ?_
      clear hf; intro a ha hf; clear ha
      refine st_nil hf ?_
      refine ib_n ?_
      refine th_n ?_
      refine wp_reg ?_
      refine st_iadd hf (by decide) rfl rfl rfl ?_
      clear hf; intro a ha hf; clear ha
      refine st_move hf rfl rfl (by decide) ?_
      clear hf; intro a ha hf; clear ha
      refine st_nil hf ?_
      obtain rfl := Option.some.inj h
      have hp : Hp _ _ _ (Res.sl Ek.bool 4 v30 (out8 ++ [z17]) :: Res.obj 34 v1 [.int .i64 c0_Length, .int .u32 c0_One, .int .u32 c0_Two] :: ow) := Hp.sel (pre := [Res.sl Ek.bool 4 v27 ([z17]), Res.sl Ek.bool 4 v30 (out8 ++ [z17]), Res.obj 34 v1 [.int .i64 c0_Length, .int .u32 c0_One, .int .u32 c0_Two]]) (tail := ow) (rs' := [Res.sl Ek.bool 4 v30 (out8 ++ [z17]), Res.obj 34 v1 [.int .i64 c0_Length, .int .u32 c0_One, .int .u32 c0_Two]]) hp [1, 2] (by decide) (by simp) rfl
      exact rnd_l ⟨_, hf.sub ⟨rfl, rfl, rfl, rfl, rfl, rfl, rfl, trivial⟩, hp⟩
    replace h := ifF h hb
    refine wp_exit ?_
    refine th_e ?_
    obtain rfl := Option.some.inj h
    exact rnd_r (by simp) ⟨rfl, _, hf.sub ⟨rfl, rfl, rfl, rfl, rfl, trivial⟩, hp⟩
  clear hl hf hp
  intro e a w hne hO
  rcases q31 with q33 | q34
  · replace h := smL h
    obtain ⟨rfl, v10, hf, hp⟩ := hO
    refine ib_same ?_
    refine th_n ?_
    refine wp_seq ?_
    refine wp_seq ?_
    refine wp_reg ?_
    refine st_move hf rfl rfl (by decide) ?_
    clear hf; intro a ha hf; clear ha
    refine st_len (E := Ek.bool) hf (by decide) Try.underlying25 rfl rfl (hcoded1.sl hp) ?_
    clear hf; intro a ha hf; clear ha
    refine st_iand hf (by decide) rfl rfl rfl ?_
    clear hf; intro a ha hf; clear ha
    refine st_igtr hf (by decide) rfl rfl rfl ?_
    clear hf; intro a ha hf; clear ha
    refine st_move hf rfl rfl (by decide) ?_
    clear hf; intro a ha hf; clear ha
    refine wpList_cut 6 (fun a w => Fr 107 a [(2, optr v1 0), (7, .int .i64 (IntKind.i64.wrap (((coded1.length : Int)).tdiv (2 : Int)))), (8, v10), (9, .int .i64 q33.2), (95, .bool ((decide ((0 : Int) < (iand .i64 (coded1.length : Int) (1 : Int)))) || (decide ((IntKind.i64.wrap (((coded1.length : Int)).tdiv (2 : Int))) < (IntKind.i64.wrap (c0_Length - (1 : Int)))))))] ∧ Hp S w0 w (Res.sl Ek.bool 4 v10 q33.1 :: Res.obj 34 v1 [.int .i64 c0_Length, .int .u32 c0_One, .int .u32 c0_Two] :: ow)) ?_ ?_
    · rcases Bool.eq_false_or_eq_true (decide ((0 : Int) < (iand .i64 (coded1.length : Int) (1 : Int)))) with hb36 | hb36
      · skip
        refine st_skip hf (wantN hf rfl rfl hb36) rfl (by decide) ?_ rfl
        clear hf; intro a hf
        refine st_skip hf (wantN hf rfl rfl hb36) rfl (by decide) ?_ rfl
        clear hf; intro a hf
        refine st_skip hf (wantN hf rfl rfl hb36) rfl (by decide) ?_ rfl
        clear hf; intro a hf
        refine st_skip hf (wantN hf rfl rfl hb36) rfl (by decide) ?_ rfl
        clear hf; intro a hf
        refine st_skip hf (wantN hf rfl rfl hb36) rfl (by decide) ?_ rfl
        clear hf; intro a hf
        refine st_pick (v := .bool true) hf rfl rfl (fun hb' => ?_) (fun hb' => ?_) (by decide) ?_
        · rfl
        · exact absurd (hb36.symm.trans hb') (by decide)
        clear hf; intro a ha hf; clear ha
        refine st_nil hf (th_n ?_)
        exact ⟨hf.sub ⟨rfl, rfl, rfl, rfl, (by rw [hb36]; rfl), trivial⟩, hp⟩
      refine st_move hf (wantY hf rfl rfl hb36) rfl (by decide) ?_
      clear hf; intro a ha hf; clear ha
      refine st_fa (o' := 0) hf (by decide) (off := 0) (sz := 1) (by kernel_rfl) (by decide) (wantY hf rfl rfl hb36) rfl (hp.ob (i := 1) rfl) rfl ?_
      clear hf; intro a ha hf; clear ha
      refine st_ldO (u := .int .i64 c0_Length) hf (by decide) pl3 (wantY hf rfl rfl hb36) rfl (hp.ob (i := 1) rfl) rfl ?_
      clear hf; intro a ha hf; clear ha
      refine st_isub hf (by decide) (wantY hf rfl rfl hb36) rfl rfl ?_
      clear hf; intro a ha hf; clear ha
      refine st_ilss hf (by decide) (wantY hf rfl rfl hb36) rfl rfl ?_
      clear hf; intro a ha hf; clear ha
      refine st_pick (v := .bool (decide ((IntKind.i64.wrap (((coded1.length : Int)).tdiv (2 : Int))) < (IntKind.i64.wrap (c0_Length - (1 : Int)))))) hf rfl rfl (fun hb' => ?_) (fun hb' => ?_) (by decide) ?_
      · exact absurd (hb36.symm.trans hb') (by decide)
      · rfl
      clear hf; intro a ha hf; clear ha
      refine st_nil hf (th_n ?_)
      exact ⟨hf.sub ⟨rfl, rfl, rfl, rfl, (by rw [hb36]; rfl), trivial⟩, hp⟩
    rintro a w ⟨hf, hp⟩
    refine st_move hf rfl rfl (by decide) ?_
    clear hf; intro a ha hf; clear ha
    refine wpList_cut 3 (fun a w => Fr 107 a [(2, optr v1 0), (7, .int .i64 (IntKind.i64.wrap (((coded1.length : Int)).tdiv (2 : Int)))), (8, v10), (99, .bool (((decide ((0 : Int) < (iand .i64 (coded1.length : Int) (1 : Int)))) || (decide ((IntKind.i64.wrap (((coded1.length : Int)).tdiv (2 : Int))) < (IntKind.i64.wrap (c0_Length - (1 : Int)))))) || (q33.2 != (0 : Int))))] ∧ Hp S w0 w (Res.sl Ek.bool 4 v10 q33.1 :: Res.obj 34 v1 [.int .i64 c0_Length, .int .u32 c0_One, .int .u32 c0_Two] :: ow)) ?_ ?_
    · rcases Bool.eq_false_or_eq_true ((decide ((0 : Int) < (iand .i64 (coded1.length : Int) (1 : Int)))) || (decide ((IntKind.i64.wrap (((coded1.length : Int)).tdiv (2 : Int))) < (IntKind.i64.wrap (c0_Length - (1 : Int)))))) with hb38 | hb38
      · skip
        refine st_skip hf (wantN hf rfl rfl hb38) rfl (by decide) ?_ rfl
        clear hf; intro a hf
        refine st_skip hf (wantN hf rfl rfl hb38) rfl (by decide) ?_ rfl
        clear hf; intro a hf
        refine st_pick (v := .bool true) hf rfl rfl (fun hb' => ?_) (fun hb' => ?_) (by decide) ?_
        · rfl
        · exact absurd (hb38.symm.trans hb') (by decide)
        clear hf; intro a ha hf; clear ha
        refine st_nil hf (th_n ?_)
        exact ⟨hf.sub ⟨rfl, rfl, rfl, (by rw [hb38]; rfl), trivial⟩, hp⟩
      refine st_move hf (wantY hf rfl rfl hb38) rfl (by decide) ?_
      clear hf; intro a ha hf; clear ha
      refine st_ineq hf (by decide) (wantY hf rfl rfl hb38) rfl rfl ?_
      clear hf; intro a ha hf; clear ha
      refine st_pick (v := .bool (q33.2 != (0 : Int))) hf rfl rfl (fun hb' => ?_) (fun hb' => ?_) (by decide) ?_
      · exact absurd (hb38.symm.trans hb') (by decide)
      · rfl
      clear hf; intro a ha hf; clear ha
      refine st_nil hf (th_n ?_)
      exact ⟨hf.sub ⟨rfl, rfl, rfl, (by rw [hb38]; rfl), trivial⟩, hp⟩
    rintro a w ⟨hf, hp⟩
    refine st_nil hf ?_
    refine th_n ?_
    refine wp_if hf rfl (fun hb => ?_) (fun hb => ?_)
    · replace h := ifT h hb
      refine wp_seq ?_
      refine wp_reg ?_
      refine st_assign hf rfl rfl (by decide) ?_
      clear hf; intro a ha hf; clear ha
      refine st_assign hf rfl rfl (by decide) ?_
      clear hf; intro a ha hf; clear ha
      refine st_nil hf ?_
      refine th_n ?_
      refine wp_ret ?_
      refine th_r ?_
      obtain rfl := Option.some.inj h
      have hp := hp.nil Ek.bool 4
      have hp : Hp _ _ _ (Res.sl Ek.bool 4 (.slice none 0 0) ([]) :: ow) := Hp.sel (pre := [Res.sl Ek.bool 4 (.slice none 0 0) ([]), Res.sl Ek.bool 4 v10 q33.1, Res.obj 34 v1 [.int .i64 c0_Length, .int .u32 c0_One, .int .u32 c0_Two]]) (tail := ow) (rs' := [Res.sl Ek.bool 4 (.slice none 0 0) ([])]) hp [0] (by decide) (by simp) rfl
      exact ⟨rfl, ⟨_, hf.sub ⟨rfl, rfl, trivial⟩, hp⟩⟩
    replace h := ifF h hb
    refine wp_skip ?_
    refine th_n ?_
    refine wp_seq ?_
    refine wp_reg ?_
    refine st_move hf rfl rfl (by decide) ?_
    clear hf; intro a ha hf; clear ha
    refine st_move hf rfl rfl (by decide) ?_
    clear hf; intro a ha hf; clear ha
    refine st_fa (o' := 0) hf (by decide) (off := 0) (sz := 1) (by kernel_rfl) (by decide) rfl rfl (hp.ob (i := 1) rfl) rfl ?_
    clear hf; intro a ha hf; clear ha
    refine st_ldO (u := .int .i64 c0_Length) hf (by decide) pl3 rfl rfl (hp.ob (i := 1) rfl) rfl ?_
    clear hf; intro a ha hf; clear ha
    refine st_isub hf (by decide) rfl rfl rfl ?_
    clear hf; intro a ha hf; clear ha
    refine st_iadd hf (by decide) rfl rfl rfl ?_
    clear hf; intro a ha hf; clear ha
    obtain ⟨hc40, h⟩ := chk h
    have hc41 : 0 ≤ ((IntKind.i64.wrap ((IntKind.i64.wrap ((IntKind.i64.wrap (((coded1.length : Int)).tdiv (2 : Int))) - c0_Length)) + (1 : Int)))).toNat := by omega
    have hc42 : ((IntKind.i64.wrap ((IntKind.i64.wrap ((IntKind.i64.wrap (((coded1.length : Int)).tdiv (2 : Int))) - c0_Length)) + (1 : Int)))).toNat ≤ (q33.1 ++ ([] : List Bool)).length := by omega
    refine st_cutX (E := Ek.bool) hf (by decide) Try.underlying25 elt4 hp (i := 0) rfl rfl rfl (.inl ⟨rfl, rfl⟩) (.inr ⟨_, _, rfl, evI rfl (by omega)⟩) hc41 hc42 ?_
    clear hf; intro a ha hf; clear ha
    replace hp : Hp _ _ _ (Res.slx Ek.bool 4 (GL.cut v10 0 (((IntKind.i64.wrap ((IntKind.i64.wrap ((IntKind.i64.wrap (((coded1.length : Int)).tdiv (2 : Int))) - c0_Length)) + (1 : Int)))).toNat) 1) ((q33.1 ++ ([] : List Bool)).take (((IntKind.i64.wrap ((IntKind.i64.wrap ((IntKind.i64.wrap (((coded1.length : Int)).tdiv (2 : Int))) - c0_Length)) + (1 : Int)))).toNat)) ((q33.1 ++ ([] : List Bool)).drop (((IntKind.i64.wrap ((IntKind.i64.wrap ((IntKind.i64.wrap (((coded1.length : Int)).tdiv (2 : Int))) - c0_Length)) + (1 : Int)))).toNat)) :: Res.obj 34 v1 [.int .i64 c0_Length, .int .u32 c0_One, .int .u32 c0_Two] :: ow) := hp.cutOwn (i := 0) rfl hc42
    refine st_assign hf rfl rfl (by decide) ?_
    clear hf; intro a ha hf; clear ha
    refine st_assign hf rfl rfl (by decide) ?_
    clear hf; intro a ha hf; clear ha
    refine st_nil hf ?_
    refine th_n ?_
    refine wp_ret ?_
    obtain rfl := Option.some.inj h
    replace hp : Hp _ _ _ (Res.sl Ek.bool 4 (GL.cut v10 0 (((IntKind.i64.wrap ((IntKind.i64.wrap ((IntKind.i64.wrap (((coded1.length : Int)).tdiv (2 : Int))) - c0_Length)) + (1 : Int)))).toNat) 1) ((q33.1 ++ ([] : List Bool)).take (((IntKind.i64.wrap ((IntKind.i64.wrap ((IntKind.i64.wrap (((coded1.length : Int)).tdiv (2 : Int))) - c0_Length)) + (1 : Int)))).toNat)) :: Res.obj 34 v1 [.int .i64 c0_Length, .int .u32 c0_One, .int .u32 c0_Two] :: ow) := hp.forget (i := 0) rfl
    have hp : Hp _ _ _ (Res.sl Ek.bool 4 (GL.cut v10 0 (((IntKind.i64.wrap ((IntKind.i64.wrap ((IntKind.i64.wrap (((coded1.length : Int)).tdiv (2 : Int))) - c0_Length)) + (1 : Int)))).toNat) 1) ((q33.1 ++ ([] : List Bool)).take (((IntKind.i64.wrap ((IntKind.i64.wrap ((IntKind.i64.wrap (((coded1.length : Int)).tdiv (2 : Int))) - c0_Length)) + (1 : Int)))).toNat)) :: ow) := Hp.sel (pre := [Res.sl Ek.bool 4 (GL.cut v10 0 (((IntKind.i64.wrap ((IntKind.i64.wrap ((IntKind.i64.wrap (((coded1.length : Int)).tdiv (2 : Int))) - c0_Length)) + (1 : Int)))).toNat) 1) ((q33.1 ++ ([] : List Bool)).take (((IntKind.i64.wrap ((IntKind.i64.wrap ((IntKind.i64.wrap (((coded1.length : Int)).tdiv (2 : Int))) - c0_Length)) + (1 : Int)))).toNat)), Res.obj 34 v1 [.int .i64 c0_Length, .int .u32 c0_One, .int .u32 c0_Two]]) (tail := ow) (rs' := [Res.sl Ek.bool 4 (GL.cut v10 0 (((IntKind.i64.wrap ((IntKind.i64.wrap ((IntKind.i64.wrap (((coded1.length : Int)).tdiv (2 : Int))) - c0_Length)) + (1 : Int)))).toNat) 1) ((q33.1 ++ ([] : List Bool)).take (((IntKind.i64.wrap ((IntKind.i64.wrap ((IntKind.i64.wrap (((coded1.length : Int)).tdiv (2 : Int))) - c0_Length)) + (1 : Int)))).toNat))]) hp [0] (by decide) (by simp) rfl
    exact ⟨rfl, ⟨_, hf.sub ⟨rfl, rfl, trivial⟩, hp⟩⟩
  replace h := smR h
  obtain ⟨rfl, x0, hf, hp⟩ := hO
  refine ib_r ?_
  refine th_r ?_
  obtain rfl := Option.some.inj h
  exact ⟨rfl, ⟨_, hf.sub ⟨rfl, rfl, trivial⟩, hp⟩⟩

noncomputable def f_trellis_Code_state (c0_Length : Int) (c0_One : Int) (c0_Two : Int) (n1 : Int) : Option Int := ((f_trellis_Code_States c0_Length c0_One c0_Two).bind fun q3 => (if (((q3.2 != (0 : Int)) || (decide (n1 < (0 : Int)))) || (decide (q3.1 ≤ n1))) = true then (some (1 : Int)) else (some (0 : Int))))
theorem f_trellis_Code_state_c {S : Nat → Prop} {w0 w : World} {ow : List Res} (hp : Hp S w0 w ow) (c0_Length : Int) (c0_One : Int) (c0_Two : Int) (n1 : Int) {r : Int} (h : f_trellis_Code_state c0_Length c0_One c0_Two n1 = some r) :
    Calls Try.prog 40 #[.agg #[.int .i64 c0_Length, .int .u32 c0_One, .int .u32 c0_Two], .int .i64 n1] w (fun e w' => e = .returned (.int .i64 r) ∧ Hp S w0 w' (ow)) := by
  unfold f_trellis_Code_state at h
  refine enter (n := 23) (args := [.agg #[.int .i64 c0_Length, .int .u32 c0_One, .int .u32 c0_Two], .int .i64 n1]) Try.func40 rfl rfl (Nat.le_of_ble_eq_true rfl) fun a hf => ?_
  replace hf : Fr 23 a [(0, .agg #[.int .i64 c0_Length, .int .u32 c0_One, .int .u32 c0_Two]), (1, .int .i64 n1)] := hf
  refine wp_mono (Q := fun e a w => e = .ret ∧ Fr 23 a [(4, .int .i64 r)] ∧ Hp S w0 w (ow)) ?_ ?_
  rotate_left
  · rintro e a w ⟨rfl, hf, hp⟩
    exact ret1 hf rfl rfl ⟨rfl, hp⟩
  refine wp_seq ?_
  refine wp_reg ?_
  refine st_boxO (cs := [.int .i64 c0_Length, .int .u32 c0_One, .int .u32 c0_Two]) hf (by decide) hp rfl rfl rfl ?_
  clear hf; intro a w v1 hf hp0; clear hp; have hp := hp0; clear hp0
  replace hp : Hp _ _ _ (Res.obj 34 v1 [.int .i64 c0_Length, .int .u32 c0_One, .int .u32 c0_Two] :: ow) := hp
  refine st_assign hf rfl rfl (by decide) ?_
  clear hf; intro a ha hf; clear ha
  refine st_nil hf ?_
  refine th_n ?_
  refine wp_seq ?_
  refine wp_reg ?_
  refine st_ldOA (m := 3) (us := [.int .i64 c0_Length, .int .u32 c0_One, .int .u32 c0_Two]) hf (by decide) (by kernel_rfl) rfl rfl (hp.ob (i := 0) rfl) rfl rfl ?_
  clear hf; intro a ha hf; clear ha
  obtain ⟨q3, hcall4, h⟩ := bnd h
  refine st_call hf (by decide) Try.func15 rfl rfl rfl rfl rfl (f_trellis_Code_States_c hp _ _ _ hcall4) ?_
  rintro _ w ⟨rfl, hp0⟩
  clear hp; have hp := hp0; clear hp0
  replace hp : Hp _ _ _ (Res.obj 34 v1 [.int .i64 c0_Length, .int .u32 c0_One, .int .u32 c0_Two] :: ow) := hp
  refine ⟨_, rfl, ?_⟩
  clear hf; intro a hf
  refine st_move hf rfl rfl (by decide) ?_
  clear hf; intro a ha hf; clear ha
  refine st_extract hf (by decide) rfl rfl rfl ?_
  clear hf; intro a ha hf; clear ha
  refine st_extract hf (by decide) rfl rfl rfl ?_
  clear hf; intro a ha hf; clear ha
  refine st_assign hf rfl rfl (by decide) ?_
  clear hf; intro a ha hf; clear ha
  refine st_assign hf rfl rfl (by decide) ?_
  clear hf; intro a ha hf; clear ha
  refine st_nil hf ?_
  refine th_n ?_
  refine wp_seq ?_
  refine wp_seq ?_
  refine wp_reg ?_
  refine st_move hf rfl rfl (by decide) ?_
  clear hf; intro a ha hf; clear ha
  refine st_ineq hf (by decide) rfl rfl rfl ?_
  clear hf; intro a ha hf; clear ha
  refine st_move hf rfl rfl (by decide) ?_
  clear hf; intro a ha hf; clear ha
  refine wpList_cut 3 (fun a w => Fr 23 a [(1, .int .i64 n1), (5, .int .i64 q3.1), (17, .bool ((q3.2 != (0 : Int)) || (decide (n1 < (0 : Int)))))] ∧ Hp S w0 w (Res.obj 34 v1 [.int .i64 c0_Length, .int .u32 c0_One, .int .u32 c0_Two] :: ow)) ?_ ?_
  · rcases Bool.eq_false_or_eq_true (q3.2 != (0 : Int)) with hb6 | hb6
    · skip
      refine st_skip hf (wantN hf rfl rfl hb6) rfl (by decide) ?_ rfl
      clear hf; intro a hf
      refine st_skip hf (wantN hf rfl rfl hb6) rfl (by decide) ?_ rfl
      clear hf; intro a hf
      refine st_pick (v := .bool true) hf rfl rfl (fun hb' => ?_) (fun hb' => ?_) (by decide) ?_
      · rfl
      · exact absurd (hb6.symm.trans hb') (by decide)
      clear hf; intro a ha hf; clear ha
      refine st_nil hf (th_n ?_)
      exact ⟨hf.sub ⟨rfl, rfl, (by rw [hb6]; rfl), trivial⟩, hp⟩
    refine st_move hf (wantY hf rfl rfl hb6) rfl (by decide) ?_
    clear hf; intro a ha hf; clear ha
    refine st_ilss hf (by decide) (wantY hf rfl rfl hb6) rfl rfl ?_
    clear hf; intro a ha hf; clear ha
    refine st_pick (v := .bool (decide (n1 < (0 : Int)))) hf rfl rfl (fun hb' => ?_) (fun hb' => ?_) (by decide) ?_
    · exact absurd (hb6.symm.trans hb') (by decide)
    · rfl
    clear hf; intro a ha hf; clear ha
    refine st_nil hf (th_n ?_)
    exact ⟨hf.sub ⟨rfl, rfl, (by rw [hb6]; rfl), trivial⟩, hp⟩
  rintro a w ⟨hf, hp⟩
  refine st_move hf rfl rfl (by decide) ?_
  clear hf; intro a ha hf; clear ha
  refine wpList_cut 4 (fun a w => Fr 23 a [(22, .bool (((q3.2 != (0 : Int)) || (decide (n1 < (0 : Int)))) || (decide (q3.1 ≤ n1))))] ∧ Hp S w0 w (Res.obj 34 v1 [.int .i64 c0_Length, .int .u32 c0_One, .int .u32 c0_Two] :: ow)) ?_ ?_
  · rcases Bool.eq_false_or_eq_true ((q3.2 != (0 : Int)) || (decide (n1 < (0 : Int)))) with hb8 | hb8
    · skip
      refine st_skip hf (wantN hf rfl rfl hb8) rfl (by decide) ?_ rfl
      clear hf; intro a hf
      refine st_skip hf (wantN hf rfl rfl hb8) rfl (by decide) ?_ rfl
      clear hf; intro a hf
      refine st_skip hf (wantN hf rfl rfl hb8) rfl (by decide) ?_ rfl
      clear hf; intro a hf
      refine st_pick (v := .bool true) hf rfl rfl (fun hb' => ?_) (fun hb' => ?_) (by decide) ?_
      · rfl
      · exact absurd (hb8.symm.trans hb') (by decide)
      clear hf; intro a ha hf; clear ha
      refine st_nil hf (th_n ?_)
      exact ⟨hf.sub ⟨(by rw [hb8]; rfl), trivial⟩, hp⟩
    refine st_move hf (wantY hf rfl rfl hb8) rfl (by decide) ?_
    clear hf; intro a ha hf; clear ha
    refine st_move hf (wantY hf rfl rfl hb8) rfl (by decide) ?_
    clear hf; intro a ha hf; clear ha
    refine st_igeq hf (by decide) (wantY hf rfl rfl hb8) rfl rfl ?_
    clear hf; intro a ha hf; clear ha
    refine st_pick (v := .bool (decide (q3.1 ≤ n1))) hf rfl rfl (fun hb' => ?_) (fun hb' => ?_) (by decide) ?_
    · exact absurd (hb8.symm.trans hb') (by decide)
    · rfl
    clear hf; intro a ha hf; clear ha
    refine st_nil hf (th_n ?_)
    exact ⟨hf.sub ⟨(by rw [hb8]; rfl), trivial⟩, hp⟩
  rintro a w ⟨hf, hp⟩
  refine st_nil hf ?_
  refine th_n ?_
  refine wp_if hf rfl (fun hb => ?_) (fun hb => ?_)
  · replace h := ifT h hb
    refine wp_seq ?_
    refine wp_reg ?_
    refine st_assign hf rfl rfl (by decide) ?_
    clear hf; intro a ha hf; clear ha
    refine st_nil hf ?_
    refine th_n ?_
    refine wp_ret ?_
    refine th_r ?_
    obtain rfl := Option.some.inj h
    have hp : Hp _ _ _ (ow) := Hp.sel (pre := [Res.obj 34 v1 [.int .i64 c0_Length, .int .u32 c0_One, .int .u32 c0_Two]]) (tail := ow) (rs' := []) hp [] (by decide) (by simp) rfl
    exact ⟨rfl, ⟨hf.sub ⟨rfl, trivial⟩, hp⟩⟩
  replace h := ifF h hb
  refine wp_skip ?_
  refine th_n ?_
  refine wp_seq ?_
  refine wp_reg ?_
  refine st_assign hf rfl rfl (by decide) ?_
  clear hf; intro a ha hf; clear ha
  refine st_nil hf ?_
  refine th_n ?_
  refine wp_ret ?_
  obtain rfl := Option.some.inj h
  have hp : Hp _ _ _ (ow) := Hp.sel (pre := [Res.obj 34 v1 [.int .i64 c0_Length, .int .u32 c0_One, .int .u32 c0_Two]]) (tail := ow) (rs' := []) hp [] (by decide) (by simp) rfl
  exact ⟨rfl, ⟨hf.sub ⟨rfl, trivial⟩, hp⟩⟩

noncomputable def f_trellis_Code_Step (c0_Length : Int) (c0_One : Int) (c0_Two : Int) (state1 : Int) (bit2 : Bool) : Option (Int × Bool × Bool × Int) := ((f_trellis_Code_state c0_Length c0_One c0_Two state1).bind fun q3 => (if (q3 != (0 : Int)) = true then (some ((0 : Int), false, false, q3)) else ((f_trellis_Code_step c0_Length c0_One c0_Two state1 bit2).bind fun q5 => (some (q5.1, q5.2.1, q5.2.2, (0 : Int))))))
theorem f_trellis_Code_Step_c {S : Nat → Prop} {w0 w : World} {ow : List Res} (hp : Hp S w0 w ow) (c0_Length : Int) (c0_One : Int) (c0_Two : Int) (state1 : Int) (bit2 : Bool) {r : (Int × Bool × Bool × Int)} (h : f_trellis_Code_Step c0_Length c0_One c0_Two state1 bit2 = some r) :
    Calls Try.prog 16 #[.agg #[.int .i64 c0_Length, .int .u32 c0_One, .int .u32 c0_Two], .int .i64 state1, .bool bit2] w (fun e w' => e = .returned (.tuple #[.int .i64 r.1, .bool r.2.1, .bool r.2.2.1, .int .i64 r.2.2.2]) ∧ Hp S w0 w' (ow)) := by
  unfold f_trellis_Code_Step at h
  refine enter (n := 28) (args := [.agg #[.int .i64 c0_Length, .int .u32 c0_One, .int .u32 c0_Two], .int .i64 state1, .bool bit2]) Try.func16 rfl rfl (Nat.le_of_ble_eq_true rfl) fun a hf => ?_
  replace hf : Fr 28 a [(0, .agg #[.int .i64 c0_Length, .int .u32 c0_One, .int .u32 c0_Two]), (1, .int .i64 state1), (2, .bool bit2)] := hf
  refine wp_mono (Q := fun e a w => e = .ret ∧ Fr 28 a [(6, .int .i64 r.1), (7, .bool r.2.1), (8, .bool r.2.2.1), (9, .int .i64 r.2.2.2)] ∧ Hp S w0 w (ow)) ?_ ?_
  rotate_left
  · rintro e a w ⟨rfl, hf, hp⟩
    exact ret4 hf rfl rfl rfl rfl rfl ⟨rfl, hp⟩
  refine wp_seq ?_
  refine wp_reg ?_
  refine st_boxO (cs := [.int .i64 c0_Length, .int .u32 c0_One, .int .u32 c0_Two]) hf (by decide) hp rfl rfl rfl ?_
  clear hf; intro a w v1 hf hp0; clear hp; have hp := hp0; clear hp0
  replace hp : Hp _ _ _ (Res.obj 34 v1 [.int .i64 c0_Length, .int .u32 c0_One, .int .u32 c0_Two] :: ow) := hp
  refine st_assign hf rfl rfl (by decide) ?_
  clear hf; intro a ha hf; clear ha
  refine st_assign hf rfl rfl (by decide) ?_
  clear hf; intro a ha hf; clear ha
  refine st_assign hf rfl rfl (by decide) ?_
  clear hf; intro a ha hf; clear ha
  refine st_assign hf rfl rfl (by decide) ?_
  clear hf; intro a ha hf; clear ha
  refine st_nil hf ?_
  refine th_n ?_
  refine wp_seq ?_
  refine wp_seq ?_
  refine wp_reg ?_
  refine st_ldOA (m := 3) (us := [.int .i64 c0_Length, .int .u32 c0_One, .int .u32 c0_Two]) hf (by decide) (by kernel_rfl) rfl rfl (hp.ob (i := 0) rfl) rfl rfl ?_
  clear hf; intro a ha hf; clear ha
  refine st_move hf rfl rfl (by decide) ?_
  clear hf; intro a ha hf; clear ha
  obtain ⟨q3, hcall4, h⟩ := bnd h
  refine st_call hf (by decide) Try.func40 rfl rfl rfl rfl rfl (f_trellis_Code_state_c hp _ _ _ _ hcall4) ?_
  rintro _ w ⟨rfl, hp0⟩
  clear hp; have hp := hp0; clear hp0
  replace hp : Hp _ _ _ (Res.obj 34 v1 [.int .i64 c0_Length, .int .u32 c0_One, .int .u32 c0_Two] :: ow) := hp
  refine ⟨_, rfl, ?_⟩
  clear hf; intro a hf
  refine st_assign hf rfl rfl (by decide) ?_
  clear hf; intro a ha hf; clear ha
  refine st_nil hf ?_
  refine th_n ?_
  refine wp_seq ?_
  refine wp_reg ?_
  refine st_move hf rfl rfl (by decide) ?_
  clear hf; intro a ha hf; clear ha
  refine st_ineq hf (by decide) rfl rfl rfl ?_
  clear hf; intro a ha hf; clear ha
  refine st_nil hf ?_
  refine th_n ?_
  refine wp_if hf rfl (fun hb => ?_) (fun hb => ?_)
  · replace h := ifT h hb
    refine wp_seq ?_
    refine wp_reg ?_
    refine st_move hf rfl rfl (by decide) ?_
    clear hf; intro a ha hf; clear ha
    refine st_assign hf rfl rfl (by decide) ?_
    clear hf; intro a ha hf; clear ha
    refine st_assign hf rfl rfl (by decide) ?_
    clear hf; intro a ha hf; clear ha
    refine st_assign hf rfl rfl (by decide) ?_
    clear hf; intro a ha hf; clear ha
    refine st_assign hf rfl rfl (by decide) ?_
    clear hf; intro a ha hf; clear ha
    refine st_nil hf ?_
    refine th_n ?_
    refine wp_ret ?_
    refine th_r ?_
    obtain rfl := Option.some.inj h
    have hp : Hp _ _ _ (ow) := Hp.sel (pre := [Res.obj 34 v1 [.int .i64 c0_Length, .int .u32 c0_One, .int .u32 c0_Two]]) (tail := ow) (rs' := []) hp [] (by decide) (by simp) rfl
    exact ⟨rfl, ⟨hf.sub ⟨rfl, rfl, rfl, rfl, trivial⟩, hp⟩⟩
  replace h := ifF h hb
  refine wp_skip ?_
  refine th_n ?_
  refine wp_seq ?_
  refine wp_reg ?_
  refine st_ldOA (m := 3) (us := [.int .i64 c0_Length, .int .u32 c0_One, .int .u32 c0_Two]) hf (by decide) (by kernel_rfl) rfl rfl (hp.ob (i := 0) rfl) rfl rfl ?_
  clear hf; intro a ha hf; clear ha
  refine st_move hf rfl rfl (by decide) ?_
  clear hf; intro a ha hf; clear ha
  refine st_move hf rfl rfl (by decide) ?_
  clear hf; intro a ha hf; clear ha
  obtain ⟨q5, hcall6, h⟩ := bnd h
  refine st_call hf (by decide) Try.func37 rfl rfl rfl rfl rfl (f_trellis_Code_step_c hp _ _ _ _ _ hcall6) ?_
  rintro _ w ⟨rfl, hp0⟩
  clear hp; have hp := hp0; clear hp0
  replace hp : Hp _ _ _ (Res.obj 34 v1 [.int .i64 c0_Length, .int .u32 c0_One, .int .u32 c0_Two] :: ow) := hp
  refine ⟨_, rfl, ?_⟩
  clear hf; intro a hf
  refine st_move hf rfl rfl (by decide) ?_
  clear hf; intro a ha hf; clear ha
  refine st_extract hf (by decide) rfl rfl rfl ?_
  clear hf; intro a ha hf; clear ha
  refine st_extract hf (by decide) rfl rfl rfl ?_
  clear hf; intro a ha hf; clear ha
  refine st_extract hf (by decide) rfl rfl rfl ?_
  clear hf; intro a ha hf; clear ha
  refine st_assign hf rfl rfl (by decide) ?_
  clear hf; intro a ha hf; clear ha
  refine st_assign hf rfl rfl (by decide) ?_
  clear hf; intro a ha hf; clear ha
  refine st_assign hf rfl rfl (by decide) ?_
  clear hf; intro a ha hf; clear ha
  refine st_nil hf ?_
  refine th_n ?_
  refine wp_seq ?_
  refine wp_reg ?_
  refine st_move hf rfl rfl (by decide) ?_
  clear hf; intro a ha hf; clear ha
  refine st_move hf rfl rfl (by decide) ?_
  clear hf; intro a ha hf; clear ha
  refine st_move hf rfl rfl (by decide) ?_
  clear hf; intro a ha hf; clear ha
  refine st_assign hf rfl rfl (by decide) ?_
  clear hf; intro a ha hf; clear ha
  refine st_assign hf rfl rfl (by decide) ?_
  clear hf; intro a ha hf; clear ha
  refine st_assign hf rfl rfl (by decide) ?_
  clear hf; intro a ha hf; clear ha
  refine st_assign hf rfl rfl (by decide) ?_
  clear hf; intro a ha hf; clear ha
  refine st_nil hf ?_
  refine th_n ?_
  refine wp_ret ?_
  obtain rfl := Option.some.inj h
  have hp : Hp _ _ _ (ow) := Hp.sel (pre := [Res.obj 34 v1 [.int .i64 c0_Length, .int .u32 c0_One, .int .u32 c0_Two]]) (tail := ow) (rs' := []) hp [] (by decide) (by simp) rfl
  exact ⟨rfl, ⟨hf.sub ⟨rfl, rfl, rfl, rfl, trivial⟩, hp⟩⟩

noncomputable def f_trellis_Code_From (c0_Length : Int) (c0_One : Int) (c0_Two : Int) (state1 : Int) : Option ((Int × Int) × Int) := ((f_trellis_Code_state c0_Length c0_One c0_Two state1).bind fun q5 => (if (q5 != (0 : Int)) = true then (some (((0 : Int), (0 : Int)), q5)) else (if 0 ≤ (IntKind.i64.wrap (c0_Length - (1 : Int))) then (some (((iand .i64 (ishl .i64 state1 (1 : Int)) (IntKind.i64.wrap ((ishl .i64 (1 : Int) (IntKind.i64.wrap (c0_Length - (1 : Int)))) - (1 : Int)))), (IntKind.i64.wrap ((iand .i64 (ishl .i64 state1 (1 : Int)) (IntKind.i64.wrap ((ishl .i64 (1 : Int) (IntKind.i64.wrap (c0_Length - (1 : Int)))) - (1 : Int)))) + (1 : Int)))), (0 : Int))) else none)))
theorem f_trellis_Code_From_c {S : Nat → Prop} {w0 w : World} {ow : List Res} (hp : Hp S w0 w ow) (c0_Length : Int) (c0_One : Int) (c0_Two : Int) (state1 : Int) {r : ((Int × Int) × Int)} (h : f_trellis_Code_From c0_Length c0_One c0_Two state1 = some r) :
    Calls Try.prog 17 #[.agg #[.int .i64 c0_Length, .int .u32 c0_One, .int .u32 c0_Two], .int .i64 state1] w (fun e w' => e = .returned (.tuple #[.agg #[.int .i64 r.1.1, .int .i64 r.1.2], .int .i64 r.2]) ∧ Hp S w0 w' (ow)) := by
  unfold f_trellis_Code_From at h
  refine enter (n := 27) (args := [.agg #[.int .i64 c0_Length, .int .u32 c0_One, .int .u32 c0_Two], .int .i64 state1]) Try.func17 rfl rfl (Nat.le_of_ble_eq_true rfl) fun a hf => ?_
  replace hf : Fr 27 a [(0, .agg #[.int .i64 c0_Length, .int .u32 c0_One, .int .u32 c0_Two]), (1, .int .i64 state1)] := hf
  refine wp_mono (Q := fun e a w => e = .ret ∧ ∃ (c0 : Value), Fr 27 a [(4, optr c0 0), (5, .int .i64 r.2)] ∧ Hp S w0 w (Res.obj 46 c0 [.int .i64 r.1.1, .int .i64 r.1.2] :: ow)) ?_ ?_
  rotate_left
  · rintro e a w ⟨rfl, c0, hf, hp⟩
    exact retG2 hf rfl ⟨_, _, rfl, hp.ob (i := 0) rfl, .inr ⟨by kernel_rfl, rfl⟩⟩ rfl ⟨rfl, hp.drop⟩
  refine wp_seq ?_
  refine wp_reg ?_
  refine st_boxO (cs := [.int .i64 c0_Length, .int .u32 c0_One, .int .u32 c0_Two]) hf (by decide) hp rfl rfl rfl ?_
  clear hf; intro a w v1 hf hp0; clear hp; have hp := hp0; clear hp0
  replace hp : Hp _ _ _ (Res.obj 34 v1 [.int .i64 c0_Length, .int .u32 c0_One, .int .u32 c0_Two] :: ow) := hp
  refine st_alloc (cs := [.int .i64 (0 : Int), .int .i64 (0 : Int)]) (zv := .agg #[.int .i64 (0 : Int), .int .i64 (0 : Int)]) hf (by decide) (by kernel_rfl) rfl hp rfl ?_
  clear hf; intro a w v3 hf hp0; clear hp; have hp := hp0; clear hp0
  replace hp : Hp _ _ _ (Res.obj 46 v3 [.int .i64 (0 : Int), .int .i64 (0 : Int)] :: Res.obj 34 v1 [.int .i64 c0_Length, .int .u32 c0_One, .int .u32 c0_Two] :: ow) := hp
  refine st_assign hf rfl rfl (by decide) ?_
  clear hf; intro a ha hf; clear ha
  refine st_nil hf ?_
  refine th_n ?_
  refine wp_seq ?_
  refine wp_seq ?_
  refine wp_reg ?_
  refine st_ldOA (m := 3) (us := [.int .i64 c0_Length, .int .u32 c0_One, .int .u32 c0_Two]) hf (by decide) (by kernel_rfl) rfl rfl (hp.ob (i := 1) rfl) rfl rfl ?_
  clear hf; intro a ha hf; clear ha
  refine st_move hf rfl rfl (by decide) ?_
  clear hf; intro a ha hf; clear ha
  obtain ⟨q5, hcall6, h⟩ := bnd h
  refine st_call hf (by decide) Try.func40 rfl rfl rfl rfl rfl (f_trellis_Code_state_c hp _ _ _ _ hcall6) ?_
  rintro _ w ⟨rfl, hp0⟩
  clear hp; have hp := hp0; clear hp0
  replace hp : Hp _ _ _ (Res.obj 46 v3 [.int .i64 (0 : Int), .int .i64 (0 : Int)] :: Res.obj 34 v1 [.int .i64 c0_Length, .int .u32 c0_One, .int .u32 c0_Two] :: ow) := hp
  refine ⟨_, rfl, ?_⟩
  clear hf; intro a hf
  refine st_assign hf rfl rfl (by decide) ?_
  clear hf; intro a ha hf; clear ha
  refine st_nil hf ?_
  refine th_n ?_
  refine wp_seq ?_
  refine wp_reg ?_
  refine st_move hf rfl rfl (by decide) ?_
  clear hf; intro a ha hf; clear ha
  refine st_ineq hf (by decide) rfl rfl rfl ?_
  clear hf; intro a ha hf; clear ha
  refine st_nil hf ?_
  refine th_n ?_
  refine wp_if hf rfl (fun hb => ?_) (fun hb => ?_)
  · replace h := ifT h hb
    refine wp_seq ?_
    refine wp_reg ?_
    refine st_buildA (vals := []) (cells := [.int .i64 (0 : Int), .int .i64 (0 : Int)]) hf (by decide) rfl (by simp []) (fun w => by kernel_rfl) ?_
    clear hf; intro a ha hf; clear ha
    refine st_move hf rfl rfl (by decide) ?_
    clear hf; intro a ha hf; clear ha
    refine st_stO (us := [.int .i64 (0 : Int), .int .i64 (0 : Int)]) hf hp (i := 0) rfl rfl rfl rfl rfl (by rfl) (by kernel_rfl) (Nat.le_of_ble_eq_true rfl) ?_
    clear hf; intro a w hf hp0; clear hp; have hp := hp0; clear hp0
    replace hp : Hp _ _ _ (Res.obj 46 v3 [.int .i64 (0 : Int), .int .i64 (0 : Int)] :: Res.obj 34 v1 [.int .i64 c0_Length, .int .u32 c0_One, .int .u32 c0_Two] :: ow) := hp
    refine st_assign hf rfl rfl (by decide) ?_
    clear hf; intro a ha hf; clear ha
    refine st_nil hf ?_
    refine th_n ?_
    refine wp_ret ?_
    refine th_r ?_
    obtain rfl := Option.some.inj h
    have hp : Hp _ _ _ (Res.obj 46 v3 [.int .i64 (0 : Int), .int .i64 (0 : Int)] :: ow) := Hp.sel (pre := [Res.obj 46 v3 [.int .i64 (0 : Int), .int .i64 (0 : Int)], Res.obj 34 v1 [.int .i64 c0_Length, .int .u32 c0_One, .int .u32 c0_Two]]) (tail := ow) (rs' := [Res.obj 46 v3 [.int .i64 (0 : Int), .int .i64 (0 : Int)]]) hp [0] (by decide) (by simp) rfl
    exact ⟨rfl, ⟨_, hf.sub ⟨rfl, rfl, trivial⟩, hp⟩⟩
  replace h := ifF h hb
  refine wp_skip ?_
  refine th_n ?_
  refine wp_seq ?_
  refine wp_reg ?_
  refine st_move hf rfl rfl (by decide) ?_
  clear hf; intro a ha hf; clear ha
  refine st_ishl hf (by decide) rfl rfl rfl (by decide) ?_
  clear hf; intro a ha hf; clear ha
  refine st_fa (o' := 0) hf (by decide) (off := 0) (sz := 1) (by kernel_rfl) (by decide) rfl rfl (hp.ob (i := 1) rfl) rfl ?_
  clear hf; intro a ha hf; clear ha
  refine st_ldO (u := .int .i64 c0_Length) hf (by decide) pl3 rfl rfl (hp.ob (i := 1) rfl) rfl ?_
  clear hf; intro a ha hf; clear ha
  refine st_isub hf (by decide) rfl rfl rfl ?_
  clear hf; intro a ha hf; clear ha
  obtain ⟨hc7, h⟩ := chk h
  refine st_ishl hf (by decide) rfl rfl rfl hc7 ?_
  clear hf; intro a ha hf; clear ha
  refine st_isub hf (by decide) rfl rfl rfl ?_
  clear hf; intro a ha hf; clear ha
  refine st_iand hf (by decide) rfl rfl rfl ?_
  clear hf; intro a ha hf; clear ha
  refine st_assign hf rfl rfl (by decide) ?_
  clear hf; intro a ha hf; clear ha
  refine st_nil hf ?_
  refine th_n ?_
  refine wp_seq ?_
  refine wp_reg ?_
  refine st_move hf rfl rfl (by decide) ?_
  clear hf; intro a ha hf; clear ha
  refine st_move hf rfl rfl (by decide) ?_
  clear hf; intro a ha hf; clear ha
  refine st_iadd hf (by decide) rfl rfl rfl ?_
  clear hf; intro a ha hf; clear ha
  refine st_buildA (vals := [(0, .int .i64 (iand .i64 (ishl .i64 state1 (1 : Int)) (IntKind.i64.wrap ((ishl .i64 (1 : Int) (IntKind.i64.wrap (c0_Length - (1 : Int)))) - (1 : Int))))), (1, .int .i64 (IntKind.i64.wrap ((iand .i64 (ishl .i64 state1 (1 : Int)) (IntKind.i64.wrap ((ishl .i64 (1 : Int) (IntKind.i64.wrap (c0_Length - (1 : Int)))) - (1 : Int)))) + (1 : Int))))]) (cells := [.int .i64 (iand .i64 (ishl .i64 state1 (1 : Int)) (IntKind.i64.wrap ((ishl .i64 (1 : Int) (IntKind.i64.wrap (c0_Length - (1 : Int)))) - (1 : Int)))), .int .i64 (IntKind.i64.wrap ((iand .i64 (ishl .i64 state1 (1 : Int)) (IntKind.i64.wrap ((ishl .i64 (1 : Int) (IntKind.i64.wrap (c0_Length - (1 : Int)))) - (1 : Int)))) + (1 : Int)))]) hf (by decide) rfl (by simp [hf.ev (x := (Operand.tmp 23)) rfl, hf.ev (x := (Operand.tmp 25)) rfl]) (fun w => by kernel_rfl) ?_
  clear hf; intro a ha hf; clear ha
  refine st_stO (us := [.int .i64 (iand .i64 (ishl .i64 state1 (1 : Int)) (IntKind.i64.wrap ((ishl .i64 (1 : Int) (IntKind.i64.wrap (c0_Length - (1 : Int)))) - (1 : Int)))), .int .i64 (IntKind.i64.wrap ((iand .i64 (ishl .i64 state1 (1 : Int)) (IntKind.i64.wrap ((ishl .i64 (1 : Int) (IntKind.i64.wrap (c0_Length - (1 : Int)))) - (1 : Int)))) + (1 : Int)))]) hf hp (i := 0) rfl rfl rfl rfl rfl (by rfl) (by kernel_rfl) (Nat.le_of_ble_eq_true rfl) ?_
  clear hf; intro a w hf hp0; clear hp; have hp := hp0; clear hp0
  replace hp : Hp _ _ _ (Res.obj 46 v3 [.int .i64 (iand .i64 (ishl .i64 state1 (1 : Int)) (IntKind.i64.wrap ((ishl .i64 (1 : Int) (IntKind.i64.wrap (c0_Length - (1 : Int)))) - (1 : Int)))), .int .i64 (IntKind.i64.wrap ((iand .i64 (ishl .i64 state1 (1 : Int)) (IntKind.i64.wrap ((ishl .i64 (1 : Int) (IntKind.i64.wrap (c0_Length - (1 : Int)))) - (1 : Int)))) + (1 : Int)))] :: Res.obj 34 v1 [.int .i64 c0_Length, .int .u32 c0_One, .int .u32 c0_Two] :: ow) := hp
  refine st_assign hf rfl rfl (by decide) ?_
  clear hf; intro a ha hf; clear ha
  refine st_nil hf ?_
  refine th_n ?_
  refine wp_ret ?_
  obtain rfl := Option.some.inj h
  have hp : Hp _ _ _ (Res.obj 46 v3 [.int .i64 (iand .i64 (ishl .i64 state1 (1 : Int)) (IntKind.i64.wrap ((ishl .i64 (1 : Int) (IntKind.i64.wrap (c0_Length - (1 : Int)))) - (1 : Int)))), .int .i64 (IntKind.i64.wrap ((iand .i64 (ishl .i64 state1 (1 : Int)) (IntKind.i64.wrap ((ishl .i64 (1 : Int) (IntKind.i64.wrap (c0_Length - (1 : Int)))) - (1 : Int)))) + (1 : Int)))] :: ow) := Hp.sel (pre := [Res.obj 46 v3 [.int .i64 (iand .i64 (ishl .i64 state1 (1 : Int)) (IntKind.i64.wrap ((ishl .i64 (1 : Int) (IntKind.i64.wrap (c0_Length - (1 : Int)))) - (1 : Int)))), .int .i64 (IntKind.i64.wrap ((iand .i64 (ishl .i64 state1 (1 : Int)) (IntKind.i64.wrap ((ishl .i64 (1 : Int) (IntKind.i64.wrap (c0_Length - (1 : Int)))) - (1 : Int)))) + (1 : Int)))], Res.obj 34 v1 [.int .i64 c0_Length, .int .u32 c0_One, .int .u32 c0_Two]]) (tail := ow) (rs' := [Res.obj 46 v3 [.int .i64 (iand .i64 (ishl .i64 state1 (1 : Int)) (IntKind.i64.wrap ((ishl .i64 (1 : Int) (IntKind.i64.wrap (c0_Length - (1 : Int)))) - (1 : Int)))), .int .i64 (IntKind.i64.wrap ((iand .i64 (ishl .i64 state1 (1 : Int)) (IntKind.i64.wrap ((ishl .i64 (1 : Int) (IntKind.i64.wrap (c0_Length - (1 : Int)))) - (1 : Int)))) + (1 : Int)))]]) hp [0] (by decide) (by simp) rfl
  exact ⟨rfl, ⟨_, hf.sub ⟨rfl, rfl, trivial⟩, hp⟩⟩

noncomputable def f_foghornref21_Same.s1c (a0 : (List Bool)) (b1 : (List Bool)) (i5 : Int) : Option (Int ⊕ (Unit ⊕ Bool)) := (if (decide (i5 < (a0.length : Int))) = true then (if 0 ≤ i5 ∧ i5 < (a0.length : Int) then (if 0 ≤ i5 ∧ i5 < (b1.length : Int) then (if ((gt a0 i5) != (gt b1 i5)) = true then (some (Sum.inr (Sum.inr false))) else (some (Sum.inl (IntKind.i64.wrap (i5 + (1 : Int)))))) else none) else none) else (some (Sum.inr (Sum.inl ()))))
noncomputable def f_foghornref21_Same.s1 (a0 : (List Bool)) (b1 : (List Bool)) (s : Int) : Option (Int ⊕ (Unit ⊕ Bool)) := f_foghornref21_Same.s1c a0 b1 s
noncomputable def f_foghornref21_Same (a0 : (List Bool)) (b1 : (List Bool)) : Option Bool := (if ((a0.length : Int) != (b1.length : Int)) = true then (some false) else ((loop (f_foghornref21_Same.s1 a0 b1) (0 : Int)).bind (fun q3 => sm q3 (fun q4 => (some true)) (fun q5 => (some q5)))))
theorem f_foghornref21_Same_c {S : Nat → Prop} {w0 w : World} {ow : List Res} (hp : Hp S w0 w ow) (va0 : Value) (a0 : (List Bool)) (ha0 : RdS Ek.bool S w0 va0 a0) (vb1 : Value) (b1 : (List Bool)) (hb1 : RdS Ek.bool S w0 vb1 b1) {r : Bool} (h : f_foghornref21_Same a0 b1 = some r) :
    Calls Try.prog 33 #[va0, vb1] w (fun e w' => e = .returned (.bool r) ∧ Hp S w0 w' (ow)) := by
  unfold f_foghornref21_Same at h
  refine enter (n := 26) (args := [va0, vb1]) Try.func33 rfl rfl (Nat.le_of_ble_eq_true rfl) fun a hf => ?_
  replace hf : Fr 26 a [(0, va0), (1, vb1)] := hf
  refine wp_mono (Q := fun e a w => e = .ret ∧ Fr 26 a [(4, .bool r)] ∧ Hp S w0 w (ow)) ?_ ?_
  rotate_left
  · rintro e a w ⟨rfl, hf, hp⟩
    exact ret1 hf rfl rfl ⟨rfl, hp⟩
  refine wp_seq ?_
  refine wp_reg ?_
  refine st_assign hf rfl rfl (by decide) ?_
  clear hf; intro a ha hf; clear ha
  refine st_nil hf ?_
  refine th_n ?_
  refine wp_seq ?_
  refine wp_seq ?_
  refine wp_reg ?_
  refine st_move hf rfl rfl (by decide) ?_
  clear hf; intro a ha hf; clear ha
  refine st_len (E := Ek.bool) hf (by decide) Try.underlying25 rfl rfl (ha0.sl hp) ?_
  clear hf; intro a ha hf; clear ha
  refine st_move hf rfl rfl (by decide) ?_
  clear hf; intro a ha hf; clear ha
  refine st_len (E := Ek.bool) hf (by decide) Try.underlying25 rfl rfl (hb1.sl hp) ?_
  clear hf; intro a ha hf; clear ha
  refine st_ineq hf (by decide) rfl rfl rfl ?_
  clear hf; intro a ha hf; clear ha
  refine st_nil hf ?_
  refine th_n ?_
  refine wp_if hf rfl (fun hb => ?_) (fun hb => ?_)
  · replace h := ifT h hb
    refine wp_seq ?_
    refine wp_reg ?_
    refine st_assign hf rfl rfl (by decide) ?_
    clear hf; intro a ha hf; clear ha
    refine st_nil hf ?_
    refine th_n ?_
    refine wp_ret ?_
    refine th_r ?_
    obtain rfl := Option.some.inj h
    exact ⟨rfl, ⟨hf.sub ⟨rfl, trivial⟩, hp⟩⟩
  replace h := ifF h hb
  refine wp_skip ?_
  refine th_n ?_
  refine wp_seq ?_
  refine wp_seq ?_
  refine wp_reg ?_
  refine st_assign hf rfl rfl (by decide) ?_
  clear hf; intro a ha hf; clear ha
  refine st_nil hf ?_
  refine th_n ?_
  refine wp_block ?_
  obtain ⟨q3, hl, h⟩ := bnd h
  refine wp_loop_pure (f := (f_foghornref21_Same.s1 a0 b1)) (s := (0 : Int)) (fun s a w => Fr 26 a [(0, va0), (1, vb1), (5, .int .i64 s)] ∧ Hp S w0 w (ow)) (fun q e a w => match q with | (Sum.inl q) => e = .exit 0 ∧ Fr 26 a [] ∧ Hp S w0 w (ow) | (Sum.inr q) => e = .ret ∧ Fr 26 a [(4, .bool q)] ∧ Hp S w0 w (ow)) ?_ hl ⟨hf.sub ⟨rfl, rfl, rfl, trivial⟩, hp⟩ ?_
  · clear hl hf hp
    intro s x a w h hI
    obtain ⟨i5, hs⟩ : ∃ z, z = s := ⟨s, rfl⟩; subst hs
    obtain ⟨hf, hp⟩ : Fr 26 a [(0, va0), (1, vb1), (5, .int .i64 i5)] ∧ Hp S w0 w (ow) := hI
    replace h : f_foghornref21_Same.s1c a0 b1 i5 = some x := h
    unfold f_foghornref21_Same.s1c at h
    refine wp_seq ?_
    refine wp_seq ?_
    refine wp_reg ?_
    refine st_move hf rfl rfl (by decide) ?_
    clear hf; intro a ha hf; clear ha
    refine st_move hf rfl rfl (by decide) ?_
    clear hf; intro a ha hf; clear ha
    refine st_len (E := Ek.bool) hf (by decide) Try.underlying25 rfl rfl (ha0.sl hp) ?_
    clear hf; intro a ha hf; clear ha
    refine st_ilss hf (by decide) rfl rfl rfl ?_
    clear hf; intro a ha hf; clear ha
    refine st_nil hf ?_
    refine th_n ?_
    refine wp_if hf rfl (fun hb => ?_) (fun hb => ?_)
    · replace h := ifT h hb
      refine wp_skip ?_
      refine th_n ?_
      refine wp_seq ?_
      refine wp_block ?_
      refine wp_seq ?_
      obtain ⟨hc1, h⟩ := chk h
      obtain ⟨hc2, h⟩ := chk h
      refine wp_cutN (fun a w => Fr 26 a [(0, va0), (1, vb1), (5, .int .i64 i5), (25, .bool ((gt a0 i5) != (gt b1 i5)))] ∧ Hp S w0 w (ow)) ?_ ?_
      · have hp := hp.same (Same.drew w)
        refine dr_begin' (fun a w => Fr 26 a [(0, va0), (1, vb1), (5, .int .i64 i5), (25, .bool ((gt a0 i5) != (gt b1 i5)))] ∧ Hp S w0 w (ow)) (fun w' => ∃ l, Hp S w0 w' l) [] (by kernel_rfl) ?_
        refine dr_take 0 (va0) rfl (by kernel_rfl) (by kernel_rfl) (by kernel_rfl) (by kernel_rfl) rfl rfl hf (by decide) rfl (fun w hp => ?_) ⟨_, hp⟩ ?_
        · obtain ⟨_, hp⟩ := hp
          refine st_move hf rfl rfl (by decide) ?_
          clear hf; intro a ha hf
          exact st_nil hf (th_n ⟨ha, rfl⟩)
        clear hf; intro a hf
        refine dr_take 1 (.int .i64 i5) rfl (by kernel_rfl) (by kernel_rfl) (by kernel_rfl) (by kernel_rfl) rfl rfl hf (by decide) rfl (fun w hp => ?_) ⟨_, hp⟩ ?_
        · obtain ⟨_, hp⟩ := hp
          refine st_move hf rfl rfl (by decide) ?_
          clear hf; intro a ha hf
          exact st_nil hf (th_n ⟨ha, rfl⟩)
        clear hf; intro a hf
        refine dr_take 2 (eptr va0 i5 1) rfl (by kernel_rfl) (by kernel_rfl) (by kernel_rfl) (by kernel_rfl) rfl rfl hf (by decide) rfl (fun w hp => ?_) ⟨_, hp⟩ ?_
        · obtain ⟨_, hp⟩ := hp
          refine st_index (E := Ek.bool) hf (by decide) Try.underlying25 elt4 rfl rfl rfl (ha0.sl hp) hc1.1 hc1.2 ?_
          clear hf; intro a ha hf
          exact st_nil hf (th_n ⟨ha, rfl⟩)
        clear hf; intro a hf
        refine dr_take 3 (.bool (gt a0 i5)) rfl (by kernel_rfl) (by kernel_rfl) (by kernel_rfl) (by kernel_rfl) rfl rfl hf (by decide) rfl (fun w hp => ?_) ⟨_, hp⟩ ?_
        · obtain ⟨_, hp⟩ := hp
          refine st_ldB hf (by decide) pl4 rfl rfl (ha0.sl hp) hc1.1 hc1.2 ?_
          clear hf; intro a ha hf
          exact st_nil hf (th_n ⟨ha, rfl⟩)
        clear hf; intro a hf
        refine dr_take 4 (vb1) rfl (by kernel_rfl) (by kernel_rfl) (by kernel_rfl) (by kernel_rfl) rfl rfl hf (by decide) rfl (fun w hp => ?_) ⟨_, hp⟩ ?_
        · obtain ⟨_, hp⟩ := hp
          refine st_move hf rfl rfl (by decide) ?_
          clear hf; intro a ha hf
          exact st_nil hf (th_n ⟨ha, rfl⟩)
        clear hf; intro a hf
        refine dr_take 5 (.int .i64 i5) rfl (by kernel_rfl) (by kernel_rfl) (by kernel_rfl) (by kernel_rfl) rfl rfl hf (by decide) rfl (fun w hp => ?_) ⟨_, hp⟩ ?_
        · obtain ⟨_, hp⟩ := hp
          refine st_move hf rfl rfl (by decide) ?_
          clear hf; intro a ha hf
          exact st_nil hf (th_n ⟨ha, rfl⟩)
        clear hf; intro a hf
        refine dr_take 6 (eptr vb1 i5 1) rfl (by kernel_rfl) (by kernel_rfl) (by kernel_rfl) (by kernel_rfl) rfl rfl hf (by decide) rfl (fun w hp => ?_) ⟨_, hp⟩ ?_
        · obtain ⟨_, hp⟩ := hp
          refine st_index (E := Ek.bool) hf (by decide) Try.underlying25 elt4 rfl rfl rfl (hb1.sl hp) hc2.1 hc2.2 ?_
          clear hf; intro a ha hf
          exact st_nil hf (th_n ⟨ha, rfl⟩)
        clear hf; intro a hf
        refine dr_take 7 (.bool (gt b1 i5)) rfl (by kernel_rfl) (by kernel_rfl) (by kernel_rfl) (by kernel_rfl) rfl rfl hf (by decide) rfl (fun w hp => ?_) ⟨_, hp⟩ ?_
        · obtain ⟨_, hp⟩ := hp
          refine st_ldB hf (by decide) pl4 rfl rfl (hb1.sl hp) hc2.1 hc2.2 ?_
          clear hf; intro a ha hf
          exact st_nil hf (th_n ⟨ha, rfl⟩)
        clear hf; intro a hf
        refine dr_take 8 (.bool ((gt a0 i5) != (gt b1 i5))) rfl (by kernel_rfl) (by kernel_rfl) (by kernel_rfl) (by kernel_rfl) rfl rfl hf (by decide) rfl (fun w hp => ?_) ⟨_, hp⟩ ?_
        · obtain ⟨_, hp⟩ := hp
          refine st_bneq hf (by decide) Try.underlying4 rfl rfl rfl ?_
          clear hf; intro a ha hf
          exact st_nil hf (th_n ⟨ha, rfl⟩)
        clear hf; intro a hf
        refine dr_end (by kernel_rfl) ?_ _
        exact ⟨hf.sub ⟨rfl, rfl, rfl, rfl, trivial⟩, hp⟩
      rintro a w ⟨hf, hp⟩
      refine th_n ?_
      refine wp_if hf rfl (fun hb => ?_) (fun hb => ?_)
      · replace h := ifT h hb
        refine wp_seq ?_
        refine wp_reg ?_
        refine st_assign hf rfl rfl (by decide) ?_
        clear hf; intro a ha hf; clear ha
        refine st_nil hf ?_
        refine th_n ?_
        refine wp_ret ?_
        refine ib_r ?_
        refine th_r ?_
        obtain rfl := Option.some.inj h
        exact rnd_r (by simp) ⟨rfl, ⟨hf.sub ⟨rfl, trivial⟩, hp⟩⟩
      replace h := ifF h hb
      refine wp_skip ?_
      refine ib_n ?_
      refine th_n ?_
      refine wp_reg ?_
      refine st_move hf rfl rfl (by decide) ?_
      clear hf; intro a ha hf; clear ha
      refine st_iadd hf (by decide) rfl rfl rfl ?_
      clear hf; intro a ha hf; clear ha
      refine st_assign hf rfl rfl (by decide) ?_
      clear hf; intro a ha hf; clear ha
      refine st_nil hf ?_
      obtain rfl := Option.some.inj h
      exact rnd_l ⟨hf.sub ⟨rfl, rfl, rfl, trivial⟩, hp⟩
    replace h := ifF h hb
    refine wp_exit ?_
    refine th_e ?_
    obtain rfl := Option.some.inj h
    exact rnd_r (by simp) ⟨rfl, hf.sub trivial, hp⟩
  clear hl hf hp
  intro e a w hne hO
  rcases q3 with q4 | q5
  · replace h := smL h
    obtain ⟨rfl, hf, hp⟩ := hO
    refine ib_same ?_
    refine th_n ?_
    refine wp_seq ?_
    refine wp_reg ?_
    refine st_assign hf rfl rfl (by decide) ?_
    clear hf; intro a ha hf; clear ha
    refine st_nil hf ?_
    refine th_n ?_
    refine wp_ret ?_
    obtain rfl := Option.some.inj h
    exact ⟨rfl, ⟨hf.sub ⟨rfl, trivial⟩, hp⟩⟩
  replace h := smR h
  obtain ⟨rfl, hf, hp⟩ := hO
  refine ib_r ?_
  refine th_r ?_
  obtain rfl := Option.some.inj h
  exact ⟨rfl, ⟨hf.sub ⟨rfl, trivial⟩, hp⟩⟩

noncomputable def f_foghornlaw21_awake  : Option Bool := ((f_trellis_Code_Encode (3 : Int) (7 : Int) (5 : Int) ([true])).bind fun q3 => ((if (q3.2 == (0 : Int)) = true then ((f_foghornref21_Same q3.1 ([true, true, true, false, true, true])).bind fun q17 => (some q17)) else (some false)).bind fun z14 => ((if z14 = true then ((f_trellis_Short).bind fun q32 => (some ((q32.1 == (3 : Int)) && ((q32.2.1 == (7 : Int)) && ((q32.2.2 == (5 : Int)) && true))))) else (some false)).bind fun z31 => (some z31))))
theorem f_foghornlaw21_awake_c {S : Nat → Prop} {w0 w : World} {ow : List Res} (hp : Hp S w0 w ow) {r : Bool} (h : f_foghornlaw21_awake = some r) :
    Calls Try.prog 11 #[] w (fun e w' => e = .returned (.bool r) ∧ Hp S w0 w' (ow)) := by
  unfold f_foghornlaw21_awake at h
  refine enter (n := 21) (args := []) Try.func11 rfl rfl (Nat.le_of_ble_eq_true rfl) fun a hf => ?_
  replace hf : Fr 21 a [] := hf
  refine wp_mono (Q := fun e a w => e = .ret ∧ Fr 21 a [(0, .bool r)] ∧ Hp S w0 w (ow)) ?_ ?_
  rotate_left
  · rintro e a w ⟨rfl, hf, hp⟩
    exact ret1 hf rfl rfl ⟨rfl, hp⟩
  refine wp_seq ?_
  refine wp_reg ?_
  refine st_assign hf rfl rfl (by decide) ?_
  clear hf; intro a ha hf; clear ha
  refine st_nil hf ?_
  refine th_n ?_
  refine wp_seq ?_
  refine wp_reg ?_
  refine st_buildA (vals := [(0, .int .i64 (3 : Int)), (1, .int .u32 (7 : Int)), (2, .int .u32 (5 : Int))]) (cells := [.int .i64 (3 : Int), .int .u32 (7 : Int), .int .u32 (5 : Int)]) hf (by decide) rfl (by simp [hf.ev (x := (Operand.const (.int .i64 (3 : Int)))) rfl, hf.ev (x := (Operand.const (.int .u32 (7 : Int)))) rfl, hf.ev (x := (Operand.const (.int .u32 (5 : Int)))) rfl]) (fun w => by kernel_rfl) ?_
  clear hf; intro a ha hf; clear ha
  refine st_build (E := Ek.bool) (xs := [true]) hf (by decide) elt4 Try.underlying25 hp (vals := #[(0, .bool true)]) (cells := #[.bool true]) rfl (by simp [hf.ev (x := (Operand.const (.bool true))) rfl]) (by decide) (by decide) (z := .bool false) (by kernel_rfl) (by kernel_rfl) rfl (reps_cons (cs := [.bool true]) rfl (reps_nil _)) ?_
  clear hf; intro a w v1 hf hp0; clear hp; have hp := hp0; clear hp0
  replace hp : Hp _ _ _ (Res.sl Ek.bool 4 v1 ([true]) :: ow) := hp
  obtain ⟨q3, hcall4, h⟩ := bnd h
  obtain ⟨S5, hp6, rd7, up8, bk9⟩ := Hp.lendS hp (i := 0) rfl
  refine st_call hf (by decide) Try.func13 rfl rfl rfl rfl rfl (f_trellis_Code_Encode_c hp6 _ _ _ _ _ rd7 hcall4) ?_
  rintro _ w ⟨v10, rfl, hp0⟩
  have hp0 := bk9 _ _ hp0
  clear hp; have hp := hp0; clear hp0
  replace hp : Hp _ _ _ (Res.sl Ek.bool 4 v1 ([true]) :: Res.sl Ek.bool 4 v10 q3.1 :: ow) := hp
  refine ⟨_, rfl, ?_⟩
  clear hf; intro a hf
  refine st_move hf rfl rfl (by decide) ?_
  clear hf; intro a ha hf; clear ha
  refine st_extract hf (by decide) rfl rfl rfl ?_
  clear hf; intro a ha hf; clear ha
  refine st_extract hf (by decide) rfl rfl rfl ?_
  clear hf; intro a ha hf; clear ha
  refine st_assign hf rfl rfl (by decide) ?_
  clear hf; intro a ha hf; clear ha
  refine st_assign hf rfl rfl (by decide) ?_
  clear hf; intro a ha hf; clear ha
  refine st_nil hf ?_
  refine th_n ?_
  refine wp_seq ?_
  refine wp_reg ?_
  refine st_move hf rfl rfl (by decide) ?_
  clear hf; intro a ha hf; clear ha
  refine st_ieql hf (by decide) rfl rfl rfl ?_
  clear hf; intro a ha hf; clear ha
  refine st_move hf rfl rfl (by decide) ?_
  clear hf; intro a ha hf; clear ha
  obtain ⟨z14, hz12, h⟩ := bnd h
  refine wpList_cut 4 (fun a w => Fr 21 a [(15, .bool z14)] ∧ Hp S w0 w (Res.sl Ek.bool 4 v1 ([true]) :: Res.sl Ek.bool 4 v10 q3.1 :: ow)) ?_ ?_
  · rcases Bool.eq_false_or_eq_true (q3.2 == (0 : Int)) with hb13 | hb13
    · skip
      replace hz12 := ifT hz12 hb13
      refine st_move hf (wantY hf rfl rfl hb13) rfl (by decide) ?_
      clear hf; intro a ha hf; clear ha
      refine st_build (E := Ek.bool) (xs := [true, true, true, false, true, true]) hf (by decide) elt4 Try.underlying25 hp (vals := #[(0, .bool true), (1, .bool true), (2, .bool true), (3, .bool false), (4, .bool true), (5, .bool true)]) (cells := #[.bool true, .bool true, .bool true, .bool false, .bool true, .bool true]) (wantY hf rfl rfl hb13) (by simp [hf.ev (x := (Operand.const (.bool true))) rfl, hf.ev (x := (Operand.const (.bool true))) rfl, hf.ev (x := (Operand.const (.bool true))) rfl, hf.ev (x := (Operand.const (.bool false))) rfl, hf.ev (x := (Operand.const (.bool true))) rfl, hf.ev (x := (Operand.const (.bool true))) rfl]) (by decide) (by decide) (z := .bool false) (by kernel_rfl) (by kernel_rfl) rfl (reps_cons (cs := [.bool true]) rfl (reps_cons (cs := [.bool true]) rfl (reps_cons (cs := [.bool true]) rfl (reps_cons (cs := [.bool false]) rfl (reps_cons (cs := [.bool true]) rfl (reps_cons (cs := [.bool true]) rfl (reps_nil _))))))) ?_
      clear hf; intro a w v15 hf hp0; clear hp; have hp := hp0; clear hp0
      replace hp : Hp _ _ _ (Res.sl Ek.bool 4 v15 ([true, true, true, false, true, true]) :: Res.sl Ek.bool 4 v1 ([true]) :: Res.sl Ek.bool 4 v10 q3.1 :: ow) := hp
      obtain ⟨q17, hcall18, hz12⟩ := bnd hz12
      obtain ⟨S19, hp20, rd21, up22, bk23⟩ := Hp.lendS hp (i := 2) rfl
      obtain ⟨S24, hp25, rd26, up27, bk28⟩ := Hp.lendS hp20 (i := 0) rfl
      refine st_call hf (by decide) Try.func33 rfl rfl (wantY hf rfl rfl hb13) rfl rfl (f_foghornref21_Same_c hp25 _ _ ((rd21.now hp20).mono up27) _ _ rd26 hcall18) ?_
      rintro _ w ⟨rfl, hp0⟩
      have hp0 := bk28 _ _ hp0
      have hp0 := bk23 _ _ hp0
      clear hp; have hp := hp0; clear hp0
      replace hp : Hp _ _ _ (Res.sl Ek.bool 4 v10 q3.1 :: Res.sl Ek.bool 4 v15 ([true, true, true, false, true, true]) :: Res.sl Ek.bool 4 v1 ([true]) :: ow) := hp
      refine ⟨_, rfl, ?_⟩
      clear hf; intro a hf
      obtain rfl := Option.some.inj hz12
      refine st_pick (v := .bool q17) hf rfl rfl (fun hb' => ?_) (fun hb' => ?_) (by decide) ?_
      · rfl
      · exact absurd (hb13.symm.trans hb') (by decide)
      clear hf; intro a ha hf; clear ha
      refine st_nil hf (th_n ?_)
      have hp : Hp _ _ _ (Res.sl Ek.bool 4 v1 ([true]) :: Res.sl Ek.bool 4 v10 q3.1 :: ow) := Hp.sel (pre := [Res.sl Ek.bool 4 v10 q3.1, Res.sl Ek.bool 4 v15 ([true, true, true, false, true, true]), Res.sl Ek.bool 4 v1 ([true])]) (tail := ow) (rs' := [Res.sl Ek.bool 4 v1 ([true]), Res.sl Ek.bool 4 v10 q3.1]) hp [2, 0] (by decide) (by simp) rfl
      exact ⟨hf.sub ⟨rfl, trivial⟩, hp⟩
    replace hz12 := ifF hz12 hb13
    refine st_skip hf (wantN hf rfl rfl hb13) rfl (by decide) ?_ rfl
    clear hf; intro a hf
    refine st_skip hf (wantN hf rfl rfl hb13) rfl (by decide) ?_ rfl
    clear hf; intro a hf
    refine st_skip hf (wantN hf rfl rfl hb13) rfl (by decide) ?_ rfl
    clear hf; intro a hf
    obtain rfl := Option.some.inj hz12
    refine st_pick (v := .bool false) hf rfl rfl (fun hb' => ?_) (fun hb' => ?_) (by decide) ?_
    · exact absurd (hb13.symm.trans hb') (by decide)
    · rfl
    clear hf; intro a ha hf; clear ha
    refine st_nil hf (th_n ?_)
    exact ⟨hf.sub ⟨rfl, trivial⟩, hp⟩
  rintro a w ⟨hf, hp⟩
  refine st_move hf rfl rfl (by decide) ?_
  clear hf; intro a ha hf; clear ha
  obtain ⟨z31, hz29, h⟩ := bnd h
  refine wpList_cut 4 (fun a w => Fr 21 a [(20, .bool z31)] ∧ Hp S w0 w (Res.sl Ek.bool 4 v1 ([true]) :: Res.sl Ek.bool 4 v10 q3.1 :: ow)) ?_ ?_
  · rcases Bool.eq_false_or_eq_true z14 with hb30 | hb30
    · skip
      replace hz29 := ifT hz29 hb30
      obtain ⟨q32, hcall33, hz29⟩ := bnd hz29
      refine st_call hf (by decide) Try.func30 rfl rfl (wantY hf rfl rfl hb30) rfl rfl (f_trellis_Short_c hp  hcall33) ?_
      rintro _ w ⟨rfl, hp0⟩
      clear hp; have hp := hp0; clear hp0
      replace hp : Hp _ _ _ (Res.sl Ek.bool 4 v1 ([true]) :: Res.sl Ek.bool 4 v10 q3.1 :: ow) := hp
      refine ⟨_, rfl, ?_⟩
      clear hf; intro a hf
      refine st_buildA (vals := [(0, .int .i64 (3 : Int)), (1, .int .u32 (7 : Int)), (2, .int .u32 (5 : Int))]) (cells := [.int .i64 (3 : Int), .int .u32 (7 : Int), .int .u32 (5 : Int)]) hf (by decide) (wantY hf rfl rfl hb30) (by simp [hf.ev (x := (Operand.const (.int .i64 (3 : Int)))) rfl, hf.ev (x := (Operand.const (.int .u32 (7 : Int)))) rfl, hf.ev (x := (Operand.const (.int .u32 (5 : Int)))) rfl]) (fun w => by kernel_rfl) ?_
      clear hf; intro a ha hf; clear ha
      refine st_eqA (xs := [.int .i64 q32.1, .int .u32 q32.2.1, .int .u32 q32.2.2]) (ys := [.int .i64 (3 : Int), .int .u32 (7 : Int), .int .u32 (5 : Int)]) hf (by decide) (by kernel_rfl) (by kernel_rfl) (by kernel_rfl) (by kernel_rfl) (wantY hf rfl rfl hb30) rfl rfl (b := ((q32.1 == (3 : Int)) && ((q32.2.1 == (7 : Int)) && ((q32.2.2 == (5 : Int)) && true)))) rfl ?_
      clear hf; intro a ha hf; clear ha
      obtain rfl := Option.some.inj hz29
      refine st_pick (v := .bool ((q32.1 == (3 : Int)) && ((q32.2.1 == (7 : Int)) && ((q32.2.2 == (5 : Int)) && true)))) hf rfl rfl (fun hb' => ?_) (fun hb' => ?_) (by decide) ?_
      · rfl
      · exact absurd (hb30.symm.trans hb') (by decide)
      clear hf; intro a ha hf; clear ha
      refine st_nil hf (th_n ?_)
      exact ⟨hf.sub ⟨rfl, trivial⟩, hp⟩
    replace hz29 := ifF hz29 hb30
    refine st_skip hf (wantN hf rfl rfl hb30) rfl (by decide) ?_ rfl
    clear hf; intro a hf
    refine st_skip hf (wantN hf rfl rfl hb30) rfl (by decide) ?_ rfl
    clear hf; intro a hf
    refine st_skip hf (wantN hf rfl rfl hb30) rfl (by decide) ?_ rfl
    clear hf; intro a hf
    obtain rfl := Option.some.inj hz29
    refine st_pick (v := .bool false) hf rfl rfl (fun hb' => ?_) (fun hb' => ?_) (by decide) ?_
    · exact absurd (hb30.symm.trans hb') (by decide)
    · rfl
    clear hf; intro a ha hf; clear ha
    refine st_nil hf (th_n ?_)
    exact ⟨hf.sub ⟨rfl, trivial⟩, hp⟩
  rintro a w ⟨hf, hp⟩
  refine st_assign hf rfl rfl (by decide) ?_
  clear hf; intro a ha hf; clear ha
  refine st_nil hf ?_
  refine th_n ?_
  refine wp_ret ?_
  obtain rfl := Option.some.inj h
  have hp : Hp _ _ _ (ow) := Hp.sel (pre := [Res.sl Ek.bool 4 v1 ([true]), Res.sl Ek.bool 4 v10 q3.1]) (tail := ow) (rs' := []) hp [] (by decide) (by simp) rfl
  exact ⟨rfl, ⟨hf.sub ⟨rfl, trivial⟩, hp⟩⟩

noncomputable def f_foghornlaw21_TrellisNone.s1c (z35 : Int) : Option (Int ⊕ (Unit ⊕ Bool)) := (if (decide (z35 < (4 : Int))) = true then (if 0 ≤ z35 ∧ z35 < (([((3 : Int), (3 : Int), (1 : Int)), ((8 : Int), (255 : Int), (255 : Int)), ((2 : Int), (2 : Int), (0 : Int)), ((1 : Int), (1 : Int), (1 : Int))]).length : Int) then ((f_trellis_Code_Check ((gt ([((3 : Int), (3 : Int), (1 : Int)), ((8 : Int), (255 : Int), (255 : Int)), ((2 : Int), (2 : Int), (0 : Int)), ((1 : Int), (1 : Int), (1 : Int))]) z35).1) ((gt ([((3 : Int), (3 : Int), (1 : Int)), ((8 : Int), (255 : Int), (255 : Int)), ((2 : Int), (2 : Int), (0 : Int)), ((1 : Int), (1 : Int), (1 : Int))]) z35).2.1) ((gt ([((3 : Int), (3 : Int), (1 : Int)), ((8 : Int), (255 : Int), (255 : Int)), ((2 : Int), (2 : Int), (0 : Int)), ((1 : Int), (1 : Int), (1 : Int))]) z35).2.2)).bind fun q145 => (if (q145 != (1 : Int)) = true then (some (Sum.inr (Sum.inr false))) else (some (Sum.inl (IntKind.i64.wrap (z35 + (1 : Int))))))) else none) else (some (Sum.inr (Sum.inl ()))))
noncomputable def f_foghornlaw21_TrellisNone.s1  (s : Int) : Option (Int ⊕ (Unit ⊕ Bool)) := f_foghornlaw21_TrellisNone.s1c s
noncomputable def f_foghornlaw21_TrellisNone  : Option Bool := ((f_trellis_Short).bind fun q1 => ((f_trellis_Long).bind fun q5 => ((f_trellis_Code_Free q1.1 q1.2.1 q1.2.2).bind fun q9 => ((f_trellis_Code_Free q5.1 q5.2.1 q5.2.2).bind fun q11 => ((f_trellis_Code_Slips q1.1 q1.2.1 q1.2.2).bind fun q13 => ((f_trellis_Code_Slips q5.1 q5.2.1 q5.2.2).bind fun q15 => ((f_trellis_Code_Slips (3 : Int) (6 : Int) (5 : Int)).bind fun q17 => ((f_trellis_Code_Slips (2 : Int) (1 : Int) (2 : Int)).bind fun q19 => ((f_trellis_Code_States q5.1 q5.2.1 q5.2.2).bind fun q21 => (if 0 ≤ (16383 : Int) ∧ (16383 : Int) ≤ (16383 : Int) ∧ (16383 : Int) * 1 ≤ 281474976710656 then ((f_trellis_Code_Encode q1.1 q1.2.1 q1.2.2 (mk0 (16383 : Int) false)).bind fun q32 => (if 0 ≤ (16382 : Int) ∧ (16382 : Int) ≤ (16382 : Int) ∧ (16382 : Int) * 1 ≤ 281474976710656 then ((f_trellis_Code_Encode q1.1 q1.2.1 q1.2.2 (mk0 (16382 : Int) false)).bind fun q50 => (if 0 ≤ (16383 : Int) ∧ (16383 : Int) ≤ (16383 : Int) ∧ (16383 : Int) * 1 ≤ 281474976710656 then ((f_trellis_Code_Walk q1.1 q1.2.1 q1.2.2 (mk0 (16383 : Int) false)).bind fun q68 => (if 0 ≤ (32769 : Int) ∧ (32769 : Int) ≤ (32769 : Int) ∧ (32769 : Int) * 1 ≤ 281474976710656 then ((f_trellis_Code_Exact q1.1 q1.2.1 q1.2.2 (mk0 (32769 : Int) false)).bind fun q86 => ((f_trellis_Code_Exact q1.1 q1.2.1 q1.2.2 q50.1).bind fun q95 => ((f_trellis_Code_Encode (0 : Int) (0 : Int) (0 : Int) ([])).bind fun q104 => ((f_trellis_Code_Step q1.1 q1.2.1 q1.2.2 (4 : Int) true).bind fun q108 => ((f_trellis_Code_From q1.1 q1.2.1 q1.2.2 (-1 : Int)).bind fun q110 => (if ((((((((((((((q9.1 != (5 : Int)) || (q9.2 != (0 : Int))) || (q11.1 != (10 : Int))) || (q11.2 != (0 : Int))) || q13.1) || (q13.2 != (0 : Int))) || q15.1) || (q15.2 != (0 : Int))) || (!q17.1)) || (q17.2 != (0 : Int))) || q19.1) || (q19.2 != (0 : Int))) || (q21.1 != (64 : Int))) || (q21.2 != (0 : Int))) = true then (some false) else ((loop f_foghornlaw21_TrellisNone.s1 (0 : Int)).bind (fun q147 => sm q147 (fun q148 => ((if ((((((((((q32.2 == (1 : Int)) && ((q50.1.length : Int) == (32768 : Int))) && (q50.2 == (0 : Int))) && (q68.2 == (1 : Int))) && (q86.2 == (1 : Int))) && ((q95.1.length : Int) == (16382 : Int))) && (q95.2 == (0 : Int))) && (q104.2 == (1 : Int))) && (q108.2.2.2 == (1 : Int))) && (q110.2 == (1 : Int))) = true then ((f_trellis_Code_Check q1.1 q1.2.1 q1.2.2).bind fun q171 => (some (q171 == (0 : Int)))) else (some false)).bind fun z170 => ((if z170 = true then ((f_foghornlaw21_awake).bind fun q176 => (some q176)) else (some false)).bind fun z175 => (some z175)))) (fun q149 => (some q149)))))))))) else none)) else none)) else none)) else none))))))))))
theorem f_foghornlaw21_TrellisNone_c {S : Nat → Prop} {w0 w : World} {ow : List Res} (hp : Hp S w0 w ow) {r : Bool} (h : f_foghornlaw21_TrellisNone = some r) :
    Calls Try.prog 7 #[] w (fun e w' => e = .returned (.bool r) ∧ Hp S w0 w' (ow)) := by
  unfold f_foghornlaw21_TrellisNone at h
  refine enter (n := 235) (args := []) Try.func7 rfl rfl (Nat.le_of_ble_eq_true rfl) fun a hf => ?_
  replace hf : Fr 235 a [] := hf
  refine wp_mono (Q := fun e a w => e = .ret ∧ Fr 235 a [(0, .bool r)] ∧ Hp S w0 w (ow)) ?_ ?_
  rotate_left
  · rintro e a w ⟨rfl, hf, hp⟩
    exact ret1 hf rfl rfl ⟨rfl, hp⟩
  refine wp_seq ?_
  refine wp_reg ?_
  refine st_assign hf rfl rfl (by decide) ?_
  clear hf; intro a ha hf; clear ha
  refine st_nil hf ?_
  refine th_n ?_
  refine wp_seq ?_
  refine wp_reg ?_
  obtain ⟨q1, hcall2, h⟩ := bnd h
  refine st_call hf (by decide) Try.func30 rfl rfl rfl rfl rfl (f_trellis_Short_c hp  hcall2) ?_
  rintro _ w ⟨rfl, hp0⟩
  clear hp; have hp := hp0; clear hp0
  replace hp : Hp _ _ _ (ow) := hp
  refine ⟨_, rfl, ?_⟩
  clear hf; intro a hf
  refine st_alloc (cs := [.int .i64 (0 : Int), .int .u32 (0 : Int), .int .u32 (0 : Int)]) (zv := .agg #[.int .i64 (0 : Int), .int .u32 (0 : Int), .int .u32 (0 : Int)]) hf (by decide) (by kernel_rfl) rfl hp rfl ?_
  clear hf; intro a w v3 hf hp0; clear hp; have hp := hp0; clear hp0
  replace hp : Hp _ _ _ (Res.obj 34 v3 [.int .i64 (0 : Int), .int .u32 (0 : Int), .int .u32 (0 : Int)] :: ow) := hp
  refine st_stO (us := [.int .i64 q1.1, .int .u32 q1.2.1, .int .u32 q1.2.2]) hf hp (i := 0) rfl rfl rfl rfl rfl (by rfl) (by kernel_rfl) (Nat.le_of_ble_eq_true rfl) ?_
  clear hf; intro a w hf hp0; clear hp; have hp := hp0; clear hp0
  replace hp : Hp _ _ _ (Res.obj 34 v3 [.int .i64 q1.1, .int .u32 q1.2.1, .int .u32 q1.2.2] :: ow) := hp
  refine st_nil hf ?_
  refine th_n ?_
  refine wp_seq ?_
  refine wp_reg ?_
  obtain ⟨q5, hcall6, h⟩ := bnd h
  refine st_call hf (by decide) Try.func31 rfl rfl rfl rfl rfl (f_trellis_Long_c hp  hcall6) ?_
  rintro _ w ⟨rfl, hp0⟩
  clear hp; have hp := hp0; clear hp0
  replace hp : Hp _ _ _ (Res.obj 34 v3 [.int .i64 q1.1, .int .u32 q1.2.1, .int .u32 q1.2.2] :: ow) := hp
  refine ⟨_, rfl, ?_⟩
  clear hf; intro a hf
  refine st_alloc (cs := [.int .i64 (0 : Int), .int .u32 (0 : Int), .int .u32 (0 : Int)]) (zv := .agg #[.int .i64 (0 : Int), .int .u32 (0 : Int), .int .u32 (0 : Int)]) hf (by decide) (by kernel_rfl) rfl hp rfl ?_
  clear hf; intro a w v7 hf hp0; clear hp; have hp := hp0; clear hp0
  replace hp : Hp _ _ _ (Res.obj 34 v7 [.int .i64 (0 : Int), .int .u32 (0 : Int), .int .u32 (0 : Int)] :: Res.obj 34 v3 [.int .i64 q1.1, .int .u32 q1.2.1, .int .u32 q1.2.2] :: ow) := hp
  refine st_stO (us := [.int .i64 q5.1, .int .u32 q5.2.1, .int .u32 q5.2.2]) hf hp (i := 0) rfl rfl rfl rfl rfl (by rfl) (by kernel_rfl) (Nat.le_of_ble_eq_true rfl) ?_
  clear hf; intro a w hf hp0; clear hp; have hp := hp0; clear hp0
  replace hp : Hp _ _ _ (Res.obj 34 v7 [.int .i64 q5.1, .int .u32 q5.2.1, .int .u32 q5.2.2] :: Res.obj 34 v3 [.int .i64 q1.1, .int .u32 q1.2.1, .int .u32 q1.2.2] :: ow) := hp
  refine st_nil hf ?_
  refine th_n ?_
  refine wp_seq ?_
  refine wp_reg ?_
  refine st_ldOA (m := 3) (us := [.int .i64 q1.1, .int .u32 q1.2.1, .int .u32 q1.2.2]) hf (by decide) (by kernel_rfl) rfl rfl (hp.ob (i := 1) rfl) rfl rfl ?_
  clear hf; intro a ha hf; clear ha
  obtain ⟨q9, hcall10, h⟩ := bnd h
  refine st_call hf (by decide) Try.func19 rfl rfl rfl rfl rfl (f_trellis_Code_Free_c hp _ _ _ hcall10) ?_
  rintro _ w ⟨rfl, hp0⟩
  clear hp; have hp := hp0; clear hp0
  replace hp : Hp _ _ _ (Res.obj 34 v7 [.int .i64 q5.1, .int .u32 q5.2.1, .int .u32 q5.2.2] :: Res.obj 34 v3 [.int .i64 q1.1, .int .u32 q1.2.1, .int .u32 q1.2.2] :: ow) := hp
  refine ⟨_, rfl, ?_⟩
  clear hf; intro a hf
  refine st_move hf rfl rfl (by decide) ?_
  clear hf; intro a ha hf; clear ha
  refine st_extract hf (by decide) rfl rfl rfl ?_
  clear hf; intro a ha hf; clear ha
  refine st_extract hf (by decide) rfl rfl rfl ?_
  clear hf; intro a ha hf; clear ha
  refine st_assign hf rfl rfl (by decide) ?_
  clear hf; intro a ha hf; clear ha
  refine st_assign hf rfl rfl (by decide) ?_
  clear hf; intro a ha hf; clear ha
  refine st_nil hf ?_
  refine th_n ?_
  refine wp_seq ?_
  refine wp_reg ?_
  refine st_ldOA (m := 3) (us := [.int .i64 q5.1, .int .u32 q5.2.1, .int .u32 q5.2.2]) hf (by decide) (by kernel_rfl) rfl rfl (hp.ob (i := 0) rfl) rfl rfl ?_
  clear hf; intro a ha hf; clear ha
  obtain ⟨q11, hcall12, h⟩ := bnd h
  refine st_call hf (by decide) Try.func19 rfl rfl rfl rfl rfl (f_trellis_Code_Free_c hp _ _ _ hcall12) ?_
  rintro _ w ⟨rfl, hp0⟩
  clear hp; have hp := hp0; clear hp0
  replace hp : Hp _ _ _ (Res.obj 34 v7 [.int .i64 q5.1, .int .u32 q5.2.1, .int .u32 q5.2.2] :: Res.obj 34 v3 [.int .i64 q1.1, .int .u32 q1.2.1, .int .u32 q1.2.2] :: ow) := hp
  refine ⟨_, rfl, ?_⟩
  clear hf; intro a hf
  refine st_move hf rfl rfl (by decide) ?_
  clear hf; intro a ha hf; clear ha
  refine st_extract hf (by decide) rfl rfl rfl ?_
  clear hf; intro a ha hf; clear ha
  refine st_extract hf (by decide) rfl rfl rfl ?_
  clear hf; intro a ha hf; clear ha
  refine st_assign hf rfl rfl (by decide) ?_
  clear hf; intro a ha hf; clear ha
  refine st_assign hf rfl rfl (by decide) ?_
  clear hf; intro a ha hf; clear ha
  refine st_nil hf ?_
  refine th_n ?_
  refine wp_seq ?_
  refine wp_reg ?_
  refine st_ldOA (m := 3) (us := [.int .i64 q1.1, .int .u32 q1.2.1, .int .u32 q1.2.2]) hf (by decide) (by kernel_rfl) rfl rfl (hp.ob (i := 1) rfl) rfl rfl ?_
  clear hf; intro a ha hf; clear ha
  obtain ⟨q13, hcall14, h⟩ := bnd h
  refine st_call hf (by decide) Try.func28 rfl rfl rfl rfl rfl (f_trellis_Code_Slips_c hp _ _ _ hcall14) ?_
  rintro _ w ⟨rfl, hp0⟩
  clear hp; have hp := hp0; clear hp0
  replace hp : Hp _ _ _ (Res.obj 34 v7 [.int .i64 q5.1, .int .u32 q5.2.1, .int .u32 q5.2.2] :: Res.obj 34 v3 [.int .i64 q1.1, .int .u32 q1.2.1, .int .u32 q1.2.2] :: ow) := hp
  refine ⟨_, rfl, ?_⟩
  clear hf; intro a hf
  refine st_move hf rfl rfl (by decide) ?_
  clear hf; intro a ha hf; clear ha
  refine st_extract hf (by decide) rfl rfl rfl ?_
  clear hf; intro a ha hf; clear ha
  refine st_extract hf (by decide) rfl rfl rfl ?_
  clear hf; intro a ha hf; clear ha
  refine st_assign hf rfl rfl (by decide) ?_
  clear hf; intro a ha hf; clear ha
  refine st_assign hf rfl rfl (by decide) ?_
  clear hf; intro a ha hf; clear ha
  refine st_nil hf ?_
  refine th_n ?_
  refine wp_seq ?_
  refine wp_reg ?_
  refine st_ldOA (m := 3) (us := [.int .i64 q5.1, .int .u32 q5.2.1, .int .u32 q5.2.2]) hf (by decide) (by kernel_rfl) rfl rfl (hp.ob (i := 0) rfl) rfl rfl ?_
  clear hf; intro a ha hf; clear ha
  obtain ⟨q15, hcall16, h⟩ := bnd h
  refine st_call hf (by decide) Try.func28 rfl rfl rfl rfl rfl (f_trellis_Code_Slips_c hp _ _ _ hcall16) ?_
  rintro _ w ⟨rfl, hp0⟩
  clear hp; have hp := hp0; clear hp0
  replace hp : Hp _ _ _ (Res.obj 34 v7 [.int .i64 q5.1, .int .u32 q5.2.1, .int .u32 q5.2.2] :: Res.obj 34 v3 [.int .i64 q1.1, .int .u32 q1.2.1, .int .u32 q1.2.2] :: ow) := hp
  refine ⟨_, rfl, ?_⟩
  clear hf; intro a hf
  refine st_move hf rfl rfl (by decide) ?_
  clear hf; intro a ha hf; clear ha
  refine st_extract hf (by decide) rfl rfl rfl ?_
  clear hf; intro a ha hf; clear ha
  refine st_extract hf (by decide) rfl rfl rfl ?_
  clear hf; intro a ha hf; clear ha
  refine st_assign hf rfl rfl (by decide) ?_
  clear hf; intro a ha hf; clear ha
  refine st_assign hf rfl rfl (by decide) ?_
  clear hf; intro a ha hf; clear ha
  refine st_nil hf ?_
  refine th_n ?_
  refine wp_seq ?_
  refine wp_reg ?_
  refine st_buildA (vals := [(0, .int .i64 (3 : Int)), (1, .int .u32 (6 : Int)), (2, .int .u32 (5 : Int))]) (cells := [.int .i64 (3 : Int), .int .u32 (6 : Int), .int .u32 (5 : Int)]) hf (by decide) rfl (by simp [hf.ev (x := (Operand.const (.int .i64 (3 : Int)))) rfl, hf.ev (x := (Operand.const (.int .u32 (6 : Int)))) rfl, hf.ev (x := (Operand.const (.int .u32 (5 : Int)))) rfl]) (fun w => by kernel_rfl) ?_
  clear hf; intro a ha hf; clear ha
  obtain ⟨q17, hcall18, h⟩ := bnd h
  refine st_call hf (by decide) Try.func28 rfl rfl rfl rfl rfl (f_trellis_Code_Slips_c hp _ _ _ hcall18) ?_
  rintro _ w ⟨rfl, hp0⟩
  clear hp; have hp := hp0; clear hp0
  replace hp : Hp _ _ _ (Res.obj 34 v7 [.int .i64 q5.1, .int .u32 q5.2.1, .int .u32 q5.2.2] :: Res.obj 34 v3 [.int .i64 q1.1, .int .u32 q1.2.1, .int .u32 q1.2.2] :: ow) := hp
  refine ⟨_, rfl, ?_⟩
  clear hf; intro a hf
  refine st_move hf rfl rfl (by decide) ?_
  clear hf; intro a ha hf; clear ha
  refine st_extract hf (by decide) rfl rfl rfl ?_
  clear hf; intro a ha hf; clear ha
  refine st_extract hf (by decide) rfl rfl rfl ?_
  clear hf; intro a ha hf; clear ha
  refine st_assign hf rfl rfl (by decide) ?_
  clear hf; intro a ha hf; clear ha
  refine st_assign hf rfl rfl (by decide) ?_
  clear hf; intro a ha hf; clear ha
  refine st_nil hf ?_
  refine th_n ?_
  refine wp_seq ?_
  refine wp_reg ?_
  refine st_buildA (vals := [(0, .int .i64 (2 : Int)), (1, .int .u32 (1 : Int)), (2, .int .u32 (2 : Int))]) (cells := [.int .i64 (2 : Int), .int .u32 (1 : Int), .int .u32 (2 : Int)]) hf (by decide) rfl (by simp [hf.ev (x := (Operand.const (.int .i64 (2 : Int)))) rfl, hf.ev (x := (Operand.const (.int .u32 (1 : Int)))) rfl, hf.ev (x := (Operand.const (.int .u32 (2 : Int)))) rfl]) (fun w => by kernel_rfl) ?_
  clear hf; intro a ha hf; clear ha
  obtain ⟨q19, hcall20, h⟩ := bnd h
  refine st_call hf (by decide) Try.func28 rfl rfl rfl rfl rfl (f_trellis_Code_Slips_c hp _ _ _ hcall20) ?_
  rintro _ w ⟨rfl, hp0⟩
  clear hp; have hp := hp0; clear hp0
  replace hp : Hp _ _ _ (Res.obj 34 v7 [.int .i64 q5.1, .int .u32 q5.2.1, .int .u32 q5.2.2] :: Res.obj 34 v3 [.int .i64 q1.1, .int .u32 q1.2.1, .int .u32 q1.2.2] :: ow) := hp
  refine ⟨_, rfl, ?_⟩
  clear hf; intro a hf
  refine st_move hf rfl rfl (by decide) ?_
  clear hf; intro a ha hf; clear ha
  refine st_extract hf (by decide) rfl rfl rfl ?_
  clear hf; intro a ha hf; clear ha
  refine st_extract hf (by decide) rfl rfl rfl ?_
  clear hf; intro a ha hf; clear ha
  refine st_assign hf rfl rfl (by decide) ?_
  clear hf; intro a ha hf; clear ha
  refine st_assign hf rfl rfl (by decide) ?_
  clear hf; intro a ha hf; clear ha
  refine st_nil hf ?_
  refine th_n ?_
  refine wp_seq ?_
  refine wp_reg ?_
  refine st_ldOA (m := 3) (us := [.int .i64 q5.1, .int .u32 q5.2.1, .int .u32 q5.2.2]) hf (by decide) (by kernel_rfl) rfl rfl (hp.ob (i := 0) rfl) rfl rfl ?_
  clear hf; intro a ha hf; clear ha
  obtain ⟨q21, hcall22, h⟩ := bnd h
  refine st_call hf (by decide) Try.func15 rfl rfl rfl rfl rfl (f_trellis_Code_States_c hp _ _ _ hcall22) ?_
  rintro _ w ⟨rfl, hp0⟩
  clear hp; have hp := hp0; clear hp0
  replace hp : Hp _ _ _ (Res.obj 34 v7 [.int .i64 q5.1, .int .u32 q5.2.1, .int .u32 q5.2.2] :: Res.obj 34 v3 [.int .i64 q1.1, .int .u32 q1.2.1, .int .u32 q1.2.2] :: ow) := hp
  refine ⟨_, rfl, ?_⟩
  clear hf; intro a hf
  refine st_move hf rfl rfl (by decide) ?_
  clear hf; intro a ha hf; clear ha
  refine st_extract hf (by decide) rfl rfl rfl ?_
  clear hf; intro a ha hf; clear ha
  refine st_extract hf (by decide) rfl rfl rfl ?_
  clear hf; intro a ha hf; clear ha
  refine st_assign hf rfl rfl (by decide) ?_
  clear hf; intro a ha hf; clear ha
  refine st_assign hf rfl rfl (by decide) ?_
  clear hf; intro a ha hf; clear ha
  refine st_nil hf ?_
  refine th_n ?_
  refine wp_seq ?_
  obtain ⟨S23, hp24, rd25, up26, bk27⟩ := Hp.lendO hp (i := 1) rfl
  have rl28 := rd25
  obtain ⟨hc29, h⟩ := chk h
  obtain ⟨q32, hcall33, h⟩ := bnd h
  refine wp_cutN (fun a w => ∃ (v30 : Value) (v39 : Value), Fr 235 a [(1, optr v3 0), (3, .int .i64 q9.1), (4, .int .i64 q9.2), (5, .int .i64 q11.1), (6, .int .i64 q11.2), (7, .bool q13.1), (8, .int .i64 q13.2), (9, .bool q15.1), (10, .int .i64 q15.2), (11, .bool q17.1), (12, .int .i64 q17.2), (13, .bool q19.1), (14, .int .i64 q19.2), (15, .int .i64 q21.1), (16, .int .i64 q21.2), (18, .int .i64 q32.2)] ∧ Hp S w0 w (Res.obj 34 v3 [.int .i64 q1.1, .int .u32 q1.2.1, .int .u32 q1.2.2] :: Res.sl Ek.bool 4 v30 (mk0 (16383 : Int) false) :: Res.sl Ek.bool 4 v39 q32.1 :: Res.obj 34 v7 [.int .i64 q5.1, .int .u32 q5.2.1, .int .u32 q5.2.2] :: ow)) ?_ ?_
  · have hp := hp24.same (Same.drew w)
    refine dr_begin' (fun a w => ∃ (v30 : Value) (v39 : Value), Fr 235 a [(1, optr v3 0), (3, .int .i64 q9.1), (4, .int .i64 q9.2), (5, .int .i64 q11.1), (6, .int .i64 q11.2), (7, .bool q13.1), (8, .int .i64 q13.2), (9, .bool q15.1), (10, .int .i64 q15.2), (11, .bool q17.1), (12, .int .i64 q17.2), (13, .bool q19.1), (14, .int .i64 q19.2), (15, .int .i64 q21.1), (16, .int .i64 q21.2), (18, .int .i64 q32.2)] ∧ Hp S w0 w (Res.obj 34 v3 [.int .i64 q1.1, .int .u32 q1.2.1, .int .u32 q1.2.2] :: Res.sl Ek.bool 4 v30 (mk0 (16383 : Int) false) :: Res.sl Ek.bool 4 v39 q32.1 :: Res.obj 34 v7 [.int .i64 q5.1, .int .u32 q5.2.1, .int .u32 q5.2.2] :: ow)) (fun w' => ∃ l, Hp S23 w w' l) [] (by kernel_rfl) ?_
    refine dr_take 0 (.agg #[.int .i64 q1.1, .int .u32 q1.2.1, .int .u32 q1.2.2]) rfl (by kernel_rfl) (by kernel_rfl) (by kernel_rfl) (by kernel_rfl) rfl rfl hf (by decide) rfl (fun w hp => ?_) ⟨_, hp⟩ ?_
    · obtain ⟨_, hp⟩ := hp
      refine st_ldOA (m := 3) (us := [.int .i64 q1.1, .int .u32 q1.2.1, .int .u32 q1.2.2]) hf (by decide) (by kernel_rfl) rfl rfl (rl28.ob hp) rfl rfl ?_
      clear hf; intro a ha hf
      exact st_nil hf (th_n ⟨ha, rfl⟩)
    clear hf; intro a hf
    refine dr_one 1 rfl (by kernel_rfl) ?_
    refine st_make (E := Ek.bool) hf (by decide) elt4 Try.underlying25 (by decide) hp rfl rfl rfl hc29.1 hc29.2.1 hc29.2.2 ?_
    clear hf; intro a w v30 hf hp0; clear hp; have hp := hp0; clear hp0
    rw [← mk0_eq] at hp
    replace hp : Hp _ _ _ (Res.sl Ek.bool 4 v30 (mk0 (16383 : Int) false) :: Res.obj 34 v7 [.int .i64 q5.1, .int .u32 q5.2.1, .int .u32 q5.2.2] :: ow) := hp
    refine st_nil hf (th_n ⟨fun _ _ => ⟨_, hp⟩, ?_⟩)
    refine dr_one 2 rfl (by kernel_rfl) ?_
    obtain ⟨S34, hp35, rd36, up37, bk38⟩ := Hp.lendS hp (i := 0) rfl
    refine st_call hf (by decide) Try.func13 rfl rfl rfl rfl rfl (f_trellis_Code_Encode_c hp35 _ _ _ _ _ rd36 hcall33) ?_
    rintro _ w ⟨v39, rfl, hp0⟩
    have hp0 := bk38 _ _ hp0
    clear hp; have hp := hp0; clear hp0
    replace hp : Hp _ _ _ (Res.sl Ek.bool 4 v30 (mk0 (16383 : Int) false) :: Res.sl Ek.bool 4 v39 q32.1 :: Res.obj 34 v7 [.int .i64 q5.1, .int .u32 q5.2.1, .int .u32 q5.2.2] :: ow) := hp
    refine ⟨_, rfl, ?_⟩
    clear hf; intro a hf
    refine st_nil hf (th_n ⟨fun _ _ => ⟨_, hp⟩, ?_⟩)
    refine dr_take 3 (.tuple #[v39, .int .i64 q32.2]) rfl (by kernel_rfl) (by kernel_rfl) (by kernel_rfl) (by kernel_rfl) rfl rfl hf (by decide) rfl (fun w hp => ?_) ⟨_, hp⟩ ?_
    · obtain ⟨_, hp⟩ := hp
      refine st_move hf rfl rfl (by decide) ?_
      clear hf; intro a ha hf
      exact st_nil hf (th_n ⟨ha, rfl⟩)
    clear hf; intro a hf
    refine dr_take 4 (v39) rfl (by kernel_rfl) (by kernel_rfl) (by kernel_rfl) (by kernel_rfl) rfl rfl hf (by decide) rfl (fun w hp => ?_) ⟨_, hp⟩ ?_
    · obtain ⟨_, hp⟩ := hp
      refine st_extract hf (by decide) rfl rfl rfl ?_
      clear hf; intro a ha hf
      exact st_nil hf (th_n ⟨ha, rfl⟩)
    clear hf; intro a hf
    refine dr_take 5 (.int .i64 q32.2) rfl (by kernel_rfl) (by kernel_rfl) (by kernel_rfl) (by kernel_rfl) rfl rfl hf (by decide) rfl (fun w hp => ?_) ⟨_, hp⟩ ?_
    · obtain ⟨_, hp⟩ := hp
      refine st_extract hf (by decide) rfl rfl rfl ?_
      clear hf; intro a ha hf
      exact st_nil hf (th_n ⟨ha, rfl⟩)
    clear hf; intro a hf
    refine dr_take 6 (v39) rfl (by kernel_rfl) (by kernel_rfl) (by kernel_rfl) (by kernel_rfl) rfl rfl hf (by decide) rfl (fun w hp => ?_) ⟨_, hp⟩ ?_
    · obtain ⟨_, hp⟩ := hp
      refine st_assign hf rfl rfl (by decide) ?_
      clear hf; intro a ha hf
      exact st_nil hf (th_n ⟨ha, rfl⟩)
    clear hf; intro a hf
    refine dr_take 7 (.int .i64 q32.2) rfl (by kernel_rfl) (by kernel_rfl) (by kernel_rfl) (by kernel_rfl) rfl rfl hf (by decide) rfl (fun w hp => ?_) ⟨_, hp⟩ ?_
    · obtain ⟨_, hp⟩ := hp
      refine st_assign hf rfl rfl (by decide) ?_
      clear hf; intro a ha hf
      exact st_nil hf (th_n ⟨ha, rfl⟩)
    clear hf; intro a hf
    refine dr_end (by kernel_rfl) ?_ _
    have hp := bk27 _ _ hp
    exact ⟨v30, v39, hf.sub ⟨rfl, rfl, rfl, rfl, rfl, rfl, rfl, rfl, rfl, rfl, rfl, rfl, rfl, rfl, rfl, rfl, trivial⟩, hp⟩
  rintro a w ⟨v30, v39, hf, hp⟩
  refine th_n ?_
  refine wp_seq ?_
  obtain ⟨S41, hp42, rd43, up44, bk45⟩ := Hp.lendO hp (i := 0) rfl
  have rl46 := rd43
  obtain ⟨hc47, h⟩ := chk h
  obtain ⟨q50, hcall51, h⟩ := bnd h
  refine wp_cutN (fun a w => ∃ (v48 : Value) (v57 : Value), Fr 235 a [(1, optr v3 0), (3, .int .i64 q9.1), (4, .int .i64 q9.2), (5, .int .i64 q11.1), (6, .int .i64 q11.2), (7, .bool q13.1), (8, .int .i64 q13.2), (9, .bool q15.1), (10, .int .i64 q15.2), (11, .bool q17.1), (12, .int .i64 q17.2), (13, .bool q19.1), (14, .int .i64 q19.2), (15, .int .i64 q21.1), (16, .int .i64 q21.2), (18, .int .i64 q32.2), (19, v57), (20, .int .i64 q50.2)] ∧ Hp S w0 w (Res.obj 34 v3 [.int .i64 q1.1, .int .u32 q1.2.1, .int .u32 q1.2.2] :: Res.sl Ek.bool 4 v48 (mk0 (16382 : Int) false) :: Res.sl Ek.bool 4 v57 q50.1 :: Res.sl Ek.bool 4 v30 (mk0 (16383 : Int) false) :: Res.sl Ek.bool 4 v39 q32.1 :: Res.obj 34 v7 [.int .i64 q5.1, .int .u32 q5.2.1, .int .u32 q5.2.2] :: ow)) ?_ ?_
  · have hp := hp42.same (Same.drew w)
    refine dr_begin' (fun a w => ∃ (v48 : Value) (v57 : Value), Fr 235 a [(1, optr v3 0), (3, .int .i64 q9.1), (4, .int .i64 q9.2), (5, .int .i64 q11.1), (6, .int .i64 q11.2), (7, .bool q13.1), (8, .int .i64 q13.2), (9, .bool q15.1), (10, .int .i64 q15.2), (11, .bool q17.1), (12, .int .i64 q17.2), (13, .bool q19.1), (14, .int .i64 q19.2), (15, .int .i64 q21.1), (16, .int .i64 q21.2), (18, .int .i64 q32.2), (19, v57), (20, .int .i64 q50.2)] ∧ Hp S w0 w (Res.obj 34 v3 [.int .i64 q1.1, .int .u32 q1.2.1, .int .u32 q1.2.2] :: Res.sl Ek.bool 4 v48 (mk0 (16382 : Int) false) :: Res.sl Ek.bool 4 v57 q50.1 :: Res.sl Ek.bool 4 v30 (mk0 (16383 : Int) false) :: Res.sl Ek.bool 4 v39 q32.1 :: Res.obj 34 v7 [.int .i64 q5.1, .int .u32 q5.2.1, .int .u32 q5.2.2] :: ow)) (fun w' => ∃ l, Hp S41 w w' l) [] (by kernel_rfl) ?_
    refine dr_take 0 (.agg #[.int .i64 q1.1, .int .u32 q1.2.1, .int .u32 q1.2.2]) rfl (by kernel_rfl) (by kernel_rfl) (by kernel_rfl) (by kernel_rfl) rfl rfl hf (by decide) rfl (fun w hp => ?_) ⟨_, hp⟩ ?_
    · obtain ⟨_, hp⟩ := hp
      refine st_ldOA (m := 3) (us := [.int .i64 q1.1, .int .u32 q1.2.1, .int .u32 q1.2.2]) hf (by decide) (by kernel_rfl) rfl rfl (rl46.ob hp) rfl rfl ?_
      clear hf; intro a ha hf
      exact st_nil hf (th_n ⟨ha, rfl⟩)
    clear hf; intro a hf
    refine dr_one 1 rfl (by kernel_rfl) ?_
    refine st_make (E := Ek.bool) hf (by decide) elt4 Try.underlying25 (by decide) hp rfl rfl rfl hc47.1 hc47.2.1 hc47.2.2 ?_
    clear hf; intro a w v48 hf hp0; clear hp; have hp := hp0; clear hp0
    rw [← mk0_eq] at hp
    replace hp : Hp _ _ _ (Res.sl Ek.bool 4 v48 (mk0 (16382 : Int) false) :: Res.sl Ek.bool 4 v30 (mk0 (16383 : Int) false) :: Res.sl Ek.bool 4 v39 q32.1 :: Res.obj 34 v7 [.int .i64 q5.1, .int .u32 q5.2.1, .int .u32 q5.2.2] :: ow) := hp
    refine st_nil hf (th_n ⟨fun _ _ => ⟨_, hp⟩, ?_⟩)
    refine dr_one 2 rfl (by kernel_rfl) ?_
    obtain ⟨S52, hp53, rd54, up55, bk56⟩ := Hp.lendS hp (i := 0) rfl
    refine st_call hf (by decide) Try.func13 rfl rfl rfl rfl rfl (f_trellis_Code_Encode_c hp53 _ _ _ _ _ rd54 hcall51) ?_
    rintro _ w ⟨v57, rfl, hp0⟩
    have hp0 := bk56 _ _ hp0
    clear hp; have hp := hp0; clear hp0
    replace hp : Hp _ _ _ (Res.sl Ek.bool 4 v48 (mk0 (16382 : Int) false) :: Res.sl Ek.bool 4 v57 q50.1 :: Res.sl Ek.bool 4 v30 (mk0 (16383 : Int) false) :: Res.sl Ek.bool 4 v39 q32.1 :: Res.obj 34 v7 [.int .i64 q5.1, .int .u32 q5.2.1, .int .u32 q5.2.2] :: ow) := hp
    refine ⟨_, rfl, ?_⟩
    clear hf; intro a hf
    refine st_nil hf (th_n ⟨fun _ _ => ⟨_, hp⟩, ?_⟩)
    refine dr_take 3 (.tuple #[v57, .int .i64 q50.2]) rfl (by kernel_rfl) (by kernel_rfl) (by kernel_rfl) (by kernel_rfl) rfl rfl hf (by decide) rfl (fun w hp => ?_) ⟨_, hp⟩ ?_
    · obtain ⟨_, hp⟩ := hp
      refine st_move hf rfl rfl (by decide) ?_
      clear hf; intro a ha hf
      exact st_nil hf (th_n ⟨ha, rfl⟩)
    clear hf; intro a hf
    refine dr_take 4 (v57) rfl (by kernel_rfl) (by kernel_rfl) (by kernel_rfl) (by kernel_rfl) rfl rfl hf (by decide) rfl (fun w hp => ?_) ⟨_, hp⟩ ?_
    · obtain ⟨_, hp⟩ := hp
      refine st_extract hf (by decide) rfl rfl rfl ?_
      clear hf; intro a ha hf
      exact st_nil hf (th_n ⟨ha, rfl⟩)
    clear hf; intro a hf
    refine dr_take 5 (.int .i64 q50.2) rfl (by kernel_rfl) (by kernel_rfl) (by kernel_rfl) (by kernel_rfl) rfl rfl hf (by decide) rfl (fun w hp => ?_) ⟨_, hp⟩ ?_
    · obtain ⟨_, hp⟩ := hp
      refine st_extract hf (by decide) rfl rfl rfl ?_
      clear hf; intro a ha hf
      exact st_nil hf (th_n ⟨ha, rfl⟩)
    clear hf; intro a hf
    refine dr_take 6 (v57) rfl (by kernel_rfl) (by kernel_rfl) (by kernel_rfl) (by kernel_rfl) rfl rfl hf (by decide) rfl (fun w hp => ?_) ⟨_, hp⟩ ?_
    · obtain ⟨_, hp⟩ := hp
      refine st_assign hf rfl rfl (by decide) ?_
      clear hf; intro a ha hf
      exact st_nil hf (th_n ⟨ha, rfl⟩)
    clear hf; intro a hf
    refine dr_take 7 (.int .i64 q50.2) rfl (by kernel_rfl) (by kernel_rfl) (by kernel_rfl) (by kernel_rfl) rfl rfl hf (by decide) rfl (fun w hp => ?_) ⟨_, hp⟩ ?_
    · obtain ⟨_, hp⟩ := hp
      refine st_assign hf rfl rfl (by decide) ?_
      clear hf; intro a ha hf
      exact st_nil hf (th_n ⟨ha, rfl⟩)
    clear hf; intro a hf
    refine dr_end (by kernel_rfl) ?_ _
    have hp := bk45 _ _ hp
    exact ⟨v48, v57, hf.sub ⟨rfl, rfl, rfl, rfl, rfl, rfl, rfl, rfl, rfl, rfl, rfl, rfl, rfl, rfl, rfl, rfl, rfl, rfl, trivial⟩, hp⟩
  rintro a w ⟨v48, v57, hf, hp⟩
  refine th_n ?_
  refine wp_seq ?_
  obtain ⟨S59, hp60, rd61, up62, bk63⟩ := Hp.lendO hp (i := 0) rfl
  have rl64 := rd61
  obtain ⟨hc65, h⟩ := chk h
  obtain ⟨q68, hcall69, h⟩ := bnd h
  refine wp_cutN (fun a w => ∃ (v66 : Value) (v75 : Value), Fr 235 a [(1, optr v3 0), (3, .int .i64 q9.1), (4, .int .i64 q9.2), (5, .int .i64 q11.1), (6, .int .i64 q11.2), (7, .bool q13.1), (8, .int .i64 q13.2), (9, .bool q15.1), (10, .int .i64 q15.2), (11, .bool q17.1), (12, .int .i64 q17.2), (13, .bool q19.1), (14, .int .i64 q19.2), (15, .int .i64 q21.1), (16, .int .i64 q21.2), (18, .int .i64 q32.2), (19, v57), (20, .int .i64 q50.2), (22, .int .i64 q68.2)] ∧ Hp S w0 w (Res.obj 34 v3 [.int .i64 q1.1, .int .u32 q1.2.1, .int .u32 q1.2.2] :: Res.sl Ek.bool 4 v66 (mk0 (16383 : Int) false) :: Res.sl (Ek.int .i64) 3 v75 q68.1 :: Res.sl Ek.bool 4 v48 (mk0 (16382 : Int) false) :: Res.sl Ek.bool 4 v57 q50.1 :: Res.sl Ek.bool 4 v30 (mk0 (16383 : Int) false) :: Res.sl Ek.bool 4 v39 q32.1 :: Res.obj 34 v7 [.int .i64 q5.1, .int .u32 q5.2.1, .int .u32 q5.2.2] :: ow)) ?_ ?_
  · have hp := hp60.same (Same.drew w)
    refine dr_begin' (fun a w => ∃ (v66 : Value) (v75 : Value), Fr 235 a [(1, optr v3 0), (3, .int .i64 q9.1), (4, .int .i64 q9.2), (5, .int .i64 q11.1), (6, .int .i64 q11.2), (7, .bool q13.1), (8, .int .i64 q13.2), (9, .bool q15.1), (10, .int .i64 q15.2), (11, .bool q17.1), (12, .int .i64 q17.2), (13, .bool q19.1), (14, .int .i64 q19.2), (15, .int .i64 q21.1), (16, .int .i64 q21.2), (18, .int .i64 q32.2), (19, v57), (20, .int .i64 q50.2), (22, .int .i64 q68.2)] ∧ Hp S w0 w (Res.obj 34 v3 [.int .i64 q1.1, .int .u32 q1.2.1, .int .u32 q1.2.2] :: Res.sl Ek.bool 4 v66 (mk0 (16383 : Int) false) :: Res.sl (Ek.int .i64) 3 v75 q68.1 :: Res.sl Ek.bool 4 v48 (mk0 (16382 : Int) false) :: Res.sl Ek.bool 4 v57 q50.1 :: Res.sl Ek.bool 4 v30 (mk0 (16383 : Int) false) :: Res.sl Ek.bool 4 v39 q32.1 :: Res.obj 34 v7 [.int .i64 q5.1, .int .u32 q5.2.1, .int .u32 q5.2.2] :: ow)) (fun w' => ∃ l, Hp S59 w w' l) [] (by kernel_rfl) ?_
    refine dr_take 0 (.agg #[.int .i64 q1.1, .int .u32 q1.2.1, .int .u32 q1.2.2]) rfl (by kernel_rfl) (by kernel_rfl) (by kernel_rfl) (by kernel_rfl) rfl rfl hf (by decide) rfl (fun w hp => ?_) ⟨_, hp⟩ ?_
    · obtain ⟨_, hp⟩ := hp
      refine st_ldOA (m := 3) (us := [.int .i64 q1.1, .int .u32 q1.2.1, .int .u32 q1.2.2]) hf (by decide) (by kernel_rfl) rfl rfl (rl64.ob hp) rfl rfl ?_
      clear hf; intro a ha hf
      exact st_nil hf (th_n ⟨ha, rfl⟩)
    clear hf; intro a hf
    refine dr_one 1 rfl (by kernel_rfl) ?_
    refine st_make (E := Ek.bool) hf (by decide) elt4 Try.underlying25 (by decide) hp rfl rfl rfl hc65.1 hc65.2.1 hc65.2.2 ?_
    clear hf; intro a w v66 hf hp0; clear hp; have hp := hp0; clear hp0
    rw [← mk0_eq] at hp
    replace hp : Hp _ _ _ (Res.sl Ek.bool 4 v66 (mk0 (16383 : Int) false) :: Res.sl Ek.bool 4 v48 (mk0 (16382 : Int) false) :: Res.sl Ek.bool 4 v57 q50.1 :: Res.sl Ek.bool 4 v30 (mk0 (16383 : Int) false) :: Res.sl Ek.bool 4 v39 q32.1 :: Res.obj 34 v7 [.int .i64 q5.1, .int .u32 q5.2.1, .int .u32 q5.2.2] :: ow) := hp
    refine st_nil hf (th_n ⟨fun _ _ => ⟨_, hp⟩, ?_⟩)
    refine dr_one 2 rfl (by kernel_rfl) ?_
    obtain ⟨S70, hp71, rd72, up73, bk74⟩ := Hp.lendS hp (i := 0) rfl
    refine st_call hf (by decide) Try.func14 rfl rfl rfl rfl rfl (f_trellis_Code_Walk_c hp71 _ _ _ _ _ rd72 hcall69) ?_
    rintro _ w ⟨v75, rfl, hp0⟩
    have hp0 := bk74 _ _ hp0
    clear hp; have hp := hp0; clear hp0
    replace hp : Hp _ _ _ (Res.sl Ek.bool 4 v66 (mk0 (16383 : Int) false) :: Res.sl (Ek.int .i64) 3 v75 q68.1 :: Res.sl Ek.bool 4 v48 (mk0 (16382 : Int) false) :: Res.sl Ek.bool 4 v57 q50.1 :: Res.sl Ek.bool 4 v30 (mk0 (16383 : Int) false) :: Res.sl Ek.bool 4 v39 q32.1 :: Res.obj 34 v7 [.int .i64 q5.1, .int .u32 q5.2.1, .int .u32 q5.2.2] :: ow) := hp
    refine ⟨_, rfl, ?_⟩
    clear hf; intro a hf
    refine st_nil hf (th_n ⟨fun _ _ => ⟨_, hp⟩, ?_⟩)
    refine dr_take 3 (.tuple #[v75, .int .i64 q68.2]) rfl (by kernel_rfl) (by kernel_rfl) (by kernel_rfl) (by kernel_rfl) rfl rfl hf (by decide) rfl (fun w hp => ?_) ⟨_, hp⟩ ?_
    · obtain ⟨_, hp⟩ := hp
      refine st_move hf rfl rfl (by decide) ?_
      clear hf; intro a ha hf
      exact st_nil hf (th_n ⟨ha, rfl⟩)
    clear hf; intro a hf
    refine dr_take 4 (v75) rfl (by kernel_rfl) (by kernel_rfl) (by kernel_rfl) (by kernel_rfl) rfl rfl hf (by decide) rfl (fun w hp => ?_) ⟨_, hp⟩ ?_
    · obtain ⟨_, hp⟩ := hp
      refine st_extract hf (by decide) rfl rfl rfl ?_
      clear hf; intro a ha hf
      exact st_nil hf (th_n ⟨ha, rfl⟩)
    clear hf; intro a hf
    refine dr_take 5 (.int .i64 q68.2) rfl (by kernel_rfl) (by kernel_rfl) (by kernel_rfl) (by kernel_rfl) rfl rfl hf (by decide) rfl (fun w hp => ?_) ⟨_, hp⟩ ?_
    · obtain ⟨_, hp⟩ := hp
      refine st_extract hf (by decide) rfl rfl rfl ?_
      clear hf; intro a ha hf
      exact st_nil hf (th_n ⟨ha, rfl⟩)
    clear hf; intro a hf
    refine dr_take 6 (v75) rfl (by kernel_rfl) (by kernel_rfl) (by kernel_rfl) (by kernel_rfl) rfl rfl hf (by decide) rfl (fun w hp => ?_) ⟨_, hp⟩ ?_
    · obtain ⟨_, hp⟩ := hp
      refine st_assign hf rfl rfl (by decide) ?_
      clear hf; intro a ha hf
      exact st_nil hf (th_n ⟨ha, rfl⟩)
    clear hf; intro a hf
    refine dr_take 7 (.int .i64 q68.2) rfl (by kernel_rfl) (by kernel_rfl) (by kernel_rfl) (by kernel_rfl) rfl rfl hf (by decide) rfl (fun w hp => ?_) ⟨_, hp⟩ ?_
    · obtain ⟨_, hp⟩ := hp
      refine st_assign hf rfl rfl (by decide) ?_
      clear hf; intro a ha hf
      exact st_nil hf (th_n ⟨ha, rfl⟩)
    clear hf; intro a hf
    refine dr_end (by kernel_rfl) ?_ _
    have hp := bk63 _ _ hp
    exact ⟨v66, v75, hf.sub ⟨rfl, rfl, rfl, rfl, rfl, rfl, rfl, rfl, rfl, rfl, rfl, rfl, rfl, rfl, rfl, rfl, rfl, rfl, rfl, trivial⟩, hp⟩
  rintro a w ⟨v66, v75, hf, hp⟩
  refine th_n ?_
  refine wp_seq ?_
  obtain ⟨S77, hp78, rd79, up80, bk81⟩ := Hp.lendO hp (i := 0) rfl
  have rl82 := rd79
  obtain ⟨hc83, h⟩ := chk h
  obtain ⟨q86, hcall87, h⟩ := bnd h
  refine wp_cutN (fun a w => ∃ (v84 : Value) (v93 : Value), Fr 235 a [(1, optr v3 0), (3, .int .i64 q9.1), (4, .int .i64 q9.2), (5, .int .i64 q11.1), (6, .int .i64 q11.2), (7, .bool q13.1), (8, .int .i64 q13.2), (9, .bool q15.1), (10, .int .i64 q15.2), (11, .bool q17.1), (12, .int .i64 q17.2), (13, .bool q19.1), (14, .int .i64 q19.2), (15, .int .i64 q21.1), (16, .int .i64 q21.2), (18, .int .i64 q32.2), (19, v57), (20, .int .i64 q50.2), (22, .int .i64 q68.2), (24, .int .i64 q86.2)] ∧ Hp S w0 w (Res.obj 34 v3 [.int .i64 q1.1, .int .u32 q1.2.1, .int .u32 q1.2.2] :: Res.sl Ek.bool 4 v84 (mk0 (32769 : Int) false) :: Res.sl Ek.bool 4 v93 q86.1 :: Res.sl Ek.bool 4 v66 (mk0 (16383 : Int) false) :: Res.sl (Ek.int .i64) 3 v75 q68.1 :: Res.sl Ek.bool 4 v48 (mk0 (16382 : Int) false) :: Res.sl Ek.bool 4 v57 q50.1 :: Res.sl Ek.bool 4 v30 (mk0 (16383 : Int) false) :: Res.sl Ek.bool 4 v39 q32.1 :: Res.obj 34 v7 [.int .i64 q5.1, .int .u32 q5.2.1, .int .u32 q5.2.2] :: ow)) ?_ ?_
  · have hp := hp78.same (Same.drew w)
    refine dr_begin' (fun a w => ∃ (v84 : Value) (v93 : Value), Fr 235 a [(1, optr v3 0), (3, .int .i64 q9.1), (4, .int .i64 q9.2), (5, .int .i64 q11.1), (6, .int .i64 q11.2), (7, .bool q13.1), (8, .int .i64 q13.2), (9, .bool q15.1), (10, .int .i64 q15.2), (11, .bool q17.1), (12, .int .i64 q17.2), (13, .bool q19.1), (14, .int .i64 q19.2), (15, .int .i64 q21.1), (16, .int .i64 q21.2), (18, .int .i64 q32.2), (19, v57), (20, .int .i64 q50.2), (22, .int .i64 q68.2), (24, .int .i64 q86.2)] ∧ Hp S w0 w (Res.obj 34 v3 [.int .i64 q1.1, .int .u32 q1.2.1, .int .u32 q1.2.2] :: Res.sl Ek.bool 4 v84 (mk0 (32769 : Int) false) :: Res.sl Ek.bool 4 v93 q86.1 :: Res.sl Ek.bool 4 v66 (mk0 (16383 : Int) false) :: Res.sl (Ek.int .i64) 3 v75 q68.1 :: Res.sl Ek.bool 4 v48 (mk0 (16382 : Int) false) :: Res.sl Ek.bool 4 v57 q50.1 :: Res.sl Ek.bool 4 v30 (mk0 (16383 : Int) false) :: Res.sl Ek.bool 4 v39 q32.1 :: Res.obj 34 v7 [.int .i64 q5.1, .int .u32 q5.2.1, .int .u32 q5.2.2] :: ow)) (fun w' => ∃ l, Hp S77 w w' l) [] (by kernel_rfl) ?_
    refine dr_take 0 (.agg #[.int .i64 q1.1, .int .u32 q1.2.1, .int .u32 q1.2.2]) rfl (by kernel_rfl) (by kernel_rfl) (by kernel_rfl) (by kernel_rfl) rfl rfl hf (by decide) rfl (fun w hp => ?_) ⟨_, hp⟩ ?_
    · obtain ⟨_, hp⟩ := hp
      refine st_ldOA (m := 3) (us := [.int .i64 q1.1, .int .u32 q1.2.1, .int .u32 q1.2.2]) hf (by decide) (by kernel_rfl) rfl rfl (rl82.ob hp) rfl rfl ?_
      clear hf; intro a ha hf
      exact st_nil hf (th_n ⟨ha, rfl⟩)
    clear hf; intro a hf
    refine dr_one 1 rfl (by kernel_rfl) ?_
    refine st_make (E := Ek.bool) hf (by decide) elt4 Try.underlying25 (by decide) hp rfl rfl rfl hc83.1 hc83.2.1 hc83.2.2 ?_
    clear hf; intro a w v84 hf hp0; clear hp; have hp := hp0; clear hp0
    rw [← mk0_eq] at hp
    replace hp : Hp _ _ _ (Res.sl Ek.bool 4 v84 (mk0 (32769 : Int) false) :: Res.sl Ek.bool 4 v66 (mk0 (16383 : Int) false) :: Res.sl (Ek.int .i64) 3 v75 q68.1 :: Res.sl Ek.bool 4 v48 (mk0 (16382 : Int) false) :: Res.sl Ek.bool 4 v57 q50.1 :: Res.sl Ek.bool 4 v30 (mk0 (16383 : Int) false) :: Res.sl Ek.bool 4 v39 q32.1 :: Res.obj 34 v7 [.int .i64 q5.1, .int .u32 q5.2.1, .int .u32 q5.2.2] :: ow) := hp
    refine st_nil hf (th_n ⟨fun _ _ => ⟨_, hp⟩, ?_⟩)
    refine dr_one 2 rfl (by kernel_rfl) ?_
    obtain ⟨S88, hp89, rd90, up91, bk92⟩ := Hp.lendS hp (i := 0) rfl
    refine st_call hf (by decide) Try.func20 rfl rfl rfl rfl rfl (f_trellis_Code_Exact_c hp89 _ _ _ _ _ rd90 hcall87) ?_
    rintro _ w ⟨v93, rfl, hp0⟩
    have hp0 := bk92 _ _ hp0
    clear hp; have hp := hp0; clear hp0
    replace hp : Hp _ _ _ (Res.sl Ek.bool 4 v84 (mk0 (32769 : Int) false) :: Res.sl Ek.bool 4 v93 q86.1 :: Res.sl Ek.bool 4 v66 (mk0 (16383 : Int) false) :: Res.sl (Ek.int .i64) 3 v75 q68.1 :: Res.sl Ek.bool 4 v48 (mk0 (16382 : Int) false) :: Res.sl Ek.bool 4 v57 q50.1 :: Res.sl Ek.bool 4 v30 (mk0 (16383 : Int) false) :: Res.sl Ek.bool 4 v39 q32.1 :: Res.obj 34 v7 [.int .i64 q5.1, .int .u32 q5.2.1, .int .u32 q5.2.2] :: ow) := hp
    refine ⟨_, rfl, ?_⟩
    clear hf; intro a hf
    refine st_nil hf (th_n ⟨fun _ _ => ⟨_, hp⟩, ?_⟩)
    refine dr_take 3 (.tuple #[v93, .int .i64 q86.2]) rfl (by kernel_rfl) (by kernel_rfl) (by kernel_rfl) (by kernel_rfl) rfl rfl hf (by decide) rfl (fun w hp => ?_) ⟨_, hp⟩ ?_
    · obtain ⟨_, hp⟩ := hp
      refine st_move hf rfl rfl (by decide) ?_
      clear hf; intro a ha hf
      exact st_nil hf (th_n ⟨ha, rfl⟩)
    clear hf; intro a hf
    refine dr_take 4 (v93) rfl (by kernel_rfl) (by kernel_rfl) (by kernel_rfl) (by kernel_rfl) rfl rfl hf (by decide) rfl (fun w hp => ?_) ⟨_, hp⟩ ?_
    · obtain ⟨_, hp⟩ := hp
      refine st_extract hf (by decide) rfl rfl rfl ?_
      clear hf; intro a ha hf
      exact st_nil hf (th_n ⟨ha, rfl⟩)
    clear hf; intro a hf
    refine dr_take 5 (.int .i64 q86.2) rfl (by kernel_rfl) (by kernel_rfl) (by kernel_rfl) (by kernel_rfl) rfl rfl hf (by decide) rfl (fun w hp => ?_) ⟨_, hp⟩ ?_
    · obtain ⟨_, hp⟩ := hp
      refine st_extract hf (by decide) rfl rfl rfl ?_
      clear hf; intro a ha hf
      exact st_nil hf (th_n ⟨ha, rfl⟩)
    clear hf; intro a hf
    refine dr_take 6 (v93) rfl (by kernel_rfl) (by kernel_rfl) (by kernel_rfl) (by kernel_rfl) rfl rfl hf (by decide) rfl (fun w hp => ?_) ⟨_, hp⟩ ?_
    · obtain ⟨_, hp⟩ := hp
      refine st_assign hf rfl rfl (by decide) ?_
      clear hf; intro a ha hf
      exact st_nil hf (th_n ⟨ha, rfl⟩)
    clear hf; intro a hf
    refine dr_take 7 (.int .i64 q86.2) rfl (by kernel_rfl) (by kernel_rfl) (by kernel_rfl) (by kernel_rfl) rfl rfl hf (by decide) rfl (fun w hp => ?_) ⟨_, hp⟩ ?_
    · obtain ⟨_, hp⟩ := hp
      refine st_assign hf rfl rfl (by decide) ?_
      clear hf; intro a ha hf
      exact st_nil hf (th_n ⟨ha, rfl⟩)
    clear hf; intro a hf
    refine dr_end (by kernel_rfl) ?_ _
    have hp := bk81 _ _ hp
    exact ⟨v84, v93, hf.sub ⟨rfl, rfl, rfl, rfl, rfl, rfl, rfl, rfl, rfl, rfl, rfl, rfl, rfl, rfl, rfl, rfl, rfl, rfl, rfl, rfl, trivial⟩, hp⟩
  rintro a w ⟨v84, v93, hf, hp⟩
  refine th_n ?_
  refine wp_seq ?_
  refine wp_reg ?_
  refine st_ldOA (m := 3) (us := [.int .i64 q1.1, .int .u32 q1.2.1, .int .u32 q1.2.2]) hf (by decide) (by kernel_rfl) rfl rfl (hp.ob (i := 0) rfl) rfl rfl ?_
  clear hf; intro a ha hf; clear ha
  refine st_move hf rfl rfl (by decide) ?_
  clear hf; intro a ha hf; clear ha
  obtain ⟨q95, hcall96, h⟩ := bnd h
  obtain ⟨S97, hp98, rd99, up100, bk101⟩ := Hp.lendS hp (i := 6) rfl
  refine st_call hf (by decide) Try.func20 rfl rfl rfl rfl rfl (f_trellis_Code_Exact_c hp98 _ _ _ _ _ rd99 hcall96) ?_
  rintro _ w ⟨v102, rfl, hp0⟩
  have hp0 := bk101 _ _ hp0
  clear hp; have hp := hp0; clear hp0
  replace hp : Hp _ _ _ (Res.sl Ek.bool 4 v57 q50.1 :: Res.sl Ek.bool 4 v102 q95.1 :: Res.obj 34 v3 [.int .i64 q1.1, .int .u32 q1.2.1, .int .u32 q1.2.2] :: Res.sl Ek.bool 4 v84 (mk0 (32769 : Int) false) :: Res.sl Ek.bool 4 v93 q86.1 :: Res.sl Ek.bool 4 v66 (mk0 (16383 : Int) false) :: Res.sl (Ek.int .i64) 3 v75 q68.1 :: Res.sl Ek.bool 4 v48 (mk0 (16382 : Int) false) :: Res.sl Ek.bool 4 v30 (mk0 (16383 : Int) false) :: Res.sl Ek.bool 4 v39 q32.1 :: Res.obj 34 v7 [.int .i64 q5.1, .int .u32 q5.2.1, .int .u32 q5.2.2] :: ow) := hp
  refine ⟨_, rfl, ?_⟩
  clear hf; intro a hf
  refine st_move hf rfl rfl (by decide) ?_
  clear hf; intro a ha hf; clear ha
  refine st_extract hf (by decide) rfl rfl rfl ?_
  clear hf; intro a ha hf; clear ha
  refine st_extract hf (by decide) rfl rfl rfl ?_
  clear hf; intro a ha hf; clear ha
  refine st_assign hf rfl rfl (by decide) ?_
  clear hf; intro a ha hf; clear ha
  refine st_assign hf rfl rfl (by decide) ?_
  clear hf; intro a ha hf; clear ha
  refine st_nil hf ?_
  refine th_n ?_
  refine wp_seq ?_
  refine wp_reg ?_
  refine st_buildA (vals := []) (cells := [.int .i64 (0 : Int), .int .u32 (0 : Int), .int .u32 (0 : Int)]) hf (by decide) rfl (by simp []) (fun w => by kernel_rfl) ?_
  clear hf; intro a ha hf; clear ha
  obtain ⟨q104, hcall105, h⟩ := bnd h
  refine st_call hf (by decide) Try.func13 rfl rfl rfl rfl rfl (f_trellis_Code_Encode_c hp _ _ _ _ _ (RdS.nil _ _ _) hcall105) ?_
  rintro _ w ⟨v106, rfl, hp0⟩
  clear hp; have hp := hp0; clear hp0
  replace hp : Hp _ _ _ (Res.sl Ek.bool 4 v106 q104.1 :: Res.sl Ek.bool 4 v57 q50.1 :: Res.sl Ek.bool 4 v102 q95.1 :: Res.obj 34 v3 [.int .i64 q1.1, .int .u32 q1.2.1, .int .u32 q1.2.2] :: Res.sl Ek.bool 4 v84 (mk0 (32769 : Int) false) :: Res.sl Ek.bool 4 v93 q86.1 :: Res.sl Ek.bool 4 v66 (mk0 (16383 : Int) false) :: Res.sl (Ek.int .i64) 3 v75 q68.1 :: Res.sl Ek.bool 4 v48 (mk0 (16382 : Int) false) :: Res.sl Ek.bool 4 v30 (mk0 (16383 : Int) false) :: Res.sl Ek.bool 4 v39 q32.1 :: Res.obj 34 v7 [.int .i64 q5.1, .int .u32 q5.2.1, .int .u32 q5.2.2] :: ow) := hp
  refine ⟨_, rfl, ?_⟩
  clear hf; intro a hf
  refine st_move hf rfl rfl (by decide) ?_
  clear hf; intro a ha hf; clear ha
  refine st_extract hf (by decide) rfl rfl rfl ?_
  clear hf; intro a ha hf; clear ha
  refine st_extract hf (by decide) rfl rfl rfl ?_
  clear hf; intro a ha hf; clear ha
  refine st_assign hf rfl rfl (by decide) ?_
  clear hf; intro a ha hf; clear ha
  refine st_assign hf rfl rfl (by decide) ?_
  clear hf; intro a ha hf; clear ha
  refine st_nil hf ?_
  refine th_n ?_
  refine wp_seq ?_
  refine wp_reg ?_
  refine st_ldOA (m := 3) (us := [.int .i64 q1.1, .int .u32 q1.2.1, .int .u32 q1.2.2]) hf (by decide) (by kernel_rfl) rfl rfl (hp.ob (i := 3) rfl) rfl rfl ?_
  clear hf; intro a ha hf; clear ha
  obtain ⟨q108, hcall109, h⟩ := bnd h
  refine st_call hf (by decide) Try.func16 rfl rfl rfl rfl rfl (f_trellis_Code_Step_c hp _ _ _ _ _ hcall109) ?_
  rintro _ w ⟨rfl, hp0⟩
  clear hp; have hp := hp0; clear hp0
  replace hp : Hp _ _ _ (Res.sl Ek.bool 4 v106 q104.1 :: Res.sl Ek.bool 4 v57 q50.1 :: Res.sl Ek.bool 4 v102 q95.1 :: Res.obj 34 v3 [.int .i64 q1.1, .int .u32 q1.2.1, .int .u32 q1.2.2] :: Res.sl Ek.bool 4 v84 (mk0 (32769 : Int) false) :: Res.sl Ek.bool 4 v93 q86.1 :: Res.sl Ek.bool 4 v66 (mk0 (16383 : Int) false) :: Res.sl (Ek.int .i64) 3 v75 q68.1 :: Res.sl Ek.bool 4 v48 (mk0 (16382 : Int) false) :: Res.sl Ek.bool 4 v30 (mk0 (16383 : Int) false) :: Res.sl Ek.bool 4 v39 q32.1 :: Res.obj 34 v7 [.int .i64 q5.1, .int .u32 q5.2.1, .int .u32 q5.2.2] :: ow) := hp
  refine ⟨_, rfl, ?_⟩
  clear hf; intro a hf
  refine st_move hf rfl rfl (by decide) ?_
  clear hf; intro a ha hf; clear ha
  refine st_extract hf (by decide) rfl rfl rfl ?_
  clear hf; intro a ha hf; clear ha
  refine st_extract hf (by decide) rfl rfl rfl ?_
  clear hf; intro a ha hf; clear ha
  refine st_extract hf (by decide) rfl rfl rfl ?_
  clear hf; intro a ha hf; clear ha
  refine st_extract hf (by decide) rfl rfl rfl ?_
  clear hf; intro a ha hf; clear ha
  refine st_assign hf rfl rfl (by decide) ?_
  clear hf; intro a ha hf; clear ha
  refine st_assign hf rfl rfl (by decide) ?_
  clear hf; intro a ha hf; clear ha
  refine st_assign hf rfl rfl (by decide) ?_
  clear hf; intro a ha hf; clear ha
  refine st_assign hf rfl rfl (by decide) ?_
  clear hf; intro a ha hf; clear ha
  refine st_nil hf ?_
  refine th_n ?_
  refine wp_seq ?_
  refine wp_reg ?_
  refine st_ldOA (m := 3) (us := [.int .i64 q1.1, .int .u32 q1.2.1, .int .u32 q1.2.2]) hf (by decide) (by kernel_rfl) rfl rfl (hp.ob (i := 3) rfl) rfl rfl ?_
  clear hf; intro a ha hf; clear ha
  obtain ⟨q110, hcall111, h⟩ := bnd h
  refine st_call hf (by decide) Try.func17 rfl rfl rfl rfl rfl (f_trellis_Code_From_c hp _ _ _ _ hcall111) ?_
  rintro _ w ⟨rfl, hp0⟩
  clear hp; have hp := hp0; clear hp0
  replace hp : Hp _ _ _ (Res.sl Ek.bool 4 v106 q104.1 :: Res.sl Ek.bool 4 v57 q50.1 :: Res.sl Ek.bool 4 v102 q95.1 :: Res.obj 34 v3 [.int .i64 q1.1, .int .u32 q1.2.1, .int .u32 q1.2.2] :: Res.sl Ek.bool 4 v84 (mk0 (32769 : Int) false) :: Res.sl Ek.bool 4 v93 q86.1 :: Res.sl Ek.bool 4 v66 (mk0 (16383 : Int) false) :: Res.sl (Ek.int .i64) 3 v75 q68.1 :: Res.sl Ek.bool 4 v48 (mk0 (16382 : Int) false) :: Res.sl Ek.bool 4 v30 (mk0 (16383 : Int) false) :: Res.sl Ek.bool 4 v39 q32.1 :: Res.obj 34 v7 [.int .i64 q5.1, .int .u32 q5.2.1, .int .u32 q5.2.2] :: ow) := hp
  refine ⟨_, rfl, ?_⟩
  clear hf; intro a hf
  refine st_move hf rfl rfl (by decide) ?_
  clear hf; intro a ha hf; clear ha
  refine st_extract hf (by decide) rfl rfl rfl ?_
  clear hf; intro a ha hf; clear ha
  refine st_extract hf (by decide) rfl rfl rfl ?_
  clear hf; intro a ha hf; clear ha
  refine st_alloc (cs := [.int .i64 (0 : Int), .int .i64 (0 : Int)]) (zv := .agg #[.int .i64 (0 : Int), .int .i64 (0 : Int)]) hf (by decide) (by kernel_rfl) rfl hp rfl ?_
  clear hf; intro a w v112 hf hp0; clear hp; have hp := hp0; clear hp0
  replace hp : Hp _ _ _ (Res.obj 46 v112 [.int .i64 (0 : Int), .int .i64 (0 : Int)] :: Res.sl Ek.bool 4 v106 q104.1 :: Res.sl Ek.bool 4 v57 q50.1 :: Res.sl Ek.bool 4 v102 q95.1 :: Res.obj 34 v3 [.int .i64 q1.1, .int .u32 q1.2.1, .int .u32 q1.2.2] :: Res.sl Ek.bool 4 v84 (mk0 (32769 : Int) false) :: Res.sl Ek.bool 4 v93 q86.1 :: Res.sl Ek.bool 4 v66 (mk0 (16383 : Int) false) :: Res.sl (Ek.int .i64) 3 v75 q68.1 :: Res.sl Ek.bool 4 v48 (mk0 (16382 : Int) false) :: Res.sl Ek.bool 4 v30 (mk0 (16383 : Int) false) :: Res.sl Ek.bool 4 v39 q32.1 :: Res.obj 34 v7 [.int .i64 q5.1, .int .u32 q5.2.1, .int .u32 q5.2.2] :: ow) := hp
  refine st_stO (us := [.int .i64 q110.1.1, .int .i64 q110.1.2]) hf hp (i := 0) rfl rfl rfl rfl rfl (by rfl) (by kernel_rfl) (Nat.le_of_ble_eq_true rfl) ?_
  clear hf; intro a w hf hp0; clear hp; have hp := hp0; clear hp0
  replace hp : Hp _ _ _ (Res.obj 46 v112 [.int .i64 q110.1.1, .int .i64 q110.1.2] :: Res.sl Ek.bool 4 v106 q104.1 :: Res.sl Ek.bool 4 v57 q50.1 :: Res.sl Ek.bool 4 v102 q95.1 :: Res.obj 34 v3 [.int .i64 q1.1, .int .u32 q1.2.1, .int .u32 q1.2.2] :: Res.sl Ek.bool 4 v84 (mk0 (32769 : Int) false) :: Res.sl Ek.bool 4 v93 q86.1 :: Res.sl Ek.bool 4 v66 (mk0 (16383 : Int) false) :: Res.sl (Ek.int .i64) 3 v75 q68.1 :: Res.sl Ek.bool 4 v48 (mk0 (16382 : Int) false) :: Res.sl Ek.bool 4 v30 (mk0 (16383 : Int) false) :: Res.sl Ek.bool 4 v39 q32.1 :: Res.obj 34 v7 [.int .i64 q5.1, .int .u32 q5.2.1, .int .u32 q5.2.2] :: ow) := hp
  refine st_assign hf rfl rfl (by decide) ?_
  clear hf; intro a ha hf; clear ha
  refine st_nil hf ?_
  refine th_n ?_
  refine wp_seq ?_
  refine wp_seq ?_
  refine wp_reg ?_
  refine st_move hf rfl rfl (by decide) ?_
  clear hf; intro a ha hf; clear ha
  refine st_ineq hf (by decide) rfl rfl rfl ?_
  clear hf; intro a ha hf; clear ha
  refine st_move hf rfl rfl (by decide) ?_
  clear hf; intro a ha hf; clear ha
  refine wpList_cut 3 (fun a w => Fr 235 a [(1, optr v3 0), (5, .int .i64 q11.1), (6, .int .i64 q11.2), (7, .bool q13.1), (8, .int .i64 q13.2), (9, .bool q15.1), (10, .int .i64 q15.2), (11, .bool q17.1), (12, .int .i64 q17.2), (13, .bool q19.1), (14, .int .i64 q19.2), (15, .int .i64 q21.1), (16, .int .i64 q21.2), (18, .int .i64 q32.2), (19, v57), (20, .int .i64 q50.2), (22, .int .i64 q68.2), (24, .int .i64 q86.2), (25, v102), (26, .int .i64 q95.2), (28, .int .i64 q104.2), (32, .int .i64 q108.2.2.2), (34, .int .i64 q110.2), (126, .bool ((q9.1 != (5 : Int)) || (q9.2 != (0 : Int))))] ∧ Hp S w0 w (Res.obj 46 v112 [.int .i64 q110.1.1, .int .i64 q110.1.2] :: Res.sl Ek.bool 4 v106 q104.1 :: Res.sl Ek.bool 4 v57 q50.1 :: Res.sl Ek.bool 4 v102 q95.1 :: Res.obj 34 v3 [.int .i64 q1.1, .int .u32 q1.2.1, .int .u32 q1.2.2] :: Res.sl Ek.bool 4 v84 (mk0 (32769 : Int) false) :: Res.sl Ek.bool 4 v93 q86.1 :: Res.sl Ek.bool 4 v66 (mk0 (16383 : Int) false) :: Res.sl (Ek.int .i64) 3 v75 q68.1 :: Res.sl Ek.bool 4 v48 (mk0 (16382 : Int) false) :: Res.sl Ek.bool 4 v30 (mk0 (16383 : Int) false) :: Res.sl Ek.bool 4 v39 q32.1 :: Res.obj 34 v7 [.int .i64 q5.1, .int .u32 q5.2.1, .int .u32 q5.2.2] :: ow)) ?_ ?_
  · rcases Bool.eq_false_or_eq_true (q9.1 != (5 : Int)) with hb115 | hb115
    · skip
      refine st_skip hf (wantN hf rfl rfl hb115) rfl (by decide) ?_ rfl
      clear hf; intro a hf
      refine st_skip hf (wantN hf rfl rfl hb115) rfl (by decide) ?_ rfl
      clear hf; intro a hf
      refine st_pick (v := .bool true) hf rfl rfl (fun hb' => ?_) (fun hb' => ?_) (by decide) ?_
      · rfl
      · exact absurd (hb115.symm.trans hb') (by decide)
      clear hf; intro a ha hf; clear ha
      refine st_nil hf (th_n ?_)
      exact ⟨hf.sub ⟨rfl, rfl, rfl, rfl, rfl, rfl, rfl, rfl, rfl, rfl, rfl, rfl, rfl, rfl, rfl, rfl, rfl, rfl, rfl, rfl, rfl, rfl, rfl, (by rw [hb115]; rfl), trivial⟩, hp⟩
    refine st_move hf (wantY hf rfl rfl hb115) rfl (by decide) ?_
    clear hf; intro a ha hf; clear ha
    refine st_ineq hf (by decide) (wantY hf rfl rfl hb115) rfl rfl ?_
    clear hf; intro a ha hf; clear ha
    refine st_pick (v := .bool (q9.2 != (0 : Int))) hf rfl rfl (fun hb' => ?_) (fun hb' => ?_) (by decide) ?_
    · exact absurd (hb115.symm.trans hb') (by decide)
    · rfl
    clear hf; intro a ha hf; clear ha
    refine st_nil hf (th_n ?_)
    exact ⟨hf.sub ⟨rfl, rfl, rfl, rfl, rfl, rfl, rfl, rfl, rfl, rfl, rfl, rfl, rfl, rfl, rfl, rfl, rfl, rfl, rfl, rfl, rfl, rfl, rfl, (by rw [hb115]; rfl), trivial⟩, hp⟩
  rintro a w ⟨hf, hp⟩
  refine st_move hf rfl rfl (by decide) ?_
  clear hf; intro a ha hf; clear ha
  refine wpList_cut 3 (fun a w => Fr 235 a [(1, optr v3 0), (6, .int .i64 q11.2), (7, .bool q13.1), (8, .int .i64 q13.2), (9, .bool q15.1), (10, .int .i64 q15.2), (11, .bool q17.1), (12, .int .i64 q17.2), (13, .bool q19.1), (14, .int .i64 q19.2), (15, .int .i64 q21.1), (16, .int .i64 q21.2), (18, .int .i64 q32.2), (19, v57), (20, .int .i64 q50.2), (22, .int .i64 q68.2), (24, .int .i64 q86.2), (25, v102), (26, .int .i64 q95.2), (28, .int .i64 q104.2), (32, .int .i64 q108.2.2.2), (34, .int .i64 q110.2), (130, .bool (((q9.1 != (5 : Int)) || (q9.2 != (0 : Int))) || (q11.1 != (10 : Int))))] ∧ Hp S w0 w (Res.obj 46 v112 [.int .i64 q110.1.1, .int .i64 q110.1.2] :: Res.sl Ek.bool 4 v106 q104.1 :: Res.sl Ek.bool 4 v57 q50.1 :: Res.sl Ek.bool 4 v102 q95.1 :: Res.obj 34 v3 [.int .i64 q1.1, .int .u32 q1.2.1, .int .u32 q1.2.2] :: Res.sl Ek.bool 4 v84 (mk0 (32769 : Int) false) :: Res.sl Ek.bool 4 v93 q86.1 :: Res.sl Ek.bool 4 v66 (mk0 (16383 : Int) false) :: Res.sl (Ek.int .i64) 3 v75 q68.1 :: Res.sl Ek.bool 4 v48 (mk0 (16382 : Int) false) :: Res.sl Ek.bool 4 v30 (mk0 (16383 : Int) false) :: Res.sl Ek.bool 4 v39 q32.1 :: Res.obj 34 v7 [.int .i64 q5.1, .int .u32 q5.2.1, .int .u32 q5.2.2] :: ow)) ?_ ?_
  · rcases Bool.eq_false_or_eq_true ((q9.1 != (5 : Int)) || (q9.2 != (0 : Int))) with hb117 | hb117
    · skip
      refine st_skip hf (wantN hf rfl rfl hb117) rfl (by decide) ?_ rfl
      clear hf; intro a hf
      refine st_skip hf (wantN hf rfl rfl hb117) rfl (by decide) ?_ rfl
      clear hf; intro a hf
      refine st_pick (v := .bool true) hf rfl rfl (fun hb' => ?_) (fun hb' => ?_) (by decide) ?_
      · rfl
      · exact absurd (hb117.symm.trans hb') (by decide)
      clear hf; intro a ha hf; clear ha
      refine st_nil hf (th_n ?_)
      exact ⟨hf.sub ⟨rfl, rfl, rfl, rfl, rfl, rfl, rfl, rfl, rfl, rfl, rfl, rfl, rfl, rfl, rfl, rfl, rfl, rfl, rfl, rfl, rfl, rfl, (by rw [hb117]; rfl), trivial⟩, hp⟩
    refine st_move hf (wantY hf rfl rfl hb117) rfl (by decide) ?_
    clear hf; intro a ha hf; clear ha
    refine st_ineq hf (by decide) (wantY hf rfl rfl hb117) rfl rfl ?_
    clear hf; intro a ha hf; clear ha
    refine st_pick (v := .bool (q11.1 != (10 : Int))) hf rfl rfl (fun hb' => ?_) (fun hb' => ?_) (by decide) ?_
    · exact absurd (hb117.symm.trans hb') (by decide)
    · rfl
    clear hf; intro a ha hf; clear ha
    refine st_nil hf (th_n ?_)
    exact ⟨hf.sub ⟨rfl, rfl, rfl, rfl, rfl, rfl, rfl, rfl, rfl, rfl, rfl, rfl, rfl, rfl, rfl, rfl, rfl, rfl, rfl, rfl, rfl, rfl, (by rw [hb117]; rfl), trivial⟩, hp⟩
  rintro a w ⟨hf, hp⟩
  refine st_move hf rfl rfl (by decide) ?_
  clear hf; intro a ha hf; clear ha
  refine wpList_cut 3 (fun a w => Fr 235 a [(1, optr v3 0), (7, .bool q13.1), (8, .int .i64 q13.2), (9, .bool q15.1), (10, .int .i64 q15.2), (11, .bool q17.1), (12, .int .i64 q17.2), (13, .bool q19.1), (14, .int .i64 q19.2), (15, .int .i64 q21.1), (16, .int .i64 q21.2), (18, .int .i64 q32.2), (19, v57), (20, .int .i64 q50.2), (22, .int .i64 q68.2), (24, .int .i64 q86.2), (25, v102), (26, .int .i64 q95.2), (28, .int .i64 q104.2), (32, .int .i64 q108.2.2.2), (34, .int .i64 q110.2), (134, .bool ((((q9.1 != (5 : Int)) || (q9.2 != (0 : Int))) || (q11.1 != (10 : Int))) || (q11.2 != (0 : Int))))] ∧ Hp S w0 w (Res.obj 46 v112 [.int .i64 q110.1.1, .int .i64 q110.1.2] :: Res.sl Ek.bool 4 v106 q104.1 :: Res.sl Ek.bool 4 v57 q50.1 :: Res.sl Ek.bool 4 v102 q95.1 :: Res.obj 34 v3 [.int .i64 q1.1, .int .u32 q1.2.1, .int .u32 q1.2.2] :: Res.sl Ek.bool 4 v84 (mk0 (32769 : Int) false) :: Res.sl Ek.bool 4 v93 q86.1 :: Res.sl Ek.bool 4 v66 (mk0 (16383 : Int) false) :: Res.sl (Ek.int .i64) 3 v75 q68.1 :: Res.sl Ek.bool 4 v48 (mk0 (16382 : Int) false) :: Res.sl Ek.bool 4 v30 (mk0 (16383 : Int) false) :: Res.sl Ek.bool 4 v39 q32.1 :: Res.obj 34 v7 [.int .i64 q5.1, .int .u32 q5.2.1, .int .u32 q5.2.2] :: ow)) ?_ ?_
  · rcases Bool.eq_false_or_eq_true (((q9.1 != (5 : Int)) || (q9.2 != (0 : Int))) || (q11.1 != (10 : Int))) with hb119 | hb119
    · skip
      refine st_skip hf (wantN hf rfl rfl hb119) rfl (by decide) ?_ rfl
      clear hf; intro a hf
      refine st_skip hf (wantN hf rfl rfl hb119) rfl (by decide) ?_ rfl
      clear hf; intro a hf
      refine st_pick (v := .bool true) hf rfl rfl (fun hb' => ?_) (fun hb' => ?_) (by decide) ?_
      · rfl
      · exact absurd (hb119.symm.trans hb') (by decide)
      clear hf; intro a ha hf; clear ha
      refine st_nil hf (th_n ?_)
      exact ⟨hf.sub ⟨rfl, rfl, rfl, rfl, rfl, rfl, rfl, rfl, rfl, rfl, rfl, rfl, rfl, rfl, rfl, rfl, rfl, rfl, rfl, rfl, rfl, (by rw [hb119]; rfl), trivial⟩, hp⟩
    refine st_move hf (wantY hf rfl rfl hb119) rfl (by decide) ?_
    clear hf; intro a ha hf; clear ha
    refine st_ineq hf (by decide) (wantY hf rfl rfl hb119) rfl rfl ?_
    clear hf; intro a ha hf; clear ha
    refine st_pick (v := .bool (q11.2 != (0 : Int))) hf rfl rfl (fun hb' => ?_) (fun hb' => ?_) (by decide) ?_
    · exact absurd (hb119.symm.trans hb') (by decide)
    · rfl
    clear hf; intro a ha hf; clear ha
    refine st_nil hf (th_n ?_)
    exact ⟨hf.sub ⟨rfl, rfl, rfl, rfl, rfl, rfl, rfl, rfl, rfl, rfl, rfl, rfl, rfl, rfl, rfl, rfl, rfl, rfl, rfl, rfl, rfl, (by rw [hb119]; rfl), trivial⟩, hp⟩
  rintro a w ⟨hf, hp⟩
  refine st_move hf rfl rfl (by decide) ?_
  clear hf; intro a ha hf; clear ha
  refine wpList_cut 2 (fun a w => Fr 235 a [(1, optr v3 0), (8, .int .i64 q13.2), (9, .bool q15.1), (10, .int .i64 q15.2), (11, .bool q17.1), (12, .int .i64 q17.2), (13, .bool q19.1), (14, .int .i64 q19.2), (15, .int .i64 q21.1), (16, .int .i64 q21.2), (18, .int .i64 q32.2), (19, v57), (20, .int .i64 q50.2), (22, .int .i64 q68.2), (24, .int .i64 q86.2), (25, v102), (26, .int .i64 q95.2), (28, .int .i64 q104.2), (32, .int .i64 q108.2.2.2), (34, .int .i64 q110.2), (137, .bool (((((q9.1 != (5 : Int)) || (q9.2 != (0 : Int))) || (q11.1 != (10 : Int))) || (q11.2 != (0 : Int))) || q13.1))] ∧ Hp S w0 w (Res.obj 46 v112 [.int .i64 q110.1.1, .int .i64 q110.1.2] :: Res.sl Ek.bool 4 v106 q104.1 :: Res.sl Ek.bool 4 v57 q50.1 :: Res.sl Ek.bool 4 v102 q95.1 :: Res.obj 34 v3 [.int .i64 q1.1, .int .u32 q1.2.1, .int .u32 q1.2.2] :: Res.sl Ek.bool 4 v84 (mk0 (32769 : Int) false) :: Res.sl Ek.bool 4 v93 q86.1 :: Res.sl Ek.bool 4 v66 (mk0 (16383 : Int) false) :: Res.sl (Ek.int .i64) 3 v75 q68.1 :: Res.sl Ek.bool 4 v48 (mk0 (16382 : Int) false) :: Res.sl Ek.bool 4 v30 (mk0 (16383 : Int) false) :: Res.sl Ek.bool 4 v39 q32.1 :: Res.obj 34 v7 [.int .i64 q5.1, .int .u32 q5.2.1, .int .u32 q5.2.2] :: ow)) ?_ ?_
  · rcases Bool.eq_false_or_eq_true ((((q9.1 != (5 : Int)) || (q9.2 != (0 : Int))) || (q11.1 != (10 : Int))) || (q11.2 != (0 : Int))) with hb121 | hb121
    · skip
      refine st_skip hf (wantN hf rfl rfl hb121) rfl (by decide) ?_ rfl
      clear hf; intro a hf
      refine st_pick (v := .bool true) hf rfl rfl (fun hb' => ?_) (fun hb' => ?_) (by decide) ?_
      · rfl
      · exact absurd (hb121.symm.trans hb') (by decide)
      clear hf; intro a ha hf; clear ha
      refine st_nil hf (th_n ?_)
      exact ⟨hf.sub ⟨rfl, rfl, rfl, rfl, rfl, rfl, rfl, rfl, rfl, rfl, rfl, rfl, rfl, rfl, rfl, rfl, rfl, rfl, rfl, rfl, (by rw [hb121]; rfl), trivial⟩, hp⟩
    refine st_move hf (wantY hf rfl rfl hb121) rfl (by decide) ?_
    clear hf; intro a ha hf; clear ha
    refine st_pick (v := .bool q13.1) hf rfl rfl (fun hb' => ?_) (fun hb' => ?_) (by decide) ?_
    · exact absurd (hb121.symm.trans hb') (by decide)
    · rfl
    clear hf; intro a ha hf; clear ha
    refine st_nil hf (th_n ?_)
    exact ⟨hf.sub ⟨rfl, rfl, rfl, rfl, rfl, rfl, rfl, rfl, rfl, rfl, rfl, rfl, rfl, rfl, rfl, rfl, rfl, rfl, rfl, rfl, (by rw [hb121]; rfl), trivial⟩, hp⟩
  rintro a w ⟨hf, hp⟩
  refine st_move hf rfl rfl (by decide) ?_
  clear hf; intro a ha hf; clear ha
  refine wpList_cut 3 (fun a w => Fr 235 a [(1, optr v3 0), (9, .bool q15.1), (10, .int .i64 q15.2), (11, .bool q17.1), (12, .int .i64 q17.2), (13, .bool q19.1), (14, .int .i64 q19.2), (15, .int .i64 q21.1), (16, .int .i64 q21.2), (18, .int .i64 q32.2), (19, v57), (20, .int .i64 q50.2), (22, .int .i64 q68.2), (24, .int .i64 q86.2), (25, v102), (26, .int .i64 q95.2), (28, .int .i64 q104.2), (32, .int .i64 q108.2.2.2), (34, .int .i64 q110.2), (141, .bool ((((((q9.1 != (5 : Int)) || (q9.2 != (0 : Int))) || (q11.1 != (10 : Int))) || (q11.2 != (0 : Int))) || q13.1) || (q13.2 != (0 : Int))))] ∧ Hp S w0 w (Res.obj 46 v112 [.int .i64 q110.1.1, .int .i64 q110.1.2] :: Res.sl Ek.bool 4 v106 q104.1 :: Res.sl Ek.bool 4 v57 q50.1 :: Res.sl Ek.bool 4 v102 q95.1 :: Res.obj 34 v3 [.int .i64 q1.1, .int .u32 q1.2.1, .int .u32 q1.2.2] :: Res.sl Ek.bool 4 v84 (mk0 (32769 : Int) false) :: Res.sl Ek.bool 4 v93 q86.1 :: Res.sl Ek.bool 4 v66 (mk0 (16383 : Int) false) :: Res.sl (Ek.int .i64) 3 v75 q68.1 :: Res.sl Ek.bool 4 v48 (mk0 (16382 : Int) false) :: Res.sl Ek.bool 4 v30 (mk0 (16383 : Int) false) :: Res.sl Ek.bool 4 v39 q32.1 :: Res.obj 34 v7 [.int .i64 q5.1, .int .u32 q5.2.1, .int .u32 q5.2.2] :: ow)) ?_ ?_
  · rcases Bool.eq_false_or_eq_true (((((q9.1 != (5 : Int)) || (q9.2 != (0 : Int))) || (q11.1 != (10 : Int))) || (q11.2 != (0 : Int))) || q13.1) with hb123 | hb123
    · skip
      refine st_skip hf (wantN hf rfl rfl hb123) rfl (by decide) ?_ rfl
      clear hf; intro a hf
      refine st_skip hf (wantN hf rfl rfl hb123) rfl (by decide) ?_ rfl
      clear hf; intro a hf
      refine st_pick (v := .bool true) hf rfl rfl (fun hb' => ?_) (fun hb' => ?_) (by decide) ?_
      · rfl
      · exact absurd (hb123.symm.trans hb') (by decide)
      clear hf; intro a ha hf; clear ha
      refine st_nil hf (th_n ?_)
      exact ⟨hf.sub ⟨rfl, rfl, rfl, rfl, rfl, rfl, rfl, rfl, rfl, rfl, rfl, rfl, rfl, rfl, rfl, rfl, rfl, rfl, rfl, (by rw [hb123]; rfl), trivial⟩, hp⟩
    refine st_move hf (wantY hf rfl rfl hb123) rfl (by decide) ?_
    clear hf; intro a ha hf; clear ha
    refine st_ineq hf (by decide) (wantY hf rfl rfl hb123) rfl rfl ?_
    clear hf; intro a ha hf; clear ha
    refine st_pick (v := .bool (q13.2 != (0 : Int))) hf rfl rfl (fun hb' => ?_) (fun hb' => ?_) (by decide) ?_
    · exact absurd (hb123.symm.trans hb') (by decide)
    · rfl
    clear hf; intro a ha hf; clear ha
    refine st_nil hf (th_n ?_)
    exact ⟨hf.sub ⟨rfl, rfl, rfl, rfl, rfl, rfl, rfl, rfl, rfl, rfl, rfl, rfl, rfl, rfl, rfl, rfl, rfl, rfl, rfl, (by rw [hb123]; rfl), trivial⟩, hp⟩
  rintro a w ⟨hf, hp⟩
  refine st_move hf rfl rfl (by decide) ?_
  clear hf; intro a ha hf; clear ha
  refine wpList_cut 2 (fun a w => Fr 235 a [(1, optr v3 0), (10, .int .i64 q15.2), (11, .bool q17.1), (12, .int .i64 q17.2), (13, .bool q19.1), (14, .int .i64 q19.2), (15, .int .i64 q21.1), (16, .int .i64 q21.2), (18, .int .i64 q32.2), (19, v57), (20, .int .i64 q50.2), (22, .int .i64 q68.2), (24, .int .i64 q86.2), (25, v102), (26, .int .i64 q95.2), (28, .int .i64 q104.2), (32, .int .i64 q108.2.2.2), (34, .int .i64 q110.2), (144, .bool (((((((q9.1 != (5 : Int)) || (q9.2 != (0 : Int))) || (q11.1 != (10 : Int))) || (q11.2 != (0 : Int))) || q13.1) || (q13.2 != (0 : Int))) || q15.1))] ∧ Hp S w0 w (Res.obj 46 v112 [.int .i64 q110.1.1, .int .i64 q110.1.2] :: Res.sl Ek.bool 4 v106 q104.1 :: Res.sl Ek.bool 4 v57 q50.1 :: Res.sl Ek.bool 4 v102 q95.1 :: Res.obj 34 v3 [.int .i64 q1.1, .int .u32 q1.2.1, .int .u32 q1.2.2] :: Res.sl Ek.bool 4 v84 (mk0 (32769 : Int) false) :: Res.sl Ek.bool 4 v93 q86.1 :: Res.sl Ek.bool 4 v66 (mk0 (16383 : Int) false) :: Res.sl (Ek.int .i64) 3 v75 q68.1 :: Res.sl Ek.bool 4 v48 (mk0 (16382 : Int) false) :: Res.sl Ek.bool 4 v30 (mk0 (16383 : Int) false) :: Res.sl Ek.bool 4 v39 q32.1 :: Res.obj 34 v7 [.int .i64 q5.1, .int .u32 q5.2.1, .int .u32 q5.2.2] :: ow)) ?_ ?_
  · rcases Bool.eq_false_or_eq_true ((((((q9.1 != (5 : Int)) || (q9.2 != (0 : Int))) || (q11.1 != (10 : Int))) || (q11.2 != (0 : Int))) || q13.1) || (q13.2 != (0 : Int))) with hb125 | hb125
    · skip
      refine st_skip hf (wantN hf rfl rfl hb125) rfl (by decide) ?_ rfl
      clear hf; intro a hf
      refine st_pick (v := .bool true) hf rfl rfl (fun hb' => ?_) (fun hb' => ?_) (by decide) ?_
      · rfl
      · exact absurd (hb125.symm.trans hb') (by decide)
      clear hf; intro a ha hf; clear ha
      refine st_nil hf (th_n ?_)
      exact ⟨hf.sub ⟨rfl, rfl, rfl, rfl, rfl, rfl, rfl, rfl, rfl, rfl, rfl, rfl, rfl, rfl, rfl, rfl, rfl, rfl, (by rw [hb125]; rfl), trivial⟩, hp⟩
    refine st_move hf (wantY hf rfl rfl hb125) rfl (by decide) ?_
    clear hf; intro a ha hf; clear ha
    refine st_pick (v := .bool q15.1) hf rfl rfl (fun hb' => ?_) (fun hb' => ?_) (by decide) ?_
    · exact absurd (hb125.symm.trans hb') (by decide)
    · rfl
    clear hf; intro a ha hf; clear ha
    refine st_nil hf (th_n ?_)
    exact ⟨hf.sub ⟨rfl, rfl, rfl, rfl, rfl, rfl, rfl, rfl, rfl, rfl, rfl, rfl, rfl, rfl, rfl, rfl, rfl, rfl, (by rw [hb125]; rfl), trivial⟩, hp⟩
  rintro a w ⟨hf, hp⟩
  refine st_move hf rfl rfl (by decide) ?_
  clear hf; intro a ha hf; clear ha
  refine wpList_cut 3 (fun a w => Fr 235 a [(1, optr v3 0), (11, .bool q17.1), (12, .int .i64 q17.2), (13, .bool q19.1), (14, .int .i64 q19.2), (15, .int .i64 q21.1), (16, .int .i64 q21.2), (18, .int .i64 q32.2), (19, v57), (20, .int .i64 q50.2), (22, .int .i64 q68.2), (24, .int .i64 q86.2), (25, v102), (26, .int .i64 q95.2), (28, .int .i64 q104.2), (32, .int .i64 q108.2.2.2), (34, .int .i64 q110.2), (148, .bool ((((((((q9.1 != (5 : Int)) || (q9.2 != (0 : Int))) || (q11.1 != (10 : Int))) || (q11.2 != (0 : Int))) || q13.1) || (q13.2 != (0 : Int))) || q15.1) || (q15.2 != (0 : Int))))] ∧ Hp S w0 w (Res.obj 46 v112 [.int .i64 q110.1.1, .int .i64 q110.1.2] :: Res.sl Ek.bool 4 v106 q104.1 :: Res.sl Ek.bool 4 v57 q50.1 :: Res.sl Ek.bool 4 v102 q95.1 :: Res.obj 34 v3 [.int .i64 q1.1, .int .u32 q1.2.1, .int .u32 q1.2.2] :: Res.sl Ek.bool 4 v84 (mk0 (32769 : Int) false) :: Res.sl Ek.bool 4 v93 q86.1 :: Res.sl Ek.bool 4 v66 (mk0 (16383 : Int) false) :: Res.sl (Ek.int .i64) 3 v75 q68.1 :: Res.sl Ek.bool 4 v48 (mk0 (16382 : Int) false) :: Res.sl Ek.bool 4 v30 (mk0 (16383 : Int) false) :: Res.sl Ek.bool 4 v39 q32.1 :: Res.obj 34 v7 [.int .i64 q5.1, .int .u32 q5.2.1, .int .u32 q5.2.2] :: ow)) ?_ ?_
  · rcases Bool.eq_false_or_eq_true (((((((q9.1 != (5 : Int)) || (q9.2 != (0 : Int))) || (q11.1 != (10 : Int))) || (q11.2 != (0 : Int))) || q13.1) || (q13.2 != (0 : Int))) || q15.1) with hb127 | hb127
    · skip
      refine st_skip hf (wantN hf rfl rfl hb127) rfl (by decide) ?_ rfl
      clear hf; intro a hf
      refine st_skip hf (wantN hf rfl rfl hb127) rfl (by decide) ?_ rfl
      clear hf; intro a hf
      refine st_pick (v := .bool true) hf rfl rfl (fun hb' => ?_) (fun hb' => ?_) (by decide) ?_
      · rfl
      · exact absurd (hb127.symm.trans hb') (by decide)
      clear hf; intro a ha hf; clear ha
      refine st_nil hf (th_n ?_)
      exact ⟨hf.sub ⟨rfl, rfl, rfl, rfl, rfl, rfl, rfl, rfl, rfl, rfl, rfl, rfl, rfl, rfl, rfl, rfl, rfl, (by rw [hb127]; rfl), trivial⟩, hp⟩
    refine st_move hf (wantY hf rfl rfl hb127) rfl (by decide) ?_
    clear hf; intro a ha hf; clear ha
    refine st_ineq hf (by decide) (wantY hf rfl rfl hb127) rfl rfl ?_
    clear hf; intro a ha hf; clear ha
    refine st_pick (v := .bool (q15.2 != (0 : Int))) hf rfl rfl (fun hb' => ?_) (fun hb' => ?_) (by decide) ?_
    · exact absurd (hb127.symm.trans hb') (by decide)
    · rfl
    clear hf; intro a ha hf; clear ha
    refine st_nil hf (th_n ?_)
    exact ⟨hf.sub ⟨rfl, rfl, rfl, rfl, rfl, rfl, rfl, rfl, rfl, rfl, rfl, rfl, rfl, rfl, rfl, rfl, rfl, (by rw [hb127]; rfl), trivial⟩, hp⟩
  rintro a w ⟨hf, hp⟩
  refine st_move hf rfl rfl (by decide) ?_
  clear hf; intro a ha hf; clear ha
  refine wpList_cut 3 (fun a w => Fr 235 a [(1, optr v3 0), (12, .int .i64 q17.2), (13, .bool q19.1), (14, .int .i64 q19.2), (15, .int .i64 q21.1), (16, .int .i64 q21.2), (18, .int .i64 q32.2), (19, v57), (20, .int .i64 q50.2), (22, .int .i64 q68.2), (24, .int .i64 q86.2), (25, v102), (26, .int .i64 q95.2), (28, .int .i64 q104.2), (32, .int .i64 q108.2.2.2), (34, .int .i64 q110.2), (152, .bool (((((((((q9.1 != (5 : Int)) || (q9.2 != (0 : Int))) || (q11.1 != (10 : Int))) || (q11.2 != (0 : Int))) || q13.1) || (q13.2 != (0 : Int))) || q15.1) || (q15.2 != (0 : Int))) || (!q17.1)))] ∧ Hp S w0 w (Res.obj 46 v112 [.int .i64 q110.1.1, .int .i64 q110.1.2] :: Res.sl Ek.bool 4 v106 q104.1 :: Res.sl Ek.bool 4 v57 q50.1 :: Res.sl Ek.bool 4 v102 q95.1 :: Res.obj 34 v3 [.int .i64 q1.1, .int .u32 q1.2.1, .int .u32 q1.2.2] :: Res.sl Ek.bool 4 v84 (mk0 (32769 : Int) false) :: Res.sl Ek.bool 4 v93 q86.1 :: Res.sl Ek.bool 4 v66 (mk0 (16383 : Int) false) :: Res.sl (Ek.int .i64) 3 v75 q68.1 :: Res.sl Ek.bool 4 v48 (mk0 (16382 : Int) false) :: Res.sl Ek.bool 4 v30 (mk0 (16383 : Int) false) :: Res.sl Ek.bool 4 v39 q32.1 :: Res.obj 34 v7 [.int .i64 q5.1, .int .u32 q5.2.1, .int .u32 q5.2.2] :: ow)) ?_ ?_
  · rcases Bool.eq_false_or_eq_true ((((((((q9.1 != (5 : Int)) || (q9.2 != (0 : Int))) || (q11.1 != (10 : Int))) || (q11.2 != (0 : Int))) || q13.1) || (q13.2 != (0 : Int))) || q15.1) || (q15.2 != (0 : Int))) with hb129 | hb129
    · skip
      refine st_skip hf (wantN hf rfl rfl hb129) rfl (by decide) ?_ rfl
      clear hf; intro a hf
      refine st_skip hf (wantN hf rfl rfl hb129) rfl (by decide) ?_ rfl
      clear hf; intro a hf
      refine st_pick (v := .bool true) hf rfl rfl (fun hb' => ?_) (fun hb' => ?_) (by decide) ?_
      · rfl
      · exact absurd (hb129.symm.trans hb') (by decide)
      clear hf; intro a ha hf; clear ha
      refine st_nil hf (th_n ?_)
      exact ⟨hf.sub ⟨rfl, rfl, rfl, rfl, rfl, rfl, rfl, rfl, rfl, rfl, rfl, rfl, rfl, rfl, rfl, rfl, (by rw [hb129]; rfl), trivial⟩, hp⟩
    refine st_move hf (wantY hf rfl rfl hb129) rfl (by decide) ?_
    clear hf; intro a ha hf; clear ha
    refine st_not hf (by decide) (wantY hf rfl rfl hb129) rfl ?_
    clear hf; intro a ha hf; clear ha
    refine st_pick (v := .bool (!q17.1)) hf rfl rfl (fun hb' => ?_) (fun hb' => ?_) (by decide) ?_
    · exact absurd (hb129.symm.trans hb') (by decide)
    · rfl
    clear hf; intro a ha hf; clear ha
    refine st_nil hf (th_n ?_)
    exact ⟨hf.sub ⟨rfl, rfl, rfl, rfl, rfl, rfl, rfl, rfl, rfl, rfl, rfl, rfl, rfl, rfl, rfl, rfl, (by rw [hb129]; rfl), trivial⟩, hp⟩
  rintro a w ⟨hf, hp⟩
  refine st_move hf rfl rfl (by decide) ?_
  clear hf; intro a ha hf; clear ha
  refine wpList_cut 3 (fun a w => Fr 235 a [(1, optr v3 0), (13, .bool q19.1), (14, .int .i64 q19.2), (15, .int .i64 q21.1), (16, .int .i64 q21.2), (18, .int .i64 q32.2), (19, v57), (20, .int .i64 q50.2), (22, .int .i64 q68.2), (24, .int .i64 q86.2), (25, v102), (26, .int .i64 q95.2), (28, .int .i64 q104.2), (32, .int .i64 q108.2.2.2), (34, .int .i64 q110.2), (156, .bool ((((((((((q9.1 != (5 : Int)) || (q9.2 != (0 : Int))) || (q11.1 != (10 : Int))) || (q11.2 != (0 : Int))) || q13.1) || (q13.2 != (0 : Int))) || q15.1) || (q15.2 != (0 : Int))) || (!q17.1)) || (q17.2 != (0 : Int))))] ∧ Hp S w0 w (Res.obj 46 v112 [.int .i64 q110.1.1, .int .i64 q110.1.2] :: Res.sl Ek.bool 4 v106 q104.1 :: Res.sl Ek.bool 4 v57 q50.1 :: Res.sl Ek.bool 4 v102 q95.1 :: Res.obj 34 v3 [.int .i64 q1.1, .int .u32 q1.2.1, .int .u32 q1.2.2] :: Res.sl Ek.bool 4 v84 (mk0 (32769 : Int) false) :: Res.sl Ek.bool 4 v93 q86.1 :: Res.sl Ek.bool 4 v66 (mk0 (16383 : Int) false) :: Res.sl (Ek.int .i64) 3 v75 q68.1 :: Res.sl Ek.bool 4 v48 (mk0 (16382 : Int) false) :: Res.sl Ek.bool 4 v30 (mk0 (16383 : Int) false) :: Res.sl Ek.bool 4 v39 q32.1 :: Res.obj 34 v7 [.int .i64 q5.1, .int .u32 q5.2.1, .int .u32 q5.2.2] :: ow)) ?_ ?_
  · rcases Bool.eq_false_or_eq_true (((((((((q9.1 != (5 : Int)) || (q9.2 != (0 : Int))) || (q11.1 != (10 : Int))) || (q11.2 != (0 : Int))) || q13.1) || (q13.2 != (0 : Int))) || q15.1) || (q15.2 != (0 : Int))) || (!q17.1)) with hb131 | hb131
    · skip
      refine st_skip hf (wantN hf rfl rfl hb131) rfl (by decide) ?_ rfl
      clear hf; intro a hf
      refine st_skip hf (wantN hf rfl rfl hb131) rfl (by decide) ?_ rfl
      clear hf; intro a hf
      refine st_pick (v := .bool true) hf rfl rfl (fun hb' => ?_) (fun hb' => ?_) (by decide) ?_
      · rfl
      · exact absurd (hb131.symm.trans hb') (by decide)
      clear hf; intro a ha hf; clear ha
      refine st_nil hf (th_n ?_)
      exact ⟨hf.sub ⟨rfl, rfl, rfl, rfl, rfl, rfl, rfl, rfl, rfl, rfl, rfl, rfl, rfl, rfl, rfl, (by rw [hb131]; rfl), trivial⟩, hp⟩
    refine st_move hf (wantY hf rfl rfl hb131) rfl (by decide) ?_
    clear hf; intro a ha hf; clear ha
    refine st_ineq hf (by decide) (wantY hf rfl rfl hb131) rfl rfl ?_
    clear hf; intro a ha hf; clear ha
    refine st_pick (v := .bool (q17.2 != (0 : Int))) hf rfl rfl (fun hb' => ?_) (fun hb' => ?_) (by decide) ?_
    · exact absurd (hb131.symm.trans hb') (by decide)
    · rfl
    clear hf; intro a ha hf; clear ha
    refine st_nil hf (th_n ?_)
    exact ⟨hf.sub ⟨rfl, rfl, rfl, rfl, rfl, rfl, rfl, rfl, rfl, rfl, rfl, rfl, rfl, rfl, rfl, (by rw [hb131]; rfl), trivial⟩, hp⟩
  rintro a w ⟨hf, hp⟩
  refine st_move hf rfl rfl (by decide) ?_
  clear hf; intro a ha hf; clear ha
  refine wpList_cut 2 (fun a w => Fr 235 a [(1, optr v3 0), (14, .int .i64 q19.2), (15, .int .i64 q21.1), (16, .int .i64 q21.2), (18, .int .i64 q32.2), (19, v57), (20, .int .i64 q50.2), (22, .int .i64 q68.2), (24, .int .i64 q86.2), (25, v102), (26, .int .i64 q95.2), (28, .int .i64 q104.2), (32, .int .i64 q108.2.2.2), (34, .int .i64 q110.2), (159, .bool (((((((((((q9.1 != (5 : Int)) || (q9.2 != (0 : Int))) || (q11.1 != (10 : Int))) || (q11.2 != (0 : Int))) || q13.1) || (q13.2 != (0 : Int))) || q15.1) || (q15.2 != (0 : Int))) || (!q17.1)) || (q17.2 != (0 : Int))) || q19.1))] ∧ Hp S w0 w (Res.obj 46 v112 [.int .i64 q110.1.1, .int .i64 q110.1.2] :: Res.sl Ek.bool 4 v106 q104.1 :: Res.sl Ek.bool 4 v57 q50.1 :: Res.sl Ek.bool 4 v102 q95.1 :: Res.obj 34 v3 [.int .i64 q1.1, .int .u32 q1.2.1, .int .u32 q1.2.2] :: Res.sl Ek.bool 4 v84 (mk0 (32769 : Int) false) :: Res.sl Ek.bool 4 v93 q86.1 :: Res.sl Ek.bool 4 v66 (mk0 (16383 : Int) false) :: Res.sl (Ek.int .i64) 3 v75 q68.1 :: Res.sl Ek.bool 4 v48 (mk0 (16382 : Int) false) :: Res.sl Ek.bool 4 v30 (mk0 (16383 : Int) false) :: Res.sl Ek.bool 4 v39 q32.1 :: Res.obj 34 v7 [.int .i64 q5.1, .int .u32 q5.2.1, .int .u32 q5.2.2] :: ow)) ?_ ?_
  · rcases Bool.eq_false_or_eq_true ((((((((((q9.1 != (5 : Int)) || (q9.2 != (0 : Int))) || (q11.1 != (10 : Int))) || (q11.2 != (0 : Int))) || q13.1) || (q13.2 != (0 : Int))) || q15.1) || (q15.2 != (0 : Int))) || (!q17.1)) || (q17.2 != (0 : Int))) with hb133 | hb133
    · skip
      refine st_skip hf (wantN hf rfl rfl hb133) rfl (by decide) ?_ rfl
      clear hf; intro a hf
      refine st_pick (v := .bool true) hf rfl rfl (fun hb' => ?_) (fun hb' => ?_) (by decide) ?_
      · rfl
      · exact absurd (hb133.symm.trans hb') (by decide)
      clear hf; intro a ha hf; clear ha
      refine st_nil hf (th_n ?_)
      exact ⟨hf.sub ⟨rfl, rfl, rfl, rfl, rfl, rfl, rfl, rfl, rfl, rfl, rfl, rfl, rfl, rfl, (by rw [hb133]; rfl), trivial⟩, hp⟩
    refine st_move hf (wantY hf rfl rfl hb133) rfl (by decide) ?_
    clear hf; intro a ha hf; clear ha
    refine st_pick (v := .bool q19.1) hf rfl rfl (fun hb' => ?_) (fun hb' => ?_) (by decide) ?_
    · exact absurd (hb133.symm.trans hb') (by decide)
    · rfl
    clear hf; intro a ha hf; clear ha
    refine st_nil hf (th_n ?_)
    exact ⟨hf.sub ⟨rfl, rfl, rfl, rfl, rfl, rfl, rfl, rfl, rfl, rfl, rfl, rfl, rfl, rfl, (by rw [hb133]; rfl), trivial⟩, hp⟩
  rintro a w ⟨hf, hp⟩
  refine st_move hf rfl rfl (by decide) ?_
  clear hf; intro a ha hf; clear ha
  refine wpList_cut 3 (fun a w => Fr 235 a [(1, optr v3 0), (15, .int .i64 q21.1), (16, .int .i64 q21.2), (18, .int .i64 q32.2), (19, v57), (20, .int .i64 q50.2), (22, .int .i64 q68.2), (24, .int .i64 q86.2), (25, v102), (26, .int .i64 q95.2), (28, .int .i64 q104.2), (32, .int .i64 q108.2.2.2), (34, .int .i64 q110.2), (163, .bool ((((((((((((q9.1 != (5 : Int)) || (q9.2 != (0 : Int))) || (q11.1 != (10 : Int))) || (q11.2 != (0 : Int))) || q13.1) || (q13.2 != (0 : Int))) || q15.1) || (q15.2 != (0 : Int))) || (!q17.1)) || (q17.2 != (0 : Int))) || q19.1) || (q19.2 != (0 : Int))))] ∧ Hp S w0 w (Res.obj 46 v112 [.int .i64 q110.1.1, .int .i64 q110.1.2] :: Res.sl Ek.bool 4 v106 q104.1 :: Res.sl Ek.bool 4 v57 q50.1 :: Res.sl Ek.bool 4 v102 q95.1 :: Res.obj 34 v3 [.int .i64 q1.1, .int .u32 q1.2.1, .int .u32 q1.2.2] :: Res.sl Ek.bool 4 v84 (mk0 (32769 : Int) false) :: Res.sl Ek.bool 4 v93 q86.1 :: Res.sl Ek.bool 4 v66 (mk0 (16383 : Int) false) :: Res.sl (Ek.int .i64) 3 v75 q68.1 :: Res.sl Ek.bool 4 v48 (mk0 (16382 : Int) false) :: Res.sl Ek.bool 4 v30 (mk0 (16383 : Int) false) :: Res.sl Ek.bool 4 v39 q32.1 :: Res.obj 34 v7 [.int .i64 q5.1, .int .u32 q5.2.1, .int .u32 q5.2.2] :: ow)) ?_ ?_
  · rcases Bool.eq_false_or_eq_true (((((((((((q9.1 != (5 : Int)) || (q9.2 != (0 : Int))) || (q11.1 != (10 : Int))) || (q11.2 != (0 : Int))) || q13.1) || (q13.2 != (0 : Int))) || q15.1) || (q15.2 != (0 : Int))) || (!q17.1)) || (q17.2 != (0 : Int))) || q19.1) with hb135 | hb135
    · skip
      refine st_skip hf (wantN hf rfl rfl hb135) rfl (by decide) ?_ rfl
      clear hf; intro a hf
      refine st_skip hf (wantN hf rfl rfl hb135) rfl (by decide) ?_ rfl
      clear hf; intro a hf
      refine st_pick (v := .bool true) hf rfl rfl (fun hb' => ?_) (fun hb' => ?_) (by decide) ?_
      · rfl
      · exact absurd (hb135.symm.trans hb') (by decide)
      clear hf; intro a ha hf; clear ha
      refine st_nil hf (th_n ?_)
      exact ⟨hf.sub ⟨rfl, rfl, rfl, rfl, rfl, rfl, rfl, rfl, rfl, rfl, rfl, rfl, rfl, (by rw [hb135]; rfl), trivial⟩, hp⟩
    refine st_move hf (wantY hf rfl rfl hb135) rfl (by decide) ?_
    clear hf; intro a ha hf; clear ha
    refine st_ineq hf (by decide) (wantY hf rfl rfl hb135) rfl rfl ?_
    clear hf; intro a ha hf; clear ha
    refine st_pick (v := .bool (q19.2 != (0 : Int))) hf rfl rfl (fun hb' => ?_) (fun hb' => ?_) (by decide) ?_
    · exact absurd (hb135.symm.trans hb') (by decide)
    · rfl
    clear hf; intro a ha hf; clear ha
    refine st_nil hf (th_n ?_)
    exact ⟨hf.sub ⟨rfl, rfl, rfl, rfl, rfl, rfl, rfl, rfl, rfl, rfl, rfl, rfl, rfl, (by rw [hb135]; rfl), trivial⟩, hp⟩
  rintro a w ⟨hf, hp⟩
  refine st_move hf rfl rfl (by decide) ?_
  clear hf; intro a ha hf; clear ha
  refine wpList_cut 3 (fun a w => Fr 235 a [(1, optr v3 0), (16, .int .i64 q21.2), (18, .int .i64 q32.2), (19, v57), (20, .int .i64 q50.2), (22, .int .i64 q68.2), (24, .int .i64 q86.2), (25, v102), (26, .int .i64 q95.2), (28, .int .i64 q104.2), (32, .int .i64 q108.2.2.2), (34, .int .i64 q110.2), (167, .bool (((((((((((((q9.1 != (5 : Int)) || (q9.2 != (0 : Int))) || (q11.1 != (10 : Int))) || (q11.2 != (0 : Int))) || q13.1) || (q13.2 != (0 : Int))) || q15.1) || (q15.2 != (0 : Int))) || (!q17.1)) || (q17.2 != (0 : Int))) || q19.1) || (q19.2 != (0 : Int))) || (q21.1 != (64 : Int))))] ∧ Hp S w0 w (Res.obj 46 v112 [.int .i64 q110.1.1, .int .i64 q110.1.2] :: Res.sl Ek.bool 4 v106 q104.1 :: Res.sl Ek.bool 4 v57 q50.1 :: Res.sl Ek.bool 4 v102 q95.1 :: Res.obj 34 v3 [.int .i64 q1.1, .int .u32 q1.2.1, .int .u32 q1.2.2] :: Res.sl Ek.bool 4 v84 (mk0 (32769 : Int) false) :: Res.sl Ek.bool 4 v93 q86.1 :: Res.sl Ek.bool 4 v66 (mk0 (16383 : Int) false) :: Res.sl (Ek.int .i64) 3 v75 q68.1 :: Res.sl Ek.bool 4 v48 (mk0 (16382 : Int) false) :: Res.sl Ek.bool 4 v30 (mk0 (16383 : Int) false) :: Res.sl Ek.bool 4 v39 q32.1 :: Res.obj 34 v7 [.int .i64 q5.1, .int .u32 q5.2.1, .int .u32 q5.2.2] :: ow)) ?_ ?_
  · rcases Bool.eq_false_or_eq_true ((((((((((((q9.1 != (5 : Int)) || (q9.2 != (0 : Int))) || (q11.1 != (10 : Int))) || (q11.2 != (0 : Int))) || q13.1) || (q13.2 != (0 : Int))) || q15.1) || (q15.2 != (0 : Int))) || (!q17.1)) || (q17.2 != (0 : Int))) || q19.1) || (q19.2 != (0 : Int))) with hb137 | hb137
    · skip
      refine st_skip hf (wantN hf rfl rfl hb137) rfl (by decide) ?_ rfl
      clear hf; intro a hf
      refine st_skip hf (wantN hf rfl rfl hb137) rfl (by decide) ?_ rfl
      clear hf; intro a hf
      refine st_pick (v := .bool true) hf rfl rfl (fun hb' => ?_) (fun hb' => ?_) (by decide) ?_
      · rfl
      · exact absurd (hb137.symm.trans hb') (by decide)
      clear hf; intro a ha hf; clear ha
      refine st_nil hf (th_n ?_)
      exact ⟨hf.sub ⟨rfl, rfl, rfl, rfl, rfl, rfl, rfl, rfl, rfl, rfl, rfl, rfl, (by rw [hb137]; rfl), trivial⟩, hp⟩
    refine st_move hf (wantY hf rfl rfl hb137) rfl (by decide) ?_
    clear hf; intro a ha hf; clear ha
    refine st_ineq hf (by decide) (wantY hf rfl rfl hb137) rfl rfl ?_
    clear hf; intro a ha hf; clear ha
    refine st_pick (v := .bool (q21.1 != (64 : Int))) hf rfl rfl (fun hb' => ?_) (fun hb' => ?_) (by decide) ?_
    · exact absurd (hb137.symm.trans hb') (by decide)
    · rfl
    clear hf; intro a ha hf; clear ha
    refine st_nil hf (th_n ?_)
    exact ⟨hf.sub ⟨rfl, rfl, rfl, rfl, rfl, rfl, rfl, rfl, rfl, rfl, rfl, rfl, (by rw [hb137]; rfl), trivial⟩, hp⟩
  rintro a w ⟨hf, hp⟩
  refine st_move hf rfl rfl (by decide) ?_
  clear hf; intro a ha hf; clear ha
  refine wpList_cut 3 (fun a w => Fr 235 a [(1, optr v3 0), (18, .int .i64 q32.2), (19, v57), (20, .int .i64 q50.2), (22, .int .i64 q68.2), (24, .int .i64 q86.2), (25, v102), (26, .int .i64 q95.2), (28, .int .i64 q104.2), (32, .int .i64 q108.2.2.2), (34, .int .i64 q110.2), (171, .bool ((((((((((((((q9.1 != (5 : Int)) || (q9.2 != (0 : Int))) || (q11.1 != (10 : Int))) || (q11.2 != (0 : Int))) || q13.1) || (q13.2 != (0 : Int))) || q15.1) || (q15.2 != (0 : Int))) || (!q17.1)) || (q17.2 != (0 : Int))) || q19.1) || (q19.2 != (0 : Int))) || (q21.1 != (64 : Int))) || (q21.2 != (0 : Int))))] ∧ Hp S w0 w (Res.obj 46 v112 [.int .i64 q110.1.1, .int .i64 q110.1.2] :: Res.sl Ek.bool 4 v106 q104.1 :: Res.sl Ek.bool 4 v57 q50.1 :: Res.sl Ek.bool 4 v102 q95.1 :: Res.obj 34 v3 [.int .i64 q1.1, .int .u32 q1.2.1, .int .u32 q1.2.2] :: Res.sl Ek.bool 4 v84 (mk0 (32769 : Int) false) :: Res.sl Ek.bool 4 v93 q86.1 :: Res.sl Ek.bool 4 v66 (mk0 (16383 : Int) false) :: Res.sl (Ek.int .i64) 3 v75 q68.1 :: Res.sl Ek.bool 4 v48 (mk0 (16382 : Int) false) :: Res.sl Ek.bool 4 v30 (mk0 (16383 : Int) false) :: Res.sl Ek.bool 4 v39 q32.1 :: Res.obj 34 v7 [.int .i64 q5.1, .int .u32 q5.2.1, .int .u32 q5.2.2] :: ow)) ?_ ?_
  · rcases Bool.eq_false_or_eq_true (((((((((((((q9.1 != (5 : Int)) || (q9.2 != (0 : Int))) || (q11.1 != (10 : Int))) || (q11.2 != (0 : Int))) || q13.1) || (q13.2 != (0 : Int))) || q15.1) || (q15.2 != (0 : Int))) || (!q17.1)) || (q17.2 != (0 : Int))) || q19.1) || (q19.2 != (0 : Int))) || (q21.1 != (64 : Int))) with hb139 | hb139
    · skip
      refine st_skip hf (wantN hf rfl rfl hb139) rfl (by decide) ?_ rfl
      clear hf; intro a hf
      refine st_skip hf (wantN hf rfl rfl hb139) rfl (by decide) ?_ rfl
      clear hf; intro a hf
      refine st_pick (v := .bool true) hf rfl rfl (fun hb' => ?_) (fun hb' => ?_) (by decide) ?_
      · rfl
      · exact absurd (hb139.symm.trans hb') (by decide)
      clear hf; intro a ha hf; clear ha
      refine st_nil hf (th_n ?_)
      exact ⟨hf.sub ⟨rfl, rfl, rfl, rfl, rfl, rfl, rfl, rfl, rfl, rfl, rfl, (by rw [hb139]; rfl), trivial⟩, hp⟩
    refine st_move hf (wantY hf rfl rfl hb139) rfl (by decide) ?_
    clear hf; intro a ha hf; clear ha
    refine st_ineq hf (by decide) (wantY hf rfl rfl hb139) rfl rfl ?_
    clear hf; intro a ha hf; clear ha
    refine st_pick (v := .bool (q21.2 != (0 : Int))) hf rfl rfl (fun hb' => ?_) (fun hb' => ?_) (by decide) ?_
    · exact absurd (hb139.symm.trans hb') (by decide)
    · rfl
    clear hf; intro a ha hf; clear ha
    refine st_nil hf (th_n ?_)
    exact ⟨hf.sub ⟨rfl, rfl, rfl, rfl, rfl, rfl, rfl, rfl, rfl, rfl, rfl, (by rw [hb139]; rfl), trivial⟩, hp⟩
  rintro a w ⟨hf, hp⟩
  refine st_nil hf ?_
  refine th_n ?_
  refine wp_if hf rfl (fun hb => ?_) (fun hb => ?_)
  · replace h := ifT h hb
    refine wp_seq ?_
    refine wp_reg ?_
    refine st_assign hf rfl rfl (by decide) ?_
    clear hf; intro a ha hf; clear ha
    refine st_nil hf ?_
    refine th_n ?_
    refine wp_ret ?_
    refine th_r ?_
    obtain rfl := Option.some.inj h
    have hp : Hp _ _ _ (ow) := Hp.sel (pre := [Res.obj 46 v112 [.int .i64 q110.1.1, .int .i64 q110.1.2], Res.sl Ek.bool 4 v106 q104.1, Res.sl Ek.bool 4 v57 q50.1, Res.sl Ek.bool 4 v102 q95.1, Res.obj 34 v3 [.int .i64 q1.1, .int .u32 q1.2.1, .int .u32 q1.2.2], Res.sl Ek.bool 4 v84 (mk0 (32769 : Int) false), Res.sl Ek.bool 4 v93 q86.1, Res.sl Ek.bool 4 v66 (mk0 (16383 : Int) false), Res.sl (Ek.int .i64) 3 v75 q68.1, Res.sl Ek.bool 4 v48 (mk0 (16382 : Int) false), Res.sl Ek.bool 4 v30 (mk0 (16383 : Int) false), Res.sl Ek.bool 4 v39 q32.1, Res.obj 34 v7 [.int .i64 q5.1, .int .u32 q5.2.1, .int .u32 q5.2.2]]) (tail := ow) (rs' := []) hp [] (by decide) (by simp) rfl
    exact ⟨rfl, ⟨hf.sub ⟨rfl, trivial⟩, hp⟩⟩
  replace h := ifF h hb
  refine wp_skip ?_
  refine th_n ?_
  refine wp_seq ?_
  refine wp_seq ?_
  refine wp_reg ?_
  refine st_assign hf rfl rfl (by decide) ?_
  clear hf; intro a ha hf; clear ha
  refine st_nil hf ?_
  refine th_n ?_
  refine wp_block ?_
  obtain ⟨q147, hl, h⟩ := bnd h
  have hp : Hp _ _ _ (Res.obj 34 v3 [.int .i64 q1.1, .int .u32 q1.2.1, .int .u32 q1.2.2] :: Res.sl Ek.bool 4 v57 q50.1 :: Res.sl Ek.bool 4 v102 q95.1 :: ow) := Hp.sel (pre := [Res.obj 46 v112 [.int .i64 q110.1.1, .int .i64 q110.1.2], Res.sl Ek.bool 4 v106 q104.1, Res.sl Ek.bool 4 v57 q50.1, Res.sl Ek.bool 4 v102 q95.1, Res.obj 34 v3 [.int .i64 q1.1, .int .u32 q1.2.1, .int .u32 q1.2.2], Res.sl Ek.bool 4 v84 (mk0 (32769 : Int) false), Res.sl Ek.bool 4 v93 q86.1, Res.sl Ek.bool 4 v66 (mk0 (16383 : Int) false), Res.sl (Ek.int .i64) 3 v75 q68.1, Res.sl Ek.bool 4 v48 (mk0 (16382 : Int) false), Res.sl Ek.bool 4 v30 (mk0 (16383 : Int) false), Res.sl Ek.bool 4 v39 q32.1, Res.obj 34 v7 [.int .i64 q5.1, .int .u32 q5.2.1, .int .u32 q5.2.2]]) (tail := ow) (rs' := [Res.obj 34 v3 [.int .i64 q1.1, .int .u32 q1.2.1, .int .u32 q1.2.2], Res.sl Ek.bool 4 v57 q50.1, Res.sl Ek.bool 4 v102 q95.1]) hp [4, 2, 3] (by decide) (by simp) rfl
  refine wp_loop_pure (f := f_foghornlaw21_TrellisNone.s1) (s := (0 : Int)) (fun s a w => Fr 235 a [(1, optr v3 0), (18, .int .i64 q32.2), (19, v57), (20, .int .i64 q50.2), (22, .int .i64 q68.2), (24, .int .i64 q86.2), (25, v102), (26, .int .i64 q95.2), (28, .int .i64 q104.2), (32, .int .i64 q108.2.2.2), (34, .int .i64 q110.2), (35, .int .i64 s)] ∧ Hp S w0 w (Res.obj 34 v3 [.int .i64 q1.1, .int .u32 q1.2.1, .int .u32 q1.2.2] :: Res.sl Ek.bool 4 v57 q50.1 :: Res.sl Ek.bool 4 v102 q95.1 :: ow)) (fun q e a w => match q with | (Sum.inl q) => e = .exit 0 ∧ Fr 235 a [(1, optr v3 0), (18, .int .i64 q32.2), (19, v57), (20, .int .i64 q50.2), (22, .int .i64 q68.2), (24, .int .i64 q86.2), (25, v102), (26, .int .i64 q95.2), (28, .int .i64 q104.2), (32, .int .i64 q108.2.2.2), (34, .int .i64 q110.2)] ∧ Hp S w0 w (Res.obj 34 v3 [.int .i64 q1.1, .int .u32 q1.2.1, .int .u32 q1.2.2] :: Res.sl Ek.bool 4 v57 q50.1 :: Res.sl Ek.bool 4 v102 q95.1 :: ow) | (Sum.inr q) => e = .ret ∧ Fr 235 a [(0, .bool q)] ∧ Hp S w0 w (ow)) ?_ hl ⟨hf.sub ⟨rfl, rfl, rfl, rfl, rfl, rfl, rfl, rfl, rfl, rfl, rfl, rfl, trivial⟩, hp⟩ ?_
  · clear hl hf hp
    intro s x a w h hI
    obtain ⟨z35, hs⟩ : ∃ z, z = s := ⟨s, rfl⟩; subst hs
    obtain ⟨hf, hp⟩ : Fr 235 a [(1, optr v3 0), (18, .int .i64 q32.2), (19, v57), (20, .int .i64 q50.2), (22, .int .i64 q68.2), (24, .int .i64 q86.2), (25, v102), (26, .int .i64 q95.2), (28, .int .i64 q104.2), (32, .int .i64 q108.2.2.2), (34, .int .i64 q110.2), (35, .int .i64 z35)] ∧ Hp S w0 w (Res.obj 34 v3 [.int .i64 q1.1, .int .u32 q1.2.1, .int .u32 q1.2.2] :: Res.sl Ek.bool 4 v57 q50.1 :: Res.sl Ek.bool 4 v102 q95.1 :: ow) := hI
    replace h : f_foghornlaw21_TrellisNone.s1c z35 = some x := h
    unfold f_foghornlaw21_TrellisNone.s1c at h
    refine wp_seq ?_
    refine wp_seq ?_
    refine wp_reg ?_
    refine st_move hf rfl rfl (by decide) ?_
    clear hf; intro a ha hf; clear ha
    refine st_ilss hf (by decide) rfl rfl rfl ?_
    clear hf; intro a ha hf; clear ha
    refine st_nil hf ?_
    refine th_n ?_
    refine wp_if hf rfl (fun hb => ?_) (fun hb => ?_)
    · replace h := ifT h hb
      refine wp_skip ?_
      refine th_n ?_
      refine wp_seq ?_
      refine wp_block ?_
      refine wp_seq ?_
      refine wp_reg ?_
      refine st_buildA (vals := [(0, .int .i64 (3 : Int)), (1, .int .u32 (3 : Int)), (2, .int .u32 (1 : Int))]) (cells := [.int .i64 (3 : Int), .int .u32 (3 : Int), .int .u32 (1 : Int)]) hf (by decide) rfl (by simp [hf.ev (x := (Operand.const (.int .i64 (3 : Int)))) rfl, hf.ev (x := (Operand.const (.int .u32 (3 : Int)))) rfl, hf.ev (x := (Operand.const (.int .u32 (1 : Int)))) rfl]) (fun w => by kernel_rfl) ?_
      clear hf; intro a ha hf; clear ha
      refine st_buildA (vals := [(0, .int .i64 (8 : Int)), (1, .int .u32 (255 : Int)), (2, .int .u32 (255 : Int))]) (cells := [.int .i64 (8 : Int), .int .u32 (255 : Int), .int .u32 (255 : Int)]) hf (by decide) rfl (by simp [hf.ev (x := (Operand.const (.int .i64 (8 : Int)))) rfl, hf.ev (x := (Operand.const (.int .u32 (255 : Int)))) rfl, hf.ev (x := (Operand.const (.int .u32 (255 : Int)))) rfl]) (fun w => by kernel_rfl) ?_
      clear hf; intro a ha hf; clear ha
      refine st_buildA (vals := [(0, .int .i64 (2 : Int)), (1, .int .u32 (2 : Int))]) (cells := [.int .i64 (2 : Int), .int .u32 (2 : Int), .int .u32 (0 : Int)]) hf (by decide) rfl (by simp [hf.ev (x := (Operand.const (.int .i64 (2 : Int)))) rfl, hf.ev (x := (Operand.const (.int .u32 (2 : Int)))) rfl]) (fun w => by kernel_rfl) ?_
      clear hf; intro a ha hf; clear ha
      refine st_buildA (vals := [(0, .int .i64 (1 : Int)), (1, .int .u32 (1 : Int)), (2, .int .u32 (1 : Int))]) (cells := [.int .i64 (1 : Int), .int .u32 (1 : Int), .int .u32 (1 : Int)]) hf (by decide) rfl (by simp [hf.ev (x := (Operand.const (.int .i64 (1 : Int)))) rfl, hf.ev (x := (Operand.const (.int .u32 (1 : Int)))) rfl, hf.ev (x := (Operand.const (.int .u32 (1 : Int)))) rfl]) (fun w => by kernel_rfl) ?_
      clear hf; intro a ha hf; clear ha
      refine st_build (E := (Ek.pair (Ek.int .i64) (Ek.pair (Ek.int .u32) (Ek.int .u32)))) (xs := [((3 : Int), (3 : Int), (1 : Int)), ((8 : Int), (255 : Int), (255 : Int)), ((2 : Int), (2 : Int), (0 : Int)), ((1 : Int), (1 : Int), (1 : Int))]) hf (by decide) elt34 Try.underlying62 hp (vals := #[(0, .agg #[.int .i64 (3 : Int), .int .u32 (3 : Int), .int .u32 (1 : Int)]), (1, .agg #[.int .i64 (8 : Int), .int .u32 (255 : Int), .int .u32 (255 : Int)]), (2, .agg #[.int .i64 (2 : Int), .int .u32 (2 : Int), .int .u32 (0 : Int)]), (3, .agg #[.int .i64 (1 : Int), .int .u32 (1 : Int), .int .u32 (1 : Int)])]) (cells := #[.int .i64 (3 : Int), .int .u32 (3 : Int), .int .u32 (1 : Int), .int .i64 (8 : Int), .int .u32 (255 : Int), .int .u32 (255 : Int), .int .i64 (2 : Int), .int .u32 (2 : Int), .int .u32 (0 : Int), .int .i64 (1 : Int), .int .u32 (1 : Int), .int .u32 (1 : Int)]) rfl (by simp [hf.ev (x := (Operand.tmp 176)) rfl, hf.ev (x := (Operand.tmp 177)) rfl, hf.ev (x := (Operand.tmp 178)) rfl, hf.ev (x := (Operand.tmp 179)) rfl]) (by decide) (by decide) (z := .agg #[.int .i64 0, .int .u32 0, .int .u32 0]) (by kernel_rfl) (by kernel_rfl) rfl (reps_cons (cs := [.int .i64 (3 : Int), .int .u32 (3 : Int), .int .u32 (1 : Int)]) ⟨[.int .i64 (3 : Int)], [.int .u32 (3 : Int), .int .u32 (1 : Int)], rfl, rfl, ⟨[.int .u32 (3 : Int)], [.int .u32 (1 : Int)], rfl, rfl, rfl⟩⟩ (reps_cons (cs := [.int .i64 (8 : Int), .int .u32 (255 : Int), .int .u32 (255 : Int)]) ⟨[.int .i64 (8 : Int)], [.int .u32 (255 : Int), .int .u32 (255 : Int)], rfl, rfl, ⟨[.int .u32 (255 : Int)], [.int .u32 (255 : Int)], rfl, rfl, rfl⟩⟩ (reps_cons (cs := [.int .i64 (2 : Int), .int .u32 (2 : Int), .int .u32 (0 : Int)]) ⟨[.int .i64 (2 : Int)], [.int .u32 (2 : Int), .int .u32 (0 : Int)], rfl, rfl, ⟨[.int .u32 (2 : Int)], [.int .u32 (0 : Int)], rfl, rfl, rfl⟩⟩ (reps_cons (cs := [.int .i64 (1 : Int), .int .u32 (1 : Int), .int .u32 (1 : Int)]) ⟨[.int .i64 (1 : Int)], [.int .u32 (1 : Int), .int .u32 (1 : Int)], rfl, rfl, ⟨[.int .u32 (1 : Int)], [.int .u32 (1 : Int)], rfl, rfl, rfl⟩⟩ (reps_nil _))))) ?_
      clear hf; intro a w v140 hf hp0; clear hp; have hp := hp0; clear hp0
      replace hp : Hp _ _ _ (Res.sl (Ek.pair (Ek.int .i64) (Ek.pair (Ek.int .u32) (Ek.int .u32))) 34 v140 ([((3 : Int), (3 : Int), (1 : Int)), ((8 : Int), (255 : Int), (255 : Int)), ((2 : Int), (2 : Int), (0 : Int)), ((1 : Int), (1 : Int), (1 : Int))]) :: Res.obj 34 v3 [.int .i64 q1.1, .int .u32 q1.2.1, .int .u32 q1.2.2] :: Res.sl Ek.bool 4 v57 q50.1 :: Res.sl Ek.bool 4 v102 q95.1 :: ow) := hp
      refine st_assign hf rfl rfl (by decide) ?_
      clear hf; intro a ha hf; clear ha
      refine st_nil hf ?_
      refine th_n ?_
      refine wp_seq ?_
      refine wp_reg ?_
      refine st_move hf rfl rfl (by decide) ?_
      clear hf; intro a ha hf; clear ha
      refine st_move hf rfl rfl (by decide) ?_
      clear hf; intro a ha hf; clear ha
      obtain ⟨hc142, h⟩ := chk h
      refine st_index (E := (Ek.pair (Ek.int .i64) (Ek.pair (Ek.int .u32) (Ek.int .u32)))) hf (by decide) Try.underlying62 elt34 rfl rfl rfl (hp.sl (i := 0) rfl) hc142.1 hc142.2 ?_
      clear hf; intro a ha hf; clear ha
      refine st_ldQA (F := (Ek.pair (Ek.int .i64) (Ek.pair (Ek.int .u32) (Ek.int .u32)))) (yv := (gt ([((3 : Int), (3 : Int), (1 : Int)), ((8 : Int), (255 : Int), (255 : Int)), ((2 : Int), (2 : Int), (0 : Int)), ((1 : Int), (1 : Int), (1 : Int))]) z35)) (m := 3) hf (by decide) (by kernel_rfl) rfl rfl rfl (Part.whole (hp.sl (i := 0) rfl) hc142.1 hc142.2) ?_
      clear hf; intro a cs143 hr144 ha hf; clear ha
      obtain ⟨_, _, rfl, rfl, ⟨_, _, rfl, rfl, rfl⟩⟩ := hr144
      replace hf : Fr _ _ ((184, .agg #[.int .i64 ((gt ([((3 : Int), (3 : Int), (1 : Int)), ((8 : Int), (255 : Int), (255 : Int)), ((2 : Int), (2 : Int), (0 : Int)), ((1 : Int), (1 : Int), (1 : Int))]) z35).1), .int .u32 ((gt ([((3 : Int), (3 : Int), (1 : Int)), ((8 : Int), (255 : Int), (255 : Int)), ((2 : Int), (2 : Int), (0 : Int)), ((1 : Int), (1 : Int), (1 : Int))]) z35).2.1), .int .u32 ((gt ([((3 : Int), (3 : Int), (1 : Int)), ((8 : Int), (255 : Int), (255 : Int)), ((2 : Int), (2 : Int), (0 : Int)), ((1 : Int), (1 : Int), (1 : Int))]) z35).2.2)]) :: _) := hf
      obtain ⟨q145, hcall146, h⟩ := bnd h
      refine st_call hf (by decide) Try.func26 rfl rfl rfl rfl rfl (f_trellis_Code_Check_c hp _ _ _ hcall146) ?_
      rintro _ w ⟨rfl, hp0⟩
      clear hp; have hp := hp0; clear hp0
      replace hp : Hp _ _ _ (Res.sl (Ek.pair (Ek.int .i64) (Ek.pair (Ek.int .u32) (Ek.int .u32))) 34 v140 ([((3 : Int), (3 : Int), (1 : Int)), ((8 : Int), (255 : Int), (255 : Int)), ((2 : Int), (2 : Int), (0 : Int)), ((1 : Int), (1 : Int), (1 : Int))]) :: Res.obj 34 v3 [.int .i64 q1.1, .int .u32 q1.2.1, .int .u32 q1.2.2] :: Res.sl Ek.bool 4 v57 q50.1 :: Res.sl Ek.bool 4 v102 q95.1 :: ow) := hp
      refine ⟨_, rfl, ?_⟩
      clear hf; intro a hf
      refine st_ineq hf (by decide) rfl rfl rfl ?_
      clear hf; intro a ha hf; clear ha
      refine st_nil hf ?_
      refine th_n ?_
      refine wp_if hf rfl (fun hb => ?_) (fun hb => ?_)
      · replace h := ifT h hb
        refine wp_seq ?_
        refine wp_reg ?_
        refine st_assign hf rfl rfl (by decide) ?_
        clear hf; intro a ha hf; clear ha
        refine st_nil hf ?_
        refine th_n ?_
        refine wp_ret ?_
        refine ib_r ?_
        refine th_r ?_
        obtain rfl := Option.some.inj h
        have hp : Hp _ _ _ (ow) := Hp.sel (pre := [Res.sl (Ek.pair (Ek.int .i64) (Ek.pair (Ek.int .u32) (Ek.int .u32))) 34 v140 ([((3 : Int), (3 : Int), (1 : Int)), ((8 : Int), (255 : Int), (255 : Int)), ((2 : Int), (2 : Int), (0 : Int)), ((1 : Int), (1 : Int), (1 : Int))]), Res.obj 34 v3 [.int .i64 q1.1, .int .u32 q1.2.1, .int .u32 q1.2.2], Res.sl Ek.bool 4 v57 q50.1, Res.sl Ek.bool 4 v102 q95.1]) (tail := ow) (rs' := []) hp [] (by decide) (by simp) rfl
        exact rnd_r (by simp) ⟨rfl, ⟨hf.sub ⟨rfl, trivial⟩, hp⟩⟩
      replace h := ifF h hb
      refine wp_skip ?_
      refine ib_n ?_
      refine th_n ?_
      refine wp_reg ?_
      refine st_move hf rfl rfl (by decide) ?_
      clear hf; intro a ha hf; clear ha
      refine st_iadd hf (by decide) rfl rfl rfl ?_
      clear hf; intro a ha hf; clear ha
      refine st_assign hf rfl rfl (by decide) ?_
      clear hf; intro a ha hf; clear ha
      refine st_nil hf ?_
      obtain rfl := Option.some.inj h
      have hp : Hp _ _ _ (Res.obj 34 v3 [.int .i64 q1.1, .int .u32 q1.2.1, .int .u32 q1.2.2] :: Res.sl Ek.bool 4 v57 q50.1 :: Res.sl Ek.bool 4 v102 q95.1 :: ow) := Hp.sel (pre := [Res.sl (Ek.pair (Ek.int .i64) (Ek.pair (Ek.int .u32) (Ek.int .u32))) 34 v140 ([((3 : Int), (3 : Int), (1 : Int)), ((8 : Int), (255 : Int), (255 : Int)), ((2 : Int), (2 : Int), (0 : Int)), ((1 : Int), (1 : Int), (1 : Int))]), Res.obj 34 v3 [.int .i64 q1.1, .int .u32 q1.2.1, .int .u32 q1.2.2], Res.sl Ek.bool 4 v57 q50.1, Res.sl Ek.bool 4 v102 q95.1]) (tail := ow) (rs' := [Res.obj 34 v3 [.int .i64 q1.1, .int .u32 q1.2.1, .int .u32 q1.2.2], Res.sl Ek.bool 4 v57 q50.1, Res.sl Ek.bool 4 v102 q95.1]) hp [1, 2, 3] (by decide) (by simp) rfl
      exact rnd_l ⟨hf.sub ⟨rfl, rfl, rfl, rfl, rfl, rfl, rfl, rfl, rfl, rfl, rfl, rfl, trivial⟩, hp⟩
    replace h := ifF h hb
    refine wp_exit ?_
    refine th_e ?_
    obtain rfl := Option.some.inj h
    exact rnd_r (by simp) ⟨rfl, hf.sub ⟨rfl, rfl, rfl, rfl, rfl, rfl, rfl, rfl, rfl, rfl, rfl, trivial⟩, hp⟩
  clear hl hf hp
  intro e a w hne hO
  rcases q147 with q148 | q149
  · replace h := smL h
    obtain ⟨rfl, hf, hp⟩ := hO
    refine ib_same ?_
    refine th_n ?_
    refine wp_seq ?_
    refine wp_reg ?_
    refine st_move hf rfl rfl (by decide) ?_
    clear hf; intro a ha hf; clear ha
    refine st_ieql hf (by decide) rfl rfl rfl ?_
    clear hf; intro a ha hf; clear ha
    refine st_move hf rfl rfl (by decide) ?_
    clear hf; intro a ha hf; clear ha
    refine wpList_cut 4 (fun a w => Fr 235 a [(1, optr v3 0), (20, .int .i64 q50.2), (22, .int .i64 q68.2), (24, .int .i64 q86.2), (25, v102), (26, .int .i64 q95.2), (28, .int .i64 q104.2), (32, .int .i64 q108.2.2.2), (34, .int .i64 q110.2), (193, .bool ((q32.2 == (1 : Int)) && ((q50.1.length : Int) == (32768 : Int))))] ∧ Hp S w0 w (Res.obj 34 v3 [.int .i64 q1.1, .int .u32 q1.2.1, .int .u32 q1.2.2] :: Res.sl Ek.bool 4 v57 q50.1 :: Res.sl Ek.bool 4 v102 q95.1 :: ow)) ?_ ?_
    · rcases Bool.eq_false_or_eq_true (q32.2 == (1 : Int)) with hb151 | hb151
      · skip
        refine st_move hf (wantY hf rfl rfl hb151) rfl (by decide) ?_
        clear hf; intro a ha hf; clear ha
        refine st_len (E := Ek.bool) hf (by decide) Try.underlying25 (wantY hf rfl rfl hb151) rfl (hp.sl (i := 1) rfl) ?_
        clear hf; intro a ha hf; clear ha
        refine st_ieql hf (by decide) (wantY hf rfl rfl hb151) rfl rfl ?_
        clear hf; intro a ha hf; clear ha
        refine st_pick (v := .bool ((q50.1.length : Int) == (32768 : Int))) hf rfl rfl (fun hb' => ?_) (fun hb' => ?_) (by decide) ?_
        · rfl
        · exact absurd (hb151.symm.trans hb') (by decide)
        clear hf; intro a ha hf; clear ha
        refine st_nil hf (th_n ?_)
        exact ⟨hf.sub ⟨rfl, rfl, rfl, rfl, rfl, rfl, rfl, rfl, rfl, (by rw [hb151]; rfl), trivial⟩, hp⟩
      refine st_skip hf (wantN hf rfl rfl hb151) rfl (by decide) ?_ rfl
      clear hf; intro a hf
      refine st_skip hf (wantN hf rfl rfl hb151) rfl (by decide) ?_ rfl
      clear hf; intro a hf
      refine st_skip hf (wantN hf rfl rfl hb151) rfl (by decide) ?_ rfl
      clear hf; intro a hf
      refine st_pick (v := .bool false) hf rfl rfl (fun hb' => ?_) (fun hb' => ?_) (by decide) ?_
      · exact absurd (hb151.symm.trans hb') (by decide)
      · rfl
      clear hf; intro a ha hf; clear ha
      refine st_nil hf (th_n ?_)
      exact ⟨hf.sub ⟨rfl, rfl, rfl, rfl, rfl, rfl, rfl, rfl, rfl, (by rw [hb151]; rfl), trivial⟩, hp⟩
    rintro a w ⟨hf, hp⟩
    refine st_move hf rfl rfl (by decide) ?_
    clear hf; intro a ha hf; clear ha
    refine wpList_cut 3 (fun a w => Fr 235 a [(1, optr v3 0), (22, .int .i64 q68.2), (24, .int .i64 q86.2), (25, v102), (26, .int .i64 q95.2), (28, .int .i64 q104.2), (32, .int .i64 q108.2.2.2), (34, .int .i64 q110.2), (197, .bool (((q32.2 == (1 : Int)) && ((q50.1.length : Int) == (32768 : Int))) && (q50.2 == (0 : Int))))] ∧ Hp S w0 w (Res.obj 34 v3 [.int .i64 q1.1, .int .u32 q1.2.1, .int .u32 q1.2.2] :: Res.sl Ek.bool 4 v57 q50.1 :: Res.sl Ek.bool 4 v102 q95.1 :: ow)) ?_ ?_
    · rcases Bool.eq_false_or_eq_true ((q32.2 == (1 : Int)) && ((q50.1.length : Int) == (32768 : Int))) with hb153 | hb153
      · skip
        refine st_move hf (wantY hf rfl rfl hb153) rfl (by decide) ?_
        clear hf; intro a ha hf; clear ha
        refine st_ieql hf (by decide) (wantY hf rfl rfl hb153) rfl rfl ?_
        clear hf; intro a ha hf; clear ha
        refine st_pick (v := .bool (q50.2 == (0 : Int))) hf rfl rfl (fun hb' => ?_) (fun hb' => ?_) (by decide) ?_
        · rfl
        · exact absurd (hb153.symm.trans hb') (by decide)
        clear hf; intro a ha hf; clear ha
        refine st_nil hf (th_n ?_)
        exact ⟨hf.sub ⟨rfl, rfl, rfl, rfl, rfl, rfl, rfl, rfl, (by rw [hb153]; rfl), trivial⟩, hp⟩
      refine st_skip hf (wantN hf rfl rfl hb153) rfl (by decide) ?_ rfl
      clear hf; intro a hf
      refine st_skip hf (wantN hf rfl rfl hb153) rfl (by decide) ?_ rfl
      clear hf; intro a hf
      refine st_pick (v := .bool false) hf rfl rfl (fun hb' => ?_) (fun hb' => ?_) (by decide) ?_
      · exact absurd (hb153.symm.trans hb') (by decide)
      · rfl
      clear hf; intro a ha hf; clear ha
      refine st_nil hf (th_n ?_)
      exact ⟨hf.sub ⟨rfl, rfl, rfl, rfl, rfl, rfl, rfl, rfl, (by rw [hb153]; rfl), trivial⟩, hp⟩
    rintro a w ⟨hf, hp⟩
    refine st_move hf rfl rfl (by decide) ?_
    clear hf; intro a ha hf; clear ha
    refine wpList_cut 3 (fun a w => Fr 235 a [(1, optr v3 0), (24, .int .i64 q86.2), (25, v102), (26, .int .i64 q95.2), (28, .int .i64 q104.2), (32, .int .i64 q108.2.2.2), (34, .int .i64 q110.2), (201, .bool ((((q32.2 == (1 : Int)) && ((q50.1.length : Int) == (32768 : Int))) && (q50.2 == (0 : Int))) && (q68.2 == (1 : Int))))] ∧ Hp S w0 w (Res.obj 34 v3 [.int .i64 q1.1, .int .u32 q1.2.1, .int .u32 q1.2.2] :: Res.sl Ek.bool 4 v57 q50.1 :: Res.sl Ek.bool 4 v102 q95.1 :: ow)) ?_ ?_
    · rcases Bool.eq_false_or_eq_true (((q32.2 == (1 : Int)) && ((q50.1.length : Int) == (32768 : Int))) && (q50.2 == (0 : Int))) with hb155 | hb155
      · skip
        refine st_move hf (wantY hf rfl rfl hb155) rfl (by decide) ?_
        clear hf; intro a ha hf; clear ha
        refine st_ieql hf (by decide) (wantY hf rfl rfl hb155) rfl rfl ?_
        clear hf; intro a ha hf; clear ha
        refine st_pick (v := .bool (q68.2 == (1 : Int))) hf rfl rfl (fun hb' => ?_) (fun hb' => ?_) (by decide) ?_
        · rfl
        · exact absurd (hb155.symm.trans hb') (by decide)
        clear hf; intro a ha hf; clear ha
        refine st_nil hf (th_n ?_)
        exact ⟨hf.sub ⟨rfl, rfl, rfl, rfl, rfl, rfl, rfl, (by rw [hb155]; rfl), trivial⟩, hp⟩
      refine st_skip hf (wantN hf rfl rfl hb155) rfl (by decide) ?_ rfl
      clear hf; intro a hf
      refine st_skip hf (wantN hf rfl rfl hb155) rfl (by decide) ?_ rfl
      clear hf; intro a hf
      refine st_pick (v := .bool false) hf rfl rfl (fun hb' => ?_) (fun hb' => ?_) (by decide) ?_
      · exact absurd (hb155.symm.trans hb') (by decide)
      · rfl
      clear hf; intro a ha hf; clear ha
      refine st_nil hf (th_n ?_)
      exact ⟨hf.sub ⟨rfl, rfl, rfl, rfl, rfl, rfl, rfl, (by rw [hb155]; rfl), trivial⟩, hp⟩
    rintro a w ⟨hf, hp⟩
    refine st_move hf rfl rfl (by decide) ?_
    clear hf; intro a ha hf; clear ha
    refine wpList_cut 3 (fun a w => Fr 235 a [(1, optr v3 0), (25, v102), (26, .int .i64 q95.2), (28, .int .i64 q104.2), (32, .int .i64 q108.2.2.2), (34, .int .i64 q110.2), (205, .bool (((((q32.2 == (1 : Int)) && ((q50.1.length : Int) == (32768 : Int))) && (q50.2 == (0 : Int))) && (q68.2 == (1 : Int))) && (q86.2 == (1 : Int))))] ∧ Hp S w0 w (Res.obj 34 v3 [.int .i64 q1.1, .int .u32 q1.2.1, .int .u32 q1.2.2] :: Res.sl Ek.bool 4 v57 q50.1 :: Res.sl Ek.bool 4 v102 q95.1 :: ow)) ?_ ?_
    · rcases Bool.eq_false_or_eq_true ((((q32.2 == (1 : Int)) && ((q50.1.length : Int) == (32768 : Int))) && (q50.2 == (0 : Int))) && (q68.2 == (1 : Int))) with hb157 | hb157
      · skip
        refine st_move hf (wantY hf rfl rfl hb157) rfl (by decide) ?_
        clear hf; intro a ha hf; clear ha
        refine st_ieql hf (by decide) (wantY hf rfl rfl hb157) rfl rfl ?_
        clear hf; intro a ha hf; clear ha
        refine st_pick (v := .bool (q86.2 == (1 : Int))) hf rfl rfl (fun hb' => ?_) (fun hb' => ?_) (by decide) ?_
        · rfl
        · exact absurd (hb157.symm.trans hb') (by decide)
        clear hf; intro a ha hf; clear ha
        refine st_nil hf (th_n ?_)
        exact ⟨hf.sub ⟨rfl, rfl, rfl, rfl, rfl, rfl, (by rw [hb157]; rfl), trivial⟩, hp⟩
      refine st_skip hf (wantN hf rfl rfl hb157) rfl (by decide) ?_ rfl
      clear hf; intro a hf
      refine st_skip hf (wantN hf rfl rfl hb157) rfl (by decide) ?_ rfl
      clear hf; intro a hf
      refine st_pick (v := .bool false) hf rfl rfl (fun hb' => ?_) (fun hb' => ?_) (by decide) ?_
      · exact absurd (hb157.symm.trans hb') (by decide)
      · rfl
      clear hf; intro a ha hf; clear ha
      refine st_nil hf (th_n ?_)
      exact ⟨hf.sub ⟨rfl, rfl, rfl, rfl, rfl, rfl, (by rw [hb157]; rfl), trivial⟩, hp⟩
    rintro a w ⟨hf, hp⟩
    refine st_move hf rfl rfl (by decide) ?_
    clear hf; intro a ha hf; clear ha
    refine wpList_cut 4 (fun a w => Fr 235 a [(1, optr v3 0), (26, .int .i64 q95.2), (28, .int .i64 q104.2), (32, .int .i64 q108.2.2.2), (34, .int .i64 q110.2), (210, .bool ((((((q32.2 == (1 : Int)) && ((q50.1.length : Int) == (32768 : Int))) && (q50.2 == (0 : Int))) && (q68.2 == (1 : Int))) && (q86.2 == (1 : Int))) && ((q95.1.length : Int) == (16382 : Int))))] ∧ Hp S w0 w (Res.obj 34 v3 [.int .i64 q1.1, .int .u32 q1.2.1, .int .u32 q1.2.2] :: Res.sl Ek.bool 4 v57 q50.1 :: Res.sl Ek.bool 4 v102 q95.1 :: ow)) ?_ ?_
    · rcases Bool.eq_false_or_eq_true (((((q32.2 == (1 : Int)) && ((q50.1.length : Int) == (32768 : Int))) && (q50.2 == (0 : Int))) && (q68.2 == (1 : Int))) && (q86.2 == (1 : Int))) with hb159 | hb159
      · skip
        refine st_move hf (wantY hf rfl rfl hb159) rfl (by decide) ?_
        clear hf; intro a ha hf; clear ha
        refine st_len (E := Ek.bool) hf (by decide) Try.underlying25 (wantY hf rfl rfl hb159) rfl (hp.sl (i := 2) rfl) ?_
        clear hf; intro a ha hf; clear ha
        refine st_ieql hf (by decide) (wantY hf rfl rfl hb159) rfl rfl ?_
        clear hf; intro a ha hf; clear ha
        refine st_pick (v := .bool ((q95.1.length : Int) == (16382 : Int))) hf rfl rfl (fun hb' => ?_) (fun hb' => ?_) (by decide) ?_
        · rfl
        · exact absurd (hb159.symm.trans hb') (by decide)
        clear hf; intro a ha hf; clear ha
        refine st_nil hf (th_n ?_)
        exact ⟨hf.sub ⟨rfl, rfl, rfl, rfl, rfl, (by rw [hb159]; rfl), trivial⟩, hp⟩
      refine st_skip hf (wantN hf rfl rfl hb159) rfl (by decide) ?_ rfl
      clear hf; intro a hf
      refine st_skip hf (wantN hf rfl rfl hb159) rfl (by decide) ?_ rfl
      clear hf; intro a hf
      refine st_skip hf (wantN hf rfl rfl hb159) rfl (by decide) ?_ rfl
      clear hf; intro a hf
      refine st_pick (v := .bool false) hf rfl rfl (fun hb' => ?_) (fun hb' => ?_) (by decide) ?_
      · exact absurd (hb159.symm.trans hb') (by decide)
      · rfl
      clear hf; intro a ha hf; clear ha
      refine st_nil hf (th_n ?_)
      exact ⟨hf.sub ⟨rfl, rfl, rfl, rfl, rfl, (by rw [hb159]; rfl), trivial⟩, hp⟩
    rintro a w ⟨hf, hp⟩
    refine st_move hf rfl rfl (by decide) ?_
    clear hf; intro a ha hf; clear ha
    refine wpList_cut 3 (fun a w => Fr 235 a [(1, optr v3 0), (28, .int .i64 q104.2), (32, .int .i64 q108.2.2.2), (34, .int .i64 q110.2), (214, .bool (((((((q32.2 == (1 : Int)) && ((q50.1.length : Int) == (32768 : Int))) && (q50.2 == (0 : Int))) && (q68.2 == (1 : Int))) && (q86.2 == (1 : Int))) && ((q95.1.length : Int) == (16382 : Int))) && (q95.2 == (0 : Int))))] ∧ Hp S w0 w (Res.obj 34 v3 [.int .i64 q1.1, .int .u32 q1.2.1, .int .u32 q1.2.2] :: Res.sl Ek.bool 4 v57 q50.1 :: Res.sl Ek.bool 4 v102 q95.1 :: ow)) ?_ ?_
    · rcases Bool.eq_false_or_eq_true ((((((q32.2 == (1 : Int)) && ((q50.1.length : Int) == (32768 : Int))) && (q50.2 == (0 : Int))) && (q68.2 == (1 : Int))) && (q86.2 == (1 : Int))) && ((q95.1.length : Int) == (16382 : Int))) with hb161 | hb161
      · skip
        refine st_move hf (wantY hf rfl rfl hb161) rfl (by decide) ?_
        clear hf; intro a ha hf; clear ha
        refine st_ieql hf (by decide) (wantY hf rfl rfl hb161) rfl rfl ?_
        clear hf; intro a ha hf; clear ha
        refine st_pick (v := .bool (q95.2 == (0 : Int))) hf rfl rfl (fun hb' => ?_) (fun hb' => ?_) (by decide) ?_
        · rfl
        · exact absurd (hb161.symm.trans hb') (by decide)
        clear hf; intro a ha hf; clear ha
        refine st_nil hf (th_n ?_)
        exact ⟨hf.sub ⟨rfl, rfl, rfl, rfl, (by rw [hb161]; rfl), trivial⟩, hp⟩
      refine st_skip hf (wantN hf rfl rfl hb161) rfl (by decide) ?_ rfl
      clear hf; intro a hf
      refine st_skip hf (wantN hf rfl rfl hb161) rfl (by decide) ?_ rfl
      clear hf; intro a hf
      refine st_pick (v := .bool false) hf rfl rfl (fun hb' => ?_) (fun hb' => ?_) (by decide) ?_
      · exact absurd (hb161.symm.trans hb') (by decide)
      · rfl
      clear hf; intro a ha hf; clear ha
      refine st_nil hf (th_n ?_)
      exact ⟨hf.sub ⟨rfl, rfl, rfl, rfl, (by rw [hb161]; rfl), trivial⟩, hp⟩
    rintro a w ⟨hf, hp⟩
    refine st_move hf rfl rfl (by decide) ?_
    clear hf; intro a ha hf; clear ha
    refine wpList_cut 3 (fun a w => Fr 235 a [(1, optr v3 0), (32, .int .i64 q108.2.2.2), (34, .int .i64 q110.2), (218, .bool ((((((((q32.2 == (1 : Int)) && ((q50.1.length : Int) == (32768 : Int))) && (q50.2 == (0 : Int))) && (q68.2 == (1 : Int))) && (q86.2 == (1 : Int))) && ((q95.1.length : Int) == (16382 : Int))) && (q95.2 == (0 : Int))) && (q104.2 == (1 : Int))))] ∧ Hp S w0 w (Res.obj 34 v3 [.int .i64 q1.1, .int .u32 q1.2.1, .int .u32 q1.2.2] :: Res.sl Ek.bool 4 v57 q50.1 :: Res.sl Ek.bool 4 v102 q95.1 :: ow)) ?_ ?_
    · rcases Bool.eq_false_or_eq_true (((((((q32.2 == (1 : Int)) && ((q50.1.length : Int) == (32768 : Int))) && (q50.2 == (0 : Int))) && (q68.2 == (1 : Int))) && (q86.2 == (1 : Int))) && ((q95.1.length : Int) == (16382 : Int))) && (q95.2 == (0 : Int))) with hb163 | hb163
      · skip
        refine st_move hf (wantY hf rfl rfl hb163) rfl (by decide) ?_
        clear hf; intro a ha hf; clear ha
        refine st_ieql hf (by decide) (wantY hf rfl rfl hb163) rfl rfl ?_
        clear hf; intro a ha hf; clear ha
        refine st_pick (v := .bool (q104.2 == (1 : Int))) hf rfl rfl (fun hb' => ?_) (fun hb' => ?_) (by decide) ?_
        · rfl
        · exact absurd (hb163.symm.trans hb') (by decide)
        clear hf; intro a ha hf; clear ha
        refine st_nil hf (th_n ?_)
        exact ⟨hf.sub ⟨rfl, rfl, rfl, (by rw [hb163]; rfl), trivial⟩, hp⟩
      refine st_skip hf (wantN hf rfl rfl hb163) rfl (by decide) ?_ rfl
      clear hf; intro a hf
      refine st_skip hf (wantN hf rfl rfl hb163) rfl (by decide) ?_ rfl
      clear hf; intro a hf
      refine st_pick (v := .bool false) hf rfl rfl (fun hb' => ?_) (fun hb' => ?_) (by decide) ?_
      · exact absurd (hb163.symm.trans hb') (by decide)
      · rfl
      clear hf; intro a ha hf; clear ha
      refine st_nil hf (th_n ?_)
      exact ⟨hf.sub ⟨rfl, rfl, rfl, (by rw [hb163]; rfl), trivial⟩, hp⟩
    rintro a w ⟨hf, hp⟩
    refine st_move hf rfl rfl (by decide) ?_
    clear hf; intro a ha hf; clear ha
    refine wpList_cut 3 (fun a w => Fr 235 a [(1, optr v3 0), (34, .int .i64 q110.2), (222, .bool (((((((((q32.2 == (1 : Int)) && ((q50.1.length : Int) == (32768 : Int))) && (q50.2 == (0 : Int))) && (q68.2 == (1 : Int))) && (q86.2 == (1 : Int))) && ((q95.1.length : Int) == (16382 : Int))) && (q95.2 == (0 : Int))) && (q104.2 == (1 : Int))) && (q108.2.2.2 == (1 : Int))))] ∧ Hp S w0 w (Res.obj 34 v3 [.int .i64 q1.1, .int .u32 q1.2.1, .int .u32 q1.2.2] :: Res.sl Ek.bool 4 v57 q50.1 :: Res.sl Ek.bool 4 v102 q95.1 :: ow)) ?_ ?_
    · rcases Bool.eq_false_or_eq_true ((((((((q32.2 == (1 : Int)) && ((q50.1.length : Int) == (32768 : Int))) && (q50.2 == (0 : Int))) && (q68.2 == (1 : Int))) && (q86.2 == (1 : Int))) && ((q95.1.length : Int) == (16382 : Int))) && (q95.2 == (0 : Int))) && (q104.2 == (1 : Int))) with hb165 | hb165
      · skip
        refine st_move hf (wantY hf rfl rfl hb165) rfl (by decide) ?_
        clear hf; intro a ha hf; clear ha
        refine st_ieql hf (by decide) (wantY hf rfl rfl hb165) rfl rfl ?_
        clear hf; intro a ha hf; clear ha
        refine st_pick (v := .bool (q108.2.2.2 == (1 : Int))) hf rfl rfl (fun hb' => ?_) (fun hb' => ?_) (by decide) ?_
        · rfl
        · exact absurd (hb165.symm.trans hb') (by decide)
        clear hf; intro a ha hf; clear ha
        refine st_nil hf (th_n ?_)
        exact ⟨hf.sub ⟨rfl, rfl, (by rw [hb165]; rfl), trivial⟩, hp⟩
      refine st_skip hf (wantN hf rfl rfl hb165) rfl (by decide) ?_ rfl
      clear hf; intro a hf
      refine st_skip hf (wantN hf rfl rfl hb165) rfl (by decide) ?_ rfl
      clear hf; intro a hf
      refine st_pick (v := .bool false) hf rfl rfl (fun hb' => ?_) (fun hb' => ?_) (by decide) ?_
      · exact absurd (hb165.symm.trans hb') (by decide)
      · rfl
      clear hf; intro a ha hf; clear ha
      refine st_nil hf (th_n ?_)
      exact ⟨hf.sub ⟨rfl, rfl, (by rw [hb165]; rfl), trivial⟩, hp⟩
    rintro a w ⟨hf, hp⟩
    refine st_move hf rfl rfl (by decide) ?_
    clear hf; intro a ha hf; clear ha
    refine wpList_cut 3 (fun a w => Fr 235 a [(1, optr v3 0), (226, .bool ((((((((((q32.2 == (1 : Int)) && ((q50.1.length : Int) == (32768 : Int))) && (q50.2 == (0 : Int))) && (q68.2 == (1 : Int))) && (q86.2 == (1 : Int))) && ((q95.1.length : Int) == (16382 : Int))) && (q95.2 == (0 : Int))) && (q104.2 == (1 : Int))) && (q108.2.2.2 == (1 : Int))) && (q110.2 == (1 : Int))))] ∧ Hp S w0 w (Res.obj 34 v3 [.int .i64 q1.1, .int .u32 q1.2.1, .int .u32 q1.2.2] :: Res.sl Ek.bool 4 v57 q50.1 :: Res.sl Ek.bool 4 v102 q95.1 :: ow)) ?_ ?_
    · rcases Bool.eq_false_or_eq_true (((((((((q32.2 == (1 : Int)) && ((q50.1.length : Int) == (32768 : Int))) && (q50.2 == (0 : Int))) && (q68.2 == (1 : Int))) && (q86.2 == (1 : Int))) && ((q95.1.length : Int) == (16382 : Int))) && (q95.2 == (0 : Int))) && (q104.2 == (1 : Int))) && (q108.2.2.2 == (1 : Int))) with hb167 | hb167
      · skip
        refine st_move hf (wantY hf rfl rfl hb167) rfl (by decide) ?_
        clear hf; intro a ha hf; clear ha
        refine st_ieql hf (by decide) (wantY hf rfl rfl hb167) rfl rfl ?_
        clear hf; intro a ha hf; clear ha
        refine st_pick (v := .bool (q110.2 == (1 : Int))) hf rfl rfl (fun hb' => ?_) (fun hb' => ?_) (by decide) ?_
        · rfl
        · exact absurd (hb167.symm.trans hb') (by decide)
        clear hf; intro a ha hf; clear ha
        refine st_nil hf (th_n ?_)
        exact ⟨hf.sub ⟨rfl, (by rw [hb167]; rfl), trivial⟩, hp⟩
      refine st_skip hf (wantN hf rfl rfl hb167) rfl (by decide) ?_ rfl
      clear hf; intro a hf
      refine st_skip hf (wantN hf rfl rfl hb167) rfl (by decide) ?_ rfl
      clear hf; intro a hf
      refine st_pick (v := .bool false) hf rfl rfl (fun hb' => ?_) (fun hb' => ?_) (by decide) ?_
      · exact absurd (hb167.symm.trans hb') (by decide)
      · rfl
      clear hf; intro a ha hf; clear ha
      refine st_nil hf (th_n ?_)
      exact ⟨hf.sub ⟨rfl, (by rw [hb167]; rfl), trivial⟩, hp⟩
    rintro a w ⟨hf, hp⟩
    refine st_move hf rfl rfl (by decide) ?_
    clear hf; intro a ha hf; clear ha
    obtain ⟨z170, hz168, h⟩ := bnd h
    refine wpList_cut 4 (fun a w => Fr 235 a [(231, .bool z170)] ∧ Hp S w0 w (Res.obj 34 v3 [.int .i64 q1.1, .int .u32 q1.2.1, .int .u32 q1.2.2] :: Res.sl Ek.bool 4 v57 q50.1 :: Res.sl Ek.bool 4 v102 q95.1 :: ow)) ?_ ?_
    · rcases Bool.eq_false_or_eq_true ((((((((((q32.2 == (1 : Int)) && ((q50.1.length : Int) == (32768 : Int))) && (q50.2 == (0 : Int))) && (q68.2 == (1 : Int))) && (q86.2 == (1 : Int))) && ((q95.1.length : Int) == (16382 : Int))) && (q95.2 == (0 : Int))) && (q104.2 == (1 : Int))) && (q108.2.2.2 == (1 : Int))) && (q110.2 == (1 : Int))) with hb169 | hb169
      · skip
        replace hz168 := ifT hz168 hb169
        refine st_ldOA (m := 3) (us := [.int .i64 q1.1, .int .u32 q1.2.1, .int .u32 q1.2.2]) hf (by decide) (by kernel_rfl) (wantY hf rfl rfl hb169) rfl (hp.ob (i := 0) rfl) rfl rfl ?_
        clear hf; intro a ha hf; clear ha
        obtain ⟨q171, hcall172, hz168⟩ := bnd hz168
        refine st_call hf (by decide) Try.func26 rfl rfl (wantY hf rfl rfl hb169) rfl rfl (f_trellis_Code_Check_c hp _ _ _ hcall172) ?_
        rintro _ w ⟨rfl, hp0⟩
        clear hp; have hp := hp0; clear hp0
        replace hp : Hp _ _ _ (Res.obj 34 v3 [.int .i64 q1.1, .int .u32 q1.2.1, .int .u32 q1.2.2] :: Res.sl Ek.bool 4 v57 q50.1 :: Res.sl Ek.bool 4 v102 q95.1 :: ow) := hp
        refine ⟨_, rfl, ?_⟩
        clear hf; intro a hf
        refine st_ieql hf (by decide) (wantY hf rfl rfl hb169) rfl rfl ?_
        clear hf; intro a ha hf; clear ha
        obtain rfl := Option.some.inj hz168
        refine st_pick (v := .bool (q171 == (0 : Int))) hf rfl rfl (fun hb' => ?_) (fun hb' => ?_) (by decide) ?_
        · rfl
        · exact absurd (hb169.symm.trans hb') (by decide)
        clear hf; intro a ha hf; clear ha
        refine st_nil hf (th_n ?_)
        exact ⟨hf.sub ⟨rfl, trivial⟩, hp⟩
      replace hz168 := ifF hz168 hb169
      refine st_skip hf (wantN hf rfl rfl hb169) rfl (by decide) ?_ rfl
      clear hf; intro a hf
      refine st_skip hf (wantN hf rfl rfl hb169) rfl (by decide) ?_ rfl
      clear hf; intro a hf
      refine st_skip hf (wantN hf rfl rfl hb169) rfl (by decide) ?_ rfl
      clear hf; intro a hf
      obtain rfl := Option.some.inj hz168
      refine st_pick (v := .bool false) hf rfl rfl (fun hb' => ?_) (fun hb' => ?_) (by decide) ?_
      · exact absurd (hb169.symm.trans hb') (by decide)
      · rfl
      clear hf; intro a ha hf; clear ha
      refine st_nil hf (th_n ?_)
      exact ⟨hf.sub ⟨rfl, trivial⟩, hp⟩
    rintro a w ⟨hf, hp⟩
    refine st_move hf rfl rfl (by decide) ?_
    clear hf; intro a ha hf; clear ha
    obtain ⟨z175, hz173, h⟩ := bnd h
    refine wpList_cut 2 (fun a w => Fr 235 a [(234, .bool z175)] ∧ Hp S w0 w (Res.obj 34 v3 [.int .i64 q1.1, .int .u32 q1.2.1, .int .u32 q1.2.2] :: Res.sl Ek.bool 4 v57 q50.1 :: Res.sl Ek.bool 4 v102 q95.1 :: ow)) ?_ ?_
    · rcases Bool.eq_false_or_eq_true z170 with hb174 | hb174
      · skip
        replace hz173 := ifT hz173 hb174
        obtain ⟨q176, hcall177, hz173⟩ := bnd hz173
        refine st_call hf (by decide) Try.func11 rfl rfl (wantY hf rfl rfl hb174) rfl rfl (f_foghornlaw21_awake_c hp  hcall177) ?_
        rintro _ w ⟨rfl, hp0⟩
        clear hp; have hp := hp0; clear hp0
        replace hp : Hp _ _ _ (Res.obj 34 v3 [.int .i64 q1.1, .int .u32 q1.2.1, .int .u32 q1.2.2] :: Res.sl Ek.bool 4 v57 q50.1 :: Res.sl Ek.bool 4 v102 q95.1 :: ow) := hp
        refine ⟨_, rfl, ?_⟩
        clear hf; intro a hf
        obtain rfl := Option.some.inj hz173
        refine st_pick (v := .bool q176) hf rfl rfl (fun hb' => ?_) (fun hb' => ?_) (by decide) ?_
        · rfl
        · exact absurd (hb174.symm.trans hb') (by decide)
        clear hf; intro a ha hf; clear ha
        refine st_nil hf (th_n ?_)
        exact ⟨hf.sub ⟨rfl, trivial⟩, hp⟩
      replace hz173 := ifF hz173 hb174
      refine st_skip hf (wantN hf rfl rfl hb174) rfl (by decide) ?_ rfl
      clear hf; intro a hf
      obtain rfl := Option.some.inj hz173
      refine st_pick (v := .bool false) hf rfl rfl (fun hb' => ?_) (fun hb' => ?_) (by decide) ?_
      · exact absurd (hb174.symm.trans hb') (by decide)
      · rfl
      clear hf; intro a ha hf; clear ha
      refine st_nil hf (th_n ?_)
      exact ⟨hf.sub ⟨rfl, trivial⟩, hp⟩
    rintro a w ⟨hf, hp⟩
    refine st_assign hf rfl rfl (by decide) ?_
    clear hf; intro a ha hf; clear ha
    refine st_nil hf ?_
    refine th_n ?_
    refine wp_ret ?_
    obtain rfl := Option.some.inj h
    have hp : Hp _ _ _ (ow) := Hp.sel (pre := [Res.obj 34 v3 [.int .i64 q1.1, .int .u32 q1.2.1, .int .u32 q1.2.2], Res.sl Ek.bool 4 v57 q50.1, Res.sl Ek.bool 4 v102 q95.1]) (tail := ow) (rs' := []) hp [] (by decide) (by simp) rfl
    exact ⟨rfl, ⟨hf.sub ⟨rfl, trivial⟩, hp⟩⟩
  replace h := smR h
  obtain ⟨rfl, hf, hp⟩ := hO
  refine ib_r ?_
  refine th_r ?_
  obtain rfl := Option.some.inj h
  exact ⟨rfl, ⟨hf.sub ⟨rfl, trivial⟩, hp⟩⟩

end Go.Proofs.Ytilodendgbjelaa
