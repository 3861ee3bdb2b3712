/- The functions foghorn foghornlaw21.TrellisLinear: what each answers, as a plain function, and that its call answers it; printed by gen.py. -/
import Derived.Test.YtilodendgbjelaaProg
import Derived.Test.YtilodendgbjelaaGlX
import Derived.KernelRfl
import Derived.Test.YtilodendgbjelaaG7p1
set_option linter.unusedVariables false
set_option linter.unusedSimpArgs false
set_option maxRecDepth 100000
set_option maxHeartbeats 4000000
namespace Go.Proofs.Ytilodendgbjelaa
open GL
noncomputable def f_trellis_Code_Exact.s1c (c0_Length : Int) (c0_One : Int) (c0_Two : Int) (coded1 : (List Bool)) (out8 : (List Bool)) (state9 : Int) (t28 : Int) : Option (((List Bool) × Int × Int) ⊕ (((List Bool) × Int) ⊕ ((List Bool) × Int))) := (if (decide (t28 < (IntKind.i64.wrap (((coded1.length : Int)).tdiv (2 : Int))))) = true then ((f_trellis_Code_step c0_Length c0_One c0_Two state9 false).bind fun q12 => (if 0 ≤ (IntKind.i64.wrap ((2 : Int) * t28)) ∧ (IntKind.i64.wrap ((2 : Int) * t28)) < (coded1.length : Int) then ((if (q12.2.1 != (gt coded1 (IntKind.i64.wrap ((2 : Int) * t28)))) = true then (some true) else (if 0 ≤ (IntKind.i64.wrap ((IntKind.i64.wrap ((2 : Int) * t28)) + (1 : Int))) ∧ (IntKind.i64.wrap ((IntKind.i64.wrap ((2 : Int) * t28)) + (1 : Int))) < (coded1.length : Int) then (some (q12.2.2 != (gt coded1 (IntKind.i64.wrap ((IntKind.i64.wrap ((2 : Int) * t28)) + (1 : Int)))))) else none)).bind fun z17 => ((f_trellis_Code_step c0_Length c0_One c0_Two state9 z17).bind fun q19 => (if 0 ≤ (IntKind.i64.wrap ((2 : Int) * t28)) ∧ (IntKind.i64.wrap ((2 : Int) * t28)) < (coded1.length : Int) then ((if (q19.2.1 != (gt coded1 (IntKind.i64.wrap ((2 : Int) * t28)))) = true then (some true) else (if 0 ≤ (IntKind.i64.wrap ((IntKind.i64.wrap ((2 : Int) * t28)) + (1 : Int))) ∧ (IntKind.i64.wrap ((IntKind.i64.wrap ((2 : Int) * t28)) + (1 : Int))) < (coded1.length : Int) then (some (q19.2.2 != (gt coded1 (IntKind.i64.wrap ((IntKind.i64.wrap ((2 : Int) * t28)) + (1 : Int)))))) else none)).bind fun z24 => (if z24 = true then (some (Sum.inr (Sum.inr ([], (6 : Int))))) else (if (out8.length + ([z17]).length) * 1 ≤ 140737488355328 then (some (Sum.inl ((out8 ++ [z17]), q19.1, (IntKind.i64.wrap (t28 + (1 : Int)))))) else none))) else none))) else none)) else (some (Sum.inr (Sum.inl (out8, state9)))))
noncomputable def f_trellis_Code_Exact.s1 (c0_Length : Int) (c0_One : Int) (c0_Two : Int) (coded1 : (List Bool)) (s : ((List Bool) × Int × Int)) : Option (((List Bool) × Int × Int) ⊕ (((List Bool) × Int) ⊕ ((List Bool) × Int))) := f_trellis_Code_Exact.s1c c0_Length c0_One c0_Two coded1 s.1 s.2.1 s.2.2
noncomputable def f_trellis_Code_Exact (c0_Length : Int) (c0_One : Int) (c0_Two : Int) (coded1 : (List Bool)) : Option ((List Bool) × Int) := ((f_trellis_Code_Check c0_Length c0_One c0_Two).bind fun q3 => (if ((q3 != (0 : Int)) || (decide ((32768 : Int) < (coded1.length : Int)))) = true then (some ([], (1 : Int))) else ((loop (f_trellis_Code_Exact.s1 c0_Length c0_One c0_Two coded1) ([], (0 : Int), (0 : Int))).bind (fun q31 => sm q31 (fun q33 => (if (((decide ((0 : Int) < (iand .i64 (coded1.length : Int) (1 : Int)))) || (decide ((IntKind.i64.wrap (((coded1.length : Int)).tdiv (2 : Int))) < (IntKind.i64.wrap (c0_Length - (1 : Int)))))) || (q33.2 != (0 : Int))) = true then (some ([], (6 : Int))) else (if 0 ≤ (IntKind.i64.wrap ((IntKind.i64.wrap ((IntKind.i64.wrap (((coded1.length : Int)).tdiv (2 : Int))) - c0_Length)) + (1 : Int))) ∧ (IntKind.i64.wrap ((IntKind.i64.wrap ((IntKind.i64.wrap (((coded1.length : Int)).tdiv (2 : Int))) - c0_Length)) + (1 : Int))) ≤ ((q33.1 ++ ([] : List Bool)).length : Int) then (some (((q33.1 ++ ([] : List Bool)).take (((IntKind.i64.wrap ((IntKind.i64.wrap ((IntKind.i64.wrap (((coded1.length : Int)).tdiv (2 : Int))) - c0_Length)) + (1 : Int)))).toNat)), (0 : Int))) else none))) (fun q34 => (some (q34.1, q34.2)))))))
theorem f_trellis_Code_Exact_c {S : Nat → Prop} {w0 w : World} {ow : List Res} (hp : Hp S w0 w ow) (c0_Length : Int) (c0_One : Int) (c0_Two : Int) (vcoded1 : Value) (coded1 : (List Bool)) (hcoded1 : RdS Ek.bool S w0 vcoded1 coded1) {r : ((List Bool) × Int)} (h : f_trellis_Code_Exact c0_Length c0_One c0_Two coded1 = some r) :
    Calls Try.prog 20 #[.agg #[.int .i64 c0_Length, .int .u32 c0_One, .int .u32 c0_Two], vcoded1] w (fun e w' => ∃ (u0 : Value), e = .returned (.tuple #[u0, .int .i64 r.2]) ∧ Hp S w0 w' (Res.sl Ek.bool 4 u0 r.1 :: ow)) := by
  unfold f_trellis_Code_Exact at h
  refine enter (n := 107) (args := [.agg #[.int .i64 c0_Length, .int .u32 c0_One, .int .u32 c0_Two], vcoded1]) Try.func20 rfl rfl (Nat.le_of_ble_eq_true rfl) fun a hf => ?_
  replace hf : Fr 107 a [(0, .agg #[.int .i64 c0_Length, .int .u32 c0_One, .int .u32 c0_Two]), (1, vcoded1)] := hf
  refine wp_mono (Q := fun e a w => e = .ret ∧ ∃ (u0 : Value), Fr 107 a [(4, u0), (5, .int .i64 r.2)] ∧ Hp S w0 w (Res.sl Ek.bool 4 u0 r.1 :: ow)) ?_ ?_
  rotate_left
  · rintro e a w ⟨rfl, x0, hf, hp⟩
    exact ret2 hf rfl rfl rfl ⟨x0, rfl, hp⟩
  refine wp_seq ?_
  refine wp_reg ?_
  refine st_boxO (cs := [.int .i64 c0_Length, .int .u32 c0_One, .int .u32 c0_Two]) hf (by decide) hp rfl rfl rfl ?_
  clear hf; intro a w v1 hf hp0; clear hp; have hp := hp0; clear hp0
  replace hp : Hp _ _ _ (Res.obj 34 v1 [.int .i64 c0_Length, .int .u32 c0_One, .int .u32 c0_Two] :: ow) := hp
  refine st_assign hf rfl rfl (by decide) ?_
  clear hf; intro a ha hf; clear ha
  refine st_assign hf rfl rfl (by decide) ?_
  clear hf; intro a ha hf; clear ha
  refine st_nil hf ?_
  refine th_n ?_
  refine wp_seq ?_
  refine wp_seq ?_
  refine wp_reg ?_
  refine st_ldOA (m := 3) (us := [.int .i64 c0_Length, .int .u32 c0_One, .int .u32 c0_Two]) hf (by decide) (by kernel_rfl) rfl rfl (hp.ob (i := 0) rfl) rfl rfl ?_
  clear hf; intro a ha hf; clear ha
  obtain ⟨q3, hcall4, h⟩ := bnd h
  refine st_call hf (by decide) Try.func26 rfl rfl rfl rfl rfl (f_trellis_Code_Check_c hp _ _ _ hcall4) ?_
  rintro _ w ⟨rfl, hp0⟩
  clear hp; have hp := hp0; clear hp0
  replace hp : Hp _ _ _ (Res.obj 34 v1 [.int .i64 c0_Length, .int .u32 c0_One, .int .u32 c0_Two] :: ow) := hp
  refine ⟨_, rfl, ?_⟩
  clear hf; intro a hf
  refine st_assign hf rfl rfl (by decide) ?_
  clear hf; intro a ha hf; clear ha
  refine st_nil hf ?_
  refine th_n ?_
  refine wp_seq ?_
  refine wp_reg ?_
  refine st_move hf rfl rfl (by decide) ?_
  clear hf; intro a ha hf; clear ha
  refine st_ineq hf (by decide) rfl rfl rfl ?_
  clear hf; intro a ha hf; clear ha
  refine st_move hf rfl rfl (by decide) ?_
  clear hf; intro a ha hf; clear ha
  refine wpList_cut 4 (fun a w => Fr 107 a [(1, vcoded1), (2, optr v1 0), (23, .bool ((q3 != (0 : Int)) || (decide ((32768 : Int) < (coded1.length : Int)))))] ∧ Hp S w0 w (Res.obj 34 v1 [.int .i64 c0_Length, .int .u32 c0_One, .int .u32 c0_Two] :: ow)) ?_ ?_
  · rcases Bool.eq_false_or_eq_true (q3 != (0 : Int)) with hb6 | hb6
    · skip
      refine st_skip hf (wantN hf rfl rfl hb6) rfl (by decide) ?_ rfl
      clear hf; intro a hf
      refine st_skip hf (wantN hf rfl rfl hb6) rfl (by decide) ?_ rfl
      clear hf; intro a hf
      refine st_skip hf (wantN hf rfl rfl hb6) rfl (by decide) ?_ rfl
      clear hf; intro a hf
      refine st_pick (v := .bool true) hf rfl rfl (fun hb' => ?_) (fun hb' => ?_) (by decide) ?_
      · rfl
      · exact absurd (hb6.symm.trans hb') (by decide)
      clear hf; intro a ha hf; clear ha
      refine st_nil hf (th_n ?_)
      exact ⟨hf.sub ⟨rfl, rfl, (by rw [hb6]; rfl), trivial⟩, hp⟩
    refine st_move hf (wantY hf rfl rfl hb6) rfl (by decide) ?_
    clear hf; intro a ha hf; clear ha
    refine st_len (E := Ek.bool) hf (by decide) Try.underlying25 (wantY hf rfl rfl hb6) rfl (hcoded1.sl hp) ?_
    clear hf; intro a ha hf; clear ha
    refine st_igtr hf (by decide) (wantY hf rfl rfl hb6) rfl rfl ?_
    clear hf; intro a ha hf; clear ha
    refine st_pick (v := .bool (decide ((32768 : Int) < (coded1.length : Int)))) hf rfl rfl (fun hb' => ?_) (fun hb' => ?_) (by decide) ?_
    · exact absurd (hb6.symm.trans hb') (by decide)
    · rfl
    clear hf; intro a ha hf; clear ha
    refine st_nil hf (th_n ?_)
    exact ⟨hf.sub ⟨rfl, rfl, (by rw [hb6]; rfl), trivial⟩, hp⟩
  rintro a w ⟨hf, hp⟩
  refine st_nil hf ?_
  refine th_n ?_
  refine wp_if hf rfl (fun hb => ?_) (fun hb => ?_)
  · replace h := ifT h hb
    refine wp_seq ?_
    refine wp_reg ?_
    refine st_assign hf rfl rfl (by decide) ?_
    clear hf; intro a ha hf; clear ha
    refine st_assign hf rfl rfl (by decide) ?_
    clear hf; intro a ha hf; clear ha
    refine st_nil hf ?_
    refine th_n ?_
    refine wp_ret ?_
    refine th_r ?_
    obtain rfl := Option.some.inj h
    have hp := hp.nil Ek.bool 4
    have hp : Hp _ _ _ (Res.sl Ek.bool 4 (.slice none 0 0) ([]) :: ow) := Hp.sel (pre := [Res.sl Ek.bool 4 (.slice none 0 0) ([]), Res.obj 34 v1 [.int .i64 c0_Length, .int .u32 c0_One, .int .u32 c0_Two]]) (tail := ow) (rs' := [Res.sl Ek.bool 4 (.slice none 0 0) ([])]) hp [0] (by decide) (by simp) rfl
    exact ⟨rfl, ⟨_, hf.sub ⟨rfl, rfl, trivial⟩, hp⟩⟩
  replace h := ifF h hb
  refine wp_skip ?_
  refine th_n ?_
  refine wp_seq ?_
  refine wp_reg ?_
  refine st_move hf rfl rfl (by decide) ?_
  clear hf; intro a ha hf; clear ha
  refine st_len (E := Ek.bool) hf (by decide) Try.underlying25 rfl rfl (hcoded1.sl hp) ?_
  clear hf; intro a ha hf; clear ha
  refine st_iquo hf (by decide) rfl rfl rfl (by decide) ?_
  clear hf; intro a ha hf; clear ha
  refine st_assign hf rfl rfl (by decide) ?_
  clear hf; intro a ha hf; clear ha
  refine st_nil hf ?_
  refine th_n ?_
  refine wp_seq ?_
  refine wp_reg ?_
  refine st_assign hf rfl rfl (by decide) ?_
  clear hf; intro a ha hf; clear ha
  refine st_nil hf ?_
  refine th_n ?_
  refine wp_seq ?_
  refine wp_reg ?_
  refine st_assign hf rfl rfl (by decide) ?_
  clear hf; intro a ha hf; clear ha
  refine st_nil hf ?_
  refine th_n ?_
  refine wp_seq ?_
  refine wp_seq ?_
  refine wp_reg ?_
  refine st_move hf rfl rfl (by decide) ?_
  clear hf; intro a ha hf; clear ha
  refine st_move hf rfl rfl (by decide) ?_
  clear hf; intro a ha hf; clear ha
  refine st_nil hf ?_
  refine th_n ?_
  refine wp_block ?_
  obtain ⟨q31, hl, h⟩ := bnd h
  have hp := hp.nil Ek.bool 4
  refine wp_loop_pure (f := (f_trellis_Code_Exact.s1 c0_Length c0_One c0_Two coded1)) (s := ([], (0 : Int), (0 : Int))) (fun s a w => ∃ (v8 : Value), Fr 107 a [(1, vcoded1), (2, optr v1 0), (7, .int .i64 (IntKind.i64.wrap (((coded1.length : Int)).tdiv (2 : Int)))), (8, v8), (9, .int .i64 s.2.1), (27, .int .i64 (IntKind.i64.wrap (((coded1.length : Int)).tdiv (2 : Int)))), (28, .int .i64 s.2.2)] ∧ Hp S w0 w (Res.sl Ek.bool 4 v8 s.1 :: Res.obj 34 v1 [.int .i64 c0_Length, .int .u32 c0_One, .int .u32 c0_Two] :: ow)) (fun q e a w => match q with | (Sum.inl q) => e = .exit 0 ∧ ∃ (v10 : Value), Fr 107 a [(1, vcoded1), (2, optr v1 0), (7, .int .i64 (IntKind.i64.wrap (((coded1.length : Int)).tdiv (2 : Int)))), (8, v10), (9, .int .i64 q.2)] ∧ Hp S w0 w (Res.sl Ek.bool 4 v10 q.1 :: Res.obj 34 v1 [.int .i64 c0_Length, .int .u32 c0_One, .int .u32 c0_Two] :: ow) | (Sum.inr q) => e = .ret ∧ ∃ (u0 : Value), Fr 107 a [(4, u0), (5, .int .i64 q.2)] ∧ Hp S w0 w (Res.sl Ek.bool 4 u0 q.1 :: ow)) ?_ hl ⟨_, hf.sub ⟨rfl, rfl, rfl, rfl, rfl, rfl, rfl, trivial⟩, hp⟩ ?_
  · clear hl hf hp
    intro s x a w h hI
    obtain ⟨out8, state9, t28⟩ := s
    obtain ⟨v8, hf, hp⟩ : ∃ (v8 : Value), Fr 107 a [(1, vcoded1), (2, optr v1 0), (7, .int .i64 (IntKind.i64.wrap (((coded1.length : Int)).tdiv (2 : Int)))), (8, v8), (9, .int .i64 state9), (27, .int .i64 (IntKind.i64.wrap (((coded1.length : Int)).tdiv (2 : Int)))), (28, .int .i64 t28)] ∧ Hp S w0 w (Res.sl Ek.bool 4 v8 out8 :: Res.obj 34 v1 [.int .i64 c0_Length, .int .u32 c0_One, .int .u32 c0_Two] :: ow) := hI
    replace h : f_trellis_Code_Exact.s1c c0_Length c0_One c0_Two coded1 out8 state9 t28 = some x := h
    unfold f_trellis_Code_Exact.s1c at h
    refine wp_seq ?_
    refine wp_reg ?_
    refine st_ilss hf (by decide) rfl rfl rfl ?_
    clear hf; intro a ha hf; clear ha
    refine st_nil hf ?_
    refine th_n ?_
    refine wp_seq ?_
    refine wp_if hf rfl (fun hb => ?_) (fun hb => ?_)
    · replace h := ifT h hb
      refine wp_skip ?_
      refine th_n ?_
      refine wp_seq ?_
      refine wp_block ?_
      refine wp_seq ?_
      refine wp_reg ?_
      refine st_move hf rfl rfl (by decide) ?_
      clear hf; intro a ha hf; clear ha
      refine st_assign hf rfl rfl (by decide) ?_
      clear hf; intro a ha hf; clear ha
      refine st_nil hf ?_
      refine th_n ?_
      refine wp_seq ?_
      refine wp_reg ?_
      refine st_ldOA (m := 3) (us := [.int .i64 c0_Length, .int .u32 c0_One, .int .u32 c0_Two]) hf (by decide) (by kernel_rfl) rfl rfl (hp.ob (i := 1) rfl) rfl rfl ?_
      clear hf; intro a ha hf; clear ha
      refine st_move hf rfl rfl (by decide) ?_
      clear hf; intro a ha hf; clear ha
      obtain ⟨q12, hcall13, h⟩ := bnd h
      refine st_call hf (by decide) Try.func37 rfl rfl rfl rfl rfl (f_trellis_Code_step_c hp _ _ _ _ _ hcall13) ?_
      rintro _ w ⟨rfl, hp0⟩
      clear hp; have hp := hp0; clear hp0
      replace hp : Hp _ _ _ (Res.sl Ek.bool 4 v8 out8 :: Res.obj 34 v1 [.int .i64 c0_Length, .int .u32 c0_One, .int .u32 c0_Two] :: ow) := hp
      refine ⟨_, rfl, ?_⟩
      clear hf; intro a hf
      refine st_move hf rfl rfl (by decide) ?_
      clear hf; intro a ha hf; clear ha
      refine st_extract hf (by decide) rfl rfl rfl ?_
      clear hf; intro a ha hf; clear ha
      refine st_extract hf (by decide) rfl rfl rfl ?_
      clear hf; intro a ha hf; clear ha
      refine st_extract hf (by decide) rfl rfl rfl ?_
      clear hf; intro a ha hf; clear ha
      refine st_assign hf rfl rfl (by decide) ?_
      clear hf; intro a ha hf; clear ha
      refine st_assign hf rfl rfl (by decide) ?_
      clear hf; intro a ha hf; clear ha
      refine st_assign hf rfl rfl (by decide) ?_
      clear hf; intro a ha hf; clear ha
      refine st_nil hf ?_
      refine th_n ?_
      refine wp_seq ?_
      refine wp_reg ?_
      refine st_move hf rfl rfl (by decide) ?_
      clear hf; intro a ha hf; clear ha
      refine st_move hf rfl rfl (by decide) ?_
      clear hf; intro a ha hf; clear ha
      refine st_move hf rfl rfl (by decide) ?_
      clear hf; intro a ha hf; clear ha
      refine st_imul hf (by decide) rfl rfl rfl ?_
      clear hf; intro a ha hf; clear ha
      obtain ⟨hc14, h⟩ := chk h
      refine st_index (E := Ek.bool) hf (by decide) Try.underlying25 elt4 rfl rfl rfl (hcoded1.sl hp) hc14.1 hc14.2 ?_
      clear hf; intro a ha hf; clear ha
      refine st_ldB hf (by decide) pl4 rfl rfl (hcoded1.sl hp) hc14.1 hc14.2 ?_
      clear hf; intro a ha hf; clear ha
      refine st_bneq hf (by decide) Try.underlying4 rfl rfl rfl ?_
      clear hf; intro a ha hf; clear ha
      refine st_move hf rfl rfl (by decide) ?_
      clear hf; intro a ha hf; clear ha
      obtain ⟨z17, hz15, h⟩ := bnd h
      refine wpList_cut 9 (fun a w => Fr 107 a [(1, vcoded1), (2, optr v1 0), (7, .int .i64 (IntKind.i64.wrap (((coded1.length : Int)).tdiv (2 : Int)))), (8, v8), (9, .int .i64 state9), (10, .int .i64 t28), (27, .int .i64 (IntKind.i64.wrap (((coded1.length : Int)).tdiv (2 : Int)))), (28, .int .i64 t28), (54, .bool z17)] ∧ Hp S w0 w (Res.sl Ek.bool 4 v8 out8 :: Res.obj 34 v1 [.int .i64 c0_Length, .int .u32 c0_One, .int .u32 c0_Two] :: ow)) ?_ ?_
      · rcases Bool.eq_false_or_eq_true (q12.2.1 != (gt coded1 (IntKind.i64.wrap ((2 : Int) * t28)))) with hb16 | hb16
        · skip
          replace hz15 := ifT hz15 hb16
          refine st_skip hf (wantN hf rfl rfl hb16) rfl (by decide) ?_ rfl
          clear hf; intro a hf
          refine st_skip hf (wantN hf rfl rfl hb16) rfl (by decide) ?_ rfl
          clear hf; intro a hf
          refine st_skip hf (wantN hf rfl rfl hb16) rfl (by decide) ?_ rfl
          clear hf; intro a hf
          refine st_skip hf (wantN hf rfl rfl hb16) rfl (by decide) ?_ rfl
          clear hf; intro a hf
          refine st_skip hf (wantN hf rfl rfl hb16) rfl (by decide) ?_ rfl
          clear hf; intro a hf
          refine st_skip hf (wantN hf rfl rfl hb16) rfl (by decide) ?_ rfl
          clear hf; intro a hf
          refine st_skip hf (wantN hf rfl rfl hb16) rfl (by decide) ?_ rfl
          clear hf; intro a hf
          refine st_skip hf (wantN hf rfl rfl hb16) rfl (by decide) ?_ rfl
          clear hf; intro a hf
          obtain rfl := Option.some.inj hz15
          refine st_pick (v := .bool true) hf rfl rfl (fun hb' => ?_) (fun hb' => ?_) (by decide) ?_
          · rfl
          · exact absurd (hb16.symm.trans hb') (by decide)
          clear hf; intro a ha hf; clear ha
          refine st_nil hf (th_n ?_)
          exact ⟨hf.sub ⟨rfl, rfl, rfl, rfl, rfl, rfl, rfl, rfl, rfl, trivial⟩, hp⟩
        replace hz15 := ifF hz15 hb16
        refine st_move hf (wantY hf rfl rfl hb16) rfl (by decide) ?_
        clear hf; intro a ha hf; clear ha
        refine st_move hf (wantY hf rfl rfl hb16) rfl (by decide) ?_
        clear hf; intro a ha hf; clear ha
        refine st_move hf (wantY hf rfl rfl hb16) rfl (by decide) ?_
        clear hf; intro a ha hf; clear ha
        refine st_imul hf (by decide) (wantY hf rfl rfl hb16) rfl rfl ?_
        clear hf; intro a ha hf; clear ha
        refine st_iadd hf (by decide) (wantY hf rfl rfl hb16) rfl rfl ?_
        clear hf; intro a ha hf; clear ha
        obtain ⟨hc18, hz15⟩ := chk hz15
        refine st_index (E := Ek.bool) hf (by decide) Try.underlying25 elt4 (wantY hf rfl rfl hb16) rfl rfl (hcoded1.sl hp) hc18.1 hc18.2 ?_
        clear hf; intro a ha hf; clear ha
        refine st_ldB hf (by decide) pl4 (wantY hf rfl rfl hb16) rfl (hcoded1.sl hp) hc18.1 hc18.2 ?_
        clear hf; intro a ha hf; clear ha
        refine st_bneq hf (by decide) Try.underlying4 (wantY hf rfl rfl hb16) rfl rfl ?_
        clear hf; intro a ha hf; clear ha
        obtain rfl := Option.some.inj hz15
        refine st_pick (v := .bool (q12.2.2 != (gt coded1 (IntKind.i64.wrap ((IntKind.i64.wrap ((2 : Int) * t28)) + (1 : Int)))))) hf rfl rfl (fun hb' => ?_) (fun hb' => ?_) (by decide) ?_
        · exact absurd (hb16.symm.trans hb') (by decide)
        · rfl
        clear hf; intro a ha hf; clear ha
        refine st_nil hf (th_n ?_)
        exact ⟨hf.sub ⟨rfl, rfl, rfl, rfl, rfl, rfl, rfl, rfl, rfl, trivial⟩, hp⟩
      rintro a w ⟨hf, hp⟩
      refine st_assign hf rfl rfl (by decide) ?_
      clear hf; intro a ha hf; clear ha
      refine st_nil hf ?_
      refine th_n ?_
      refine wp_seq ?_
      refine wp_reg ?_
      refine st_ldOA (m := 3) (us := [.int .i64 c0_Length, .int .u32 c0_One, .int .u32 c0_Two]) hf (by decide) (by kernel_rfl) rfl rfl (hp.ob (i := 1) rfl) rfl rfl ?_
      clear hf; intro a ha hf; clear ha
      refine st_move hf rfl rfl (by decide) ?_
      clear hf; intro a ha hf; clear ha
      refine st_move hf rfl rfl (by decide) ?_
      clear hf; intro a ha hf; clear ha
      obtain ⟨q19, hcall20, h⟩ := bnd h
      refine st_call hf (by decide) Try.func37 rfl rfl rfl rfl rfl (f_trellis_Code_step_c hp _ _ _ _ _ hcall20) ?_
      rintro _ w ⟨rfl, hp0⟩
      clear hp; have hp := hp0; clear hp0
      replace hp : Hp _ _ _ (Res.sl Ek.bool 4 v8 out8 :: Res.obj 34 v1 [.int .i64 c0_Length, .int .u32 c0_One, .int .u32 c0_Two] :: ow) := hp
      refine ⟨_, rfl, ?_⟩
      clear hf; intro a hf
      refine st_move hf rfl rfl (by decide) ?_
      clear hf; intro a ha hf; clear ha
      refine st_extract hf (by decide) rfl rfl rfl ?_
      clear hf; intro a ha hf; clear ha
      refine st_extract hf (by decide) rfl rfl rfl ?_
      clear hf; intro a ha hf; clear ha
      refine st_extract hf (by decide) rfl rfl rfl ?_
      clear hf; intro a ha hf; clear ha
      refine st_assign hf rfl rfl (by decide) ?_
      clear hf; intro a ha hf; clear ha
      refine st_assign hf rfl rfl (by decide) ?_
      clear hf; intro a ha hf; clear ha
      refine st_assign hf rfl rfl (by decide) ?_
      clear hf; intro a ha hf; clear ha
      refine st_nil hf ?_
      refine th_n ?_
      refine wp_seq ?_
      refine wp_seq ?_
      refine wp_reg ?_
      refine st_move hf rfl rfl (by decide) ?_
      clear hf; intro a ha hf; clear ha
      refine st_move hf rfl rfl (by decide) ?_
      clear hf; intro a ha hf; clear ha
      refine st_move hf rfl rfl (by decide) ?_
      clear hf; intro a ha hf; clear ha
      refine st_imul hf (by decide) rfl rfl rfl ?_
      clear hf; intro a ha hf; clear ha
      obtain ⟨hc21, h⟩ := chk h
      refine st_index (E := Ek.bool) hf (by decide) Try.underlying25 elt4 rfl rfl rfl (hcoded1.sl hp) hc21.1 hc21.2 ?_
      clear hf; intro a ha hf; clear ha
      refine st_ldB hf (by decide) pl4 rfl rfl (hcoded1.sl hp) hc21.1 hc21.2 ?_
      clear hf; intro a ha hf; clear ha
      refine st_bneq hf (by decide) Try.underlying4 rfl rfl rfl ?_
      clear hf; intro a ha hf; clear ha
      refine st_move hf rfl rfl (by decide) ?_
      clear hf; intro a ha hf; clear ha
      obtain ⟨z24, hz22, h⟩ := bnd h
      refine wpList_cut 9 (fun a w => Fr 107 a [(1, vcoded1), (2, optr v1 0), (7, .int .i64 (IntKind.i64.wrap (((coded1.length : Int)).tdiv (2 : Int)))), (8, v8), (9, .int .i64 q19.1), (14, .bool z17), (27, .int .i64 (IntKind.i64.wrap (((coded1.length : Int)).tdiv (2 : Int)))), (28, .int .i64 t28), (79, .bool z24)] ∧ Hp S w0 w (Res.sl Ek.bool 4 v8 out8 :: Res.obj 34 v1 [.int .i64 c0_Length, .int .u32 c0_One, .int .u32 c0_Two] :: ow)) ?_ ?_
      · rcases Bool.eq_false_or_eq_true (q19.2.1 != (gt coded1 (IntKind.i64.wrap ((2 : Int) * t28)))) with hb23 | hb23
        · skip
          replace hz22 := ifT hz22 hb23
          refine st_skip hf (wantN hf rfl rfl hb23) rfl (by decide) ?_ rfl
          clear hf; intro a hf
          refine st_skip hf (wantN hf rfl rfl hb23) rfl (by decide) ?_ rfl
          clear hf; intro a hf
          refine st_skip hf (wantN hf rfl rfl hb23) rfl (by decide) ?_ rfl
          clear hf; intro a hf
          refine st_skip hf (wantN hf rfl rfl hb23) rfl (by decide) ?_ rfl
          clear hf; intro a hf
          refine st_skip hf (wantN hf rfl rfl hb23) rfl (by decide) ?_ rfl
          clear hf; intro a hf
          refine st_skip hf (wantN hf rfl rfl hb23) rfl (by decide) ?_ rfl
          clear hf; intro a hf
          refine st_skip hf (wantN hf rfl rfl hb23) rfl (by decide) ?_ rfl
          clear hf; intro a hf
          refine st_skip hf (wantN hf rfl rfl hb23) rfl (by decide) ?_ rfl
          clear hf; intro a hf
          obtain rfl := Option.some.inj hz22
          refine st_pick (v := .bool true) hf rfl rfl (fun hb' => ?_) (fun hb' => ?_) (by decide) ?_
          · rfl
          · exact absurd (hb23.symm.trans hb') (by decide)
          clear hf; intro a ha hf; clear ha
          refine st_nil hf (th_n ?_)
          exact ⟨hf.sub ⟨rfl, rfl, rfl, rfl, rfl, rfl, rfl, rfl, rfl, trivial⟩, hp⟩
        replace hz22 := ifF hz22 hb23
        refine st_move hf (wantY hf rfl rfl hb23) rfl (by decide) ?_
        clear hf; intro a ha hf; clear ha
        refine st_move hf (wantY hf rfl rfl hb23) rfl (by decide) ?_
        clear hf; intro a ha hf; clear ha
        refine st_move hf (wantY hf rfl rfl hb23) rfl (by decide) ?_
        clear hf; intro a ha hf; clear ha
        refine st_imul hf (by decide) (wantY hf rfl rfl hb23) rfl rfl ?_
        clear hf; intro a ha hf; clear ha
        refine st_iadd hf (by decide) (wantY hf rfl rfl hb23) rfl rfl ?_
        clear hf; intro a ha hf; clear ha
        obtain ⟨hc25, hz22⟩ := chk hz22
        refine st_index (E := Ek.bool) hf (by decide) Try.underlying25 elt4 (wantY hf rfl rfl hb23) rfl rfl (hcoded1.sl hp) hc25.1 hc25.2 ?_
        clear hf; intro a ha hf; clear ha
        refine st_ldB hf (by decide) pl4 (wantY hf rfl rfl hb23) rfl (hcoded1.sl hp) hc25.1 hc25.2 ?_
        clear hf; intro a ha hf; clear ha
        refine st_bneq hf (by decide) Try.underlying4 (wantY hf rfl rfl hb23) rfl rfl ?_
        clear hf; intro a ha hf; clear ha
        obtain rfl := Option.some.inj hz22
        refine st_pick (v := .bool (q19.2.2 != (gt coded1 (IntKind.i64.wrap ((IntKind.i64.wrap ((2 : Int) * t28)) + (1 : Int)))))) hf rfl rfl (fun hb' => ?_) (fun hb' => ?_) (by decide) ?_
        · exact absurd (hb23.symm.trans hb') (by decide)
        · rfl
        clear hf; intro a ha hf; clear ha
        refine st_nil hf (th_n ?_)
        exact ⟨hf.sub ⟨rfl, rfl, rfl, rfl, rfl, rfl, rfl, rfl, rfl, trivial⟩, hp⟩
      rintro a w ⟨hf, hp⟩
      refine st_nil hf ?_
      refine th_n ?_
      refine wp_if hf rfl (fun hb => ?_) (fun hb => ?_)
      · replace h := ifT h hb
        refine wp_seq ?_
        refine wp_reg ?_
        refine st_assign hf rfl rfl (by decide) ?_
        clear hf; intro a ha hf; clear ha
        refine st_assign hf rfl rfl (by decide) ?_
        clear hf; intro a ha hf; clear ha
        refine st_nil hf ?_
        refine th_n ?_
        refine wp_ret ?_
        refine th_r ?_
        refine ib_r ?_
        refine th_r ?_
        obtain rfl := Option.some.inj h
        have hp := hp.nil Ek.bool 4
        have hp : Hp _ _ _ (Res.sl Ek.bool 4 (.slice none 0 0) ([]) :: ow) := Hp.sel (pre := [Res.sl Ek.bool 4 (.slice none 0 0) ([]), Res.sl Ek.bool 4 v8 out8, Res.obj 34 v1 [.int .i64 c0_Length, .int .u32 c0_One, .int .u32 c0_Two]]) (tail := ow) (rs' := [Res.sl Ek.bool 4 (.slice none 0 0) ([])]) hp [0] (by decide) (by simp) rfl
        exact rnd_r (by simp) ⟨rfl, ⟨_, hf.sub ⟨rfl, rfl, trivial⟩, hp⟩⟩
      replace h := ifF h hb
      refine wp_skip ?_
      refine th_n ?_
      refine wp_reg ?_
      refine st_move hf rfl rfl (by decide) ?_
      clear hf; intro a ha hf; clear ha
      refine st_move hf rfl rfl (by decide) ?_
      clear hf; intro a ha hf; clear ha
      refine st_build (E := Ek.bool) (xs := [z17]) hf (by decide) elt4 Try.underlying25 hp (vals := #[(0, .bool z17)]) (cells := #[.bool z17]) rfl (by simp [hf.ev (x := (Operand.tmp 81)) rfl]) (by decide) (by decide) (z := .bool false) (by kernel_rfl) (by kernel_rfl) rfl (reps_cons (cs := [.bool z17]) rfl (reps_nil _)) ?_
      clear hf; intro a w v27 hf hp0; clear hp; have hp := hp0; clear hp0
      replace hp : Hp _ _ _ (Res.sl Ek.bool 4 v27 ([z17]) :: Res.sl Ek.bool 4 v8 out8 :: Res.obj 34 v1 [.int .i64 c0_Length, .int .u32 c0_One, .int .u32 c0_Two] :: ow) := hp
      obtain ⟨hc29, h⟩ := chk h
      refine st_append (E := Ek.bool) hf (by decide) elt4 Try.underlying25 (by decide) hp (i := 1) rfl rfl rfl rfl (hp.sl (i := 0) rfl) hc29 ?_
      clear hf; intro a w v30 hf hp0; clear hp; have hp := hp0; clear hp0
      replace hp : Hp _ _ _ (Res.sl Ek.bool 4 v27 ([z17]) :: Res.sl Ek.bool 4 v30 (out8 ++ [z17]) :: Res.obj 34 v1 [.int .i64 c0_Length, .int .u32 c0_One, .int .u32 c0_Two] :: ow) := hp
      refine st_assign hf rfl rfl (by decide) ?_
      clear hf; intro a ha hf; clear ha
      refine st_nil hf ?_
      refine ib_n ?_
      refine th_n ?_
      refine wp_reg ?_
      refine st_iadd hf (by decide) rfl rfl rfl ?_
      clear hf; intro a ha hf; clear ha
      refine st_move hf rfl rfl (by decide) ?_
      clear hf; intro a ha hf; clear ha
      refine st_nil hf ?_
      obtain rfl := Option.some.inj h
      have hp : Hp _ _ _ (Res.sl Ek.bool 4 v30 (out8 ++ [z17]) :: Res.obj 34 v1 [.int .i64 c0_Length, .int .u32 c0_One, .int .u32 c0_Two] :: ow) := Hp.sel (pre := [Res.sl Ek.bool 4 v27 ([z17]), Res.sl Ek.bool 4 v30 (out8 ++ [z17]), Res.obj 34 v1 [.int .i64 c0_Length, .int .u32 c0_One, .int .u32 c0_Two]]) (tail := ow) (rs' := [Res.sl Ek.bool 4 v30 (out8 ++ [z17]), Res.obj 34 v1 [.int .i64 c0_Length, .int .u32 c0_One, .int .u32 c0_Two]]) hp [1, 2] (by decide) (by simp) rfl
      exact rnd_l ⟨_, hf.sub ⟨rfl, rfl, rfl, rfl, rfl, rfl, rfl, trivial⟩, hp⟩
    replace h := ifF h hb
    refine wp_exit ?_
    refine th_e ?_
    obtain rfl := Option.some.inj h
    exact rnd_r (by simp) ⟨rfl, _, hf.sub ⟨rfl, rfl, rfl, rfl, rfl, trivial⟩, hp⟩
  clear hl hf hp
  intro e a w hne hO
  rcases q31 with q33 | q34
  · replace h := smL h
    obtain ⟨rfl, v10, hf, hp⟩ := hO
    refine ib_same ?_
    refine th_n ?_
    refine wp_seq ?_
    refine wp_seq ?_
    refine wp_reg ?_
    refine st_move hf rfl rfl (by decide) ?_
    clear hf; intro a ha hf; clear ha
    refine st_len (E := Ek.bool) hf (by decide) Try.underlying25 rfl rfl (hcoded1.sl hp) ?_
    clear hf; intro a ha hf; clear ha
    refine st_iand hf (by decide) rfl rfl rfl ?_
    clear hf; intro a ha hf; clear ha
    refine st_igtr hf (by decide) rfl rfl rfl ?_
    clear hf; intro a ha hf; clear ha
    refine st_move hf rfl rfl (by decide) ?_
    clear hf; intro a ha hf; clear ha
    refine wpList_cut 6 (fun a w => Fr 107 a [(2, optr v1 0), (7, .int .i64 (IntKind.i64.wrap (((coded1.length : Int)).tdiv (2 : Int)))), (8, v10), (9, .int .i64 q33.2), (95, .bool ((decide ((0 : Int) < (iand .i64 (coded1.length : Int) (1 : Int)))) || (decide ((IntKind.i64.wrap (((coded1.length : Int)).tdiv (2 : Int))) < (IntKind.i64.wrap (c0_Length - (1 : Int)))))))] ∧ Hp S w0 w (Res.sl Ek.bool 4 v10 q33.1 :: Res.obj 34 v1 [.int .i64 c0_Length, .int .u32 c0_One, .int .u32 c0_Two] :: ow)) ?_ ?_
    · rcases Bool.eq_false_or_eq_true (decide ((0 : Int) < (iand .i64 (coded1.length : Int) (1 : Int)))) with hb36 | hb36
      · skip
        refine st_skip hf (wantN hf rfl rfl hb36) rfl (by decide) ?_ rfl
        clear hf; intro a hf
        refine st_skip hf (wantN hf rfl rfl hb36) rfl (by decide) ?_ rfl
        clear hf; intro a hf
        refine st_skip hf (wantN hf rfl rfl hb36) rfl (by decide) ?_ rfl
        clear hf; intro a hf
        refine st_skip hf (wantN hf rfl rfl hb36) rfl (by decide) ?_ rfl
        clear hf; intro a hf
        refine st_skip hf (wantN hf rfl rfl hb36) rfl (by decide) ?_ rfl
        clear hf; intro a hf
        refine st_pick (v := .bool true) hf rfl rfl (fun hb' => ?_) (fun hb' => ?_) (by decide) ?_
        · rfl
        · exact absurd (hb36.symm.trans hb') (by decide)
        clear hf; intro a ha hf; clear ha
        refine st_nil hf (th_n ?_)
        exact ⟨hf.sub ⟨rfl, rfl, rfl, rfl, (by rw [hb36]; rfl), trivial⟩, hp⟩
      refine st_move hf (wantY hf rfl rfl hb36) rfl (by decide) ?_
      clear hf; intro a ha hf; clear ha
      refine st_fa (o' := 0) hf (by decide) (off := 0) (sz := 1) (by kernel_rfl) (by decide) (wantY hf rfl rfl hb36) rfl (hp.ob (i := 1) rfl) rfl ?_
      clear hf; intro a ha hf; clear ha
      refine st_ldO (u := .int .i64 c0_Length) hf (by decide) pl3 (wantY hf rfl rfl hb36) rfl (hp.ob (i := 1) rfl) rfl ?_
      clear hf; intro a ha hf; clear ha
      refine st_isub hf (by decide) (wantY hf rfl rfl hb36) rfl rfl ?_
      clear hf; intro a ha hf; clear ha
      refine st_ilss hf (by decide) (wantY hf rfl rfl hb36) rfl rfl ?_
      clear hf; intro a ha hf; clear ha
      refine st_pick (v := .bool (decide ((IntKind.i64.wrap (((coded1.length : Int)).tdiv (2 : Int))) < (IntKind.i64.wrap (c0_Length - (1 : Int)))))) hf rfl rfl (fun hb' => ?_) (fun hb' => ?_) (by decide) ?_
      · exact absurd (hb36.symm.trans hb') (by decide)
      · rfl
      clear hf; intro a ha hf; clear ha
      refine st_nil hf (th_n ?_)
      exact ⟨hf.sub ⟨rfl, rfl, rfl, rfl, (by rw [hb36]; rfl), trivial⟩, hp⟩
    rintro a w ⟨hf, hp⟩
    refine st_move hf rfl rfl (by decide) ?_
    clear hf; intro a ha hf; clear ha
    refine wpList_cut 3 (fun a w => Fr 107 a [(2, optr v1 0), (7, .int .i64 (IntKind.i64.wrap (((coded1.length : Int)).tdiv (2 : Int)))), (8, v10), (99, .bool (((decide ((0 : Int) < (iand .i64 (coded1.length : Int) (1 : Int)))) || (decide ((IntKind.i64.wrap (((coded1.length : Int)).tdiv (2 : Int))) < (IntKind.i64.wrap (c0_Length - (1 : Int)))))) || (q33.2 != (0 : Int))))] ∧ Hp S w0 w (Res.sl Ek.bool 4 v10 q33.1 :: Res.obj 34 v1 [.int .i64 c0_Length, .int .u32 c0_One, .int .u32 c0_Two] :: ow)) ?_ ?_
    · rcases Bool.eq_false_or_eq_true ((decide ((0 : Int) < (iand .i64 (coded1.length : Int) (1 : Int)))) || (decide ((IntKind.i64.wrap (((coded1.length : Int)).tdiv (2 : Int))) < (IntKind.i64.wrap (c0_Length - (1 : Int)))))) with hb38 | hb38
      · skip
        refine st_skip hf (wantN hf rfl rfl hb38) rfl (by decide) ?_ rfl
        clear hf; intro a hf
        refine st_skip hf (wantN hf rfl rfl hb38) rfl (by decide) ?_ rfl
        clear hf; intro a hf
        refine st_pick (v := .bool true) hf rfl rfl (fun hb' => ?_) (fun hb' => ?_) (by decide) ?_
        · rfl
        · exact absurd (hb38.symm.trans hb') (by decide)
        clear hf; intro a ha hf; clear ha
        refine st_nil hf (th_n ?_)
        exact ⟨hf.sub ⟨rfl, rfl, rfl, (by rw [hb38]; rfl), trivial⟩, hp⟩
      refine st_move hf (wantY hf rfl rfl hb38) rfl (by decide) ?_
      clear hf; intro a ha hf; clear ha
      refine st_ineq hf (by decide) (wantY hf rfl rfl hb38) rfl rfl ?_
      clear hf; intro a ha hf; clear ha
      refine st_pick (v := .bool (q33.2 != (0 : Int))) hf rfl rfl (fun hb' => ?_) (fun hb' => ?_) (by decide) ?_
      · exact absurd (hb38.symm.trans hb') (by decide)
      · rfl
      clear hf; intro a ha hf; clear ha
      refine st_nil hf (th_n ?_)
      exact ⟨hf.sub ⟨rfl, rfl, rfl, (by rw [hb38]; rfl), trivial⟩, hp⟩
    rintro a w ⟨hf, hp⟩
    refine st_nil hf ?_
    refine th_n ?_
    refine wp_if hf rfl (fun hb => ?_) (fun hb => ?_)
    · replace h := ifT h hb
      refine wp_seq ?_
      refine wp_reg ?_
      refine st_assign hf rfl rfl (by decide) ?_
      clear hf; intro a ha hf; clear ha
      refine st_assign hf rfl rfl (by decide) ?_
      clear hf; intro a ha hf; clear ha
      refine st_nil hf ?_
      refine th_n ?_
      refine wp_ret ?_
      refine th_r ?_
      obtain rfl := Option.some.inj h
      have hp := hp.nil Ek.bool 4
      have hp : Hp _ _ _ (Res.sl Ek.bool 4 (.slice none 0 0) ([]) :: ow) := Hp.sel (pre := [Res.sl Ek.bool 4 (.slice none 0 0) ([]), Res.sl Ek.bool 4 v10 q33.1, Res.obj 34 v1 [.int .i64 c0_Length, .int .u32 c0_One, .int .u32 c0_Two]]) (tail := ow) (rs' := [Res.sl Ek.bool 4 (.slice none 0 0) ([])]) hp [0] (by decide) (by simp) rfl
      exact ⟨rfl, ⟨_, hf.sub ⟨rfl, rfl, trivial⟩, hp⟩⟩
    replace h := ifF h hb
    refine wp_skip ?_
    refine th_n ?_
    refine wp_seq ?_
    refine wp_reg ?_
    refine st_move hf rfl rfl (by decide) ?_
    clear hf; intro a ha hf; clear ha
    refine st_move hf rfl rfl (by decide) ?_
    clear hf; intro a ha hf; clear ha
    refine st_fa (o' := 0) hf (by decide) (off := 0) (sz := 1) (by kernel_rfl) (by decide) rfl rfl (hp.ob (i := 1) rfl) rfl ?_
    clear hf; intro a ha hf; clear ha
    refine st_ldO (u := .int .i64 c0_Length) hf (by decide) pl3 rfl rfl (hp.ob (i := 1) rfl) rfl ?_
    clear hf; intro a ha hf; clear ha
    refine st_isub hf (by decide) rfl rfl rfl ?_
    clear hf; intro a ha hf; clear ha
    refine st_iadd hf (by decide) rfl rfl rfl ?_
    clear hf; intro a ha hf; clear ha
    obtain ⟨hc40, h⟩ := chk h
    have hc41 : 0 ≤ ((IntKind.i64.wrap ((IntKind.i64.wrap ((IntKind.i64.wrap (((coded1.length : Int)).tdiv (2 : Int))) - c0_Length)) + (1 : Int)))).toNat := by omega
    have hc42 : ((IntKind.i64.wrap ((IntKind.i64.wrap ((IntKind.i64.wrap (((coded1.length : Int)).tdiv (2 : Int))) - c0_Length)) + (1 : Int)))).toNat ≤ (q33.1 ++ ([] : List Bool)).length := by omega
    refine st_cutX (E := Ek.bool) hf (by decide) Try.underlying25 elt4 hp (i := 0) rfl rfl rfl (.inl ⟨rfl, rfl⟩) (.inr ⟨_, _, rfl, evI rfl (by omega)⟩) hc41 hc42 ?_
    clear hf; intro a ha hf; clear ha
    replace hp : Hp _ _ _ (Res.slx Ek.bool 4 (GL.cut v10 0 (((IntKind.i64.wrap ((IntKind.i64.wrap ((IntKind.i64.wrap (((coded1.length : Int)).tdiv (2 : Int))) - c0_Length)) + (1 : Int)))).toNat) 1) ((q33.1 ++ ([] : List Bool)).take (((IntKind.i64.wrap ((IntKind.i64.wrap ((IntKind.i64.wrap (((coded1.length : Int)).tdiv (2 : Int))) - c0_Length)) + (1 : Int)))).toNat)) ((q33.1 ++ ([] : List Bool)).drop (((IntKind.i64.wrap ((IntKind.i64.wrap ((IntKind.i64.wrap (((coded1.length : Int)).tdiv (2 : Int))) - c0_Length)) + (1 : Int)))).toNat)) :: Res.obj 34 v1 [.int .i64 c0_Length, .int .u32 c0_One, .int .u32 c0_Two] :: ow) := hp.cutOwn (i := 0) rfl hc42
    refine st_assign hf rfl rfl (by decide) ?_
    clear hf; intro a ha hf; clear ha
    refine st_assign hf rfl rfl (by decide) ?_
    clear hf; intro a ha hf; clear ha
    refine st_nil hf ?_
    refine th_n ?_
    refine wp_ret ?_
    obtain rfl := Option.some.inj h
    replace hp : Hp _ _ _ (Res.sl Ek.bool 4 (GL.cut v10 0 (((IntKind.i64.wrap ((IntKind.i64.wrap ((IntKind.i64.wrap (((coded1.length : Int)).tdiv (2 : Int))) - c0_Length)) + (1 : Int)))).toNat) 1) ((q33.1 ++ ([] : List Bool)).take (((IntKind.i64.wrap ((IntKind.i64.wrap ((IntKind.i64.wrap (((coded1.length : Int)).tdiv (2 : Int))) - c0_Length)) + (1 : Int)))).toNat)) :: Res.obj 34 v1 [.int .i64 c0_Length, .int .u32 c0_One, .int .u32 c0_Two] :: ow) := hp.forget (i := 0) rfl
    have hp : Hp _ _ _ (Res.sl Ek.bool 4 (GL.cut v10 0 (((IntKind.i64.wrap ((IntKind.i64.wrap ((IntKind.i64.wrap (((coded1.length : Int)).tdiv (2 : Int))) - c0_Length)) + (1 : Int)))).toNat) 1) ((q33.1 ++ ([] : List Bool)).take (((IntKind.i64.wrap ((IntKind.i64.wrap ((IntKind.i64.wrap (((coded1.length : Int)).tdiv (2 : Int))) - c0_Length)) + (1 : Int)))).toNat)) :: ow) := Hp.sel (pre := [Res.sl Ek.bool 4 (GL.cut v10 0 (((IntKind.i64.wrap ((IntKind.i64.wrap ((IntKind.i64.wrap (((coded1.length : Int)).tdiv (2 : Int))) - c0_Length)) + (1 : Int)))).toNat) 1) ((q33.1 ++ ([] : List Bool)).take (((IntKind.i64.wrap ((IntKind.i64.wrap ((IntKind.i64.wrap (((coded1.length : Int)).tdiv (2 : Int))) - c0_Length)) + (1 : Int)))).toNat)), Res.obj 34 v1 [.int .i64 c0_Length, .int .u32 c0_One, .int .u32 c0_Two]]) (tail := ow) (rs' := [Res.sl Ek.bool 4 (GL.cut v10 0 (((IntKind.i64.wrap ((IntKind.i64.wrap ((IntKind.i64.wrap (((coded1.length : Int)).tdiv (2 : Int))) - c0_Length)) + (1 : Int)))).toNat) 1) ((q33.1 ++ ([] : List Bool)).take (((IntKind.i64.wrap ((IntKind.i64.wrap ((IntKind.i64.wrap (((coded1.length : Int)).tdiv (2 : Int))) - c0_Length)) + (1 : Int)))).toNat))]) hp [0] (by decide) (by simp) rfl
    exact ⟨rfl, ⟨_, hf.sub ⟨rfl, rfl, trivial⟩, hp⟩⟩
  replace h := smR h
  obtain ⟨rfl, x0, hf, hp⟩ := hO
  refine ib_r ?_
  refine th_r ?_
  obtain rfl := Option.some.inj h
  exact ⟨rfl, ⟨_, hf.sub ⟨rfl, rfl, trivial⟩, hp⟩⟩

noncomputable def f_foghornlaw21_same (a0 : (List Bool)) (b1 : (List Bool)) : Option Bool := (if ((a0.length : Int) != (b1.length : Int)) = true then (some false) else ((f_foghornlaw21_unlike a0 b1).bind fun q1 => (some (q1.2 == (0 : Int)))))
theorem f_foghornlaw21_same_c {S : Nat → Prop} {w0 w : World} {ow : List Res} (hp : Hp S w0 w ow) (va0 : Value) (a0 : (List Bool)) (ha0 : RdS Ek.bool S w0 va0 a0) (vb1 : Value) (b1 : (List Bool)) (hb1 : RdS Ek.bool S w0 vb1 b1) {r : Bool} (h : f_foghornlaw21_same a0 b1 = some r) :
    Calls Try.prog 21 #[va0, vb1] w (fun e w' => e = .returned (.bool r) ∧ Hp S w0 w' (ow)) := by
  unfold f_foghornlaw21_same at h
  refine enter (n := 20) (args := [va0, vb1]) Try.func21 rfl rfl (Nat.le_of_ble_eq_true rfl) fun a hf => ?_
  replace hf : Fr 20 a [(0, va0), (1, vb1)] := hf
  refine wp_mono (Q := fun e a w => e = .ret ∧ Fr 20 a [(4, .bool r)] ∧ Hp S w0 w (ow)) ?_ ?_
  rotate_left
  · rintro e a w ⟨rfl, hf, hp⟩
    exact ret1 hf rfl rfl ⟨rfl, hp⟩
  refine wp_seq ?_
  refine wp_reg ?_
  refine st_assign hf rfl rfl (by decide) ?_
  clear hf; intro a ha hf; clear ha
  refine st_nil hf ?_
  refine th_n ?_
  refine wp_seq ?_
  refine wp_seq ?_
  refine wp_reg ?_
  refine st_move hf rfl rfl (by decide) ?_
  clear hf; intro a ha hf; clear ha
  refine st_len (E := Ek.bool) hf (by decide) Try.underlying25 rfl rfl (ha0.sl hp) ?_
  clear hf; intro a ha hf; clear ha
  refine st_move hf rfl rfl (by decide) ?_
  clear hf; intro a ha hf; clear ha
  refine st_len (E := Ek.bool) hf (by decide) Try.underlying25 rfl rfl (hb1.sl hp) ?_
  clear hf; intro a ha hf; clear ha
  refine st_ineq hf (by decide) rfl rfl rfl ?_
  clear hf; intro a ha hf; clear ha
  refine st_nil hf ?_
  refine th_n ?_
  refine wp_if hf rfl (fun hb => ?_) (fun hb => ?_)
  · replace h := ifT h hb
    refine wp_seq ?_
    refine wp_reg ?_
    refine st_assign hf rfl rfl (by decide) ?_
    clear hf; intro a ha hf; clear ha
    refine st_nil hf ?_
    refine th_n ?_
    refine wp_ret ?_
    refine th_r ?_
    obtain rfl := Option.some.inj h
    exact ⟨rfl, ⟨hf.sub ⟨rfl, trivial⟩, hp⟩⟩
  replace h := ifF h hb
  refine wp_skip ?_
  refine th_n ?_
  refine wp_seq ?_
  refine wp_reg ?_
  refine st_move hf rfl rfl (by decide) ?_
  clear hf; intro a ha hf; clear ha
  refine st_move hf rfl rfl (by decide) ?_
  clear hf; intro a ha hf; clear ha
  obtain ⟨q1, hcall2, h⟩ := bnd h
  refine st_call hf (by decide) Try.func18 rfl rfl rfl rfl rfl (f_foghornlaw21_unlike_c hp _ _ ha0 _ _ hb1 hcall2) ?_
  rintro _ w ⟨v3, rfl, hp0⟩
  clear hp; have hp := hp0; clear hp0
  replace hp : Hp _ _ _ (Res.sl Ek.bool 4 v3 q1.1 :: ow) := hp
  refine ⟨_, rfl, ?_⟩
  clear hf; intro a hf
  refine st_move hf rfl rfl (by decide) ?_
  clear hf; intro a ha hf; clear ha
  refine st_extract hf (by decide) rfl rfl rfl ?_
  clear hf; intro a ha hf; clear ha
  refine st_extract hf (by decide) rfl rfl rfl ?_
  clear hf; intro a ha hf; clear ha
  refine st_assign hf rfl rfl (by decide) ?_
  clear hf; intro a ha hf; clear ha
  refine st_assign hf rfl rfl (by decide) ?_
  clear hf; intro a ha hf; clear ha
  refine st_nil hf ?_
  refine th_n ?_
  refine wp_seq ?_
  refine wp_reg ?_
  refine st_move hf rfl rfl (by decide) ?_
  clear hf; intro a ha hf; clear ha
  refine st_ieql hf (by decide) rfl rfl rfl ?_
  clear hf; intro a ha hf; clear ha
  refine st_assign hf rfl rfl (by decide) ?_
  clear hf; intro a ha hf; clear ha
  refine st_nil hf ?_
  refine th_n ?_
  refine wp_ret ?_
  obtain rfl := Option.some.inj h
  have hp : Hp _ _ _ (ow) := Hp.sel (pre := [Res.sl Ek.bool 4 v3 q1.1]) (tail := ow) (rs' := []) hp [] (by decide) (by simp) rfl
  exact ⟨rfl, ⟨hf.sub ⟨rfl, trivial⟩, hp⟩⟩

noncomputable def f_foghornref21_Same.s1c (a0 : (List Bool)) (b1 : (List Bool)) (i5 : Int) : Option (Int ⊕ (Unit ⊕ Bool)) := (if (decide (i5 < (a0.length : Int))) = true then (if 0 ≤ i5 ∧ i5 < (a0.length : Int) then (if 0 ≤ i5 ∧ i5 < (b1.length : Int) then (if ((gt a0 i5) != (gt b1 i5)) = true then (some (Sum.inr (Sum.inr false))) else (some (Sum.inl (IntKind.i64.wrap (i5 + (1 : Int)))))) else none) else none) else (some (Sum.inr (Sum.inl ()))))
noncomputable def f_foghornref21_Same.s1 (a0 : (List Bool)) (b1 : (List Bool)) (s : Int) : Option (Int ⊕ (Unit ⊕ Bool)) := f_foghornref21_Same.s1c a0 b1 s
noncomputable def f_foghornref21_Same (a0 : (List Bool)) (b1 : (List Bool)) : Option Bool := (if ((a0.length : Int) != (b1.length : Int)) = true then (some false) else ((loop (f_foghornref21_Same.s1 a0 b1) (0 : Int)).bind (fun q3 => sm q3 (fun q4 => (some true)) (fun q5 => (some q5)))))
theorem f_foghornref21_Same_c {S : Nat → Prop} {w0 w : World} {ow : List Res} (hp : Hp S w0 w ow) (va0 : Value) (a0 : (List Bool)) (ha0 : RdS Ek.bool S w0 va0 a0) (vb1 : Value) (b1 : (List Bool)) (hb1 : RdS Ek.bool S w0 vb1 b1) {r : Bool} (h : f_foghornref21_Same a0 b1 = some r) :
    Calls Try.prog 33 #[va0, vb1] w (fun e w' => e = .returned (.bool r) ∧ Hp S w0 w' (ow)) := by
  unfold f_foghornref21_Same at h
  refine enter (n := 26) (args := [va0, vb1]) Try.func33 rfl rfl (Nat.le_of_ble_eq_true rfl) fun a hf => ?_
  replace hf : Fr 26 a [(0, va0), (1, vb1)] := hf
  refine wp_mono (Q := fun e a w => e = .ret ∧ Fr 26 a [(4, .bool r)] ∧ Hp S w0 w (ow)) ?_ ?_
  rotate_left
  · rintro e a w ⟨rfl, hf, hp⟩
    exact ret1 hf rfl rfl ⟨rfl, hp⟩
  refine wp_seq ?_
  refine wp_reg ?_
  refine st_assign hf rfl rfl (by decide) ?_
  clear hf; intro a ha hf; clear ha
  refine st_nil hf ?_
  refine th_n ?_
  refine wp_seq ?_
  refine wp_seq ?_
  refine wp_reg ?_
  refine st_move hf rfl rfl (by decide) ?_
  clear hf; intro a ha hf; clear ha
  refine st_len (E := Ek.bool) hf (by decide) Try.underlying25 rfl rfl (ha0.sl hp) ?_
  clear hf; intro a ha hf; clear ha
  refine st_move hf rfl rfl (by decide) ?_
  clear hf; intro a ha hf; clear ha
  refine st_len (E := Ek.bool) hf (by decide) Try.underlying25 rfl rfl (hb1.sl hp) ?_
  clear hf; intro a ha hf; clear ha
  refine st_ineq hf (by decide) rfl rfl rfl ?_
  clear hf; intro a ha hf; clear ha
  refine st_nil hf ?_
  refine th_n ?_
  refine wp_if hf rfl (fun hb => ?_) (fun hb => ?_)
  · replace h := ifT h hb
    refine wp_seq ?_
    refine wp_reg ?_
    refine st_assign hf rfl rfl (by decide) ?_
    clear hf; intro a ha hf; clear ha
    refine st_nil hf ?_
    refine th_n ?_
    refine wp_ret ?_
    refine th_r ?_
    obtain rfl := Option.some.inj h
    exact ⟨rfl, ⟨hf.sub ⟨rfl, trivial⟩, hp⟩⟩
  replace h := ifF h hb
  refine wp_skip ?_
  refine th_n ?_
  refine wp_seq ?_
  refine wp_seq ?_
  refine wp_reg ?_
  refine st_assign hf rfl rfl (by decide) ?_
  clear hf; intro a ha hf; clear ha
  refine st_nil hf ?_
  refine th_n ?_
  refine wp_block ?_
  obtain ⟨q3, hl, h⟩ := bnd h
  refine wp_loop_pure (f := (f_foghornref21_Same.s1 a0 b1)) (s := (0 : Int)) (fun s a w => Fr 26 a [(0, va0), (1, vb1), (5, .int .i64 s)] ∧ Hp S w0 w (ow)) (fun q e a w => match q with | (Sum.inl q) => e = .exit 0 ∧ Fr 26 a [] ∧ Hp S w0 w (ow) | (Sum.inr q) => e = .ret ∧ Fr 26 a [(4, .bool q)] ∧ Hp S w0 w (ow)) ?_ hl ⟨hf.sub ⟨rfl, rfl, rfl, trivial⟩, hp⟩ ?_
  · clear hl hf hp
    intro s x a w h hI
    obtain ⟨i5, hs⟩ : ∃ z, z = s := ⟨s, rfl⟩; subst hs
    obtain ⟨hf, hp⟩ : Fr 26 a [(0, va0), (1, vb1), (5, .int .i64 i5)] ∧ Hp S w0 w (ow) := hI
    replace h : f_foghornref21_Same.s1c a0 b1 i5 = some x := h
    unfold f_foghornref21_Same.s1c at h
    refine wp_seq ?_
    refine wp_seq ?_
    refine wp_reg ?_
    refine st_move hf rfl rfl (by decide) ?_
    clear hf; intro a ha hf; clear ha
    refine st_move hf rfl rfl (by decide) ?_
    clear hf; intro a ha hf; clear ha
    refine st_len (E := Ek.bool) hf (by decide) Try.underlying25 rfl rfl (ha0.sl hp) ?_
    clear hf; intro a ha hf; clear ha
    refine st_ilss hf (by decide) rfl rfl rfl ?_
    clear hf; intro a ha hf; clear ha
    refine st_nil hf ?_
    refine th_n ?_
    refine wp_if hf rfl (fun hb => ?_) (fun hb => ?_)
    · replace h := ifT h hb
      refine wp_skip ?_
      refine th_n ?_
      refine wp_seq ?_
      refine wp_block ?_
      refine wp_seq ?_
      obtain ⟨hc1, h⟩ := chk h
      obtain ⟨hc2, h⟩ := chk h
      refine wp_cutN (fun a w => Fr 26 a [(0, va0), (1, vb1), (5, .int .i64 i5), (25, .bool ((gt a0 i5) != (gt b1 i5)))] ∧ Hp S w0 w (ow)) ?_ ?_
      · have hp := hp.same (Same.drew w)
        refine dr_begin' (fun a w => Fr 26 a [(0, va0), (1, vb1), (5, .int .i64 i5), (25, .bool ((gt a0 i5) != (gt b1 i5)))] ∧ Hp S w0 w (ow)) (fun w' => ∃ l, Hp S w0 w' l) [] (by kernel_rfl) ?_
        refine dr_take 0 (va0) rfl (by kernel_rfl) (by kernel_rfl) (by kernel_rfl) (by kernel_rfl) rfl rfl hf (by decide) rfl (fun w hp => ?_) ⟨_, hp⟩ ?_
        · obtain ⟨_, hp⟩ := hp
          refine st_move hf rfl rfl (by decide) ?_
          clear hf; intro a ha hf
          exact st_nil hf (th_n ⟨ha, rfl⟩)
        clear hf; intro a hf
        refine dr_take 1 (.int .i64 i5) rfl (by kernel_rfl) (by kernel_rfl) (by kernel_rfl) (by kernel_rfl) rfl rfl hf (by decide) rfl (fun w hp => ?_) ⟨_, hp⟩ ?_
        · obtain ⟨_, hp⟩ := hp
          refine st_move hf rfl rfl (by decide) ?_
          clear hf; intro a ha hf
          exact st_nil hf (th_n ⟨ha, rfl⟩)
        clear hf; intro a hf
        refine dr_take 2 (eptr va0 i5 1) rfl (by kernel_rfl) (by kernel_rfl) (by kernel_rfl) (by kernel_rfl) rfl rfl hf (by decide) rfl (fun w hp => ?_) ⟨_, hp⟩ ?_
        · obtain ⟨_, hp⟩ := hp
          refine st_index (E := Ek.bool) hf (by decide) Try.underlying25 elt4 rfl rfl rfl (ha0.sl hp) hc1.1 hc1.2 ?_
          clear hf; intro a ha hf
          exact st_nil hf (th_n ⟨ha, rfl⟩)
        clear hf; intro a hf
        refine dr_take 3 (.bool (gt a0 i5)) rfl (by kernel_rfl) (by kernel_rfl) (by kernel_rfl) (by kernel_rfl) rfl rfl hf (by decide) rfl (fun w hp => ?_) ⟨_, hp⟩ ?_
        · obtain ⟨_, hp⟩ := hp
          refine st_ldB hf (by decide) pl4 rfl rfl (ha0.sl hp) hc1.1 hc1.2 ?_
          clear hf; intro a ha hf
          exact st_nil hf (th_n ⟨ha, rfl⟩)
        clear hf; intro a hf
        refine dr_take 4 (vb1) rfl (by kernel_rfl) (by kernel_rfl) (by kernel_rfl) (by kernel_rfl) rfl rfl hf (by decide) rfl (fun w hp => ?_) ⟨_, hp⟩ ?_
        · obtain ⟨_, hp⟩ := hp
          refine st_move hf rfl rfl (by decide) ?_
          clear hf; intro a ha hf
          exact st_nil hf (th_n ⟨ha, rfl⟩)
        clear hf; intro a hf
        refine dr_take 5 (.int .i64 i5) rfl (by kernel_rfl) (by kernel_rfl) (by kernel_rfl) (by kernel_rfl) rfl rfl hf (by decide) rfl (fun w hp => ?_) ⟨_, hp⟩ ?_
        · obtain ⟨_, hp⟩ := hp
          refine st_move hf rfl rfl (by decide) ?_
          clear hf; intro a ha hf
          exact st_nil hf (th_n ⟨ha, rfl⟩)
        clear hf; intro a hf
        refine dr_take 6 (eptr vb1 i5 1) rfl (by kernel_rfl) (by kernel_rfl) (by kernel_rfl) (by kernel_rfl) rfl rfl hf (by decide) rfl (fun w hp => ?_) ⟨_, hp⟩ ?_
        · obtain ⟨_, hp⟩ := hp
          refine st_index (E := Ek.bool) hf (by decide) Try.underlying25 elt4 rfl rfl rfl (hb1.sl hp) hc2.1 hc2.2 ?_
          clear hf; intro a ha hf
          exact st_nil hf (th_n ⟨ha, rfl⟩)
        clear hf; intro a hf
        refine dr_take 7 (.bool (gt b1 i5)) rfl (by kernel_rfl) (by kernel_rfl) (by kernel_rfl) (by kernel_rfl) rfl rfl hf (by decide) rfl (fun w hp => ?_) ⟨_, hp⟩ ?_
        · obtain ⟨_, hp⟩ := hp
          refine st_ldB hf (by decide) pl4 rfl rfl (hb1.sl hp) hc2.1 hc2.2 ?_
          clear hf; intro a ha hf
          exact st_nil hf (th_n ⟨ha, rfl⟩)
        clear hf; intro a hf
        refine dr_take 8 (.bool ((gt a0 i5) != (gt b1 i5))) rfl (by kernel_rfl) (by kernel_rfl) (by kernel_rfl) (by kernel_rfl) rfl rfl hf (by decide) rfl (fun w hp => ?_) ⟨_, hp⟩ ?_
        · obtain ⟨_, hp⟩ := hp
          refine st_bneq hf (by decide) Try.underlying4 rfl rfl rfl ?_
          clear hf; intro a ha hf
          exact st_nil hf (th_n ⟨ha, rfl⟩)
        clear hf; intro a hf
        refine dr_end (by kernel_rfl) ?_ _
        exact ⟨hf.sub ⟨rfl, rfl, rfl, rfl, trivial⟩, hp⟩
      rintro a w ⟨hf, hp⟩
      refine th_n ?_
      refine wp_if hf rfl (fun hb => ?_) (fun hb => ?_)
      · replace h := ifT h hb
        refine wp_seq ?_
        refine wp_reg ?_
        refine st_assign hf rfl rfl (by decide) ?_
        clear hf; intro a ha hf; clear ha
        refine st_nil hf ?_
        refine th_n ?_
        refine wp_ret ?_
        refine ib_r ?_
        refine th_r ?_
        obtain rfl := Option.some.inj h
        exact rnd_r (by simp) ⟨rfl, ⟨hf.sub ⟨rfl, trivial⟩, hp⟩⟩
      replace h := ifF h hb
      refine wp_skip ?_
      refine ib_n ?_
      refine th_n ?_
      refine wp_reg ?_
      refine st_move hf rfl rfl (by decide) ?_
      clear hf; intro a ha hf; clear ha
      refine st_iadd hf (by decide) rfl rfl rfl ?_
      clear hf; intro a ha hf; clear ha
      refine st_assign hf rfl rfl (by decide) ?_
      clear hf; intro a ha hf; clear ha
      refine st_nil hf ?_
      obtain rfl := Option.some.inj h
      exact rnd_l ⟨hf.sub ⟨rfl, rfl, rfl, trivial⟩, hp⟩
    replace h := ifF h hb
    refine wp_exit ?_
    refine th_e ?_
    obtain rfl := Option.some.inj h
    exact rnd_r (by simp) ⟨rfl, hf.sub trivial, hp⟩
  clear hl hf hp
  intro e a w hne hO
  rcases q3 with q4 | q5
  · replace h := smL h
    obtain ⟨rfl, hf, hp⟩ := hO
    refine ib_same ?_
    refine th_n ?_
    refine wp_seq ?_
    refine wp_reg ?_
    refine st_assign hf rfl rfl (by decide) ?_
    clear hf; intro a ha hf; clear ha
    refine st_nil hf ?_
    refine th_n ?_
    refine wp_ret ?_
    obtain rfl := Option.some.inj h
    exact ⟨rfl, ⟨hf.sub ⟨rfl, trivial⟩, hp⟩⟩
  replace h := smR h
  obtain ⟨rfl, hf, hp⟩ := hO
  refine ib_r ?_
  refine th_r ?_
  obtain rfl := Option.some.inj h
  exact ⟨rfl, ⟨hf.sub ⟨rfl, trivial⟩, hp⟩⟩

noncomputable def f_trellis_Short  : Option (Int × Int × Int) := (some ((3 : Int), (7 : Int), (5 : Int)))
theorem f_trellis_Short_c {S : Nat → Prop} {w0 w : World} {ow : List Res} (hp : Hp S w0 w ow) {r : (Int × Int × Int)} (h : f_trellis_Short = some r) :
    Calls Try.prog 30 #[] w (fun e w' => e = .returned (.agg #[.int .i64 r.1, .int .u32 r.2.1, .int .u32 r.2.2]) ∧ Hp S w0 w' (ow)) := by
  unfold f_trellis_Short at h
  refine enter (n := 2) (args := []) Try.func30 rfl rfl (Nat.le_of_ble_eq_true rfl) fun a hf => ?_
  replace hf : Fr 2 a [] := hf
  refine wp_mono (Q := fun e a w => e = .ret ∧ ∃ (c0 : Value), Fr 2 a [(0, optr c0 0)] ∧ Hp S w0 w (Res.obj 34 c0 [.int .i64 r.1, .int .u32 r.2.1, .int .u32 r.2.2] :: ow)) ?_ ?_
  rotate_left
  · rintro e a w ⟨rfl, c0, hf, hp⟩
    exact retG1 hf rfl ⟨_, _, rfl, hp.ob (i := 0) rfl, .inr ⟨by kernel_rfl, rfl⟩⟩ ⟨rfl, hp.drop⟩
  refine wp_seq ?_
  refine wp_reg ?_
  refine st_alloc (cs := [.int .i64 (0 : Int), .int .u32 (0 : Int), .int .u32 (0 : Int)]) (zv := .agg #[.int .i64 (0 : Int), .int .u32 (0 : Int), .int .u32 (0 : Int)]) hf (by decide) (by kernel_rfl) rfl hp rfl ?_
  clear hf; intro a w v1 hf hp0; clear hp; have hp := hp0; clear hp0
  replace hp : Hp _ _ _ (Res.obj 34 v1 [.int .i64 (0 : Int), .int .u32 (0 : Int), .int .u32 (0 : Int)] :: ow) := hp
  refine st_nil hf ?_
  refine th_n ?_
  refine wp_seq ?_
  refine wp_reg ?_
  refine st_buildA (vals := [(0, .int .i64 (3 : Int)), (1, .int .u32 (7 : Int)), (2, .int .u32 (5 : Int))]) (cells := [.int .i64 (3 : Int), .int .u32 (7 : Int), .int .u32 (5 : Int)]) hf (by decide) rfl (by simp [hf.ev (x := (Operand.const (.int .i64 (3 : Int)))) rfl, hf.ev (x := (Operand.const (.int .u32 (7 : Int)))) rfl, hf.ev (x := (Operand.const (.int .u32 (5 : Int)))) rfl]) (fun w => by kernel_rfl) ?_
  clear hf; intro a ha hf; clear ha
  refine st_stO (us := [.int .i64 (3 : Int), .int .u32 (7 : Int), .int .u32 (5 : Int)]) hf hp (i := 0) rfl rfl rfl rfl rfl (by rfl) (by kernel_rfl) (Nat.le_of_ble_eq_true rfl) ?_
  clear hf; intro a w hf hp0; clear hp; have hp := hp0; clear hp0
  replace hp : Hp _ _ _ (Res.obj 34 v1 [.int .i64 (3 : Int), .int .u32 (7 : Int), .int .u32 (5 : Int)] :: ow) := hp
  refine st_nil hf ?_
  refine th_n ?_
  refine wp_ret ?_
  obtain rfl := Option.some.inj h
  exact ⟨rfl, ⟨_, hf.sub ⟨rfl, trivial⟩, hp⟩⟩

noncomputable def f_foghornlaw21_awake  : Option Bool := ((f_trellis_Code_Encode (3 : Int) (7 : Int) (5 : Int) ([true])).bind fun q3 => ((if (q3.2 == (0 : Int)) = true then ((f_foghornref21_Same q3.1 ([true, true, true, false, true, true])).bind fun q17 => (some q17)) else (some false)).bind fun z14 => ((if z14 = true then ((f_trellis_Short).bind fun q32 => (some ((q32.1 == (3 : Int)) && ((q32.2.1 == (7 : Int)) && ((q32.2.2 == (5 : Int)) && true))))) else (some false)).bind fun z31 => (some z31))))
theorem f_foghornlaw21_awake_c {S : Nat → Prop} {w0 w : World} {ow : List Res} (hp : Hp S w0 w ow) {r : Bool} (h : f_foghornlaw21_awake = some r) :
    Calls Try.prog 11 #[] w (fun e w' => e = .returned (.bool r) ∧ Hp S w0 w' (ow)) := by
  unfold f_foghornlaw21_awake at h
  refine enter (n := 21) (args := []) Try.func11 rfl rfl (Nat.le_of_ble_eq_true rfl) fun a hf => ?_
  replace hf : Fr 21 a [] := hf
  refine wp_mono (Q := fun e a w => e = .ret ∧ Fr 21 a [(0, .bool r)] ∧ Hp S w0 w (ow)) ?_ ?_
  rotate_left
  · rintro e a w ⟨rfl, hf, hp⟩
    exact ret1 hf rfl rfl ⟨rfl, hp⟩
  refine wp_seq ?_
  refine wp_reg ?_
  refine st_assign hf rfl rfl (by decide) ?_
  clear hf; intro a ha hf; clear ha
  refine st_nil hf ?_
  refine th_n ?_
  refine wp_seq ?_
  refine wp_reg ?_
  refine st_buildA (vals := [(0, .int .i64 (3 : Int)), (1, .int .u32 (7 : Int)), (2, .int .u32 (5 : Int))]) (cells := [.int .i64 (3 : Int), .int .u32 (7 : Int), .int .u32 (5 : Int)]) hf (by decide) rfl (by simp [hf.ev (x := (Operand.const (.int .i64 (3 : Int)))) rfl, hf.ev (x := (Operand.const (.int .u32 (7 : Int)))) rfl, hf.ev (x := (Operand.const (.int .u32 (5 : Int)))) rfl]) (fun w => by kernel_rfl) ?_
  clear hf; intro a ha hf; clear ha
  refine st_build (E := Ek.bool) (xs := [true]) hf (by decide) elt4 Try.underlying25 hp (vals := #[(0, .bool true)]) (cells := #[.bool true]) rfl (by simp [hf.ev (x := (Operand.const (.bool true))) rfl]) (by decide) (by decide) (z := .bool false) (by kernel_rfl) (by kernel_rfl) rfl (reps_cons (cs := [.bool true]) rfl (reps_nil _)) ?_
  clear hf; intro a w v1 hf hp0; clear hp; have hp := hp0; clear hp0
  replace hp : Hp _ _ _ (Res.sl Ek.bool 4 v1 ([true]) :: ow) := hp
  obtain ⟨q3, hcall4, h⟩ := bnd h
  obtain ⟨S5, hp6, rd7, up8, bk9⟩ := Hp.lendS hp (i := 0) rfl
  refine st_call hf (by decide) Try.func13 rfl rfl rfl rfl rfl (f_trellis_Code_Encode_c hp6 _ _ _ _ _ rd7 hcall4) ?_
  rintro _ w ⟨v10, rfl, hp0⟩
  have hp0 := bk9 _ _ hp0
  clear hp; have hp := hp0; clear hp0
  replace hp : Hp _ _ _ (Res.sl Ek.bool 4 v1 ([true]) :: Res.sl Ek.bool 4 v10 q3.1 :: ow) := hp
  refine ⟨_, rfl, ?_⟩
  clear hf; intro a hf
  refine st_move hf rfl rfl (by decide) ?_
  clear hf; intro a ha hf; clear ha
  refine st_extract hf (by decide) rfl rfl rfl ?_
  clear hf; intro a ha hf; clear ha
  refine st_extract hf (by decide) rfl rfl rfl ?_
  clear hf; intro a ha hf; clear ha
  refine st_assign hf rfl rfl (by decide) ?_
  clear hf; intro a ha hf; clear ha
  refine st_assign hf rfl rfl (by decide) ?_
  clear hf; intro a ha hf; clear ha
  refine st_nil hf ?_
  refine th_n ?_
  refine wp_seq ?_
  refine wp_reg ?_
  refine st_move hf rfl rfl (by decide) ?_
  clear hf; intro a ha hf; clear ha
  refine st_ieql hf (by decide) rfl rfl rfl ?_
  clear hf; intro a ha hf; clear ha
  refine st_move hf rfl rfl (by decide) ?_
  clear hf; intro a ha hf; clear ha
  obtain ⟨z14, hz12, h⟩ := bnd h
  refine wpList_cut 4 (fun a w => Fr 21 a [(15, .bool z14)] ∧ Hp S w0 w (Res.sl Ek.bool 4 v1 ([true]) :: Res.sl Ek.bool 4 v10 q3.1 :: ow)) ?_ ?_
  · rcases Bool.eq_false_or_eq_true (q3.2 == (0 : Int)) with hb13 | hb13
    · skip
      replace hz12 := ifT hz12 hb13
      refine st_move hf (wantY hf rfl rfl hb13) rfl (by decide) ?_
      clear hf; intro a ha hf; clear ha
      refine st_build (E := Ek.bool) (xs := [true, true, true, false, true, true]) hf (by decide) elt4 Try.underlying25 hp (vals := #[(0, .bool true), (1, .bool true), (2, .bool true), (3, .bool false), (4, .bool true), (5, .bool true)]) (cells := #[.bool true, .bool true, .bool true, .bool false, .bool true, .bool true]) (wantY hf rfl rfl hb13) (by simp [hf.ev (x := (Operand.const (.bool true))) rfl, hf.ev (x := (Operand.const (.bool true))) rfl, hf.ev (x := (Operand.const (.bool true))) rfl, hf.ev (x := (Operand.const (.bool false))) rfl, hf.ev (x := (Operand.const (.bool true))) rfl, hf.ev (x := (Operand.const (.bool true))) rfl]) (by decide) (by decide) (z := .bool false) (by kernel_rfl) (by kernel_rfl) rfl (reps_cons (cs := [.bool true]) rfl (reps_cons (cs := [.bool true]) rfl (reps_cons (cs := [.bool true]) rfl (reps_cons (cs := [.bool false]) rfl (reps_cons (cs := [.bool true]) rfl (reps_cons (cs := [.bool true]) rfl (reps_nil _))))))) ?_
      clear hf; intro a w v15 hf hp0; clear hp; have hp := hp0; clear hp0
      replace hp : Hp _ _ _ (Res.sl Ek.bool 4 v15 ([true, true, true, false, true, true]) :: Res.sl Ek.bool 4 v1 ([true]) :: Res.sl Ek.bool 4 v10 q3.1 :: ow) := hp
      obtain ⟨q17, hcall18, hz12⟩ := bnd hz12
      obtain ⟨S19, hp20, rd21, up22, bk23⟩ := Hp.lendS hp (i := 2) rfl
      obtain ⟨S24, hp25, rd26, up27, bk28⟩ := Hp.lendS hp20 (i := 0) rfl
      refine st_call hf (by decide) Try.func33 rfl rfl (wantY hf rfl rfl hb13) rfl rfl (f_foghornref21_Same_c hp25 _ _ ((rd21.now hp20).mono up27) _ _ rd26 hcall18) ?_
      rintro _ w ⟨rfl, hp0⟩
      have hp0 := bk28 _ _ hp0
      have hp0 := bk23 _ _ hp0
      clear hp; have hp := hp0; clear hp0
      replace hp : Hp _ _ _ (Res.sl Ek.bool 4 v10 q3.1 :: Res.sl Ek.bool 4 v15 ([true, true, true, false, true, true]) :: Res.sl Ek.bool 4 v1 ([true]) :: ow) := hp
      refine ⟨_, rfl, ?_⟩
      clear hf; intro a hf
      obtain rfl := Option.some.inj hz12
      refine st_pick (v := .bool q17) hf rfl rfl (fun hb' => ?_) (fun hb' => ?_) (by decide) ?_
      · rfl
      · exact absurd (hb13.symm.trans hb') (by decide)
      clear hf; intro a ha hf; clear ha
      refine st_nil hf (th_n ?_)
      have hp : Hp _ _ _ (Res.sl Ek.bool 4 v1 ([true]) :: Res.sl Ek.bool 4 v10 q3.1 :: ow) := Hp.sel (pre := [Res.sl Ek.bool 4 v10 q3.1, Res.sl Ek.bool 4 v15 ([true, true, true, false, true, true]), Res.sl Ek.bool 4 v1 ([true])]) (tail := ow) (rs' := [Res.sl Ek.bool 4 v1 ([true]), Res.sl Ek.bool 4 v10 q3.1]) hp [2, 0] (by decide) (by simp) rfl
      exact ⟨hf.sub ⟨rfl, trivial⟩, hp⟩
    replace hz12 := ifF hz12 hb13
    refine st_skip hf (wantN hf rfl rfl hb13) rfl (by decide) ?_ rfl
    clear hf; intro a hf
    refine st_skip hf (wantN hf rfl rfl hb13) rfl (by decide) ?_ rfl
    clear hf; intro a hf
    refine st_skip hf (wantN hf rfl rfl hb13) rfl (by decide) ?_ rfl
    clear hf; intro a hf
    obtain rfl := Option.some.inj hz12
    refine st_pick (v := .bool false) hf rfl rfl (fun hb' => ?_) (fun hb' => ?_) (by decide) ?_
    · exact absurd (hb13.symm.trans hb') (by decide)
    · rfl
    clear hf; intro a ha hf; clear ha
    refine st_nil hf (th_n ?_)
    exact ⟨hf.sub ⟨rfl, trivial⟩, hp⟩
  rintro a w ⟨hf, hp⟩
  refine st_move hf rfl rfl (by decide) ?_
  clear hf; intro a ha hf; clear ha
  obtain ⟨z31, hz29, h⟩ := bnd h
  refine wpList_cut 4 (fun a w => Fr 21 a [(20, .bool z31)] ∧ Hp S w0 w (Res.sl Ek.bool 4 v1 ([true]) :: Res.sl Ek.bool 4 v10 q3.1 :: ow)) ?_ ?_
  · rcases Bool.eq_false_or_eq_true z14 with hb30 | hb30
    · skip
      replace hz29 := ifT hz29 hb30
      obtain ⟨q32, hcall33, hz29⟩ := bnd hz29
      refine st_call hf (by decide) Try.func30 rfl rfl (wantY hf rfl rfl hb30) rfl rfl (f_trellis_Short_c hp  hcall33) ?_
      rintro _ w ⟨rfl, hp0⟩
      clear hp; have hp := hp0; clear hp0
      replace hp : Hp _ _ _ (Res.sl Ek.bool 4 v1 ([true]) :: Res.sl Ek.bool 4 v10 q3.1 :: ow) := hp
      refine ⟨_, rfl, ?_⟩
      clear hf; intro a hf
      refine st_buildA (vals := [(0, .int .i64 (3 : Int)), (1, .int .u32 (7 : Int)), (2, .int .u32 (5 : Int))]) (cells := [.int .i64 (3 : Int), .int .u32 (7 : Int), .int .u32 (5 : Int)]) hf (by decide) (wantY hf rfl rfl hb30) (by simp [hf.ev (x := (Operand.const (.int .i64 (3 : Int)))) rfl, hf.ev (x := (Operand.const (.int .u32 (7 : Int)))) rfl, hf.ev (x := (Operand.const (.int .u32 (5 : Int)))) rfl]) (fun w => by kernel_rfl) ?_
      clear hf; intro a ha hf; clear ha
      refine st_eqA (xs := [.int .i64 q32.1, .int .u32 q32.2.1, .int .u32 q32.2.2]) (ys := [.int .i64 (3 : Int), .int .u32 (7 : Int), .int .u32 (5 : Int)]) hf (by decide) (by kernel_rfl) (by kernel_rfl) (by kernel_rfl) (by kernel_rfl) (wantY hf rfl rfl hb30) rfl rfl (b := ((q32.1 == (3 : Int)) && ((q32.2.1 == (7 : Int)) && ((q32.2.2 == (5 : Int)) && true)))) rfl ?_
      clear hf; intro a ha hf; clear ha
      obtain rfl := Option.some.inj hz29
      refine st_pick (v := .bool ((q32.1 == (3 : Int)) && ((q32.2.1 == (7 : Int)) && ((q32.2.2 == (5 : Int)) && true)))) hf rfl rfl (fun hb' => ?_) (fun hb' => ?_) (by decide) ?_
      · rfl
      · exact absurd (hb30.symm.trans hb') (by decide)
      clear hf; intro a ha hf; clear ha
      refine st_nil hf (th_n ?_)
      exact ⟨hf.sub ⟨rfl, trivial⟩, hp⟩
    replace hz29 := ifF hz29 hb30
    refine st_skip hf (wantN hf rfl rfl hb30) rfl (by decide) ?_ rfl
    clear hf; intro a hf
    refine st_skip hf (wantN hf rfl rfl hb30) rfl (by decide) ?_ rfl
    clear hf; intro a hf
    refine st_skip hf (wantN hf rfl rfl hb30) rfl (by decide) ?_ rfl
    clear hf; intro a hf
    obtain rfl := Option.some.inj hz29
    refine st_pick (v := .bool false) hf rfl rfl (fun hb' => ?_) (fun hb' => ?_) (by decide) ?_
    · exact absurd (hb30.symm.trans hb') (by decide)
    · rfl
    clear hf; intro a ha hf; clear ha
    refine st_nil hf (th_n ?_)
    exact ⟨hf.sub ⟨rfl, trivial⟩, hp⟩
  rintro a w ⟨hf, hp⟩
  refine st_assign hf rfl rfl (by decide) ?_
  clear hf; intro a ha hf; clear ha
  refine st_nil hf ?_
  refine th_n ?_
  refine wp_ret ?_
  obtain rfl := Option.some.inj h
  have hp : Hp _ _ _ (ow) := Hp.sel (pre := [Res.sl Ek.bool 4 v1 ([true]), Res.sl Ek.bool 4 v10 q3.1]) (tail := ow) (rs' := []) hp [] (by decide) (by simp) rfl
  exact ⟨rfl, ⟨hf.sub ⟨rfl, trivial⟩, hp⟩⟩

noncomputable def f_foghornlaw21_TrellisLinear.s1c (q133 : ((List Bool) × Int)) (q25 : Int) : Option (Int ⊕ (Unit ⊕ Bool)) := (if (decide (q25 < (6 : Int))) = true then (if 0 ≤ q25 ∧ q25 < (q133.1.length : Int) then (if (gt q133.1 q25) = true then (some (Sum.inr (Sum.inr false))) else (some (Sum.inl (IntKind.i64.wrap (q25 + (1 : Int)))))) else none) else (some (Sum.inr (Sum.inl ()))))
noncomputable def f_foghornlaw21_TrellisLinear.s1 (q133 : ((List Bool) × Int)) (s : Int) : Option (Int ⊕ (Unit ⊕ Bool)) := f_foghornlaw21_TrellisLinear.s1c q133 s
noncomputable def f_foghornlaw21_TrellisLinear (x0_Length : Int) (x0_One : Int) (x0_Two : Int) (x0_Second : Bool) (x0_A : (List Bool)) (x0_B : (List Bool)) (x0_At : Int) : Option Bool := ((f_foghornlaw21_code x0_Length x0_One x0_Two x0_Second).bind fun q3 => (if 0 ≤ (imin (x0_A.length : Int) (100 : Int)) ∧ (imin (x0_A.length : Int) (100 : Int)) ≤ (x0_A.length : Int) then (if 0 ≤ (((x0_A.drop 0).take (((imin (x0_A.length : Int) (100 : Int))).toNat - 0)).length : Int) ∧ (((x0_A.drop 0).take (((imin (x0_A.length : Int) (100 : Int))).toNat - 0)).length : Int) ≤ (((x0_A.drop 0).take (((imin (x0_A.length : Int) (100 : Int))).toNat - 0)).length : Int) ∧ (((x0_A.drop 0).take (((imin (x0_A.length : Int) (100 : Int))).toNat - 0)).length : Int) * 1 ≤ 281474976710656 then ((f_foghornlaw21_unlike ((x0_A.drop 0).take (((imin (x0_A.length : Int) (100 : Int))).toNat - 0)) (x0_B.take (List.replicate ((((x0_A.drop 0).take (((imin (x0_A.length : Int) (100 : Int))).toNat - 0)).length : Int)).toNat false).length ++ (List.replicate ((((x0_A.drop 0).take (((imin (x0_A.length : Int) (100 : Int))).toNat - 0)).length : Int)).toNat false).drop x0_B.length)).bind fun q13 => ((f_trellis_Code_Encode q3.1 q3.2.1 q3.2.2 ((x0_A.drop 0).take (((imin (x0_A.length : Int) (100 : Int))).toNat - 0))).bind fun q22 => ((f_trellis_Code_Encode q3.1 q3.2.1 q3.2.2 (x0_B.take (List.replicate ((((x0_A.drop 0).take (((imin (x0_A.length : Int) (100 : Int))).toNat - 0)).length : Int)).toNat false).length ++ (List.replicate ((((x0_A.drop 0).take (((imin (x0_A.length : Int) (100 : Int))).toNat - 0)).length : Int)).toNat false).drop x0_B.length)).bind fun q26 => ((f_trellis_Code_Encode q3.1 q3.2.1 q3.2.2 q13.1).bind fun q35 => ((f_trellis_Code_Free q3.1 q3.2.1 q3.2.2).bind fun q44 => (if ((((((q22.2 != (0 : Int)) || (q26.2 != (0 : Int))) || (q35.2 != (0 : Int))) || (q44.2 != (0 : Int))) || ((q22.1.length : Int) != (IntKind.i64.wrap ((2 : Int) * (IntKind.i64.wrap ((IntKind.i64.wrap ((((x0_A.drop 0).take (((imin (x0_A.length : Int) (100 : Int))).toNat - 0)).length : Int) + q3.1)) - (1 : Int))))))) || ((q26.1.length : Int) != (q22.1.length : Int))) = true then (some false) else ((f_foghornlaw21_unlike q22.1 q26.1).bind fun q56 => ((f_trellis_Code_Exact q3.1 q3.2.1 q3.2.2 q22.1).bind fun q70 => ((f_foghornlaw21_same q56.1 q35.1).bind fun q79 => ((if ((((!q79) || ((decide ((0 : Int) < q13.2)) && (decide (q56.2 < q44.1)))) || (decide (q44.1 < (1 : Int)))) || (q70.2 != (0 : Int))) = true then (some true) else ((f_foghornlaw21_same q70.1 ((x0_A.drop 0).take (((imin (x0_A.length : Int) (100 : Int))).toNat - 0))).bind fun q102 => (some (!q102)))).bind fun z101 => (if z101 = true then (some false) else (if (q22.1.length : Int) ≠ 0 then (if 0 ≤ (((IntKind.i64.wrap x0_At)).tmod (q22.1.length : Int)) ∧ (((IntKind.i64.wrap x0_At)).tmod (q22.1.length : Int)) < (q22.1.length : Int) then (if 0 ≤ (((IntKind.i64.wrap x0_At)).tmod (q22.1.length : Int)) ∧ (((IntKind.i64.wrap x0_At)).tmod (q22.1.length : Int)) < (q22.1.length : Int) then ((f_trellis_Code_Exact q3.1 q3.2.1 q3.2.2 (q22.1.set ((((IntKind.i64.wrap x0_At)).tmod (q22.1.length : Int))).toNat (!(gt q22.1 (((IntKind.i64.wrap x0_At)).tmod (q22.1.length : Int)))))).bind fun q112 => (if ((decide ((1 : Int) < q44.1)) && (q112.2 != (6 : Int))) = true then (some false) else (if (([false, false, false]).length + (x0_B.take (List.replicate ((((x0_A.drop 0).take (((imin (x0_A.length : Int) (100 : Int))).toNat - 0)).length : Int)).toNat false).length ++ (List.replicate ((((x0_A.drop 0).take (((imin (x0_A.length : Int) (100 : Int))).toNat - 0)).length : Int)).toNat false).drop x0_B.length).length) * 1 ≤ 140737488355328 then ((f_trellis_Code_Encode q3.1 q3.2.1 q3.2.2 ([false, false, false] ++ (x0_B.take (List.replicate ((((x0_A.drop 0).take (((imin (x0_A.length : Int) (100 : Int))).toNat - 0)).length : Int)).toNat false).length ++ (List.replicate ((((x0_A.drop 0).take (((imin (x0_A.length : Int) (100 : Int))).toNat - 0)).length : Int)).toNat false).drop x0_B.length))).bind fun q133 => ((if ((q133.2 != (0 : Int)) || ((q133.1.length : Int) != (IntKind.i64.wrap ((q26.1.length : Int) + (6 : Int))))) = true then (some true) else (if 0 ≤ (6 : Int) ∧ (6 : Int) ≤ (q133.1.length : Int) then ((f_foghornlaw21_same ((q133.1.drop (((6 : Int)).toNat)).take (q133.1.length - ((6 : Int)).toNat)) q26.1).bind fun q150 => (some (!q150))) else none)).bind fun z146 => (if z146 = true then (some false) else ((loop (f_foghornlaw21_TrellisLinear.s1 q133) (0 : Int)).bind (fun q163 => sm q163 (fun q164 => ((f_foghornlaw21_awake).bind fun q166 => (some q166))) (fun q165 => (some q165))))))) else none))) else none) else none) else none)))))))))))) else none) else none))
theorem f_foghornlaw21_TrellisLinear_c {S : Nat → Prop} {w0 w : World} {ow : List Res} (hp : Hp S w0 w ow) (x0_Length : Int) (x0_One : Int) (x0_Two : Int) (x0_Second : Bool) (vx0_A : Value) (x0_A : (List Bool)) (hx0_A : RdS Ek.bool S w0 vx0_A x0_A) (vx0_B : Value) (x0_B : (List Bool)) (hx0_B : RdS Ek.bool S w0 vx0_B x0_B) (x0_At : Int) {r : Bool} (h : f_foghornlaw21_TrellisLinear x0_Length x0_One x0_Two x0_Second x0_A x0_B x0_At = some r) :
    Calls Try.prog 5 #[.agg #[.int .u8 x0_Length, .int .u32 x0_One, .int .u32 x0_Two, .bool x0_Second, vx0_A, vx0_B, .int .u16 x0_At]] w (fun e w' => e = .returned (.bool r) ∧ Hp S w0 w' (ow)) := by
  unfold f_foghornlaw21_TrellisLinear at h
  refine enter (n := 210) (args := [.agg #[.int .u8 x0_Length, .int .u32 x0_One, .int .u32 x0_Two, .bool x0_Second, vx0_A, vx0_B, .int .u16 x0_At]]) Try.func5 rfl rfl (Nat.le_of_ble_eq_true rfl) fun a hf => ?_
  replace hf : Fr 210 a [(0, .agg #[.int .u8 x0_Length, .int .u32 x0_One, .int .u32 x0_Two, .bool x0_Second, vx0_A, vx0_B, .int .u16 x0_At])] := hf
  refine wp_mono (Q := fun e a w => e = .ret ∧ Fr 210 a [(2, .bool r)] ∧ Hp S w0 w (ow)) ?_ ?_
  rotate_left
  · rintro e a w ⟨rfl, hf, hp⟩
    exact ret1 hf rfl rfl ⟨rfl, hp⟩
  refine wp_seq ?_
  refine wp_reg ?_
  refine st_boxO (cs := [.int .u8 x0_Length, .int .u32 x0_One, .int .u32 x0_Two, .bool x0_Second, vx0_A, vx0_B, .int .u16 x0_At]) hf (by decide) hp rfl rfl rfl ?_
  clear hf; intro a w v1 hf hp0; clear hp; have hp := hp0; clear hp0
  replace hp : Hp _ _ _ (Res.obj 33 v1 [.int .u8 x0_Length, .int .u32 x0_One, .int .u32 x0_Two, .bool x0_Second, vx0_A, vx0_B, .int .u16 x0_At] :: ow) := hp
  refine st_assign hf rfl rfl (by decide) ?_
  clear hf; intro a ha hf; clear ha
  refine st_nil hf ?_
  refine th_n ?_
  refine wp_seq ?_
  refine wp_reg ?_
  refine st_fa (o' := 0) hf (by decide) (off := 0) (sz := 1) (by kernel_rfl) (by decide) rfl rfl (hp.ob (i := 0) rfl) rfl ?_
  clear hf; intro a ha hf; clear ha
  refine st_ldO (u := .int .u8 x0_Length) hf (by decide) pl5 rfl rfl (hp.ob (i := 0) rfl) rfl ?_
  clear hf; intro a ha hf; clear ha
  refine st_fa (o' := 1) hf (by decide) (off := 1) (sz := 1) (by kernel_rfl) (by decide) rfl rfl (hp.ob (i := 0) rfl) rfl ?_
  clear hf; intro a ha hf; clear ha
  refine st_ldO (u := .int .u32 x0_One) hf (by decide) pl22 rfl rfl (hp.ob (i := 0) rfl) rfl ?_
  clear hf; intro a ha hf; clear ha
  refine st_fa (o' := 2) hf (by decide) (off := 2) (sz := 1) (by kernel_rfl) (by decide) rfl rfl (hp.ob (i := 0) rfl) rfl ?_
  clear hf; intro a ha hf; clear ha
  refine st_ldO (u := .int .u32 x0_Two) hf (by decide) pl22 rfl rfl (hp.ob (i := 0) rfl) rfl ?_
  clear hf; intro a ha hf; clear ha
  refine st_fa (o' := 3) hf (by decide) (off := 3) (sz := 1) (by kernel_rfl) (by decide) rfl rfl (hp.ob (i := 0) rfl) rfl ?_
  clear hf; intro a ha hf; clear ha
  refine st_ldO (u := .bool x0_Second) hf (by decide) pl4 rfl rfl (hp.ob (i := 0) rfl) rfl ?_
  clear hf; intro a ha hf; clear ha
  obtain ⟨q3, hcall4, h⟩ := bnd h
  refine st_call hf (by decide) Try.func12 rfl rfl rfl rfl rfl (f_foghornlaw21_code_c hp _ _ _ _ hcall4) ?_
  rintro _ w ⟨rfl, hp0⟩
  clear hp; have hp := hp0; clear hp0
  replace hp : Hp _ _ _ (Res.obj 33 v1 [.int .u8 x0_Length, .int .u32 x0_One, .int .u32 x0_Two, .bool x0_Second, vx0_A, vx0_B, .int .u16 x0_At] :: ow) := hp
  refine ⟨_, rfl, ?_⟩
  clear hf; intro a hf
  refine st_alloc (cs := [.int .i64 (0 : Int), .int .u32 (0 : Int), .int .u32 (0 : Int)]) (zv := .agg #[.int .i64 (0 : Int), .int .u32 (0 : Int), .int .u32 (0 : Int)]) hf (by decide) (by kernel_rfl) rfl hp rfl ?_
  clear hf; intro a w v5 hf hp0; clear hp; have hp := hp0; clear hp0
  replace hp : Hp _ _ _ (Res.obj 34 v5 [.int .i64 (0 : Int), .int .u32 (0 : Int), .int .u32 (0 : Int)] :: Res.obj 33 v1 [.int .u8 x0_Length, .int .u32 x0_One, .int .u32 x0_Two, .bool x0_Second, vx0_A, vx0_B, .int .u16 x0_At] :: ow) := hp
  refine st_stO (us := [.int .i64 q3.1, .int .u32 q3.2.1, .int .u32 q3.2.2]) hf hp (i := 0) rfl rfl rfl rfl rfl (by rfl) (by kernel_rfl) (Nat.le_of_ble_eq_true rfl) ?_
  clear hf; intro a w hf hp0; clear hp; have hp := hp0; clear hp0
  replace hp : Hp _ _ _ (Res.obj 34 v5 [.int .i64 q3.1, .int .u32 q3.2.1, .int .u32 q3.2.2] :: Res.obj 33 v1 [.int .u8 x0_Length, .int .u32 x0_One, .int .u32 x0_Two, .bool x0_Second, vx0_A, vx0_B, .int .u16 x0_At] :: ow) := hp
  refine st_nil hf ?_
  refine th_n ?_
  refine wp_seq ?_
  refine wp_reg ?_
  refine st_fa (o' := 4) hf (by decide) (off := 4) (sz := 1) (by kernel_rfl) (by decide) rfl rfl (hp.ob (i := 1) rfl) rfl ?_
  clear hf; intro a ha hf; clear ha
  refine st_ldO (u := vx0_A) hf (by decide) pl25 rfl rfl (hp.ob (i := 1) rfl) rfl ?_
  clear hf; intro a ha hf; clear ha
  refine st_fa (o' := 4) hf (by decide) (off := 4) (sz := 1) (by kernel_rfl) (by decide) rfl rfl (hp.ob (i := 1) rfl) rfl ?_
  clear hf; intro a ha hf; clear ha
  refine st_ldO (u := vx0_A) hf (by decide) pl25 rfl rfl (hp.ob (i := 1) rfl) rfl ?_
  clear hf; intro a ha hf; clear ha
  refine st_len (E := Ek.bool) hf (by decide) Try.underlying25 rfl rfl (hx0_A.sl hp) ?_
  clear hf; intro a ha hf; clear ha
  refine st_imin hf (by decide) rfl rfl rfl ?_
  clear hf; intro a ha hf; clear ha
  obtain ⟨hc7, h⟩ := chk h
  have hc8 : 0 ≤ ((imin (x0_A.length : Int) (100 : Int))).toNat := by omega
  have hc9 : ((imin (x0_A.length : Int) (100 : Int))).toNat ≤ x0_A.length := by omega
  refine st_cutS (E := Ek.bool) hf (by decide) Try.underlying25 elt4 rfl rfl (hx0_A.sl hp) (.inl ⟨rfl, rfl⟩) (.inr ⟨_, _, rfl, evI rfl (by omega)⟩) hc8 hc9 ?_
  clear hf; intro a ha hf; clear ha
  refine st_assign hf rfl rfl (by decide) ?_
  clear hf; intro a ha hf; clear ha
  refine st_nil hf ?_
  refine th_n ?_
  refine wp_seq ?_
  refine wp_reg ?_
  refine st_move hf rfl rfl (by decide) ?_
  clear hf; intro a ha hf; clear ha
  refine st_len (E := Ek.bool) hf (by decide) Try.underlying25 rfl rfl ((RdS.cut hx0_A hc8 hc9).sl hp) ?_
  clear hf; intro a ha hf; clear ha
  obtain ⟨hc10, h⟩ := chk h
  refine st_make (E := Ek.bool) hf (by decide) elt4 Try.underlying25 (by decide) hp rfl rfl rfl hc10.1 hc10.2.1 hc10.2.2 ?_
  clear hf; intro a w v11 hf hp0; clear hp; have hp := hp0; clear hp0
  replace hp : Hp _ _ _ (Res.sl Ek.bool 4 v11 (List.replicate ((((x0_A.drop 0).take (((imin (x0_A.length : Int) (100 : Int))).toNat - 0)).length : Int)).toNat false) :: Res.obj 34 v5 [.int .i64 q3.1, .int .u32 q3.2.1, .int .u32 q3.2.2] :: Res.obj 33 v1 [.int .u8 x0_Length, .int .u32 x0_One, .int .u32 x0_Two, .bool x0_Second, vx0_A, vx0_B, .int .u16 x0_At] :: ow) := hp
  refine st_assign hf rfl rfl (by decide) ?_
  clear hf; intro a ha hf; clear ha
  refine st_nil hf ?_
  refine th_n ?_
  refine wp_seq ?_
  refine wp_reg ?_
  refine st_move hf rfl rfl (by decide) ?_
  clear hf; intro a ha hf; clear ha
  refine st_fa (o' := 5) hf (by decide) (off := 5) (sz := 1) (by kernel_rfl) (by decide) rfl rfl (hp.ob (i := 2) rfl) rfl ?_
  clear hf; intro a ha hf; clear ha
  refine st_ldO (u := vx0_B) hf (by decide) pl25 rfl rfl (hp.ob (i := 2) rfl) rfl ?_
  clear hf; intro a ha hf; clear ha
  refine st_copySl (E := Ek.bool) rfl hf (by decide) elt4 Try.underlying25 hp (i := 0) rfl (hx0_B.sl hp) rfl rfl rfl ?_
  clear hf; intro a w hf hp0; clear hp; have hp := hp0; clear hp0
  replace hp : Hp _ _ _ (Res.sl Ek.bool 4 v11 (x0_B.take (List.replicate ((((x0_A.drop 0).take (((imin (x0_A.length : Int) (100 : Int))).toNat - 0)).length : Int)).toNat false).length ++ (List.replicate ((((x0_A.drop 0).take (((imin (x0_A.length : Int) (100 : Int))).toNat - 0)).length : Int)).toNat false).drop x0_B.length) :: Res.obj 34 v5 [.int .i64 q3.1, .int .u32 q3.2.1, .int .u32 q3.2.2] :: Res.obj 33 v1 [.int .u8 x0_Length, .int .u32 x0_One, .int .u32 x0_Two, .bool x0_Second, vx0_A, vx0_B, .int .u16 x0_At] :: ow) := hp
  refine st_nil hf ?_
  refine th_n ?_
  refine wp_seq ?_
  refine wp_reg ?_
  refine st_move hf rfl rfl (by decide) ?_
  clear hf; intro a ha hf; clear ha
  refine st_move hf rfl rfl (by decide) ?_
  clear hf; intro a ha hf; clear ha
  obtain ⟨q13, hcall14, h⟩ := bnd h
  obtain ⟨S15, hp16, rd17, up18, bk19⟩ := Hp.lendS hp (i := 0) rfl
  refine st_call hf (by decide) Try.func18 rfl rfl rfl rfl rfl (f_foghornlaw21_unlike_c hp16 _ _ (((RdS.cut hx0_A hc8 hc9).now hp).mono up18) _ _ rd17 hcall14) ?_
  rintro _ w ⟨v20, rfl, hp0⟩
  have hp0 := bk19 _ _ hp0
  clear hp; have hp := hp0; clear hp0
  replace hp : Hp _ _ _ (Res.sl Ek.bool 4 v11 (x0_B.take (List.replicate ((((x0_A.drop 0).take (((imin (x0_A.length : Int) (100 : Int))).toNat - 0)).length : Int)).toNat false).length ++ (List.replicate ((((x0_A.drop 0).take (((imin (x0_A.length : Int) (100 : Int))).toNat - 0)).length : Int)).toNat false).drop x0_B.length) :: Res.sl Ek.bool 4 v20 q13.1 :: Res.obj 34 v5 [.int .i64 q3.1, .int .u32 q3.2.1, .int .u32 q3.2.2] :: Res.obj 33 v1 [.int .u8 x0_Length, .int .u32 x0_One, .int .u32 x0_Two, .bool x0_Second, vx0_A, vx0_B, .int .u16 x0_At] :: ow) := hp
  refine ⟨_, rfl, ?_⟩
  clear hf; intro a hf
  refine st_move hf rfl rfl (by decide) ?_
  clear hf; intro a ha hf; clear ha
  refine st_extract hf (by decide) rfl rfl rfl ?_
  clear hf; intro a ha hf; clear ha
  refine st_extract hf (by decide) rfl rfl rfl ?_
  clear hf; intro a ha hf; clear ha
  refine st_assign hf rfl rfl (by decide) ?_
  clear hf; intro a ha hf; clear ha
  refine st_assign hf rfl rfl (by decide) ?_
  clear hf; intro a ha hf; clear ha
  refine st_nil hf ?_
  refine th_n ?_
  refine wp_seq ?_
  refine wp_reg ?_
  refine st_ldOA (m := 3) (us := [.int .i64 q3.1, .int .u32 q3.2.1, .int .u32 q3.2.2]) hf (by decide) (by kernel_rfl) rfl rfl (hp.ob (i := 2) rfl) rfl rfl ?_
  clear hf; intro a ha hf; clear ha
  refine st_move hf rfl rfl (by decide) ?_
  clear hf; intro a ha hf; clear ha
  obtain ⟨q22, hcall23, h⟩ := bnd h
  refine st_call hf (by decide) Try.func13 rfl rfl rfl rfl rfl (f_trellis_Code_Encode_c hp _ _ _ _ _ (RdS.cut hx0_A hc8 hc9) hcall23) ?_
  rintro _ w ⟨v24, rfl, hp0⟩
  clear hp; have hp := hp0; clear hp0
  replace hp : Hp _ _ _ (Res.sl Ek.bool 4 v24 q22.1 :: Res.sl Ek.bool 4 v11 (x0_B.take (List.replicate ((((x0_A.drop 0).take (((imin (x0_A.length : Int) (100 : Int))).toNat - 0)).length : Int)).toNat false).length ++ (List.replicate ((((x0_A.drop 0).take (((imin (x0_A.length : Int) (100 : Int))).toNat - 0)).length : Int)).toNat false).drop x0_B.length) :: Res.sl Ek.bool 4 v20 q13.1 :: Res.obj 34 v5 [.int .i64 q3.1, .int .u32 q3.2.1, .int .u32 q3.2.2] :: Res.obj 33 v1 [.int .u8 x0_Length, .int .u32 x0_One, .int .u32 x0_Two, .bool x0_Second, vx0_A, vx0_B, .int .u16 x0_At] :: ow) := hp
  refine ⟨_, rfl, ?_⟩
  clear hf; intro a hf
  refine st_move hf rfl rfl (by decide) ?_
  clear hf; intro a ha hf; clear ha
  refine st_extract hf (by decide) rfl rfl rfl ?_
  clear hf; intro a ha hf; clear ha
  refine st_extract hf (by decide) rfl rfl rfl ?_
  clear hf; intro a ha hf; clear ha
  refine st_assign hf rfl rfl (by decide) ?_
  clear hf; intro a ha hf; clear ha
  refine st_assign hf rfl rfl (by decide) ?_
  clear hf; intro a ha hf; clear ha
  refine st_nil hf ?_
  refine th_n ?_
  refine wp_seq ?_
  refine wp_reg ?_
  refine st_ldOA (m := 3) (us := [.int .i64 q3.1, .int .u32 q3.2.1, .int .u32 q3.2.2]) hf (by decide) (by kernel_rfl) rfl rfl (hp.ob (i := 3) rfl) rfl rfl ?_
  clear hf; intro a ha hf; clear ha
  refine st_move hf rfl rfl (by decide) ?_
  clear hf; intro a ha hf; clear ha
  obtain ⟨q26, hcall27, h⟩ := bnd h
  obtain ⟨S28, hp29, rd30, up31, bk32⟩ := Hp.lendS hp (i := 1) rfl
  refine st_call hf (by decide) Try.func13 rfl rfl rfl rfl rfl (f_trellis_Code_Encode_c hp29 _ _ _ _ _ rd30 hcall27) ?_
  rintro _ w ⟨v33, rfl, hp0⟩
  have hp0 := bk32 _ _ hp0
  clear hp; have hp := hp0; clear hp0
  replace hp : Hp _ _ _ (Res.sl Ek.bool 4 v11 (x0_B.take (List.replicate ((((x0_A.drop 0).take (((imin (x0_A.length : Int) (100 : Int))).toNat - 0)).length : Int)).toNat false).length ++ (List.replicate ((((x0_A.drop 0).take (((imin (x0_A.length : Int) (100 : Int))).toNat - 0)).length : Int)).toNat false).drop x0_B.length) :: Res.sl Ek.bool 4 v33 q26.1 :: Res.sl Ek.bool 4 v24 q22.1 :: Res.sl Ek.bool 4 v20 q13.1 :: Res.obj 34 v5 [.int .i64 q3.1, .int .u32 q3.2.1, .int .u32 q3.2.2] :: Res.obj 33 v1 [.int .u8 x0_Length, .int .u32 x0_One, .int .u32 x0_Two, .bool x0_Second, vx0_A, vx0_B, .int .u16 x0_At] :: ow) := hp
  refine ⟨_, rfl, ?_⟩
  clear hf; intro a hf
  refine st_move hf rfl rfl (by decide) ?_
  clear hf; intro a ha hf; clear ha
  refine st_extract hf (by decide) rfl rfl rfl ?_
  clear hf; intro a ha hf; clear ha
  refine st_extract hf (by decide) rfl rfl rfl ?_
  clear hf; intro a ha hf; clear ha
  refine st_assign hf rfl rfl (by decide) ?_
  clear hf; intro a ha hf; clear ha
  refine st_assign hf rfl rfl (by decide) ?_
  clear hf; intro a ha hf; clear ha
  refine st_nil hf ?_
  refine th_n ?_
  refine wp_seq ?_
  refine wp_reg ?_
  refine st_ldOA (m := 3) (us := [.int .i64 q3.1, .int .u32 q3.2.1, .int .u32 q3.2.2]) hf (by decide) (by kernel_rfl) rfl rfl (hp.ob (i := 4) rfl) rfl rfl ?_
  clear hf; intro a ha hf; clear ha
  refine st_move hf rfl rfl (by decide) ?_
  clear hf; intro a ha hf; clear ha
  obtain ⟨q35, hcall36, h⟩ := bnd h
  obtain ⟨S37, hp38, rd39, up40, bk41⟩ := Hp.lendS hp (i := 3) rfl
  refine st_call hf (by decide) Try.func13 rfl rfl rfl rfl rfl (f_trellis_Code_Encode_c hp38 _ _ _ _ _ rd39 hcall36) ?_
  rintro _ w ⟨v42, rfl, hp0⟩
  have hp0 := bk41 _ _ hp0
  clear hp; have hp := hp0; clear hp0
  replace hp : Hp _ _ _ (Res.sl Ek.bool 4 v20 q13.1 :: Res.sl Ek.bool 4 v42 q35.1 :: Res.sl Ek.bool 4 v11 (x0_B.take (List.replicate ((((x0_A.drop 0).take (((imin (x0_A.length : Int) (100 : Int))).toNat - 0)).length : Int)).toNat false).length ++ (List.replicate ((((x0_A.drop 0).take (((imin (x0_A.length : Int) (100 : Int))).toNat - 0)).length : Int)).toNat false).drop x0_B.length) :: Res.sl Ek.bool 4 v33 q26.1 :: Res.sl Ek.bool 4 v24 q22.1 :: Res.obj 34 v5 [.int .i64 q3.1, .int .u32 q3.2.1, .int .u32 q3.2.2] :: Res.obj 33 v1 [.int .u8 x0_Length, .int .u32 x0_One, .int .u32 x0_Two, .bool x0_Second, vx0_A, vx0_B, .int .u16 x0_At] :: ow) := hp
  refine ⟨_, rfl, ?_⟩
  clear hf; intro a hf
  refine st_move hf rfl rfl (by decide) ?_
  clear hf; intro a ha hf; clear ha
  refine st_extract hf (by decide) rfl rfl rfl ?_
  clear hf; intro a ha hf; clear ha
  refine st_extract hf (by decide) rfl rfl rfl ?_
  clear hf; intro a ha hf; clear ha
  refine st_assign hf rfl rfl (by decide) ?_
  clear hf; intro a ha hf; clear ha
  refine st_assign hf rfl rfl (by decide) ?_
  clear hf; intro a ha hf; clear ha
  refine st_nil hf ?_
  refine th_n ?_
  refine wp_seq ?_
  refine wp_reg ?_
  refine st_ldOA (m := 3) (us := [.int .i64 q3.1, .int .u32 q3.2.1, .int .u32 q3.2.2]) hf (by decide) (by kernel_rfl) rfl rfl (hp.ob (i := 5) rfl) rfl rfl ?_
  clear hf; intro a ha hf; clear ha
  obtain ⟨q44, hcall45, h⟩ := bnd h
  refine st_call hf (by decide) Try.func19 rfl rfl rfl rfl rfl (f_trellis_Code_Free_c hp _ _ _ hcall45) ?_
  rintro _ w ⟨rfl, hp0⟩
  clear hp; have hp := hp0; clear hp0
  replace hp : Hp _ _ _ (Res.sl Ek.bool 4 v20 q13.1 :: Res.sl Ek.bool 4 v42 q35.1 :: Res.sl Ek.bool 4 v11 (x0_B.take (List.replicate ((((x0_A.drop 0).take (((imin (x0_A.length : Int) (100 : Int))).toNat - 0)).length : Int)).toNat false).length ++ (List.replicate ((((x0_A.drop 0).take (((imin (x0_A.length : Int) (100 : Int))).toNat - 0)).length : Int)).toNat false).drop x0_B.length) :: Res.sl Ek.bool 4 v33 q26.1 :: Res.sl Ek.bool 4 v24 q22.1 :: Res.obj 34 v5 [.int .i64 q3.1, .int .u32 q3.2.1, .int .u32 q3.2.2] :: Res.obj 33 v1 [.int .u8 x0_Length, .int .u32 x0_One, .int .u32 x0_Two, .bool x0_Second, vx0_A, vx0_B, .int .u16 x0_At] :: ow) := hp
  refine ⟨_, rfl, ?_⟩
  clear hf; intro a hf
  refine st_move hf rfl rfl (by decide) ?_
  clear hf; intro a ha hf; clear ha
  refine st_extract hf (by decide) rfl rfl rfl ?_
  clear hf; intro a ha hf; clear ha
  refine st_extract hf (by decide) rfl rfl rfl ?_
  clear hf; intro a ha hf; clear ha
  refine st_assign hf rfl rfl (by decide) ?_
  clear hf; intro a ha hf; clear ha
  refine st_assign hf rfl rfl (by decide) ?_
  clear hf; intro a ha hf; clear ha
  refine st_nil hf ?_
  refine th_n ?_
  refine wp_seq ?_
  refine wp_seq ?_
  refine wp_reg ?_
  refine st_move hf rfl rfl (by decide) ?_
  clear hf; intro a ha hf; clear ha
  refine st_ineq hf (by decide) rfl rfl rfl ?_
  clear hf; intro a ha hf; clear ha
  refine st_move hf rfl rfl (by decide) ?_
  clear hf; intro a ha hf; clear ha
  refine wpList_cut 3 (fun a w => Fr 210 a [(1, optr v1 0), (3, optr v5 0), (4, (GL.cut vx0_A 0 (((imin (x0_A.length : Int) (100 : Int))).toNat) 1)), (5, v11), (7, .int .i64 q13.2), (8, v24), (10, v33), (12, v42), (13, .int .i64 q35.2), (14, .int .i64 q44.1), (15, .int .i64 q44.2), (83, .bool ((q22.2 != (0 : Int)) || (q26.2 != (0 : Int))))] ∧ Hp S w0 w (Res.sl Ek.bool 4 v20 q13.1 :: Res.sl Ek.bool 4 v42 q35.1 :: Res.sl Ek.bool 4 v11 (x0_B.take (List.replicate ((((x0_A.drop 0).take (((imin (x0_A.length : Int) (100 : Int))).toNat - 0)).length : Int)).toNat false).length ++ (List.replicate ((((x0_A.drop 0).take (((imin (x0_A.length : Int) (100 : Int))).toNat - 0)).length : Int)).toNat false).drop x0_B.length) :: Res.sl Ek.bool 4 v33 q26.1 :: Res.sl Ek.bool 4 v24 q22.1 :: Res.obj 34 v5 [.int .i64 q3.1, .int .u32 q3.2.1, .int .u32 q3.2.2] :: Res.obj 33 v1 [.int .u8 x0_Length, .int .u32 x0_One, .int .u32 x0_Two, .bool x0_Second, vx0_A, vx0_B, .int .u16 x0_At] :: ow)) ?_ ?_
  · rcases Bool.eq_false_or_eq_true (q22.2 != (0 : Int)) with hb47 | hb47
    · skip
      refine st_skip hf (wantN hf rfl rfl hb47) rfl (by decide) ?_ rfl
      clear hf; intro a hf
      refine st_skip hf (wantN hf rfl rfl hb47) rfl (by decide) ?_ rfl
      clear hf; intro a hf
      refine st_pick (v := .bool true) hf rfl rfl (fun hb' => ?_) (fun hb' => ?_) (by decide) ?_
      · rfl
      · exact absurd (hb47.symm.trans hb') (by decide)
      clear hf; intro a ha hf; clear ha
      refine st_nil hf (th_n ?_)
      exact ⟨hf.sub ⟨rfl, rfl, rfl, rfl, rfl, rfl, rfl, rfl, rfl, rfl, rfl, (by rw [hb47]; rfl), trivial⟩, hp⟩
    refine st_move hf (wantY hf rfl rfl hb47) rfl (by decide) ?_
    clear hf; intro a ha hf; clear ha
    refine st_ineq hf (by decide) (wantY hf rfl rfl hb47) rfl rfl ?_
    clear hf; intro a ha hf; clear ha
    refine st_pick (v := .bool (q26.2 != (0 : Int))) hf rfl rfl (fun hb' => ?_) (fun hb' => ?_) (by decide) ?_
    · exact absurd (hb47.symm.trans hb') (by decide)
    · rfl
    clear hf; intro a ha hf; clear ha
    refine st_nil hf (th_n ?_)
    exact ⟨hf.sub ⟨rfl, rfl, rfl, rfl, rfl, rfl, rfl, rfl, rfl, rfl, rfl, (by rw [hb47]; rfl), trivial⟩, hp⟩
  rintro a w ⟨hf, hp⟩
  refine st_move hf rfl rfl (by decide) ?_
  clear hf; intro a ha hf; clear ha
  refine wpList_cut 3 (fun a w => Fr 210 a [(1, optr v1 0), (3, optr v5 0), (4, (GL.cut vx0_A 0 (((imin (x0_A.length : Int) (100 : Int))).toNat) 1)), (5, v11), (7, .int .i64 q13.2), (8, v24), (10, v33), (12, v42), (14, .int .i64 q44.1), (15, .int .i64 q44.2), (87, .bool (((q22.2 != (0 : Int)) || (q26.2 != (0 : Int))) || (q35.2 != (0 : Int))))] ∧ Hp S w0 w (Res.sl Ek.bool 4 v20 q13.1 :: Res.sl Ek.bool 4 v42 q35.1 :: Res.sl Ek.bool 4 v11 (x0_B.take (List.replicate ((((x0_A.drop 0).take (((imin (x0_A.length : Int) (100 : Int))).toNat - 0)).length : Int)).toNat false).length ++ (List.replicate ((((x0_A.drop 0).take (((imin (x0_A.length : Int) (100 : Int))).toNat - 0)).length : Int)).toNat false).drop x0_B.length) :: Res.sl Ek.bool 4 v33 q26.1 :: Res.sl Ek.bool 4 v24 q22.1 :: Res.obj 34 v5 [.int .i64 q3.1, .int .u32 q3.2.1, .int .u32 q3.2.2] :: Res.obj 33 v1 [.int .u8 x0_Length, .int .u32 x0_One, .int .u32 x0_Two, .bool x0_Second, vx0_A, vx0_B, .int .u16 x0_At] :: ow)) ?_ ?_
  · rcases Bool.eq_false_or_eq_true ((q22.2 != (0 : Int)) || (q26.2 != (0 : Int))) with hb49 | hb49
    · skip
      refine st_skip hf (wantN hf rfl rfl hb49) rfl (by decide) ?_ rfl
      clear hf; intro a hf
      refine st_skip hf (wantN hf rfl rfl hb49) rfl (by decide) ?_ rfl
      clear hf; intro a hf
      refine st_pick (v := .bool true) hf rfl rfl (fun hb' => ?_) (fun hb' => ?_) (by decide) ?_
      · rfl
      · exact absurd (hb49.symm.trans hb') (by decide)
      clear hf; intro a ha hf; clear ha
      refine st_nil hf (th_n ?_)
      exact ⟨hf.sub ⟨rfl, rfl, rfl, rfl, rfl, rfl, rfl, rfl, rfl, rfl, (by rw [hb49]; rfl), trivial⟩, hp⟩
    refine st_move hf (wantY hf rfl rfl hb49) rfl (by decide) ?_
    clear hf; intro a ha hf; clear ha
    refine st_ineq hf (by decide) (wantY hf rfl rfl hb49) rfl rfl ?_
    clear hf; intro a ha hf; clear ha
    refine st_pick (v := .bool (q35.2 != (0 : Int))) hf rfl rfl (fun hb' => ?_) (fun hb' => ?_) (by decide) ?_
    · exact absurd (hb49.symm.trans hb') (by decide)
    · rfl
    clear hf; intro a ha hf; clear ha
    refine st_nil hf (th_n ?_)
    exact ⟨hf.sub ⟨rfl, rfl, rfl, rfl, rfl, rfl, rfl, rfl, rfl, rfl, (by rw [hb49]; rfl), trivial⟩, hp⟩
  rintro a w ⟨hf, hp⟩
  refine st_move hf rfl rfl (by decide) ?_
  clear hf; intro a ha hf; clear ha
  refine wpList_cut 3 (fun a w => Fr 210 a [(1, optr v1 0), (3, optr v5 0), (4, (GL.cut vx0_A 0 (((imin (x0_A.length : Int) (100 : Int))).toNat) 1)), (5, v11), (7, .int .i64 q13.2), (8, v24), (10, v33), (12, v42), (14, .int .i64 q44.1), (91, .bool ((((q22.2 != (0 : Int)) || (q26.2 != (0 : Int))) || (q35.2 != (0 : Int))) || (q44.2 != (0 : Int))))] ∧ Hp S w0 w (Res.sl Ek.bool 4 v20 q13.1 :: Res.sl Ek.bool 4 v42 q35.1 :: Res.sl Ek.bool 4 v11 (x0_B.take (List.replicate ((((x0_A.drop 0).take (((imin (x0_A.length : Int) (100 : Int))).toNat - 0)).length : Int)).toNat false).length ++ (List.replicate ((((x0_A.drop 0).take (((imin (x0_A.length : Int) (100 : Int))).toNat - 0)).length : Int)).toNat false).drop x0_B.length) :: Res.sl Ek.bool 4 v33 q26.1 :: Res.sl Ek.bool 4 v24 q22.1 :: Res.obj 34 v5 [.int .i64 q3.1, .int .u32 q3.2.1, .int .u32 q3.2.2] :: Res.obj 33 v1 [.int .u8 x0_Length, .int .u32 x0_One, .int .u32 x0_Two, .bool x0_Second, vx0_A, vx0_B, .int .u16 x0_At] :: ow)) ?_ ?_
  · rcases Bool.eq_false_or_eq_true (((q22.2 != (0 : Int)) || (q26.2 != (0 : Int))) || (q35.2 != (0 : Int))) with hb51 | hb51
    · skip
      refine st_skip hf (wantN hf rfl rfl hb51) rfl (by decide) ?_ rfl
      clear hf; intro a hf
      refine st_skip hf (wantN hf rfl rfl hb51) rfl (by decide) ?_ rfl
      clear hf; intro a hf
      refine st_pick (v := .bool true) hf rfl rfl (fun hb' => ?_) (fun hb' => ?_) (by decide) ?_
      · rfl
      · exact absurd (hb51.symm.trans hb') (by decide)
      clear hf; intro a ha hf; clear ha
      refine st_nil hf (th_n ?_)
      exact ⟨hf.sub ⟨rfl, rfl, rfl, rfl, rfl, rfl, rfl, rfl, rfl, (by rw [hb51]; rfl), trivial⟩, hp⟩
    refine st_move hf (wantY hf rfl rfl hb51) rfl (by decide) ?_
    clear hf; intro a ha hf; clear ha
    refine st_ineq hf (by decide) (wantY hf rfl rfl hb51) rfl rfl ?_
    clear hf; intro a ha hf; clear ha
    refine st_pick (v := .bool (q44.2 != (0 : Int))) hf rfl rfl (fun hb' => ?_) (fun hb' => ?_) (by decide) ?_
    · exact absurd (hb51.symm.trans hb') (by decide)
    · rfl
    clear hf; intro a ha hf; clear ha
    refine st_nil hf (th_n ?_)
    exact ⟨hf.sub ⟨rfl, rfl, rfl, rfl, rfl, rfl, rfl, rfl, rfl, (by rw [hb51]; rfl), trivial⟩, hp⟩
  rintro a w ⟨hf, hp⟩
  refine st_move hf rfl rfl (by decide) ?_
  clear hf; intro a ha hf; clear ha
  refine wpList_cut 11 (fun a w => Fr 210 a [(1, optr v1 0), (3, optr v5 0), (4, (GL.cut vx0_A 0 (((imin (x0_A.length : Int) (100 : Int))).toNat) 1)), (5, v11), (7, .int .i64 q13.2), (8, v24), (10, v33), (12, v42), (14, .int .i64 q44.1), (103, .bool (((((q22.2 != (0 : Int)) || (q26.2 != (0 : Int))) || (q35.2 != (0 : Int))) || (q44.2 != (0 : Int))) || ((q22.1.length : Int) != (IntKind.i64.wrap ((2 : Int) * (IntKind.i64.wrap ((IntKind.i64.wrap ((((x0_A.drop 0).take (((imin (x0_A.length : Int) (100 : Int))).toNat - 0)).length : Int) + q3.1)) - (1 : Int))))))))] ∧ Hp S w0 w (Res.sl Ek.bool 4 v20 q13.1 :: Res.sl Ek.bool 4 v42 q35.1 :: Res.sl Ek.bool 4 v11 (x0_B.take (List.replicate ((((x0_A.drop 0).take (((imin (x0_A.length : Int) (100 : Int))).toNat - 0)).length : Int)).toNat false).length ++ (List.replicate ((((x0_A.drop 0).take (((imin (x0_A.length : Int) (100 : Int))).toNat - 0)).length : Int)).toNat false).drop x0_B.length) :: Res.sl Ek.bool 4 v33 q26.1 :: Res.sl Ek.bool 4 v24 q22.1 :: Res.obj 34 v5 [.int .i64 q3.1, .int .u32 q3.2.1, .int .u32 q3.2.2] :: Res.obj 33 v1 [.int .u8 x0_Length, .int .u32 x0_One, .int .u32 x0_Two, .bool x0_Second, vx0_A, vx0_B, .int .u16 x0_At] :: ow)) ?_ ?_
  · rcases Bool.eq_false_or_eq_true ((((q22.2 != (0 : Int)) || (q26.2 != (0 : Int))) || (q35.2 != (0 : Int))) || (q44.2 != (0 : Int))) with hb53 | hb53
    · skip
      refine st_skip hf (wantN hf rfl rfl hb53) rfl (by decide) ?_ rfl
      clear hf; intro a hf
      refine st_skip hf (wantN hf rfl rfl hb53) rfl (by decide) ?_ rfl
      clear hf; intro a hf
      refine st_skip hf (wantN hf rfl rfl hb53) rfl (by decide) ?_ rfl
      clear hf; intro a hf
      refine st_skip hf (wantN hf rfl rfl hb53) rfl (by decide) ?_ rfl
      clear hf; intro a hf
      refine st_skip hf (wantN hf rfl rfl hb53) rfl (by decide) ?_ rfl
      clear hf; intro a hf
      refine st_skip hf (wantN hf rfl rfl hb53) rfl (by decide) ?_ rfl
      clear hf; intro a hf
      refine st_skip hf (wantN hf rfl rfl hb53) rfl (by decide) ?_ rfl
      clear hf; intro a hf
      refine st_skip hf (wantN hf rfl rfl hb53) rfl (by decide) ?_ rfl
      clear hf; intro a hf
      refine st_skip hf (wantN hf rfl rfl hb53) rfl (by decide) ?_ rfl
      clear hf; intro a hf
      refine st_skip hf (wantN hf rfl rfl hb53) rfl (by decide) ?_ rfl
      clear hf; intro a hf
      refine st_pick (v := .bool true) hf rfl rfl (fun hb' => ?_) (fun hb' => ?_) (by decide) ?_
      · rfl
      · exact absurd (hb53.symm.trans hb') (by decide)
      clear hf; intro a ha hf; clear ha
      refine st_nil hf (th_n ?_)
      exact ⟨hf.sub ⟨rfl, rfl, rfl, rfl, rfl, rfl, rfl, rfl, rfl, (by rw [hb53]; rfl), trivial⟩, hp⟩
    refine st_move hf (wantY hf rfl rfl hb53) rfl (by decide) ?_
    clear hf; intro a ha hf; clear ha
    refine st_len (E := Ek.bool) hf (by decide) Try.underlying25 (wantY hf rfl rfl hb53) rfl (hp.sl (i := 4) rfl) ?_
    clear hf; intro a ha hf; clear ha
    refine st_move hf (wantY hf rfl rfl hb53) rfl (by decide) ?_
    clear hf; intro a ha hf; clear ha
    refine st_len (E := Ek.bool) hf (by decide) Try.underlying25 (wantY hf rfl rfl hb53) rfl ((RdS.cut hx0_A hc8 hc9).sl hp) ?_
    clear hf; intro a ha hf; clear ha
    refine st_fa (o' := 0) hf (by decide) (off := 0) (sz := 1) (by kernel_rfl) (by decide) (wantY hf rfl rfl hb53) rfl (hp.ob (i := 5) rfl) rfl ?_
    clear hf; intro a ha hf; clear ha
    refine st_ldO (u := .int .i64 q3.1) hf (by decide) pl3 (wantY hf rfl rfl hb53) rfl (hp.ob (i := 5) rfl) rfl ?_
    clear hf; intro a ha hf; clear ha
    refine st_iadd hf (by decide) (wantY hf rfl rfl hb53) rfl rfl ?_
    clear hf; intro a ha hf; clear ha
    refine st_isub hf (by decide) (wantY hf rfl rfl hb53) rfl rfl ?_
    clear hf; intro a ha hf; clear ha
    refine st_imul hf (by decide) (wantY hf rfl rfl hb53) rfl rfl ?_
    clear hf; intro a ha hf; clear ha
    refine st_ineq hf (by decide) (wantY hf rfl rfl hb53) rfl rfl ?_
    clear hf; intro a ha hf; clear ha
    refine st_pick (v := .bool ((q22.1.length : Int) != (IntKind.i64.wrap ((2 : Int) * (IntKind.i64.wrap ((IntKind.i64.wrap ((((x0_A.drop 0).take (((imin (x0_A.length : Int) (100 : Int))).toNat - 0)).length : Int) + q3.1)) - (1 : Int))))))) hf rfl rfl (fun hb' => ?_) (fun hb' => ?_) (by decide) ?_
    · exact absurd (hb53.symm.trans hb') (by decide)
    · rfl
    clear hf; intro a ha hf; clear ha
    refine st_nil hf (th_n ?_)
    exact ⟨hf.sub ⟨rfl, rfl, rfl, rfl, rfl, rfl, rfl, rfl, rfl, (by rw [hb53]; rfl), trivial⟩, hp⟩
  rintro a w ⟨hf, hp⟩
  refine st_move hf rfl rfl (by decide) ?_
  clear hf; intro a ha hf; clear ha
  refine wpList_cut 6 (fun a w => Fr 210 a [(1, optr v1 0), (3, optr v5 0), (4, (GL.cut vx0_A 0 (((imin (x0_A.length : Int) (100 : Int))).toNat) 1)), (5, v11), (7, .int .i64 q13.2), (8, v24), (10, v33), (12, v42), (14, .int .i64 q44.1), (110, .bool ((((((q22.2 != (0 : Int)) || (q26.2 != (0 : Int))) || (q35.2 != (0 : Int))) || (q44.2 != (0 : Int))) || ((q22.1.length : Int) != (IntKind.i64.wrap ((2 : Int) * (IntKind.i64.wrap ((IntKind.i64.wrap ((((x0_A.drop 0).take (((imin (x0_A.length : Int) (100 : Int))).toNat - 0)).length : Int) + q3.1)) - (1 : Int))))))) || ((q26.1.length : Int) != (q22.1.length : Int))))] ∧ Hp S w0 w (Res.sl Ek.bool 4 v20 q13.1 :: Res.sl Ek.bool 4 v42 q35.1 :: Res.sl Ek.bool 4 v11 (x0_B.take (List.replicate ((((x0_A.drop 0).take (((imin (x0_A.length : Int) (100 : Int))).toNat - 0)).length : Int)).toNat false).length ++ (List.replicate ((((x0_A.drop 0).take (((imin (x0_A.length : Int) (100 : Int))).toNat - 0)).length : Int)).toNat false).drop x0_B.length) :: Res.sl Ek.bool 4 v33 q26.1 :: Res.sl Ek.bool 4 v24 q22.1 :: Res.obj 34 v5 [.int .i64 q3.1, .int .u32 q3.2.1, .int .u32 q3.2.2] :: Res.obj 33 v1 [.int .u8 x0_Length, .int .u32 x0_One, .int .u32 x0_Two, .bool x0_Second, vx0_A, vx0_B, .int .u16 x0_At] :: ow)) ?_ ?_
  · rcases Bool.eq_false_or_eq_true (((((q22.2 != (0 : Int)) || (q26.2 != (0 : Int))) || (q35.2 != (0 : Int))) || (q44.2 != (0 : Int))) || ((q22.1.length : Int) != (IntKind.i64.wrap ((2 : Int) * (IntKind.i64.wrap ((IntKind.i64.wrap ((((x0_A.drop 0).take (((imin (x0_A.length : Int) (100 : Int))).toNat - 0)).length : Int) + q3.1)) - (1 : Int))))))) with hb55 | hb55
    · skip
      refine st_skip hf (wantN hf rfl rfl hb55) rfl (by decide) ?_ rfl
      clear hf; intro a hf
      refine st_skip hf (wantN hf rfl rfl hb55) rfl (by decide) ?_ rfl
      clear hf; intro a hf
      refine st_skip hf (wantN hf rfl rfl hb55) rfl (by decide) ?_ rfl
      clear hf; intro a hf
      refine st_skip hf (wantN hf rfl rfl hb55) rfl (by decide) ?_ rfl
      clear hf; intro a hf
      refine st_skip hf (wantN hf rfl rfl hb55) rfl (by decide) ?_ rfl
      clear hf; intro a hf
      refine st_pick (v := .bool true) hf rfl rfl (fun hb' => ?_) (fun hb' => ?_) (by decide) ?_
      · rfl
      · exact absurd (hb55.symm.trans hb') (by decide)
      clear hf; intro a ha hf; clear ha
      refine st_nil hf (th_n ?_)
      exact ⟨hf.sub ⟨rfl, rfl, rfl, rfl, rfl, rfl, rfl, rfl, rfl, (by rw [hb55]; rfl), trivial⟩, hp⟩
    refine st_move hf (wantY hf rfl rfl hb55) rfl (by decide) ?_
    clear hf; intro a ha hf; clear ha
    refine st_len (E := Ek.bool) hf (by decide) Try.underlying25 (wantY hf rfl rfl hb55) rfl (hp.sl (i := 3) rfl) ?_
    clear hf; intro a ha hf; clear ha
    refine st_move hf (wantY hf rfl rfl hb55) rfl (by decide) ?_
    clear hf; intro a ha hf; clear ha
    refine st_len (E := Ek.bool) hf (by decide) Try.underlying25 (wantY hf rfl rfl hb55) rfl (hp.sl (i := 4) rfl) ?_
    clear hf; intro a ha hf; clear ha
    refine st_ineq hf (by decide) (wantY hf rfl rfl hb55) rfl rfl ?_
    clear hf; intro a ha hf; clear ha
    refine st_pick (v := .bool ((q26.1.length : Int) != (q22.1.length : Int))) hf rfl rfl (fun hb' => ?_) (fun hb' => ?_) (by decide) ?_
    · exact absurd (hb55.symm.trans hb') (by decide)
    · rfl
    clear hf; intro a ha hf; clear ha
    refine st_nil hf (th_n ?_)
    exact ⟨hf.sub ⟨rfl, rfl, rfl, rfl, rfl, rfl, rfl, rfl, rfl, (by rw [hb55]; rfl), trivial⟩, hp⟩
  rintro a w ⟨hf, hp⟩
  refine st_nil hf ?_
  refine th_n ?_
  refine wp_if hf rfl (fun hb => ?_) (fun hb => ?_)
  · replace h := ifT h hb
    refine wp_seq ?_
    refine wp_reg ?_
    refine st_assign hf rfl rfl (by decide) ?_
    clear hf; intro a ha hf; clear ha
    refine st_nil hf ?_
    refine th_n ?_
    refine wp_ret ?_
    refine th_r ?_
    obtain rfl := Option.some.inj h
    have hp : Hp _ _ _ (ow) := Hp.sel (pre := [Res.sl Ek.bool 4 v20 q13.1, Res.sl Ek.bool 4 v42 q35.1, Res.sl Ek.bool 4 v11 (x0_B.take (List.replicate ((((x0_A.drop 0).take (((imin (x0_A.length : Int) (100 : Int))).toNat - 0)).length : Int)).toNat false).length ++ (List.replicate ((((x0_A.drop 0).take (((imin (x0_A.length : Int) (100 : Int))).toNat - 0)).length : Int)).toNat false).drop x0_B.length), Res.sl Ek.bool 4 v33 q26.1, Res.sl Ek.bool 4 v24 q22.1, Res.obj 34 v5 [.int .i64 q3.1, .int .u32 q3.2.1, .int .u32 q3.2.2], Res.obj 33 v1 [.int .u8 x0_Length, .int .u32 x0_One, .int .u32 x0_Two, .bool x0_Second, vx0_A, vx0_B, .int .u16 x0_At]]) (tail := ow) (rs' := []) hp [] (by decide) (by simp) rfl
    exact ⟨rfl, ⟨hf.sub ⟨rfl, trivial⟩, hp⟩⟩
  replace h := ifF h hb
  refine wp_skip ?_
  refine th_n ?_
  refine wp_seq ?_
  refine wp_reg ?_
  refine st_move hf rfl rfl (by decide) ?_
  clear hf; intro a ha hf; clear ha
  refine st_move hf rfl rfl (by decide) ?_
  clear hf; intro a ha hf; clear ha
  obtain ⟨q56, hcall57, h⟩ := bnd h
  obtain ⟨S58, hp59, rd60, up61, bk62⟩ := Hp.lendS hp (i := 4) rfl
  obtain ⟨S63, hp64, rd65, up66, bk67⟩ := Hp.lendS hp59 (i := 3) rfl
  refine st_call hf (by decide) Try.func18 rfl rfl rfl rfl rfl (f_foghornlaw21_unlike_c hp64 _ _ ((rd60.now hp59).mono up66) _ _ rd65 hcall57) ?_
  rintro _ w ⟨v68, rfl, hp0⟩
  have hp0 := bk67 _ _ hp0
  have hp0 := bk62 _ _ hp0
  clear hp; have hp := hp0; clear hp0
  replace hp : Hp _ _ _ (Res.sl Ek.bool 4 v24 q22.1 :: Res.sl Ek.bool 4 v33 q26.1 :: Res.sl Ek.bool 4 v68 q56.1 :: Res.sl Ek.bool 4 v20 q13.1 :: Res.sl Ek.bool 4 v42 q35.1 :: Res.sl Ek.bool 4 v11 (x0_B.take (List.replicate ((((x0_A.drop 0).take (((imin (x0_A.length : Int) (100 : Int))).toNat - 0)).length : Int)).toNat false).length ++ (List.replicate ((((x0_A.drop 0).take (((imin (x0_A.length : Int) (100 : Int))).toNat - 0)).length : Int)).toNat false).drop x0_B.length) :: Res.obj 34 v5 [.int .i64 q3.1, .int .u32 q3.2.1, .int .u32 q3.2.2] :: Res.obj 33 v1 [.int .u8 x0_Length, .int .u32 x0_One, .int .u32 x0_Two, .bool x0_Second, vx0_A, vx0_B, .int .u16 x0_At] :: ow) := hp
  refine ⟨_, rfl, ?_⟩
  clear hf; intro a hf
  refine st_move hf rfl rfl (by decide) ?_
  clear hf; intro a ha hf; clear ha
  refine st_extract hf (by decide) rfl rfl rfl ?_
  clear hf; intro a ha hf; clear ha
  refine st_extract hf (by decide) rfl rfl rfl ?_
  clear hf; intro a ha hf; clear ha
  refine st_assign hf rfl rfl (by decide) ?_
  clear hf; intro a ha hf; clear ha
  refine st_assign hf rfl rfl (by decide) ?_
  clear hf; intro a ha hf; clear ha
  refine st_nil hf ?_
  refine th_n ?_
  refine wp_seq ?_
  refine wp_reg ?_
  refine st_ldOA (m := 3) (us := [.int .i64 q3.1, .int .u32 q3.2.1, .int .u32 q3.2.2]) hf (by decide) (by kernel_rfl) rfl rfl (hp.ob (i := 6) rfl) rfl rfl ?_
  clear hf; intro a ha hf; clear ha
  refine st_move hf rfl rfl (by decide) ?_
  clear hf; intro a ha hf; clear ha
  obtain ⟨q70, hcall71, h⟩ := bnd h
  obtain ⟨S72, hp73, rd74, up75, bk76⟩ := Hp.lendS hp (i := 0) rfl
  refine st_call hf (by decide) Try.func20 rfl rfl rfl rfl rfl (f_trellis_Code_Exact_c hp73 _ _ _ _ _ rd74 hcall71) ?_
  rintro _ w ⟨v77, rfl, hp0⟩
  have hp0 := bk76 _ _ hp0
  clear hp; have hp := hp0; clear hp0
  replace hp : Hp _ _ _ (Res.sl Ek.bool 4 v24 q22.1 :: Res.sl Ek.bool 4 v77 q70.1 :: Res.sl Ek.bool 4 v33 q26.1 :: Res.sl Ek.bool 4 v68 q56.1 :: Res.sl Ek.bool 4 v20 q13.1 :: Res.sl Ek.bool 4 v42 q35.1 :: Res.sl Ek.bool 4 v11 (x0_B.take (List.replicate ((((x0_A.drop 0).take (((imin (x0_A.length : Int) (100 : Int))).toNat - 0)).length : Int)).toNat false).length ++ (List.replicate ((((x0_A.drop 0).take (((imin (x0_A.length : Int) (100 : Int))).toNat - 0)).length : Int)).toNat false).drop x0_B.length) :: Res.obj 34 v5 [.int .i64 q3.1, .int .u32 q3.2.1, .int .u32 q3.2.2] :: Res.obj 33 v1 [.int .u8 x0_Length, .int .u32 x0_One, .int .u32 x0_Two, .bool x0_Second, vx0_A, vx0_B, .int .u16 x0_At] :: ow) := hp
  refine ⟨_, rfl, ?_⟩
  clear hf; intro a hf
  refine st_move hf rfl rfl (by decide) ?_
  clear hf; intro a ha hf; clear ha
  refine st_extract hf (by decide) rfl rfl rfl ?_
  clear hf; intro a ha hf; clear ha
  refine st_extract hf (by decide) rfl rfl rfl ?_
  clear hf; intro a ha hf; clear ha
  refine st_assign hf rfl rfl (by decide) ?_
  clear hf; intro a ha hf; clear ha
  refine st_assign hf rfl rfl (by decide) ?_
  clear hf; intro a ha hf; clear ha
  refine st_nil hf ?_
  refine th_n ?_
  refine wp_seq ?_
  refine wp_seq ?_
  refine wp_reg ?_
  refine st_move hf rfl rfl (by decide) ?_
  clear hf; intro a ha hf; clear ha
  refine st_move hf rfl rfl (by decide) ?_
  clear hf; intro a ha hf; clear ha
  obtain ⟨q79, hcall80, h⟩ := bnd h
  obtain ⟨S81, hp82, rd83, up84, bk85⟩ := Hp.lendS hp (i := 3) rfl
  obtain ⟨S86, hp87, rd88, up89, bk90⟩ := Hp.lendS hp82 (i := 4) rfl
  refine st_call hf (by decide) Try.func21 rfl rfl rfl rfl rfl (f_foghornlaw21_same_c hp87 _ _ ((rd83.now hp82).mono up89) _ _ rd88 hcall80) ?_
  rintro _ w ⟨rfl, hp0⟩
  have hp0 := bk90 _ _ hp0
  have hp0 := bk85 _ _ hp0
  clear hp; have hp := hp0; clear hp0
  replace hp : Hp _ _ _ (Res.sl Ek.bool 4 v68 q56.1 :: Res.sl Ek.bool 4 v42 q35.1 :: Res.sl Ek.bool 4 v24 q22.1 :: Res.sl Ek.bool 4 v77 q70.1 :: Res.sl Ek.bool 4 v33 q26.1 :: Res.sl Ek.bool 4 v20 q13.1 :: Res.sl Ek.bool 4 v11 (x0_B.take (List.replicate ((((x0_A.drop 0).take (((imin (x0_A.length : Int) (100 : Int))).toNat - 0)).length : Int)).toNat false).length ++ (List.replicate ((((x0_A.drop 0).take (((imin (x0_A.length : Int) (100 : Int))).toNat - 0)).length : Int)).toNat false).drop x0_B.length) :: Res.obj 34 v5 [.int .i64 q3.1, .int .u32 q3.2.1, .int .u32 q3.2.2] :: Res.obj 33 v1 [.int .u8 x0_Length, .int .u32 x0_One, .int .u32 x0_Two, .bool x0_Second, vx0_A, vx0_B, .int .u16 x0_At] :: ow) := hp
  refine ⟨_, rfl, ?_⟩
  clear hf; intro a hf
  refine st_not hf (by decide) rfl rfl ?_
  clear hf; intro a ha hf; clear ha
  refine st_move hf rfl rfl (by decide) ?_
  clear hf; intro a ha hf; clear ha
  refine wpList_cut 8 (fun a w => Fr 210 a [(1, optr v1 0), (3, optr v5 0), (4, (GL.cut vx0_A 0 (((imin (x0_A.length : Int) (100 : Int))).toNat) 1)), (5, v11), (8, v24), (10, v33), (14, .int .i64 q44.1), (18, v77), (19, .int .i64 q70.2), (135, .bool ((!q79) || ((decide ((0 : Int) < q13.2)) && (decide (q56.2 < q44.1)))))] ∧ Hp S w0 w (Res.sl Ek.bool 4 v68 q56.1 :: Res.sl Ek.bool 4 v42 q35.1 :: Res.sl Ek.bool 4 v24 q22.1 :: Res.sl Ek.bool 4 v77 q70.1 :: Res.sl Ek.bool 4 v33 q26.1 :: Res.sl Ek.bool 4 v20 q13.1 :: Res.sl Ek.bool 4 v11 (x0_B.take (List.replicate ((((x0_A.drop 0).take (((imin (x0_A.length : Int) (100 : Int))).toNat - 0)).length : Int)).toNat false).length ++ (List.replicate ((((x0_A.drop 0).take (((imin (x0_A.length : Int) (100 : Int))).toNat - 0)).length : Int)).toNat false).drop x0_B.length) :: Res.obj 34 v5 [.int .i64 q3.1, .int .u32 q3.2.1, .int .u32 q3.2.2] :: Res.obj 33 v1 [.int .u8 x0_Length, .int .u32 x0_One, .int .u32 x0_Two, .bool x0_Second, vx0_A, vx0_B, .int .u16 x0_At] :: ow)) ?_ ?_
  · rcases Bool.eq_false_or_eq_true (!q79) with hb92 | hb92
    · skip
      refine st_skip hf (wantN hf rfl rfl hb92) rfl (by decide) ?_ rfl
      clear hf; intro a hf
      refine st_skip hf (wantN hf rfl rfl hb92) rfl (by decide) ?_ rfl
      clear hf; intro a hf
      refine st_skipU hf (wantN hf rfl rfl hb92) rfl (by decide) ?_
      clear hf; intro a hf
      refine st_skip hf (wantU hf rfl rfl) rfl (by decide) ?_ rfl
      clear hf; intro a hf
      refine st_skip hf (wantU hf rfl rfl) rfl (by decide) ?_ rfl
      clear hf; intro a hf
      refine st_skip hf (wantU hf rfl rfl) rfl (by decide) ?_ rfl
      clear hf; intro a hf
      refine st_skip hf (wantN hf rfl rfl hb92) rfl (by decide) ?_ rfl
      clear hf; intro a hf
      refine st_pick (v := .bool true) hf rfl rfl (fun hb' => ?_) (fun hb' => ?_) (by decide) ?_
      · rfl
      · exact absurd (hb92.symm.trans hb') (by decide)
      clear hf; intro a ha hf; clear ha
      refine st_nil hf (th_n ?_)
      exact ⟨hf.sub ⟨rfl, rfl, rfl, rfl, rfl, rfl, rfl, rfl, rfl, (by rw [hb92]; rfl), trivial⟩, hp⟩
    refine st_move hf (wantY hf rfl rfl hb92) rfl (by decide) ?_
    clear hf; intro a ha hf; clear ha
    refine st_igtr hf (by decide) (wantY hf rfl rfl hb92) rfl rfl ?_
    clear hf; intro a ha hf; clear ha
    refine st_move hf (wantY hf rfl rfl hb92) rfl (by decide) ?_
    clear hf; intro a ha hf; clear ha
    refine wpList_cut 4 (fun a w => Fr 210 a [(1, optr v1 0), (3, optr v5 0), (4, (GL.cut vx0_A 0 (((imin (x0_A.length : Int) (100 : Int))).toNat) 1)), (5, v11), (8, v24), (10, v33), (14, .int .i64 q44.1), (18, v77), (19, .int .i64 q70.2), (127, .bool (!q79)), (134, .bool ((decide ((0 : Int) < q13.2)) && (decide (q56.2 < q44.1))))] ∧ Hp S w0 w (Res.sl Ek.bool 4 v68 q56.1 :: Res.sl Ek.bool 4 v42 q35.1 :: Res.sl Ek.bool 4 v24 q22.1 :: Res.sl Ek.bool 4 v77 q70.1 :: Res.sl Ek.bool 4 v33 q26.1 :: Res.sl Ek.bool 4 v20 q13.1 :: Res.sl Ek.bool 4 v11 (x0_B.take (List.replicate ((((x0_A.drop 0).take (((imin (x0_A.length : Int) (100 : Int))).toNat - 0)).length : Int)).toNat false).length ++ (List.replicate ((((x0_A.drop 0).take (((imin (x0_A.length : Int) (100 : Int))).toNat - 0)).length : Int)).toNat false).drop x0_B.length) :: Res.obj 34 v5 [.int .i64 q3.1, .int .u32 q3.2.1, .int .u32 q3.2.2] :: Res.obj 33 v1 [.int .u8 x0_Length, .int .u32 x0_One, .int .u32 x0_Two, .bool x0_Second, vx0_A, vx0_B, .int .u16 x0_At] :: ow)) ?_ ?_
    · rcases Bool.eq_false_or_eq_true (decide ((0 : Int) < q13.2)) with hb94 | hb94
      · skip
        refine st_move hf (wantY hf rfl rfl hb94) rfl (by decide) ?_
        clear hf; intro a ha hf; clear ha
        refine st_move hf (wantY hf rfl rfl hb94) rfl (by decide) ?_
        clear hf; intro a ha hf; clear ha
        refine st_ilss hf (by decide) (wantY hf rfl rfl hb94) rfl rfl ?_
        clear hf; intro a ha hf; clear ha
        refine st_pick (v := .bool (decide (q56.2 < q44.1))) hf (wantY hf rfl rfl hb92) rfl (fun hb' => ?_) (fun hb' => ?_) (by decide) ?_
        · rfl
        · exact absurd (hb94.symm.trans hb') (by decide)
        clear hf; intro a ha hf; clear ha
        refine st_nil hf (th_n ?_)
        exact ⟨hf.sub ⟨rfl, rfl, rfl, rfl, rfl, rfl, rfl, rfl, rfl, rfl, (by rw [hb94]; rfl), trivial⟩, hp⟩
      refine st_skip hf (wantN hf rfl rfl hb94) rfl (by decide) ?_ rfl
      clear hf; intro a hf
      refine st_skip hf (wantN hf rfl rfl hb94) rfl (by decide) ?_ rfl
      clear hf; intro a hf
      refine st_skip hf (wantN hf rfl rfl hb94) rfl (by decide) ?_ rfl
      clear hf; intro a hf
      refine st_pick (v := .bool false) hf (wantY hf rfl rfl hb92) rfl (fun hb' => ?_) (fun hb' => ?_) (by decide) ?_
      · exact absurd (hb94.symm.trans hb') (by decide)
      · rfl
      clear hf; intro a ha hf; clear ha
      refine st_nil hf (th_n ?_)
      exact ⟨hf.sub ⟨rfl, rfl, rfl, rfl, rfl, rfl, rfl, rfl, rfl, rfl, (by rw [hb94]; rfl), trivial⟩, hp⟩
    rintro a w ⟨hf, hp⟩
    refine st_pick (v := .bool ((decide ((0 : Int) < q13.2)) && (decide (q56.2 < q44.1)))) hf rfl rfl (fun hb' => ?_) (fun hb' => ?_) (by decide) ?_
    · exact absurd (hb92.symm.trans hb') (by decide)
    · rfl
    clear hf; intro a ha hf; clear ha
    refine st_nil hf (th_n ?_)
    exact ⟨hf.sub ⟨rfl, rfl, rfl, rfl, rfl, rfl, rfl, rfl, rfl, (by rw [hb92]; rfl), trivial⟩, hp⟩
  rintro a w ⟨hf, hp⟩
  refine st_move hf rfl rfl (by decide) ?_
  clear hf; intro a ha hf; clear ha
  refine wpList_cut 3 (fun a w => Fr 210 a [(1, optr v1 0), (3, optr v5 0), (4, (GL.cut vx0_A 0 (((imin (x0_A.length : Int) (100 : Int))).toNat) 1)), (5, v11), (8, v24), (10, v33), (14, .int .i64 q44.1), (18, v77), (19, .int .i64 q70.2), (139, .bool (((!q79) || ((decide ((0 : Int) < q13.2)) && (decide (q56.2 < q44.1)))) || (decide (q44.1 < (1 : Int)))))] ∧ Hp S w0 w (Res.sl Ek.bool 4 v68 q56.1 :: Res.sl Ek.bool 4 v42 q35.1 :: Res.sl Ek.bool 4 v24 q22.1 :: Res.sl Ek.bool 4 v77 q70.1 :: Res.sl Ek.bool 4 v33 q26.1 :: Res.sl Ek.bool 4 v20 q13.1 :: Res.sl Ek.bool 4 v11 (x0_B.take (List.replicate ((((x0_A.drop 0).take (((imin (x0_A.length : Int) (100 : Int))).toNat - 0)).length : Int)).toNat false).length ++ (List.replicate ((((x0_A.drop 0).take (((imin (x0_A.length : Int) (100 : Int))).toNat - 0)).length : Int)).toNat false).drop x0_B.length) :: Res.obj 34 v5 [.int .i64 q3.1, .int .u32 q3.2.1, .int .u32 q3.2.2] :: Res.obj 33 v1 [.int .u8 x0_Length, .int .u32 x0_One, .int .u32 x0_Two, .bool x0_Second, vx0_A, vx0_B, .int .u16 x0_At] :: ow)) ?_ ?_
  · rcases Bool.eq_false_or_eq_true ((!q79) || ((decide ((0 : Int) < q13.2)) && (decide (q56.2 < q44.1)))) with hb96 | hb96
    · skip
      refine st_skip hf (wantN hf rfl rfl hb96) rfl (by decide) ?_ rfl
      clear hf; intro a hf
      refine st_skip hf (wantN hf rfl rfl hb96) rfl (by decide) ?_ rfl
      clear hf; intro a hf
      refine st_pick (v := .bool true) hf rfl rfl (fun hb' => ?_) (fun hb' => ?_) (by decide) ?_
      · rfl
      · exact absurd (hb96.symm.trans hb') (by decide)
      clear hf; intro a ha hf; clear ha
      refine st_nil hf (th_n ?_)
      exact ⟨hf.sub ⟨rfl, rfl, rfl, rfl, rfl, rfl, rfl, rfl, rfl, (by rw [hb96]; rfl), trivial⟩, hp⟩
    refine st_move hf (wantY hf rfl rfl hb96) rfl (by decide) ?_
    clear hf; intro a ha hf; clear ha
    refine st_ilss hf (by decide) (wantY hf rfl rfl hb96) rfl rfl ?_
    clear hf; intro a ha hf; clear ha
    refine st_pick (v := .bool (decide (q44.1 < (1 : Int)))) hf rfl rfl (fun hb' => ?_) (fun hb' => ?_) (by decide) ?_
    · exact absurd (hb96.symm.trans hb') (by decide)
    · rfl
    clear hf; intro a ha hf; clear ha
    refine st_nil hf (th_n ?_)
    exact ⟨hf.sub ⟨rfl, rfl, rfl, rfl, rfl, rfl, rfl, rfl, rfl, (by rw [hb96]; rfl), trivial⟩, hp⟩
  rintro a w ⟨hf, hp⟩
  refine st_move hf rfl rfl (by decide) ?_
  clear hf; intro a ha hf; clear ha
  refine wpList_cut 3 (fun a w => Fr 210 a [(1, optr v1 0), (3, optr v5 0), (4, (GL.cut vx0_A 0 (((imin (x0_A.length : Int) (100 : Int))).toNat) 1)), (5, v11), (8, v24), (10, v33), (14, .int .i64 q44.1), (18, v77), (143, .bool ((((!q79) || ((decide ((0 : Int) < q13.2)) && (decide (q56.2 < q44.1)))) || (decide (q44.1 < (1 : Int)))) || (q70.2 != (0 : Int))))] ∧ Hp S w0 w (Res.sl Ek.bool 4 v68 q56.1 :: Res.sl Ek.bool 4 v42 q35.1 :: Res.sl Ek.bool 4 v24 q22.1 :: Res.sl Ek.bool 4 v77 q70.1 :: Res.sl Ek.bool 4 v33 q26.1 :: Res.sl Ek.bool 4 v20 q13.1 :: Res.sl Ek.bool 4 v11 (x0_B.take (List.replicate ((((x0_A.drop 0).take (((imin (x0_A.length : Int) (100 : Int))).toNat - 0)).length : Int)).toNat false).length ++ (List.replicate ((((x0_A.drop 0).take (((imin (x0_A.length : Int) (100 : Int))).toNat - 0)).length : Int)).toNat false).drop x0_B.length) :: Res.obj 34 v5 [.int .i64 q3.1, .int .u32 q3.2.1, .int .u32 q3.2.2] :: Res.obj 33 v1 [.int .u8 x0_Length, .int .u32 x0_One, .int .u32 x0_Two, .bool x0_Second, vx0_A, vx0_B, .int .u16 x0_At] :: ow)) ?_ ?_
  · rcases Bool.eq_false_or_eq_true (((!q79) || ((decide ((0 : Int) < q13.2)) && (decide (q56.2 < q44.1)))) || (decide (q44.1 < (1 : Int)))) with hb98 | hb98
    · skip
      refine st_skip hf (wantN hf rfl rfl hb98) rfl (by decide) ?_ rfl
      clear hf; intro a hf
      refine st_skip hf (wantN hf rfl rfl hb98) rfl (by decide) ?_ rfl
      clear hf; intro a hf
      refine st_pick (v := .bool true) hf rfl rfl (fun hb' => ?_) (fun hb' => ?_) (by decide) ?_
      · rfl
      · exact absurd (hb98.symm.trans hb') (by decide)
      clear hf; intro a ha hf; clear ha
      refine st_nil hf (th_n ?_)
      exact ⟨hf.sub ⟨rfl, rfl, rfl, rfl, rfl, rfl, rfl, rfl, (by rw [hb98]; rfl), trivial⟩, hp⟩
    refine st_move hf (wantY hf rfl rfl hb98) rfl (by decide) ?_
    clear hf; intro a ha hf; clear ha
    refine st_ineq hf (by decide) (wantY hf rfl rfl hb98) rfl rfl ?_
    clear hf; intro a ha hf; clear ha
    refine st_pick (v := .bool (q70.2 != (0 : Int))) hf rfl rfl (fun hb' => ?_) (fun hb' => ?_) (by decide) ?_
    · exact absurd (hb98.symm.trans hb') (by decide)
    · rfl
    clear hf; intro a ha hf; clear ha
    refine st_nil hf (th_n ?_)
    exact ⟨hf.sub ⟨rfl, rfl, rfl, rfl, rfl, rfl, rfl, rfl, (by rw [hb98]; rfl), trivial⟩, hp⟩
  rintro a w ⟨hf, hp⟩
  refine st_move hf rfl rfl (by decide) ?_
  clear hf; intro a ha hf; clear ha
  obtain ⟨z101, hz99, h⟩ := bnd h
  refine wpList_cut 5 (fun a w => Fr 210 a [(1, optr v1 0), (3, optr v5 0), (5, v11), (8, v24), (10, v33), (14, .int .i64 q44.1), (149, .bool z101)] ∧ Hp S w0 w (Res.sl Ek.bool 4 v68 q56.1 :: Res.sl Ek.bool 4 v42 q35.1 :: Res.sl Ek.bool 4 v24 q22.1 :: Res.sl Ek.bool 4 v77 q70.1 :: Res.sl Ek.bool 4 v33 q26.1 :: Res.sl Ek.bool 4 v20 q13.1 :: Res.sl Ek.bool 4 v11 (x0_B.take (List.replicate ((((x0_A.drop 0).take (((imin (x0_A.length : Int) (100 : Int))).toNat - 0)).length : Int)).toNat false).length ++ (List.replicate ((((x0_A.drop 0).take (((imin (x0_A.length : Int) (100 : Int))).toNat - 0)).length : Int)).toNat false).drop x0_B.length) :: Res.obj 34 v5 [.int .i64 q3.1, .int .u32 q3.2.1, .int .u32 q3.2.2] :: Res.obj 33 v1 [.int .u8 x0_Length, .int .u32 x0_One, .int .u32 x0_Two, .bool x0_Second, vx0_A, vx0_B, .int .u16 x0_At] :: ow)) ?_ ?_
  · rcases Bool.eq_false_or_eq_true ((((!q79) || ((decide ((0 : Int) < q13.2)) && (decide (q56.2 < q44.1)))) || (decide (q44.1 < (1 : Int)))) || (q70.2 != (0 : Int))) with hb100 | hb100
    · skip
      replace hz99 := ifT hz99 hb100
      refine st_skip hf (wantN hf rfl rfl hb100) rfl (by decide) ?_ rfl
      clear hf; intro a hf
      refine st_skip hf (wantN hf rfl rfl hb100) rfl (by decide) ?_ rfl
      clear hf; intro a hf
      refine st_skip hf (wantN hf rfl rfl hb100) rfl (by decide) ?_ rfl
      clear hf; intro a hf
      refine st_skip hf (wantN hf rfl rfl hb100) rfl (by decide) ?_ rfl
      clear hf; intro a hf
      obtain rfl := Option.some.inj hz99
      refine st_pick (v := .bool true) hf rfl rfl (fun hb' => ?_) (fun hb' => ?_) (by decide) ?_
      · rfl
      · exact absurd (hb100.symm.trans hb') (by decide)
      clear hf; intro a ha hf; clear ha
      refine st_nil hf (th_n ?_)
      exact ⟨hf.sub ⟨rfl, rfl, rfl, rfl, rfl, rfl, rfl, trivial⟩, hp⟩
    replace hz99 := ifF hz99 hb100
    refine st_move hf (wantY hf rfl rfl hb100) rfl (by decide) ?_
    clear hf; intro a ha hf; clear ha
    refine st_move hf (wantY hf rfl rfl hb100) rfl (by decide) ?_
    clear hf; intro a ha hf; clear ha
    obtain ⟨q102, hcall103, hz99⟩ := bnd hz99
    obtain ⟨S104, hp105, rd106, up107, bk108⟩ := Hp.lendS hp (i := 3) rfl
    refine st_call hf (by decide) Try.func21 rfl rfl (wantY hf rfl rfl hb100) rfl rfl (f_foghornlaw21_same_c hp105 _ _ rd106 _ _ (((RdS.cut hx0_A hc8 hc9).now hp).mono up107) hcall103) ?_
    rintro _ w ⟨rfl, hp0⟩
    have hp0 := bk108 _ _ hp0
    clear hp; have hp := hp0; clear hp0
    replace hp : Hp _ _ _ (Res.sl Ek.bool 4 v77 q70.1 :: Res.sl Ek.bool 4 v68 q56.1 :: Res.sl Ek.bool 4 v42 q35.1 :: Res.sl Ek.bool 4 v24 q22.1 :: Res.sl Ek.bool 4 v33 q26.1 :: Res.sl Ek.bool 4 v20 q13.1 :: Res.sl Ek.bool 4 v11 (x0_B.take (List.replicate ((((x0_A.drop 0).take (((imin (x0_A.length : Int) (100 : Int))).toNat - 0)).length : Int)).toNat false).length ++ (List.replicate ((((x0_A.drop 0).take (((imin (x0_A.length : Int) (100 : Int))).toNat - 0)).length : Int)).toNat false).drop x0_B.length) :: Res.obj 34 v5 [.int .i64 q3.1, .int .u32 q3.2.1, .int .u32 q3.2.2] :: Res.obj 33 v1 [.int .u8 x0_Length, .int .u32 x0_One, .int .u32 x0_Two, .bool x0_Second, vx0_A, vx0_B, .int .u16 x0_At] :: ow) := hp
    refine ⟨_, rfl, ?_⟩
    clear hf; intro a hf
    refine st_not hf (by decide) (wantY hf rfl rfl hb100) rfl ?_
    clear hf; intro a ha hf; clear ha
    obtain rfl := Option.some.inj hz99
    refine st_pick (v := .bool (!q102)) hf rfl rfl (fun hb' => ?_) (fun hb' => ?_) (by decide) ?_
    · exact absurd (hb100.symm.trans hb') (by decide)
    · rfl
    clear hf; intro a ha hf; clear ha
    refine st_nil hf (th_n ?_)
    have hp : Hp _ _ _ (Res.sl Ek.bool 4 v68 q56.1 :: Res.sl Ek.bool 4 v42 q35.1 :: Res.sl Ek.bool 4 v24 q22.1 :: Res.sl Ek.bool 4 v77 q70.1 :: Res.sl Ek.bool 4 v33 q26.1 :: Res.sl Ek.bool 4 v20 q13.1 :: Res.sl Ek.bool 4 v11 (x0_B.take (List.replicate ((((x0_A.drop 0).take (((imin (x0_A.length : Int) (100 : Int))).toNat - 0)).length : Int)).toNat false).length ++ (List.replicate ((((x0_A.drop 0).take (((imin (x0_A.length : Int) (100 : Int))).toNat - 0)).length : Int)).toNat false).drop x0_B.length) :: Res.obj 34 v5 [.int .i64 q3.1, .int .u32 q3.2.1, .int .u32 q3.2.2] :: Res.obj 33 v1 [.int .u8 x0_Length, .int .u32 x0_One, .int .u32 x0_Two, .bool x0_Second, vx0_A, vx0_B, .int .u16 x0_At] :: ow) := Hp.sel (pre := [Res.sl Ek.bool 4 v77 q70.1, Res.sl Ek.bool 4 v68 q56.1, Res.sl Ek.bool 4 v42 q35.1, Res.sl Ek.bool 4 v24 q22.1, Res.sl Ek.bool 4 v33 q26.1, Res.sl Ek.bool 4 v20 q13.1, Res.sl Ek.bool 4 v11 (x0_B.take (List.replicate ((((x0_A.drop 0).take (((imin (x0_A.length : Int) (100 : Int))).toNat - 0)).length : Int)).toNat false).length ++ (List.replicate ((((x0_A.drop 0).take (((imin (x0_A.length : Int) (100 : Int))).toNat - 0)).length : Int)).toNat false).drop x0_B.length), Res.obj 34 v5 [.int .i64 q3.1, .int .u32 q3.2.1, .int .u32 q3.2.2], Res.obj 33 v1 [.int .u8 x0_Length, .int .u32 x0_One, .int .u32 x0_Two, .bool x0_Second, vx0_A, vx0_B, .int .u16 x0_At]]) (tail := ow) (rs' := [Res.sl Ek.bool 4 v68 q56.1, Res.sl Ek.bool 4 v42 q35.1, Res.sl Ek.bool 4 v24 q22.1, Res.sl Ek.bool 4 v77 q70.1, Res.sl Ek.bool 4 v33 q26.1, Res.sl Ek.bool 4 v20 q13.1, Res.sl Ek.bool 4 v11 (x0_B.take (List.replicate ((((x0_A.drop 0).take (((imin (x0_A.length : Int) (100 : Int))).toNat - 0)).length : Int)).toNat false).length ++ (List.replicate ((((x0_A.drop 0).take (((imin (x0_A.length : Int) (100 : Int))).toNat - 0)).length : Int)).toNat false).drop x0_B.length), Res.obj 34 v5 [.int .i64 q3.1, .int .u32 q3.2.1, .int .u32 q3.2.2], Res.obj 33 v1 [.int .u8 x0_Length, .int .u32 x0_One, .int .u32 x0_Two, .bool x0_Second, vx0_A, vx0_B, .int .u16 x0_At]]) hp [1, 2, 3, 0, 4, 5, 6, 7, 8] (by decide) (by simp) rfl
    exact ⟨hf.sub ⟨rfl, rfl, rfl, rfl, rfl, rfl, rfl, trivial⟩, hp⟩
  rintro a w ⟨hf, hp⟩
  refine st_nil hf ?_
  refine th_n ?_
  refine wp_if hf rfl (fun hb => ?_) (fun hb => ?_)
  · replace h := ifT h hb
    refine wp_seq ?_
    refine wp_reg ?_
    refine st_assign hf rfl rfl (by decide) ?_
    clear hf; intro a ha hf; clear ha
    refine st_nil hf ?_
    refine th_n ?_
    refine wp_ret ?_
    refine th_r ?_
    obtain rfl := Option.some.inj h
    have hp : Hp _ _ _ (ow) := Hp.sel (pre := [Res.sl Ek.bool 4 v68 q56.1, Res.sl Ek.bool 4 v42 q35.1, Res.sl Ek.bool 4 v24 q22.1, Res.sl Ek.bool 4 v77 q70.1, Res.sl Ek.bool 4 v33 q26.1, Res.sl Ek.bool 4 v20 q13.1, Res.sl Ek.bool 4 v11 (x0_B.take (List.replicate ((((x0_A.drop 0).take (((imin (x0_A.length : Int) (100 : Int))).toNat - 0)).length : Int)).toNat false).length ++ (List.replicate ((((x0_A.drop 0).take (((imin (x0_A.length : Int) (100 : Int))).toNat - 0)).length : Int)).toNat false).drop x0_B.length), Res.obj 34 v5 [.int .i64 q3.1, .int .u32 q3.2.1, .int .u32 q3.2.2], Res.obj 33 v1 [.int .u8 x0_Length, .int .u32 x0_One, .int .u32 x0_Two, .bool x0_Second, vx0_A, vx0_B, .int .u16 x0_At]]) (tail := ow) (rs' := []) hp [] (by decide) (by simp) rfl
    exact ⟨rfl, ⟨hf.sub ⟨rfl, trivial⟩, hp⟩⟩
  replace h := ifF h hb
  refine wp_skip ?_
  refine th_n ?_
  refine wp_seq ?_
  refine wp_reg ?_
  refine st_fa (o' := 6) hf (by decide) (off := 6) (sz := 1) (by kernel_rfl) (by decide) rfl rfl (hp.ob (i := 8) rfl) rfl ?_
  clear hf; intro a ha hf; clear ha
  refine st_ldO (u := .int .u16 x0_At) hf (by decide) pl31 rfl rfl (hp.ob (i := 8) rfl) rfl ?_
  clear hf; intro a ha hf; clear ha
  refine st_conv_ii hf (by decide) (by rw [Try.underlying31]; rfl) Try.underlying3 rfl rfl ?_
  clear hf; intro a ha hf; clear ha
  refine st_move hf rfl rfl (by decide) ?_
  clear hf; intro a ha hf; clear ha
  refine st_len (E := Ek.bool) hf (by decide) Try.underlying25 rfl rfl (hp.sl (i := 2) rfl) ?_
  clear hf; intro a ha hf; clear ha
  obtain ⟨hc109, h⟩ := chk h
  refine st_irem hf (by decide) rfl rfl rfl hc109 ?_
  clear hf; intro a ha hf; clear ha
  refine st_assign hf rfl rfl (by decide) ?_
  clear hf; intro a ha hf; clear ha
  refine st_nil hf ?_
  refine th_n ?_
  refine wp_seq ?_
  refine wp_reg ?_
  refine st_move hf rfl rfl (by decide) ?_
  clear hf; intro a ha hf; clear ha
  refine st_move hf rfl rfl (by decide) ?_
  clear hf; intro a ha hf; clear ha
  refine st_move hf rfl rfl (by decide) ?_
  clear hf; intro a ha hf; clear ha
  refine st_move hf rfl rfl (by decide) ?_
  clear hf; intro a ha hf; clear ha
  obtain ⟨hc110, h⟩ := chk h
  refine st_index (E := Ek.bool) hf (by decide) Try.underlying25 elt4 rfl rfl rfl (hp.sl (i := 2) rfl) hc110.1 hc110.2 ?_
  clear hf; intro a ha hf; clear ha
  refine st_ldB hf (by decide) pl4 rfl rfl (hp.sl (i := 2) rfl) hc110.1 hc110.2 ?_
  clear hf; intro a ha hf; clear ha
  refine st_not hf (by decide) rfl rfl ?_
  clear hf; intro a ha hf; clear ha
  obtain ⟨hc111, h⟩ := chk h
  refine st_index (E := Ek.bool) hf (by decide) Try.underlying25 elt4 rfl rfl rfl (hp.sl (i := 2) rfl) hc111.1 hc111.2 ?_
  clear hf; intro a ha hf; clear ha
  refine st_store (E := Ek.bool) hf elt4 hp (i := 2) rfl rfl rfl rfl rfl hc111.1 hc111.2 ?_
  clear hf; intro a w hf hp0; clear hp; have hp := hp0; clear hp0
  replace hp : Hp _ _ _ (Res.sl Ek.bool 4 v68 q56.1 :: Res.sl Ek.bool 4 v42 q35.1 :: Res.sl Ek.bool 4 v24 (q22.1.set ((((IntKind.i64.wrap x0_At)).tmod (q22.1.length : Int))).toNat (!(gt q22.1 (((IntKind.i64.wrap x0_At)).tmod (q22.1.length : Int))))) :: Res.sl Ek.bool 4 v77 q70.1 :: Res.sl Ek.bool 4 v33 q26.1 :: Res.sl Ek.bool 4 v20 q13.1 :: Res.sl Ek.bool 4 v11 (x0_B.take (List.replicate ((((x0_A.drop 0).take (((imin (x0_A.length : Int) (100 : Int))).toNat - 0)).length : Int)).toNat false).length ++ (List.replicate ((((x0_A.drop 0).take (((imin (x0_A.length : Int) (100 : Int))).toNat - 0)).length : Int)).toNat false).drop x0_B.length) :: Res.obj 34 v5 [.int .i64 q3.1, .int .u32 q3.2.1, .int .u32 q3.2.2] :: Res.obj 33 v1 [.int .u8 x0_Length, .int .u32 x0_One, .int .u32 x0_Two, .bool x0_Second, vx0_A, vx0_B, .int .u16 x0_At] :: ow) := hp
  refine st_nil hf ?_
  refine th_n ?_
  refine wp_seq ?_
  refine wp_reg ?_
  refine st_ldOA (m := 3) (us := [.int .i64 q3.1, .int .u32 q3.2.1, .int .u32 q3.2.2]) hf (by decide) (by kernel_rfl) rfl rfl (hp.ob (i := 7) rfl) rfl rfl ?_
  clear hf; intro a ha hf; clear ha
  refine st_move hf rfl rfl (by decide) ?_
  clear hf; intro a ha hf; clear ha
  obtain ⟨q112, hcall113, h⟩ := bnd h
  obtain ⟨S114, hp115, rd116, up117, bk118⟩ := Hp.lendS hp (i := 2) rfl
  refine st_call hf (by decide) Try.func20 rfl rfl rfl rfl rfl (f_trellis_Code_Exact_c hp115 _ _ _ _ _ rd116 hcall113) ?_
  rintro _ w ⟨v119, rfl, hp0⟩
  have hp0 := bk118 _ _ hp0
  clear hp; have hp := hp0; clear hp0
  replace hp : Hp _ _ _ (Res.sl Ek.bool 4 v24 (q22.1.set ((((IntKind.i64.wrap x0_At)).tmod (q22.1.length : Int))).toNat (!(gt q22.1 (((IntKind.i64.wrap x0_At)).tmod (q22.1.length : Int))))) :: Res.sl Ek.bool 4 v119 q112.1 :: Res.sl Ek.bool 4 v68 q56.1 :: Res.sl Ek.bool 4 v42 q35.1 :: Res.sl Ek.bool 4 v77 q70.1 :: Res.sl Ek.bool 4 v33 q26.1 :: Res.sl Ek.bool 4 v20 q13.1 :: Res.sl Ek.bool 4 v11 (x0_B.take (List.replicate ((((x0_A.drop 0).take (((imin (x0_A.length : Int) (100 : Int))).toNat - 0)).length : Int)).toNat false).length ++ (List.replicate ((((x0_A.drop 0).take (((imin (x0_A.length : Int) (100 : Int))).toNat - 0)).length : Int)).toNat false).drop x0_B.length) :: Res.obj 34 v5 [.int .i64 q3.1, .int .u32 q3.2.1, .int .u32 q3.2.2] :: Res.obj 33 v1 [.int .u8 x0_Length, .int .u32 x0_One, .int .u32 x0_Two, .bool x0_Second, vx0_A, vx0_B, .int .u16 x0_At] :: ow) := hp
  refine ⟨_, rfl, ?_⟩
  clear hf; intro a hf
  refine st_move hf rfl rfl (by decide) ?_
  clear hf; intro a ha hf; clear ha
  refine st_extract hf (by decide) rfl rfl rfl ?_
  clear hf; intro a ha hf; clear ha
  refine st_extract hf (by decide) rfl rfl rfl ?_
  clear hf; intro a ha hf; clear ha
  refine st_assign hf rfl rfl (by decide) ?_
  clear hf; intro a ha hf; clear ha
  refine st_assign hf rfl rfl (by decide) ?_
  clear hf; intro a ha hf; clear ha
  refine st_nil hf ?_
  refine th_n ?_
  refine wp_seq ?_
  refine wp_seq ?_
  refine wp_reg ?_
  refine st_move hf rfl rfl (by decide) ?_
  clear hf; intro a ha hf; clear ha
  refine st_igtr hf (by decide) rfl rfl rfl ?_
  clear hf; intro a ha hf; clear ha
  refine st_move hf rfl rfl (by decide) ?_
  clear hf; intro a ha hf; clear ha
  refine wpList_cut 3 (fun a w => Fr 210 a [(3, optr v5 0), (5, v11), (10, v33), (175, .bool ((decide ((1 : Int) < q44.1)) && (q112.2 != (6 : Int))))] ∧ Hp S w0 w (Res.sl Ek.bool 4 v24 (q22.1.set ((((IntKind.i64.wrap x0_At)).tmod (q22.1.length : Int))).toNat (!(gt q22.1 (((IntKind.i64.wrap x0_At)).tmod (q22.1.length : Int))))) :: Res.sl Ek.bool 4 v119 q112.1 :: Res.sl Ek.bool 4 v68 q56.1 :: Res.sl Ek.bool 4 v42 q35.1 :: Res.sl Ek.bool 4 v77 q70.1 :: Res.sl Ek.bool 4 v33 q26.1 :: Res.sl Ek.bool 4 v20 q13.1 :: Res.sl Ek.bool 4 v11 (x0_B.take (List.replicate ((((x0_A.drop 0).take (((imin (x0_A.length : Int) (100 : Int))).toNat - 0)).length : Int)).toNat false).length ++ (List.replicate ((((x0_A.drop 0).take (((imin (x0_A.length : Int) (100 : Int))).toNat - 0)).length : Int)).toNat false).drop x0_B.length) :: Res.obj 34 v5 [.int .i64 q3.1, .int .u32 q3.2.1, .int .u32 q3.2.2] :: Res.obj 33 v1 [.int .u8 x0_Length, .int .u32 x0_One, .int .u32 x0_Two, .bool x0_Second, vx0_A, vx0_B, .int .u16 x0_At] :: ow)) ?_ ?_
  · rcases Bool.eq_false_or_eq_true (decide ((1 : Int) < q44.1)) with hb122 | hb122
    · skip
      refine st_move hf (wantY hf rfl rfl hb122) rfl (by decide) ?_
      clear hf; intro a ha hf; clear ha
      refine st_ineq hf (by decide) (wantY hf rfl rfl hb122) rfl rfl ?_
      clear hf; intro a ha hf; clear ha
      refine st_pick (v := .bool (q112.2 != (6 : Int))) hf rfl rfl (fun hb' => ?_) (fun hb' => ?_) (by decide) ?_
      · rfl
      · exact absurd (hb122.symm.trans hb') (by decide)
      clear hf; intro a ha hf; clear ha
      refine st_nil hf (th_n ?_)
      exact ⟨hf.sub ⟨rfl, rfl, rfl, (by rw [hb122]; rfl), trivial⟩, hp⟩
    refine st_skip hf (wantN hf rfl rfl hb122) rfl (by decide) ?_ rfl
    clear hf; intro a hf
    refine st_skip hf (wantN hf rfl rfl hb122) rfl (by decide) ?_ rfl
    clear hf; intro a hf
    refine st_pick (v := .bool false) hf rfl rfl (fun hb' => ?_) (fun hb' => ?_) (by decide) ?_
    · exact absurd (hb122.symm.trans hb') (by decide)
    · rfl
    clear hf; intro a ha hf; clear ha
    refine st_nil hf (th_n ?_)
    exact ⟨hf.sub ⟨rfl, rfl, rfl, (by rw [hb122]; rfl), trivial⟩, hp⟩
  rintro a w ⟨hf, hp⟩
  refine st_nil hf ?_
  refine th_n ?_
  refine wp_if hf rfl (fun hb => ?_) (fun hb => ?_)
  · replace h := ifT h hb
    refine wp_seq ?_
    refine wp_reg ?_
    refine st_assign hf rfl rfl (by decide) ?_
    clear hf; intro a ha hf; clear ha
    refine st_nil hf ?_
    refine th_n ?_
    refine wp_ret ?_
    refine th_r ?_
    obtain rfl := Option.some.inj h
    have hp : Hp _ _ _ (ow) := Hp.sel (pre := [Res.sl Ek.bool 4 v24 (q22.1.set ((((IntKind.i64.wrap x0_At)).tmod (q22.1.length : Int))).toNat (!(gt q22.1 (((IntKind.i64.wrap x0_At)).tmod (q22.1.length : Int))))), Res.sl Ek.bool 4 v119 q112.1, Res.sl Ek.bool 4 v68 q56.1, Res.sl Ek.bool 4 v42 q35.1, Res.sl Ek.bool 4 v77 q70.1, Res.sl Ek.bool 4 v33 q26.1, Res.sl Ek.bool 4 v20 q13.1, Res.sl Ek.bool 4 v11 (x0_B.take (List.replicate ((((x0_A.drop 0).take (((imin (x0_A.length : Int) (100 : Int))).toNat - 0)).length : Int)).toNat false).length ++ (List.replicate ((((x0_A.drop 0).take (((imin (x0_A.length : Int) (100 : Int))).toNat - 0)).length : Int)).toNat false).drop x0_B.length), Res.obj 34 v5 [.int .i64 q3.1, .int .u32 q3.2.1, .int .u32 q3.2.2], Res.obj 33 v1 [.int .u8 x0_Length, .int .u32 x0_One, .int .u32 x0_Two, .bool x0_Second, vx0_A, vx0_B, .int .u16 x0_At]]) (tail := ow) (rs' := []) hp [] (by decide) (by simp) rfl
    exact ⟨rfl, ⟨hf.sub ⟨rfl, trivial⟩, hp⟩⟩
  replace h := ifF h hb
  refine wp_skip ?_
  refine th_n ?_
  refine wp_seq ?_
  obtain ⟨S123, hp124, rd125, up126, bk127⟩ := Hp.lendO hp (i := 8) rfl
  have rl128 := rd125
  obtain ⟨hc131, h⟩ := chk h
  obtain ⟨q133, hcall134, h⟩ := bnd h
  refine wp_cutN (fun a w => ∃ (v132 : Value) (v140 : Value), Fr 210 a [(10, v33), (23, v140), (24, .int .i64 q133.2)] ∧ Hp S w0 w (Res.obj 34 v5 [.int .i64 q3.1, .int .u32 q3.2.1, .int .u32 q3.2.2] :: Res.sl Ek.bool 4 v132 ([false, false, false] ++ (x0_B.take (List.replicate ((((x0_A.drop 0).take (((imin (x0_A.length : Int) (100 : Int))).toNat - 0)).length : Int)).toNat false).length ++ (List.replicate ((((x0_A.drop 0).take (((imin (x0_A.length : Int) (100 : Int))).toNat - 0)).length : Int)).toNat false).drop x0_B.length)) :: Res.sl Ek.bool 4 v140 q133.1 :: Res.sl Ek.bool 4 v24 (q22.1.set ((((IntKind.i64.wrap x0_At)).tmod (q22.1.length : Int))).toNat (!(gt q22.1 (((IntKind.i64.wrap x0_At)).tmod (q22.1.length : Int))))) :: Res.sl Ek.bool 4 v119 q112.1 :: Res.sl Ek.bool 4 v68 q56.1 :: Res.sl Ek.bool 4 v42 q35.1 :: Res.sl Ek.bool 4 v77 q70.1 :: Res.sl Ek.bool 4 v33 q26.1 :: Res.sl Ek.bool 4 v20 q13.1 :: Res.sl Ek.bool 4 v11 (x0_B.take (List.replicate ((((x0_A.drop 0).take (((imin (x0_A.length : Int) (100 : Int))).toNat - 0)).length : Int)).toNat false).length ++ (List.replicate ((((x0_A.drop 0).take (((imin (x0_A.length : Int) (100 : Int))).toNat - 0)).length : Int)).toNat false).drop x0_B.length) :: Res.obj 33 v1 [.int .u8 x0_Length, .int .u32 x0_One, .int .u32 x0_Two, .bool x0_Second, vx0_A, vx0_B, .int .u16 x0_At] :: ow)) ?_ ?_
  · have hp := hp124.same (Same.drew w)
    refine dr_begin' (fun a w => ∃ (v132 : Value) (v140 : Value), Fr 210 a [(10, v33), (23, v140), (24, .int .i64 q133.2)] ∧ Hp S w0 w (Res.obj 34 v5 [.int .i64 q3.1, .int .u32 q3.2.1, .int .u32 q3.2.2] :: Res.sl Ek.bool 4 v132 ([false, false, false] ++ (x0_B.take (List.replicate ((((x0_A.drop 0).take (((imin (x0_A.length : Int) (100 : Int))).toNat - 0)).length : Int)).toNat false).length ++ (List.replicate ((((x0_A.drop 0).take (((imin (x0_A.length : Int) (100 : Int))).toNat - 0)).length : Int)).toNat false).drop x0_B.length)) :: Res.sl Ek.bool 4 v140 q133.1 :: Res.sl Ek.bool 4 v24 (q22.1.set ((((IntKind.i64.wrap x0_At)).tmod (q22.1.length : Int))).toNat (!(gt q22.1 (((IntKind.i64.wrap x0_At)).tmod (q22.1.length : Int))))) :: Res.sl Ek.bool 4 v119 q112.1 :: Res.sl Ek.bool 4 v68 q56.1 :: Res.sl Ek.bool 4 v42 q35.1 :: Res.sl Ek.bool 4 v77 q70.1 :: Res.sl Ek.bool 4 v33 q26.1 :: Res.sl Ek.bool 4 v20 q13.1 :: Res.sl Ek.bool 4 v11 (x0_B.take (List.replicate ((((x0_A.drop 0).take (((imin (x0_A.length : Int) (100 : Int))).toNat - 0)).length : Int)).toNat false).length ++ (List.replicate ((((x0_A.drop 0).take (((imin (x0_A.length : Int) (100 : Int))).toNat - 0)).length : Int)).toNat false).drop x0_B.length) :: Res.obj 33 v1 [.int .u8 x0_Length, .int .u32 x0_One, .int .u32 x0_Two, .bool x0_Second, vx0_A, vx0_B, .int .u16 x0_At] :: ow)) (fun w' => ∃ l, Hp S123 w w' l) [] (by kernel_rfl) ?_
    refine dr_take 0 (.agg #[.int .i64 q3.1, .int .u32 q3.2.1, .int .u32 q3.2.2]) rfl (by kernel_rfl) (by kernel_rfl) (by kernel_rfl) (by kernel_rfl) rfl rfl hf (by decide) rfl (fun w hp => ?_) ⟨_, hp⟩ ?_
    · obtain ⟨_, hp⟩ := hp
      refine st_ldOA (m := 3) (us := [.int .i64 q3.1, .int .u32 q3.2.1, .int .u32 q3.2.2]) hf (by decide) (by kernel_rfl) rfl rfl (rl128.ob hp) rfl rfl ?_
      clear hf; intro a ha hf
      exact st_nil hf (th_n ⟨ha, rfl⟩)
    clear hf; intro a hf
    refine dr_take 2 (v11) rfl (by kernel_rfl) (by kernel_rfl) (by kernel_rfl) (by kernel_rfl) rfl rfl hf (by decide) rfl (fun w hp => ?_) ⟨_, hp⟩ ?_
    · obtain ⟨_, hp⟩ := hp
      refine st_move hf rfl rfl (by decide) ?_
      clear hf; intro a ha hf
      exact st_nil hf (th_n ⟨ha, rfl⟩)
    clear hf; intro a hf
    refine dr_one 1 rfl (by kernel_rfl) ?_
    refine st_build (E := Ek.bool) (xs := [false, false, false]) hf (by decide) elt4 Try.underlying25 hp (vals := #[(0, .bool false), (1, .bool false), (2, .bool false)]) (cells := #[.bool false, .bool false, .bool false]) rfl (by simp [hf.ev (x := (Operand.const (.bool false))) rfl, hf.ev (x := (Operand.const (.bool false))) rfl, hf.ev (x := (Operand.const (.bool false))) rfl]) (by decide) (by decide) (z := .bool false) (by kernel_rfl) (by kernel_rfl) rfl (reps_cons (cs := [.bool false]) rfl (reps_cons (cs := [.bool false]) rfl (reps_cons (cs := [.bool false]) rfl (reps_nil _)))) ?_
    clear hf; intro a w v129 hf hp0; clear hp; have hp := hp0; clear hp0
    replace hp : Hp _ _ _ (Res.sl Ek.bool 4 v129 ([false, false, false]) :: Res.sl Ek.bool 4 v24 (q22.1.set ((((IntKind.i64.wrap x0_At)).tmod (q22.1.length : Int))).toNat (!(gt q22.1 (((IntKind.i64.wrap x0_At)).tmod (q22.1.length : Int))))) :: Res.sl Ek.bool 4 v119 q112.1 :: Res.sl Ek.bool 4 v68 q56.1 :: Res.sl Ek.bool 4 v42 q35.1 :: Res.sl Ek.bool 4 v77 q70.1 :: Res.sl Ek.bool 4 v33 q26.1 :: Res.sl Ek.bool 4 v20 q13.1 :: Res.sl Ek.bool 4 v11 (x0_B.take (List.replicate ((((x0_A.drop 0).take (((imin (x0_A.length : Int) (100 : Int))).toNat - 0)).length : Int)).toNat false).length ++ (List.replicate ((((x0_A.drop 0).take (((imin (x0_A.length : Int) (100 : Int))).toNat - 0)).length : Int)).toNat false).drop x0_B.length) :: Res.obj 33 v1 [.int .u8 x0_Length, .int .u32 x0_One, .int .u32 x0_Two, .bool x0_Second, vx0_A, vx0_B, .int .u16 x0_At] :: ow) := hp
    refine st_nil hf (th_n ⟨fun _ _ => ⟨_, hp⟩, ?_⟩)
    refine dr_one 3 rfl (by kernel_rfl) ?_
    refine st_append (E := Ek.bool) hf (by decide) elt4 Try.underlying25 (by decide) hp (i := 0) rfl rfl rfl rfl (hp.sl (i := 8) rfl) hc131 ?_
    clear hf; intro a w v132 hf hp0; clear hp; have hp := hp0; clear hp0
    replace hp : Hp _ _ _ (Res.sl Ek.bool 4 v132 ([false, false, false] ++ (x0_B.take (List.replicate ((((x0_A.drop 0).take (((imin (x0_A.length : Int) (100 : Int))).toNat - 0)).length : Int)).toNat false).length ++ (List.replicate ((((x0_A.drop 0).take (((imin (x0_A.length : Int) (100 : Int))).toNat - 0)).length : Int)).toNat false).drop x0_B.length)) :: Res.sl Ek.bool 4 v24 (q22.1.set ((((IntKind.i64.wrap x0_At)).tmod (q22.1.length : Int))).toNat (!(gt q22.1 (((IntKind.i64.wrap x0_At)).tmod (q22.1.length : Int))))) :: Res.sl Ek.bool 4 v119 q112.1 :: Res.sl Ek.bool 4 v68 q56.1 :: Res.sl Ek.bool 4 v42 q35.1 :: Res.sl Ek.bool 4 v77 q70.1 :: Res.sl Ek.bool 4 v33 q26.1 :: Res.sl Ek.bool 4 v20 q13.1 :: Res.sl Ek.bool 4 v11 (x0_B.take (List.replicate ((((x0_A.drop 0).take (((imin (x0_A.length : Int) (100 : Int))).toNat - 0)).length : Int)).toNat false).length ++ (List.replicate ((((x0_A.drop 0).take (((imin (x0_A.length : Int) (100 : Int))).toNat - 0)).length : Int)).toNat false).drop x0_B.length) :: Res.obj 33 v1 [.int .u8 x0_Length, .int .u32 x0_One, .int .u32 x0_Two, .bool x0_Second, vx0_A, vx0_B, .int .u16 x0_At] :: ow) := hp
    refine st_nil hf (th_n ⟨fun _ _ => ⟨_, hp⟩, ?_⟩)
    refine dr_one 4 rfl (by kernel_rfl) ?_
    obtain ⟨S135, hp136, rd137, up138, bk139⟩ := Hp.lendS hp (i := 0) rfl
    refine st_call hf (by decide) Try.func13 rfl rfl rfl rfl rfl (f_trellis_Code_Encode_c hp136 _ _ _ _ _ rd137 hcall134) ?_
    rintro _ w ⟨v140, rfl, hp0⟩
    have hp0 := bk139 _ _ hp0
    clear hp; have hp := hp0; clear hp0
    replace hp : Hp _ _ _ (Res.sl Ek.bool 4 v132 ([false, false, false] ++ (x0_B.take (List.replicate ((((x0_A.drop 0).take (((imin (x0_A.length : Int) (100 : Int))).toNat - 0)).length : Int)).toNat false).length ++ (List.replicate ((((x0_A.drop 0).take (((imin (x0_A.length : Int) (100 : Int))).toNat - 0)).length : Int)).toNat false).drop x0_B.length)) :: Res.sl Ek.bool 4 v140 q133.1 :: Res.sl Ek.bool 4 v24 (q22.1.set ((((IntKind.i64.wrap x0_At)).tmod (q22.1.length : Int))).toNat (!(gt q22.1 (((IntKind.i64.wrap x0_At)).tmod (q22.1.length : Int))))) :: Res.sl Ek.bool 4 v119 q112.1 :: Res.sl Ek.bool 4 v68 q56.1 :: Res.sl Ek.bool 4 v42 q35.1 :: Res.sl Ek.bool 4 v77 q70.1 :: Res.sl Ek.bool 4 v33 q26.1 :: Res.sl Ek.bool 4 v20 q13.1 :: Res.sl Ek.bool 4 v11 (x0_B.take (List.replicate ((((x0_A.drop 0).take (((imin (x0_A.length : Int) (100 : Int))).toNat - 0)).length : Int)).toNat false).length ++ (List.replicate ((((x0_A.drop 0).take (((imin (x0_A.length : Int) (100 : Int))).toNat - 0)).length : Int)).toNat false).drop x0_B.length) :: Res.obj 33 v1 [.int .u8 x0_Length, .int .u32 x0_One, .int .u32 x0_Two, .bool x0_Second, vx0_A, vx0_B, .int .u16 x0_At] :: ow) := hp
    refine ⟨_, rfl, ?_⟩
    clear hf; intro a hf
    refine st_nil hf (th_n ⟨fun _ _ => ⟨_, hp⟩, ?_⟩)
    refine dr_take 5 (.tuple #[v140, .int .i64 q133.2]) rfl (by kernel_rfl) (by kernel_rfl) (by kernel_rfl) (by kernel_rfl) rfl rfl hf (by decide) rfl (fun w hp => ?_) ⟨_, hp⟩ ?_
    · obtain ⟨_, hp⟩ := hp
      refine st_move hf rfl rfl (by decide) ?_
      clear hf; intro a ha hf
      exact st_nil hf (th_n ⟨ha, rfl⟩)
    clear hf; intro a hf
    refine dr_take 6 (v140) rfl (by kernel_rfl) (by kernel_rfl) (by kernel_rfl) (by kernel_rfl) rfl rfl hf (by decide) rfl (fun w hp => ?_) ⟨_, hp⟩ ?_
    · obtain ⟨_, hp⟩ := hp
      refine st_extract hf (by decide) rfl rfl rfl ?_
      clear hf; intro a ha hf
      exact st_nil hf (th_n ⟨ha, rfl⟩)
    clear hf; intro a hf
    refine dr_take 7 (.int .i64 q133.2) rfl (by kernel_rfl) (by kernel_rfl) (by kernel_rfl) (by kernel_rfl) rfl rfl hf (by decide) rfl (fun w hp => ?_) ⟨_, hp⟩ ?_
    · obtain ⟨_, hp⟩ := hp
      refine st_extract hf (by decide) rfl rfl rfl ?_
      clear hf; intro a ha hf
      exact st_nil hf (th_n ⟨ha, rfl⟩)
    clear hf; intro a hf
    refine dr_take 8 (v140) rfl (by kernel_rfl) (by kernel_rfl) (by kernel_rfl) (by kernel_rfl) rfl rfl hf (by decide) rfl (fun w hp => ?_) ⟨_, hp⟩ ?_
    · obtain ⟨_, hp⟩ := hp
      refine st_assign hf rfl rfl (by decide) ?_
      clear hf; intro a ha hf
      exact st_nil hf (th_n ⟨ha, rfl⟩)
    clear hf; intro a hf
    refine dr_take 9 (.int .i64 q133.2) rfl (by kernel_rfl) (by kernel_rfl) (by kernel_rfl) (by kernel_rfl) rfl rfl hf (by decide) rfl (fun w hp => ?_) ⟨_, hp⟩ ?_
    · obtain ⟨_, hp⟩ := hp
      refine st_assign hf rfl rfl (by decide) ?_
      clear hf; intro a ha hf
      exact st_nil hf (th_n ⟨ha, rfl⟩)
    clear hf; intro a hf
    refine dr_end (by kernel_rfl) ?_ _
    have hp := bk127 _ _ hp
    exact ⟨v132, v140, hf.sub ⟨rfl, rfl, rfl, trivial⟩, hp⟩
  rintro a w ⟨v132, v140, hf, hp⟩
  refine th_n ?_
  refine wp_seq ?_
  refine wp_seq ?_
  refine wp_reg ?_
  refine st_move hf rfl rfl (by decide) ?_
  clear hf; intro a ha hf; clear ha
  refine st_ineq hf (by decide) rfl rfl rfl ?_
  clear hf; intro a ha hf; clear ha
  refine st_move hf rfl rfl (by decide) ?_
  clear hf; intro a ha hf; clear ha
  refine wpList_cut 7 (fun a w => Fr 210 a [(10, v33), (23, v140), (193, .bool ((q133.2 != (0 : Int)) || ((q133.1.length : Int) != (IntKind.i64.wrap ((q26.1.length : Int) + (6 : Int))))))] ∧ Hp S w0 w (Res.obj 34 v5 [.int .i64 q3.1, .int .u32 q3.2.1, .int .u32 q3.2.2] :: Res.sl Ek.bool 4 v132 ([false, false, false] ++ (x0_B.take (List.replicate ((((x0_A.drop 0).take (((imin (x0_A.length : Int) (100 : Int))).toNat - 0)).length : Int)).toNat false).length ++ (List.replicate ((((x0_A.drop 0).take (((imin (x0_A.length : Int) (100 : Int))).toNat - 0)).length : Int)).toNat false).drop x0_B.length)) :: Res.sl Ek.bool 4 v140 q133.1 :: Res.sl Ek.bool 4 v24 (q22.1.set ((((IntKind.i64.wrap x0_At)).tmod (q22.1.length : Int))).toNat (!(gt q22.1 (((IntKind.i64.wrap x0_At)).tmod (q22.1.length : Int))))) :: Res.sl Ek.bool 4 v119 q112.1 :: Res.sl Ek.bool 4 v68 q56.1 :: Res.sl Ek.bool 4 v42 q35.1 :: Res.sl Ek.bool 4 v77 q70.1 :: Res.sl Ek.bool 4 v33 q26.1 :: Res.sl Ek.bool 4 v20 q13.1 :: Res.sl Ek.bool 4 v11 (x0_B.take (List.replicate ((((x0_A.drop 0).take (((imin (x0_A.length : Int) (100 : Int))).toNat - 0)).length : Int)).toNat false).length ++ (List.replicate ((((x0_A.drop 0).take (((imin (x0_A.length : Int) (100 : Int))).toNat - 0)).length : Int)).toNat false).drop x0_B.length) :: Res.obj 33 v1 [.int .u8 x0_Length, .int .u32 x0_One, .int .u32 x0_Two, .bool x0_Second, vx0_A, vx0_B, .int .u16 x0_At] :: ow)) ?_ ?_
  · rcases Bool.eq_false_or_eq_true (q133.2 != (0 : Int)) with hb143 | hb143
    · skip
      refine st_skip hf (wantN hf rfl rfl hb143) rfl (by decide) ?_ rfl
      clear hf; intro a hf
      refine st_skip hf (wantN hf rfl rfl hb143) rfl (by decide) ?_ rfl
      clear hf; intro a hf
      refine st_skip hf (wantN hf rfl rfl hb143) rfl (by decide) ?_ rfl
      clear hf; intro a hf
      refine st_skip hf (wantN hf rfl rfl hb143) rfl (by decide) ?_ rfl
      clear hf; intro a hf
      refine st_skip hf (wantN hf rfl rfl hb143) rfl (by decide) ?_ rfl
      clear hf; intro a hf
      refine st_skip hf (wantN hf rfl rfl hb143) rfl (by decide) ?_ rfl
      clear hf; intro a hf
      refine st_pick (v := .bool true) hf rfl rfl (fun hb' => ?_) (fun hb' => ?_) (by decide) ?_
      · rfl
      · exact absurd (hb143.symm.trans hb') (by decide)
      clear hf; intro a ha hf; clear ha
      refine st_nil hf (th_n ?_)
      exact ⟨hf.sub ⟨rfl, rfl, (by rw [hb143]; rfl), trivial⟩, hp⟩
    refine st_move hf (wantY hf rfl rfl hb143) rfl (by decide) ?_
    clear hf; intro a ha hf; clear ha
    refine st_len (E := Ek.bool) hf (by decide) Try.underlying25 (wantY hf rfl rfl hb143) rfl (hp.sl (i := 2) rfl) ?_
    clear hf; intro a ha hf; clear ha
    refine st_move hf (wantY hf rfl rfl hb143) rfl (by decide) ?_
    clear hf; intro a ha hf; clear ha
    refine st_len (E := Ek.bool) hf (by decide) Try.underlying25 (wantY hf rfl rfl hb143) rfl (hp.sl (i := 8) rfl) ?_
    clear hf; intro a ha hf; clear ha
    refine st_iadd hf (by decide) (wantY hf rfl rfl hb143) rfl rfl ?_
    clear hf; intro a ha hf; clear ha
    refine st_ineq hf (by decide) (wantY hf rfl rfl hb143) rfl rfl ?_
    clear hf; intro a ha hf; clear ha
    refine st_pick (v := .bool ((q133.1.length : Int) != (IntKind.i64.wrap ((q26.1.length : Int) + (6 : Int))))) hf rfl rfl (fun hb' => ?_) (fun hb' => ?_) (by decide) ?_
    · exact absurd (hb143.symm.trans hb') (by decide)
    · rfl
    clear hf; intro a ha hf; clear ha
    refine st_nil hf (th_n ?_)
    exact ⟨hf.sub ⟨rfl, rfl, (by rw [hb143]; rfl), trivial⟩, hp⟩
  rintro a w ⟨hf, hp⟩
  refine st_move hf rfl rfl (by decide) ?_
  clear hf; intro a ha hf; clear ha
  obtain ⟨z146, hz144, h⟩ := bnd h
  refine wpList_cut 6 (fun a w => Fr 210 a [(23, v140), (200, .bool z146)] ∧ Hp S w0 w (Res.obj 34 v5 [.int .i64 q3.1, .int .u32 q3.2.1, .int .u32 q3.2.2] :: Res.sl Ek.bool 4 v132 ([false, false, false] ++ (x0_B.take (List.replicate ((((x0_A.drop 0).take (((imin (x0_A.length : Int) (100 : Int))).toNat - 0)).length : Int)).toNat false).length ++ (List.replicate ((((x0_A.drop 0).take (((imin (x0_A.length : Int) (100 : Int))).toNat - 0)).length : Int)).toNat false).drop x0_B.length)) :: Res.sl Ek.bool 4 v140 q133.1 :: Res.sl Ek.bool 4 v24 (q22.1.set ((((IntKind.i64.wrap x0_At)).tmod (q22.1.length : Int))).toNat (!(gt q22.1 (((IntKind.i64.wrap x0_At)).tmod (q22.1.length : Int))))) :: Res.sl Ek.bool 4 v119 q112.1 :: Res.sl Ek.bool 4 v68 q56.1 :: Res.sl Ek.bool 4 v42 q35.1 :: Res.sl Ek.bool 4 v77 q70.1 :: Res.sl Ek.bool 4 v33 q26.1 :: Res.sl Ek.bool 4 v20 q13.1 :: Res.sl Ek.bool 4 v11 (x0_B.take (List.replicate ((((x0_A.drop 0).take (((imin (x0_A.length : Int) (100 : Int))).toNat - 0)).length : Int)).toNat false).length ++ (List.replicate ((((x0_A.drop 0).take (((imin (x0_A.length : Int) (100 : Int))).toNat - 0)).length : Int)).toNat false).drop x0_B.length) :: Res.obj 33 v1 [.int .u8 x0_Length, .int .u32 x0_One, .int .u32 x0_Two, .bool x0_Second, vx0_A, vx0_B, .int .u16 x0_At] :: ow)) ?_ ?_
  · rcases Bool.eq_false_or_eq_true ((q133.2 != (0 : Int)) || ((q133.1.length : Int) != (IntKind.i64.wrap ((q26.1.length : Int) + (6 : Int))))) with hb145 | hb145
    · skip
      replace hz144 := ifT hz144 hb145
      refine st_skip hf (wantN hf rfl rfl hb145) rfl (by decide) ?_ rfl
      clear hf; intro a hf
      refine st_skip hf (wantN hf rfl rfl hb145) rfl (by decide) ?_ rfl
      clear hf; intro a hf
      refine st_skip hf (wantN hf rfl rfl hb145) rfl (by decide) ?_ rfl
      clear hf; intro a hf
      refine st_skip hf (wantN hf rfl rfl hb145) rfl (by decide) ?_ rfl
      clear hf; intro a hf
      refine st_skip hf (wantN hf rfl rfl hb145) rfl (by decide) ?_ rfl
      clear hf; intro a hf
      obtain rfl := Option.some.inj hz144
      refine st_pick (v := .bool true) hf rfl rfl (fun hb' => ?_) (fun hb' => ?_) (by decide) ?_
      · rfl
      · exact absurd (hb145.symm.trans hb') (by decide)
      clear hf; intro a ha hf; clear ha
      refine st_nil hf (th_n ?_)
      exact ⟨hf.sub ⟨rfl, rfl, trivial⟩, hp⟩
    replace hz144 := ifF hz144 hb145
    refine st_move hf (wantY hf rfl rfl hb145) rfl (by decide) ?_
    clear hf; intro a ha hf; clear ha
    obtain ⟨hc147, hz144⟩ := chk hz144
    have hc148 : ((6 : Int)).toNat ≤ q133.1.length := by omega
    have hc149 : q133.1.length ≤ q133.1.length := by omega
    refine st_cutS (E := Ek.bool) hf (by decide) Try.underlying25 elt4 (wantY hf rfl rfl hb145) rfl (hp.sl (i := 2) rfl) (.inr ⟨_, _, rfl, evI rfl hc147.1⟩) (.inl ⟨rfl, rfl⟩) hc148 hc149 ?_
    clear hf; intro a ha hf; clear ha
    refine st_move hf (wantY hf rfl rfl hb145) rfl (by decide) ?_
    clear hf; intro a ha hf; clear ha
    obtain ⟨q150, hcall151, hz144⟩ := bnd hz144
    obtain ⟨S152, hp153, rd154, up155, bk156⟩ := Hp.lendS hp (i := 2) rfl
    obtain ⟨S157, hp158, rd159, up160, bk161⟩ := Hp.lendS hp153 (i := 7) rfl
    refine st_call hf (by decide) Try.func21 rfl rfl (wantY hf rfl rfl hb145) rfl rfl (f_foghornlaw21_same_c hp158 _ _ (RdS.cut ((rd154.now hp153).mono up160) hc148 hc149) _ _ rd159 hcall151) ?_
    rintro _ w ⟨rfl, hp0⟩
    have hp0 := bk161 _ _ hp0
    have hp0 := bk156 _ _ hp0
    clear hp; have hp := hp0; clear hp0
    replace hp : Hp _ _ _ (Res.sl Ek.bool 4 v140 q133.1 :: Res.sl Ek.bool 4 v33 q26.1 :: Res.obj 34 v5 [.int .i64 q3.1, .int .u32 q3.2.1, .int .u32 q3.2.2] :: Res.sl Ek.bool 4 v132 ([false, false, false] ++ (x0_B.take (List.replicate ((((x0_A.drop 0).take (((imin (x0_A.length : Int) (100 : Int))).toNat - 0)).length : Int)).toNat false).length ++ (List.replicate ((((x0_A.drop 0).take (((imin (x0_A.length : Int) (100 : Int))).toNat - 0)).length : Int)).toNat false).drop x0_B.length)) :: Res.sl Ek.bool 4 v24 (q22.1.set ((((IntKind.i64.wrap x0_At)).tmod (q22.1.length : Int))).toNat (!(gt q22.1 (((IntKind.i64.wrap x0_At)).tmod (q22.1.length : Int))))) :: Res.sl Ek.bool 4 v119 q112.1 :: Res.sl Ek.bool 4 v68 q56.1 :: Res.sl Ek.bool 4 v42 q35.1 :: Res.sl Ek.bool 4 v77 q70.1 :: Res.sl Ek.bool 4 v20 q13.1 :: Res.sl Ek.bool 4 v11 (x0_B.take (List.replicate ((((x0_A.drop 0).take (((imin (x0_A.length : Int) (100 : Int))).toNat - 0)).length : Int)).toNat false).length ++ (List.replicate ((((x0_A.drop 0).take (((imin (x0_A.length : Int) (100 : Int))).toNat - 0)).length : Int)).toNat false).drop x0_B.length) :: Res.obj 33 v1 [.int .u8 x0_Length, .int .u32 x0_One, .int .u32 x0_Two, .bool x0_Second, vx0_A, vx0_B, .int .u16 x0_At] :: ow) := hp
    refine ⟨_, rfl, ?_⟩
    clear hf; intro a hf
    refine st_not hf (by decide) (wantY hf rfl rfl hb145) rfl ?_
    clear hf; intro a ha hf; clear ha
    obtain rfl := Option.some.inj hz144
    refine st_pick (v := .bool (!q150)) hf rfl rfl (fun hb' => ?_) (fun hb' => ?_) (by decide) ?_
    · exact absurd (hb145.symm.trans hb') (by decide)
    · rfl
    clear hf; intro a ha hf; clear ha
    refine st_nil hf (th_n ?_)
    have hp : Hp _ _ _ (Res.obj 34 v5 [.int .i64 q3.1, .int .u32 q3.2.1, .int .u32 q3.2.2] :: Res.sl Ek.bool 4 v132 ([false, false, false] ++ (x0_B.take (List.replicate ((((x0_A.drop 0).take (((imin (x0_A.length : Int) (100 : Int))).toNat - 0)).length : Int)).toNat false).length ++ (List.replicate ((((x0_A.drop 0).take (((imin (x0_A.length : Int) (100 : Int))).toNat - 0)).length : Int)).toNat false).drop x0_B.length)) :: Res.sl Ek.bool 4 v140 q133.1 :: Res.sl Ek.bool 4 v24 (q22.1.set ((((IntKind.i64.wrap x0_At)).tmod (q22.1.length : Int))).toNat (!(gt q22.1 (((IntKind.i64.wrap x0_At)).tmod (q22.1.length : Int))))) :: Res.sl Ek.bool 4 v119 q112.1 :: Res.sl Ek.bool 4 v68 q56.1 :: Res.sl Ek.bool 4 v42 q35.1 :: Res.sl Ek.bool 4 v77 q70.1 :: Res.sl Ek.bool 4 v33 q26.1 :: Res.sl Ek.bool 4 v20 q13.1 :: Res.sl Ek.bool 4 v11 (x0_B.take (List.replicate ((((x0_A.drop 0).take (((imin (x0_A.length : Int) (100 : Int))).toNat - 0)).length : Int)).toNat false).length ++ (List.replicate ((((x0_A.drop 0).take (((imin (x0_A.length : Int) (100 : Int))).toNat - 0)).length : Int)).toNat false).drop x0_B.length) :: Res.obj 33 v1 [.int .u8 x0_Length, .int .u32 x0_One, .int .u32 x0_Two, .bool x0_Second, vx0_A, vx0_B, .int .u16 x0_At] :: ow) := Hp.sel (pre := [Res.sl Ek.bool 4 v140 q133.1, Res.sl Ek.bool 4 v33 q26.1, Res.obj 34 v5 [.int .i64 q3.1, .int .u32 q3.2.1, .int .u32 q3.2.2], Res.sl Ek.bool 4 v132 ([false, false, false] ++ (x0_B.take (List.replicate ((((x0_A.drop 0).take (((imin (x0_A.length : Int) (100 : Int))).toNat - 0)).length : Int)).toNat false).length ++ (List.replicate ((((x0_A.drop 0).take (((imin (x0_A.length : Int) (100 : Int))).toNat - 0)).length : Int)).toNat false).drop x0_B.length)), Res.sl Ek.bool 4 v24 (q22.1.set ((((IntKind.i64.wrap x0_At)).tmod (q22.1.length : Int))).toNat (!(gt q22.1 (((IntKind.i64.wrap x0_At)).tmod (q22.1.length : Int))))), Res.sl Ek.bool 4 v119 q112.1, Res.sl Ek.bool 4 v68 q56.1, Res.sl Ek.bool 4 v42 q35.1, Res.sl Ek.bool 4 v77 q70.1, Res.sl Ek.bool 4 v20 q13.1, Res.sl Ek.bool 4 v11 (x0_B.take (List.replicate ((((x0_A.drop 0).take (((imin (x0_A.length : Int) (100 : Int))).toNat - 0)).length : Int)).toNat false).length ++ (List.replicate ((((x0_A.drop 0).take (((imin (x0_A.length : Int) (100 : Int))).toNat - 0)).length : Int)).toNat false).drop x0_B.length), Res.obj 33 v1 [.int .u8 x0_Length, .int .u32 x0_One, .int .u32 x0_Two, .bool x0_Second, vx0_A, vx0_B, .int .u16 x0_At]]) (tail := ow) (rs' := [Res.obj 34 v5 [.int .i64 q3.1, .int .u32 q3.2.1, .int .u32 q3.2.2], Res.sl Ek.bool 4 v132 ([false, false, false] ++ (x0_B.take (List.replicate ((((x0_A.drop 0).take (((imin (x0_A.length : Int) (100 : Int))).toNat - 0)).length : Int)).toNat false).length ++ (List.replicate ((((x0_A.drop 0).take (((imin (x0_A.length : Int) (100 : Int))).toNat - 0)).length : Int)).toNat false).drop x0_B.length)), Res.sl Ek.bool 4 v140 q133.1, Res.sl Ek.bool 4 v24 (q22.1.set ((((IntKind.i64.wrap x0_At)).tmod (q22.1.length : Int))).toNat (!(gt q22.1 (((IntKind.i64.wrap x0_At)).tmod (q22.1.length : Int))))), Res.sl Ek.bool 4 v119 q112.1, Res.sl Ek.bool 4 v68 q56.1, Res.sl Ek.bool 4 v42 q35.1, Res.sl Ek.bool 4 v77 q70.1, Res.sl Ek.bool 4 v33 q26.1, Res.sl Ek.bool 4 v20 q13.1, Res.sl Ek.bool 4 v11 (x0_B.take (List.replicate ((((x0_A.drop 0).take (((imin (x0_A.length : Int) (100 : Int))).toNat - 0)).length : Int)).toNat false).length ++ (List.replicate ((((x0_A.drop 0).take (((imin (x0_A.length : Int) (100 : Int))).toNat - 0)).length : Int)).toNat false).drop x0_B.length), Res.obj 33 v1 [.int .u8 x0_Length, .int .u32 x0_One, .int .u32 x0_Two, .bool x0_Second, vx0_A, vx0_B, .int .u16 x0_At]]) hp [2, 3, 0, 4, 5, 6, 7, 8, 1, 9, 10, 11] (by decide) (by simp) rfl
    exact ⟨hf.sub ⟨rfl, rfl, trivial⟩, hp⟩
  rintro a w ⟨hf, hp⟩
  refine st_nil hf ?_
  refine th_n ?_
  refine wp_if hf rfl (fun hb => ?_) (fun hb => ?_)
  · replace h := ifT h hb
    refine wp_seq ?_
    refine wp_reg ?_
    refine st_assign hf rfl rfl (by decide) ?_
    clear hf; intro a ha hf; clear ha
    refine st_nil hf ?_
    refine th_n ?_
    refine wp_ret ?_
    refine th_r ?_
    obtain rfl := Option.some.inj h
    have hp : Hp _ _ _ (ow) := Hp.sel (pre := [Res.obj 34 v5 [.int .i64 q3.1, .int .u32 q3.2.1, .int .u32 q3.2.2], Res.sl Ek.bool 4 v132 ([false, false, false] ++ (x0_B.take (List.replicate ((((x0_A.drop 0).take (((imin (x0_A.length : Int) (100 : Int))).toNat - 0)).length : Int)).toNat false).length ++ (List.replicate ((((x0_A.drop 0).take (((imin (x0_A.length : Int) (100 : Int))).toNat - 0)).length : Int)).toNat false).drop x0_B.length)), Res.sl Ek.bool 4 v140 q133.1, Res.sl Ek.bool 4 v24 (q22.1.set ((((IntKind.i64.wrap x0_At)).tmod (q22.1.length : Int))).toNat (!(gt q22.1 (((IntKind.i64.wrap x0_At)).tmod (q22.1.length : Int))))), Res.sl Ek.bool 4 v119 q112.1, Res.sl Ek.bool 4 v68 q56.1, Res.sl Ek.bool 4 v42 q35.1, Res.sl Ek.bool 4 v77 q70.1, Res.sl Ek.bool 4 v33 q26.1, Res.sl Ek.bool 4 v20 q13.1, Res.sl Ek.bool 4 v11 (x0_B.take (List.replicate ((((x0_A.drop 0).take (((imin (x0_A.length : Int) (100 : Int))).toNat - 0)).length : Int)).toNat false).length ++ (List.replicate ((((x0_A.drop 0).take (((imin (x0_A.length : Int) (100 : Int))).toNat - 0)).length : Int)).toNat false).drop x0_B.length), Res.obj 33 v1 [.int .u8 x0_Length, .int .u32 x0_One, .int .u32 x0_Two, .bool x0_Second, vx0_A, vx0_B, .int .u16 x0_At]]) (tail := ow) (rs' := []) hp [] (by decide) (by simp) rfl
    exact ⟨rfl, ⟨hf.sub ⟨rfl, trivial⟩, hp⟩⟩
  replace h := ifF h hb
  refine wp_skip ?_
  refine th_n ?_
  refine wp_seq ?_
  refine wp_seq ?_
  refine wp_reg ?_
  refine st_assign hf rfl rfl (by decide) ?_
  clear hf; intro a ha hf; clear ha
  refine st_nil hf ?_
  refine th_n ?_
  refine wp_block ?_
  obtain ⟨q163, hl, h⟩ := bnd h
  have hp : Hp _ _ _ (Res.sl Ek.bool 4 v140 q133.1 :: ow) := Hp.sel (pre := [Res.obj 34 v5 [.int .i64 q3.1, .int .u32 q3.2.1, .int .u32 q3.2.2], Res.sl Ek.bool 4 v132 ([false, false, false] ++ (x0_B.take (List.replicate ((((x0_A.drop 0).take (((imin (x0_A.length : Int) (100 : Int))).toNat - 0)).length : Int)).toNat false).length ++ (List.replicate ((((x0_A.drop 0).take (((imin (x0_A.length : Int) (100 : Int))).toNat - 0)).length : Int)).toNat false).drop x0_B.length)), Res.sl Ek.bool 4 v140 q133.1, Res.sl Ek.bool 4 v24 (q22.1.set ((((IntKind.i64.wrap x0_At)).tmod (q22.1.length : Int))).toNat (!(gt q22.1 (((IntKind.i64.wrap x0_At)).tmod (q22.1.length : Int))))), Res.sl Ek.bool 4 v119 q112.1, Res.sl Ek.bool 4 v68 q56.1, Res.sl Ek.bool 4 v42 q35.1, Res.sl Ek.bool 4 v77 q70.1, Res.sl Ek.bool 4 v33 q26.1, Res.sl Ek.bool 4 v20 q13.1, Res.sl Ek.bool 4 v11 (x0_B.take (List.replicate ((((x0_A.drop 0).take (((imin (x0_A.length : Int) (100 : Int))).toNat - 0)).length : Int)).toNat false).length ++ (List.replicate ((((x0_A.drop 0).take (((imin (x0_A.length : Int) (100 : Int))).toNat - 0)).length : Int)).toNat false).drop x0_B.length), Res.obj 33 v1 [.int .u8 x0_Length, .int .u32 x0_One, .int .u32 x0_Two, .bool x0_Second, vx0_A, vx0_B, .int .u16 x0_At]]) (tail := ow) (rs' := [Res.sl Ek.bool 4 v140 q133.1]) hp [2] (by decide) (by simp) rfl
  refine wp_loop_pure (f := (f_foghornlaw21_TrellisLinear.s1 q133)) (s := (0 : Int)) (fun s a w => Fr 210 a [(23, v140), (25, .int .i64 s)] ∧ Hp S w0 w (Res.sl Ek.bool 4 v140 q133.1 :: ow)) (fun q e a w => match q with | (Sum.inl q) => e = .exit 0 ∧ Fr 210 a [] ∧ Hp S w0 w (ow) | (Sum.inr q) => e = .ret ∧ Fr 210 a [(2, .bool q)] ∧ Hp S w0 w (ow)) ?_ hl ⟨hf.sub ⟨rfl, rfl, trivial⟩, hp⟩ ?_
  · clear hl hf hp
    intro s x a w h hI
    obtain ⟨q25, hs⟩ : ∃ z, z = s := ⟨s, rfl⟩; subst hs
    obtain ⟨hf, hp⟩ : Fr 210 a [(23, v140), (25, .int .i64 q25)] ∧ Hp S w0 w (Res.sl Ek.bool 4 v140 q133.1 :: ow) := hI
    replace h : f_foghornlaw21_TrellisLinear.s1c q133 q25 = some x := h
    unfold f_foghornlaw21_TrellisLinear.s1c at h
    refine wp_seq ?_
    refine wp_seq ?_
    refine wp_reg ?_
    refine st_move hf rfl rfl (by decide) ?_
    clear hf; intro a ha hf; clear ha
    refine st_ilss hf (by decide) rfl rfl rfl ?_
    clear hf; intro a ha hf; clear ha
    refine st_nil hf ?_
    refine th_n ?_
    refine wp_if hf rfl (fun hb => ?_) (fun hb => ?_)
    · replace h := ifT h hb
      refine wp_skip ?_
      refine th_n ?_
      refine wp_seq ?_
      refine wp_block ?_
      refine wp_seq ?_
      refine wp_reg ?_
      refine st_move hf rfl rfl (by decide) ?_
      clear hf; intro a ha hf; clear ha
      refine st_move hf rfl rfl (by decide) ?_
      clear hf; intro a ha hf; clear ha
      obtain ⟨hc162, h⟩ := chk h
      refine st_index (E := Ek.bool) hf (by decide) Try.underlying25 elt4 rfl rfl rfl (hp.sl (i := 0) rfl) hc162.1 hc162.2 ?_
      clear hf; intro a ha hf; clear ha
      refine st_ldB hf (by decide) pl4 rfl rfl (hp.sl (i := 0) rfl) hc162.1 hc162.2 ?_
      clear hf; intro a ha hf; clear ha
      refine st_nil hf ?_
      refine th_n ?_
      refine wp_if hf rfl (fun hb => ?_) (fun hb => ?_)
      · replace h := ifT h hb
        refine wp_seq ?_
        refine wp_reg ?_
        refine st_assign hf rfl rfl (by decide) ?_
        clear hf; intro a ha hf; clear ha
        refine st_nil hf ?_
        refine th_n ?_
        refine wp_ret ?_
        refine ib_r ?_
        refine th_r ?_
        obtain rfl := Option.some.inj h
        have hp : Hp _ _ _ (ow) := Hp.sel (pre := [Res.sl Ek.bool 4 v140 q133.1]) (tail := ow) (rs' := []) hp [] (by decide) (by simp) rfl
        exact rnd_r (by simp) ⟨rfl, ⟨hf.sub ⟨rfl, trivial⟩, hp⟩⟩
      replace h := ifF h hb
      refine wp_skip ?_
      refine ib_n ?_
      refine th_n ?_
      refine wp_reg ?_
      refine st_move hf rfl rfl (by decide) ?_
      clear hf; intro a ha hf; clear ha
      refine st_iadd hf (by decide) rfl rfl rfl ?_
      clear hf; intro a ha hf; clear ha
      refine st_assign hf rfl rfl (by decide) ?_
      clear hf; intro a ha hf; clear ha
      refine st_nil hf ?_
      obtain rfl := Option.some.inj h
      exact rnd_l ⟨hf.sub ⟨rfl, rfl, trivial⟩, hp⟩
    replace h := ifF h hb
    refine wp_exit ?_
    refine th_e ?_
    obtain rfl := Option.some.inj h
    have hp : Hp _ _ _ (ow) := Hp.sel (pre := [Res.sl Ek.bool 4 v140 q133.1]) (tail := ow) (rs' := []) hp [] (by decide) (by simp) rfl
    exact rnd_r (by simp) ⟨rfl, hf.sub trivial, hp⟩
  clear hl hf hp
  intro e a w hne hO
  rcases q163 with q164 | q165
  · replace h := smL h
    obtain ⟨rfl, hf, hp⟩ := hO
    refine ib_same ?_
    refine th_n ?_
    refine wp_seq ?_
    refine wp_reg ?_
    obtain ⟨q166, hcall167, h⟩ := bnd h
    refine st_call hf (by decide) Try.func11 rfl rfl rfl rfl rfl (f_foghornlaw21_awake_c hp  hcall167) ?_
    rintro _ w ⟨rfl, hp0⟩
    clear hp; have hp := hp0; clear hp0
    replace hp : Hp _ _ _ (ow) := hp
    refine ⟨_, rfl, ?_⟩
    clear hf; intro a hf
    refine st_assign hf rfl rfl (by decide) ?_
    clear hf; intro a ha hf; clear ha
    refine st_nil hf ?_
    refine th_n ?_
    refine wp_ret ?_
    obtain rfl := Option.some.inj h
    exact ⟨rfl, ⟨hf.sub ⟨rfl, trivial⟩, hp⟩⟩
  replace h := smR h
  obtain ⟨rfl, hf, hp⟩ := hO
  refine ib_r ?_
  refine th_r ?_
  obtain rfl := Option.some.inj h
  exact ⟨rfl, ⟨hf.sub ⟨rfl, trivial⟩, hp⟩⟩

end Go.Proofs.Ytilodendgbjelaa
