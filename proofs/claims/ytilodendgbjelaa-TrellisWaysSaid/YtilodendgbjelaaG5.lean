/- The functions foghorn foghornlaw21.TrellisWays: what each answers, as a plain function, and that its call answers it; printed by gen.py. -/
import Derived.Test.YtilodendgbjelaaProg
import Derived.Test.YtilodendgbjelaaGlX
import Derived.KernelRfl
import Derived.Test.YtilodendgbjelaaG5p1
set_option linter.unusedVariables false
set_option linter.unusedSimpArgs false
set_option maxRecDepth 100000
set_option maxHeartbeats 4000000
namespace Go.Proofs.Ytilodendgbjelaa
open GL
noncomputable def f_trellis_Code_through_36.s1c (c0_Length : Int) (l1 : (List Bool)) (t6000_Length : Int) (t6000_One : Int) (t6000_Two : Int) (tell3_0c : (List Int)) (state10 : Int) (t33 : Int) : Option (((List Int) × Int × Int) ⊕ (List Int)) := (if (decide (t33 < (IntKind.i64.wrap ((IntKind.i64.wrap ((l1.length : Int) + c0_Length)) - (1 : Int))))) = true then ((if (decide (t33 < (l1.length : Int))) = true then (if 0 ≤ t33 ∧ t33 < (l1.length : Int) then (some (gt l1 t33)) else none) else (some false)).bind fun z15 => ((f_trellis_Code_step t6000_Length t6000_One t6000_Two state10 z15).bind fun q17 => ((f_trellis_Code_Walk_1 q17.1 q17.2.1 q17.2.2 tell3_0c).bind fun q19 => (some (Sum.inl (q19, q17.1, (IntKind.i64.wrap (t33 + (1 : Int))))))))) else (some (Sum.inr tell3_0c)))
noncomputable def f_trellis_Code_through_36.s1 (c0_Length : Int) (l1 : (List Bool)) (t6000_Length : Int) (t6000_One : Int) (t6000_Two : Int) (s : ((List Int) × Int × Int)) : Option (((List Int) × Int × Int) ⊕ (List Int)) := f_trellis_Code_through_36.s1c c0_Length l1 t6000_Length t6000_One t6000_Two s.1 s.2.1 s.2.2
noncomputable def f_trellis_Code_through_36 (c0_Length : Int) (c0_One : Int) (c0_Two : Int) (l1 : (List Bool)) (t6000_Length : Int) (t6000_One : Int) (t6000_Two : Int) (t4000 : (List Int)) : Option (Int × (List Int)) := ((f_trellis_Code_Check c0_Length c0_One c0_Two).bind fun q5 => (if (q5 != (0 : Int)) = true then (some (q5, t4000)) else (if (decide ((16384 : Int) < (IntKind.i64.wrap ((IntKind.i64.wrap ((l1.length : Int) + c0_Length)) - (1 : Int))))) = true then (some ((1 : Int), t4000)) else ((loop (f_trellis_Code_through_36.s1 c0_Length l1 t6000_Length t6000_One t6000_Two) (t4000, (0 : Int), (0 : Int))).bind (fun q24 => (some ((0 : Int), q24)))))))
theorem f_trellis_Code_through_36_c {S : Nat → Prop} {w0 w : World} {ow : List Res} (c0_Length : Int) (c0_One : Int) (c0_Two : Int) (vl1 : Value) (l1 : (List Bool)) (hl1 : RdS Ek.bool S w0 vl1 l1) (t6000_Length : Int) (t6000_One : Int) (t6000_Two : Int) (vt4000 : Value) (t4000 : (List Int)) (ot4000 : Value) (hp : Hp S w0 w (Res.sl (Ek.int .i64) 3 vt4000 t4000 :: Res.obj 39 ot4000 [vt4000] :: ow)) {r : (Int × (List Int))} (h : f_trellis_Code_through_36 c0_Length c0_One c0_Two l1 t6000_Length t6000_One t6000_Two t4000 = some r) :
    Calls Try.prog 36 #[.agg #[.int .i64 c0_Length, .int .u32 c0_One, .int .u32 c0_Two], vl1, .func (.func 37) #[.agg #[.int .i64 t6000_Length, .int .u32 t6000_One, .int .u32 t6000_Two]] #[], .func (.func 39) #[] #[optr ot4000 0]] w (fun e w' => ∃ (u0 : Value), e = .returned (.int .i64 r.1) ∧ Hp S w0 w' (Res.sl (Ek.int .i64) 3 u0 r.2 :: Res.obj 39 ot4000 [u0] :: ow)) := by
  unfold f_trellis_Code_through_36 at h
  refine enter (n := 60) (args := [.agg #[.int .i64 c0_Length, .int .u32 c0_One, .int .u32 c0_Two], vl1, .func (.func 37) #[.agg #[.int .i64 t6000_Length, .int .u32 t6000_One, .int .u32 t6000_Two]] #[], .func (.func 39) #[] #[optr ot4000 0]]) Try.func36 rfl rfl (Nat.le_of_ble_eq_true rfl) fun a hf => ?_
  replace hf : Fr 60 a [(0, .agg #[.int .i64 c0_Length, .int .u32 c0_One, .int .u32 c0_Two]), (1, vl1), (2, .func (.func 37) #[.agg #[.int .i64 t6000_Length, .int .u32 t6000_One, .int .u32 t6000_Two]] #[]), (3, .func (.func 39) #[] #[optr ot4000 0])] := hf
  refine wp_mono (Q := fun e a w => e = .ret ∧ ∃ (u0 : Value), Fr 60 a [(8, .int .i64 r.1)] ∧ Hp S w0 w (Res.sl (Ek.int .i64) 3 u0 r.2 :: Res.obj 39 ot4000 [u0] :: ow)) ?_ ?_
  rotate_left
  · rintro e a w ⟨rfl, x0, hf, hp⟩
    exact ret1 hf rfl rfl ⟨x0, rfl, hp⟩
  refine wp_seq ?_
  refine wp_reg ?_
  refine st_boxO (cs := [.int .i64 c0_Length, .int .u32 c0_One, .int .u32 c0_Two]) hf (by decide) hp rfl rfl rfl ?_
  clear hf; intro a w v3 hf hp0; clear hp; have hp := hp0; clear hp0
  replace hp : Hp _ _ _ (Res.obj 34 v3 [.int .i64 c0_Length, .int .u32 c0_One, .int .u32 c0_Two] :: Res.sl (Ek.int .i64) 3 vt4000 t4000 :: Res.obj 39 ot4000 [vt4000] :: ow) := hp
  refine st_assign hf rfl rfl (by decide) ?_
  clear hf; intro a ha hf; clear ha
  refine st_nil hf ?_
  refine th_n ?_
  refine wp_seq ?_
  refine wp_seq ?_
  refine wp_reg ?_
  refine st_ldOA (m := 3) (us := [.int .i64 c0_Length, .int .u32 c0_One, .int .u32 c0_Two]) hf (by decide) (by kernel_rfl) rfl rfl (hp.ob (i := 0) rfl) rfl rfl ?_
  clear hf; intro a ha hf; clear ha
  obtain ⟨q5, hcall6, h⟩ := bnd h
  refine st_call hf (by decide) Try.func26 rfl rfl rfl rfl rfl (f_trellis_Code_Check_c hp _ _ _ hcall6) ?_
  rintro _ w ⟨rfl, hp0⟩
  clear hp; have hp := hp0; clear hp0
  replace hp : Hp _ _ _ (Res.obj 34 v3 [.int .i64 c0_Length, .int .u32 c0_One, .int .u32 c0_Two] :: Res.sl (Ek.int .i64) 3 vt4000 t4000 :: Res.obj 39 ot4000 [vt4000] :: ow) := hp
  refine ⟨_, rfl, ?_⟩
  clear hf; intro a hf
  refine st_assign hf rfl rfl (by decide) ?_
  clear hf; intro a ha hf; clear ha
  refine st_nil hf ?_
  refine th_n ?_
  refine wp_seq ?_
  refine wp_reg ?_
  refine st_move hf rfl rfl (by decide) ?_
  clear hf; intro a ha hf; clear ha
  refine st_ineq hf (by decide) rfl rfl rfl ?_
  clear hf; intro a ha hf; clear ha
  refine st_nil hf ?_
  refine th_n ?_
  refine wp_if hf rfl (fun hb => ?_) (fun hb => ?_)
  · replace h := ifT h hb
    refine wp_seq ?_
    refine wp_reg ?_
    refine st_move hf rfl rfl (by decide) ?_
    clear hf; intro a ha hf; clear ha
    refine st_assign hf rfl rfl (by decide) ?_
    clear hf; intro a ha hf; clear ha
    refine st_nil hf ?_
    refine th_n ?_
    refine wp_ret ?_
    refine th_r ?_
    obtain rfl := Option.some.inj h
    have hp : Hp _ _ _ (Res.sl (Ek.int .i64) 3 vt4000 t4000 :: Res.obj 39 ot4000 [vt4000] :: ow) := Hp.sel (pre := [Res.obj 34 v3 [.int .i64 c0_Length, .int .u32 c0_One, .int .u32 c0_Two], Res.sl (Ek.int .i64) 3 vt4000 t4000, Res.obj 39 ot4000 [vt4000]]) (tail := ow) (rs' := [Res.sl (Ek.int .i64) 3 vt4000 t4000, Res.obj 39 ot4000 [vt4000]]) hp [1, 2] (by decide) (by simp) rfl
    exact ⟨rfl, ⟨_, hf.sub ⟨rfl, trivial⟩, hp⟩⟩
  replace h := ifF h hb
  refine wp_skip ?_
  refine th_n ?_
  refine wp_seq ?_
  refine wp_seq ?_
  refine wp_reg ?_
  refine st_move hf rfl rfl (by decide) ?_
  clear hf; intro a ha hf; clear ha
  refine st_len (E := Ek.bool) hf (by decide) Try.underlying25 rfl rfl (hl1.sl hp) ?_
  clear hf; intro a ha hf; clear ha
  refine st_fa (o' := 0) hf (by decide) (off := 0) (sz := 1) (by kernel_rfl) (by decide) rfl rfl (hp.ob (i := 0) rfl) rfl ?_
  clear hf; intro a ha hf; clear ha
  refine st_ldO (u := .int .i64 c0_Length) hf (by decide) pl3 rfl rfl (hp.ob (i := 0) rfl) rfl ?_
  clear hf; intro a ha hf; clear ha
  refine st_iadd hf (by decide) rfl rfl rfl ?_
  clear hf; intro a ha hf; clear ha
  refine st_isub hf (by decide) rfl rfl rfl ?_
  clear hf; intro a ha hf; clear ha
  refine st_igtr hf (by decide) rfl rfl rfl ?_
  clear hf; intro a ha hf; clear ha
  refine st_nil hf ?_
  refine th_n ?_
  refine wp_if hf rfl (fun hb => ?_) (fun hb => ?_)
  · replace h := ifT h hb
    refine wp_seq ?_
    refine wp_reg ?_
    refine st_assign hf rfl rfl (by decide) ?_
    clear hf; intro a ha hf; clear ha
    refine st_nil hf ?_
    refine th_n ?_
    refine wp_ret ?_
    refine th_r ?_
    obtain rfl := Option.some.inj h
    have hp : Hp _ _ _ (Res.sl (Ek.int .i64) 3 vt4000 t4000 :: Res.obj 39 ot4000 [vt4000] :: ow) := Hp.sel (pre := [Res.obj 34 v3 [.int .i64 c0_Length, .int .u32 c0_One, .int .u32 c0_Two], Res.sl (Ek.int .i64) 3 vt4000 t4000, Res.obj 39 ot4000 [vt4000]]) (tail := ow) (rs' := [Res.sl (Ek.int .i64) 3 vt4000 t4000, Res.obj 39 ot4000 [vt4000]]) hp [1, 2] (by decide) (by simp) rfl
    exact ⟨rfl, ⟨_, hf.sub ⟨rfl, trivial⟩, hp⟩⟩
  replace h := ifF h hb
  refine wp_skip ?_
  refine th_n ?_
  refine wp_seq ?_
  refine wp_reg ?_
  refine st_assign hf rfl rfl (by decide) ?_
  clear hf; intro a ha hf; clear ha
  refine st_nil hf ?_
  refine th_n ?_
  refine wp_seq ?_
  refine wp_seq ?_
  refine wp_reg ?_
  refine st_move hf rfl rfl (by decide) ?_
  clear hf; intro a ha hf; clear ha
  refine st_len (E := Ek.bool) hf (by decide) Try.underlying25 rfl rfl (hl1.sl hp) ?_
  clear hf; intro a ha hf; clear ha
  refine st_fa (o' := 0) hf (by decide) (off := 0) (sz := 1) (by kernel_rfl) (by decide) rfl rfl (hp.ob (i := 0) rfl) rfl ?_
  clear hf; intro a ha hf; clear ha
  refine st_ldO (u := .int .i64 c0_Length) hf (by decide) pl3 rfl rfl (hp.ob (i := 0) rfl) rfl ?_
  clear hf; intro a ha hf; clear ha
  refine st_iadd hf (by decide) rfl rfl rfl ?_
  clear hf; intro a ha hf; clear ha
  refine st_isub hf (by decide) rfl rfl rfl ?_
  clear hf; intro a ha hf; clear ha
  refine st_move hf rfl rfl (by decide) ?_
  clear hf; intro a ha hf; clear ha
  refine st_nil hf ?_
  refine th_n ?_
  refine wp_block ?_
  obtain ⟨q24, hl, h⟩ := bnd h
  have hp : Hp _ _ _ (Res.sl (Ek.int .i64) 3 vt4000 t4000 :: Res.obj 39 ot4000 [vt4000] :: ow) := Hp.sel (pre := [Res.obj 34 v3 [.int .i64 c0_Length, .int .u32 c0_One, .int .u32 c0_Two], Res.sl (Ek.int .i64) 3 vt4000 t4000, Res.obj 39 ot4000 [vt4000]]) (tail := ow) (rs' := [Res.sl (Ek.int .i64) 3 vt4000 t4000, Res.obj 39 ot4000 [vt4000]]) hp [1, 2] (by decide) (by simp) rfl
  refine wp_loop_pure (f := (f_trellis_Code_through_36.s1 c0_Length l1 t6000_Length t6000_One t6000_Two)) (s := (t4000, (0 : Int), (0 : Int))) (fun s a w => ∃ (v7 : Value), Fr 60 a [(1, vl1), (2, .func (.func 37) #[.agg #[.int .i64 t6000_Length, .int .u32 t6000_One, .int .u32 t6000_Two]] #[]), (3, .func (.func 39) #[] #[optr ot4000 0]), (10, .int .i64 s.2.1), (32, .int .i64 (IntKind.i64.wrap ((IntKind.i64.wrap ((l1.length : Int) + c0_Length)) - (1 : Int)))), (33, .int .i64 s.2.2)] ∧ Hp S w0 w (Res.sl (Ek.int .i64) 3 v7 s.1 :: Res.obj 39 ot4000 [v7] :: ow)) (fun q e a w => e = .exit 0 ∧ ∃ (v10 : Value), Fr 60 a [(3, .func (.func 39) #[] #[optr ot4000 0])] ∧ Hp S w0 w (Res.sl (Ek.int .i64) 3 v10 q :: Res.obj 39 ot4000 [v10] :: ow)) ?_ hl ⟨_, hf.sub ⟨rfl, rfl, rfl, rfl, rfl, rfl, trivial⟩, hp⟩ ?_
  · clear hl hf hp
    intro s x a w h hI
    obtain ⟨tell3_0c, state10, t33⟩ := s
    obtain ⟨v7, hf, hp⟩ : ∃ (v7 : Value), Fr 60 a [(1, vl1), (2, .func (.func 37) #[.agg #[.int .i64 t6000_Length, .int .u32 t6000_One, .int .u32 t6000_Two]] #[]), (3, .func (.func 39) #[] #[optr ot4000 0]), (10, .int .i64 state10), (32, .int .i64 (IntKind.i64.wrap ((IntKind.i64.wrap ((l1.length : Int) + c0_Length)) - (1 : Int)))), (33, .int .i64 t33)] ∧ Hp S w0 w (Res.sl (Ek.int .i64) 3 v7 tell3_0c :: Res.obj 39 ot4000 [v7] :: ow) := hI
    replace h : f_trellis_Code_through_36.s1c c0_Length l1 t6000_Length t6000_One t6000_Two tell3_0c state10 t33 = some x := h
    unfold f_trellis_Code_through_36.s1c at h
    refine wp_seq ?_
    refine wp_reg ?_
    refine st_ilss hf (by decide) rfl rfl rfl ?_
    clear hf; intro a ha hf; clear ha
    refine st_nil hf ?_
    refine th_n ?_
    refine wp_seq ?_
    refine wp_if hf rfl (fun hb => ?_) (fun hb => ?_)
    · replace h := ifT h hb
      refine wp_skip ?_
      refine th_n ?_
      refine wp_seq ?_
      refine wp_block ?_
      refine wp_seq ?_
      refine wp_reg ?_
      refine st_move hf rfl rfl (by decide) ?_
      clear hf; intro a ha hf; clear ha
      refine st_assign hf rfl rfl (by decide) ?_
      clear hf; intro a ha hf; clear ha
      refine st_nil hf ?_
      refine th_n ?_
      refine wp_seq ?_
      refine wp_reg ?_
      refine st_move hf rfl rfl (by decide) ?_
      clear hf; intro a ha hf; clear ha
      refine st_move hf rfl rfl (by decide) ?_
      clear hf; intro a ha hf; clear ha
      refine st_move hf rfl rfl (by decide) ?_
      clear hf; intro a ha hf; clear ha
      refine st_move hf rfl rfl (by decide) ?_
      clear hf; intro a ha hf; clear ha
      refine st_len (E := Ek.bool) hf (by decide) Try.underlying25 rfl rfl (hl1.sl hp) ?_
      clear hf; intro a ha hf; clear ha
      refine st_ilss hf (by decide) rfl rfl rfl ?_
      clear hf; intro a ha hf; clear ha
      refine st_move hf rfl rfl (by decide) ?_
      clear hf; intro a ha hf; clear ha
      obtain ⟨z15, hz13, h⟩ := bnd h
      refine wpList_cut 5 (fun a w => Fr 60 a [(1, vl1), (2, .func (.func 37) #[.agg #[.int .i64 t6000_Length, .int .u32 t6000_One, .int .u32 t6000_Two]] #[]), (3, .func (.func 39) #[] #[optr ot4000 0]), (32, .int .i64 (IntKind.i64.wrap ((IntKind.i64.wrap ((l1.length : Int) + c0_Length)) - (1 : Int)))), (33, .int .i64 t33), (37, .func (.func 37) #[.agg #[.int .i64 t6000_Length, .int .u32 t6000_One, .int .u32 t6000_Two]] #[]), (38, .int .i64 state10), (48, .bool z15)] ∧ Hp S w0 w (Res.sl (Ek.int .i64) 3 v7 tell3_0c :: Res.obj 39 ot4000 [v7] :: ow)) ?_ ?_
      · rcases Bool.eq_false_or_eq_true (decide (t33 < (l1.length : Int))) with hb14 | hb14
        · skip
          replace hz13 := ifT hz13 hb14
          refine st_move hf (wantY hf rfl rfl hb14) rfl (by decide) ?_
          clear hf; intro a ha hf; clear ha
          refine st_move hf (wantY hf rfl rfl hb14) rfl (by decide) ?_
          clear hf; intro a ha hf; clear ha
          obtain ⟨hc16, hz13⟩ := chk hz13
          refine st_index (E := Ek.bool) hf (by decide) Try.underlying25 elt4 (wantY hf rfl rfl hb14) rfl rfl (hl1.sl hp) hc16.1 hc16.2 ?_
          clear hf; intro a ha hf; clear ha
          refine st_ldB hf (by decide) pl4 (wantY hf rfl rfl hb14) rfl (hl1.sl hp) hc16.1 hc16.2 ?_
          clear hf; intro a ha hf; clear ha
          obtain rfl := Option.some.inj hz13
          refine st_pick (v := .bool (gt l1 t33)) hf rfl rfl (fun hb' => ?_) (fun hb' => ?_) (by decide) ?_
          · rfl
          · exact absurd (hb14.symm.trans hb') (by decide)
          clear hf; intro a ha hf; clear ha
          refine st_nil hf (th_n ?_)
          exact ⟨hf.sub ⟨rfl, rfl, rfl, rfl, rfl, rfl, rfl, rfl, trivial⟩, hp⟩
        replace hz13 := ifF hz13 hb14
        refine st_skip hf (wantN hf rfl rfl hb14) rfl (by decide) ?_ rfl
        clear hf; intro a hf
        refine st_skip hf (wantN hf rfl rfl hb14) rfl (by decide) ?_ rfl
        clear hf; intro a hf
        refine st_skip hf (wantN hf rfl rfl hb14) rfl (by decide) ?_ rfl
        clear hf; intro a hf
        refine st_skip hf (wantN hf rfl rfl hb14) rfl (by decide) ?_ rfl
        clear hf; intro a hf
        obtain rfl := Option.some.inj hz13
        refine st_pick (v := .bool false) hf rfl rfl (fun hb' => ?_) (fun hb' => ?_) (by decide) ?_
        · exact absurd (hb14.symm.trans hb') (by decide)
        · rfl
        clear hf; intro a ha hf; clear ha
        refine st_nil hf (th_n ?_)
        exact ⟨hf.sub ⟨rfl, rfl, rfl, rfl, rfl, rfl, rfl, rfl, trivial⟩, hp⟩
      rintro a w ⟨hf, hp⟩
      obtain ⟨q17, hcall18, h⟩ := bnd h
      refine st_callM hf (by decide) Try.func37 rfl rfl rfl rfl rfl (f_trellis_Code_step_c hp _ _ _ _ _ hcall18) ?_
      rintro _ w ⟨rfl, hp0⟩
      clear hp; have hp := hp0; clear hp0
      replace hp : Hp _ _ _ (Res.sl (Ek.int .i64) 3 v7 tell3_0c :: Res.obj 39 ot4000 [v7] :: ow) := hp
      refine ⟨_, rfl, ?_⟩
      clear hf; intro a hf
      refine st_move hf rfl rfl (by decide) ?_
      clear hf; intro a ha hf; clear ha
      refine st_extract hf (by decide) rfl rfl rfl ?_
      clear hf; intro a ha hf; clear ha
      refine st_extract hf (by decide) rfl rfl rfl ?_
      clear hf; intro a ha hf; clear ha
      refine st_extract hf (by decide) rfl rfl rfl ?_
      clear hf; intro a ha hf; clear ha
      refine st_assign hf rfl rfl (by decide) ?_
      clear hf; intro a ha hf; clear ha
      refine st_assign hf rfl rfl (by decide) ?_
      clear hf; intro a ha hf; clear ha
      refine st_assign hf rfl rfl (by decide) ?_
      clear hf; intro a ha hf; clear ha
      refine st_nil hf ?_
      refine th_n ?_
      refine wp_seq ?_
      refine wp_reg ?_
      refine st_move hf rfl rfl (by decide) ?_
      clear hf; intro a ha hf; clear ha
      refine st_move hf rfl rfl (by decide) ?_
      clear hf; intro a ha hf; clear ha
      refine st_move hf rfl rfl (by decide) ?_
      clear hf; intro a ha hf; clear ha
      refine st_move hf rfl rfl (by decide) ?_
      clear hf; intro a ha hf; clear ha
      obtain ⟨q19, hcall20, h⟩ := bnd h
      have hp21 : Hp _ _ _ (Res.sl (Ek.int .i64) 3 v7 tell3_0c :: Res.obj 39 ot4000 [v7] :: ow) := Hp.sel (pre := [Res.sl (Ek.int .i64) 3 v7 tell3_0c, Res.obj 39 ot4000 [v7]]) (tail := ow) (rs' := [Res.sl (Ek.int .i64) 3 v7 tell3_0c, Res.obj 39 ot4000 [v7]]) hp [0, 1] (by decide) (by simp) rfl
      refine st_call hf (by decide) Try.func39 rfl rfl rfl rfl rfl (f_trellis_Code_Walk_1_c _ _ _ _ _ _ hp21 hcall20) ?_
      rintro _ w ⟨v22, rfl, hp0⟩
      clear hp; have hp := hp0; clear hp0
      replace hp : Hp _ _ _ (Res.sl (Ek.int .i64) 3 v22 q19 :: Res.obj 39 ot4000 [v22] :: ow) := hp
      refine ⟨_, rfl, ?_⟩
      clear hf; intro a hf
      refine st_nil hf ?_
      refine th_n ?_
      refine wp_reg ?_
      refine st_move hf rfl rfl (by decide) ?_
      clear hf; intro a ha hf; clear ha
      refine st_assign hf rfl rfl (by decide) ?_
      clear hf; intro a ha hf; clear ha
      refine st_nil hf ?_
      refine ib_n ?_
      refine th_n ?_
      refine wp_reg ?_
      refine st_iadd hf (by decide) rfl rfl rfl ?_
      clear hf; intro a ha hf; clear ha
      refine st_move hf rfl rfl (by decide) ?_
      clear hf; intro a ha hf; clear ha
      refine st_nil hf ?_
      obtain rfl := Option.some.inj h
      exact rnd_l ⟨_, hf.sub ⟨rfl, rfl, rfl, rfl, rfl, rfl, trivial⟩, hp⟩
    replace h := ifF h hb
    refine wp_exit ?_
    refine th_e ?_
    obtain rfl := Option.some.inj h
    exact rnd_r (by simp) ⟨rfl, _, hf.sub ⟨rfl, trivial⟩, hp⟩
  clear hl hf hp
  intro e a w hne hO
  obtain ⟨rfl, v10, hf, hp⟩ := hO
  refine ib_same ?_
  refine th_n ?_
  refine wp_seq ?_
  refine wp_reg ?_
  refine st_assign hf rfl rfl (by decide) ?_
  clear hf; intro a ha hf; clear ha
  refine st_nil hf ?_
  refine th_n ?_
  refine wp_ret ?_
  obtain rfl := Option.some.inj h
  exact ⟨rfl, ⟨_, hf.sub ⟨rfl, trivial⟩, hp⟩⟩

noncomputable def f_trellis_Code_Walk (c0_Length : Int) (c0_One : Int) (c0_Two : Int) (bits1 : (List Bool)) : Option ((List Int) × Int) := ((f_trellis_Code_through_36 c0_Length c0_One c0_Two bits1 c0_Length c0_One c0_Two ([(0 : Int)])).bind fun q7 => (if (q7.1 != (0 : Int)) = true then (some ([], q7.1)) else (some (q7.2, (0 : Int)))))
theorem f_trellis_Code_Walk_c {S : Nat → Prop} {w0 w : World} {ow : List Res} (hp : Hp S w0 w ow) (c0_Length : Int) (c0_One : Int) (c0_Two : Int) (vbits1 : Value) (bits1 : (List Bool)) (hbits1 : RdS Ek.bool S w0 vbits1 bits1) {r : ((List Int) × Int)} (h : f_trellis_Code_Walk c0_Length c0_One c0_Two bits1 = some r) :
    Calls Try.prog 14 #[.agg #[.int .i64 c0_Length, .int .u32 c0_One, .int .u32 c0_Two], vbits1] w (fun e w' => ∃ (u0 : Value), e = .returned (.tuple #[u0, .int .i64 r.2]) ∧ Hp S w0 w' (Res.sl (Ek.int .i64) 3 u0 r.1 :: ow)) := by
  unfold f_trellis_Code_Walk at h
  refine enter (n := 19) (args := [.agg #[.int .i64 c0_Length, .int .u32 c0_One, .int .u32 c0_Two], vbits1]) Try.func14 rfl rfl (Nat.le_of_ble_eq_true rfl) fun a hf => ?_
  replace hf : Fr 19 a [(0, .agg #[.int .i64 c0_Length, .int .u32 c0_One, .int .u32 c0_Two]), (1, vbits1)] := hf
  refine wp_mono (Q := fun e a w => e = .ret ∧ ∃ (u0 : Value), Fr 19 a [(4, u0), (5, .int .i64 r.2)] ∧ Hp S w0 w (Res.sl (Ek.int .i64) 3 u0 r.1 :: ow)) ?_ ?_
  rotate_left
  · rintro e a w ⟨rfl, x0, hf, hp⟩
    exact ret2 hf rfl rfl rfl ⟨x0, rfl, hp⟩
  refine wp_seq ?_
  refine wp_reg ?_
  refine st_boxO (cs := [.int .i64 c0_Length, .int .u32 c0_One, .int .u32 c0_Two]) hf (by decide) hp rfl rfl rfl ?_
  clear hf; intro a w v1 hf hp0; clear hp; have hp := hp0; clear hp0
  replace hp : Hp _ _ _ (Res.obj 34 v1 [.int .i64 c0_Length, .int .u32 c0_One, .int .u32 c0_Two] :: ow) := hp
  refine st_assign hf rfl rfl (by decide) ?_
  clear hf; intro a ha hf; clear ha
  refine st_assign hf rfl rfl (by decide) ?_
  clear hf; intro a ha hf; clear ha
  refine st_nil hf ?_
  refine th_n ?_
  refine wp_seq ?_
  refine wp_reg ?_
  refine st_build (E := (Ek.int .i64)) (xs := [(0 : Int)]) hf (by decide) elt3 Try.underlying39 hp (vals := #[(0, .int .i64 (0 : Int))]) (cells := #[.int .i64 (0 : Int)]) rfl (by simp [hf.ev (x := (Operand.const (.int .i64 (0 : Int)))) rfl]) (by decide) (by decide) (z := .int .i64 0) (by kernel_rfl) (by kernel_rfl) rfl (reps_cons (cs := [.int .i64 (0 : Int)]) rfl (reps_nil _)) ?_
  clear hf; intro a w v3 hf hp0; clear hp; have hp := hp0; clear hp0
  replace hp : Hp _ _ _ (Res.sl (Ek.int .i64) 3 v3 ([(0 : Int)]) :: Res.obj 34 v1 [.int .i64 c0_Length, .int .u32 c0_One, .int .u32 c0_Two] :: ow) := hp
  refine st_alloc (cs := [.slice none 0 0]) (zv := .slice none 0 0) hf (by decide) (by kernel_rfl) rfl hp rfl ?_
  clear hf; intro a w v5 hf hp0; clear hp; have hp := hp0; clear hp0
  replace hp : Hp _ _ _ (Res.obj 39 v5 [.slice none 0 0] :: Res.sl (Ek.int .i64) 3 v3 ([(0 : Int)]) :: Res.obj 34 v1 [.int .i64 c0_Length, .int .u32 c0_One, .int .u32 c0_Two] :: ow) := hp
  refine st_stO (us := [v3]) hf hp (i := 0) rfl rfl rfl rfl (cells_sh (hp.sl (i := 1) rfl).shapeV) (ones_sh (hp.sl (i := 1) rfl).shapeV) (by kernel_rfl) (Nat.le_of_ble_eq_true rfl) ?_
  clear hf; intro a w hf hp0; clear hp; have hp := hp0; clear hp0
  replace hp : Hp _ _ _ (Res.obj 39 v5 [v3] :: Res.sl (Ek.int .i64) 3 v3 ([(0 : Int)]) :: Res.obj 34 v1 [.int .i64 c0_Length, .int .u32 c0_One, .int .u32 c0_Two] :: ow) := hp
  refine st_nil hf ?_
  refine th_n ?_
  refine wp_seq ?_
  refine wp_seq ?_
  refine wp_reg ?_
  refine st_ldOA (m := 3) (us := [.int .i64 c0_Length, .int .u32 c0_One, .int .u32 c0_Two]) hf (by decide) (by kernel_rfl) rfl rfl (hp.ob (i := 2) rfl) rfl rfl ?_
  clear hf; intro a ha hf; clear ha
  refine st_move hf rfl rfl (by decide) ?_
  clear hf; intro a ha hf; clear ha
  refine st_ldOA (m := 3) (us := [.int .i64 c0_Length, .int .u32 c0_One, .int .u32 c0_Two]) hf (by decide) (by kernel_rfl) rfl rfl (hp.ob (i := 2) rfl) rfl rfl ?_
  clear hf; intro a ha hf; clear ha
  refine st_makeFuncM hf (by decide) rfl rfl ?_
  clear hf; intro a ha hf; clear ha
  refine st_makeFunc1 hf (by decide) rfl rfl ?_
  clear hf; intro a ha hf; clear ha
  obtain ⟨q7, hcall8, h⟩ := bnd h
  have hp9 : Hp _ _ _ (Res.sl (Ek.int .i64) 3 v3 ([(0 : Int)]) :: Res.obj 39 v5 [v3] :: Res.obj 34 v1 [.int .i64 c0_Length, .int .u32 c0_One, .int .u32 c0_Two] :: ow) := Hp.sel (pre := [Res.obj 39 v5 [v3], Res.sl (Ek.int .i64) 3 v3 ([(0 : Int)]), Res.obj 34 v1 [.int .i64 c0_Length, .int .u32 c0_One, .int .u32 c0_Two]]) (tail := ow) (rs' := [Res.sl (Ek.int .i64) 3 v3 ([(0 : Int)]), Res.obj 39 v5 [v3], Res.obj 34 v1 [.int .i64 c0_Length, .int .u32 c0_One, .int .u32 c0_Two]]) hp [1, 0, 2] (by decide) (by simp) rfl
  refine st_call hf (by decide) Try.func36 rfl rfl rfl rfl rfl (f_trellis_Code_through_36_c _ _ _ _ _ hbits1 _ _ _ _ _ _ hp9 hcall8) ?_
  rintro _ w ⟨v10, rfl, hp0⟩
  clear hp; have hp := hp0; clear hp0
  replace hp : Hp _ _ _ (Res.sl (Ek.int .i64) 3 v10 q7.2 :: Res.obj 39 v5 [v10] :: Res.obj 34 v1 [.int .i64 c0_Length, .int .u32 c0_One, .int .u32 c0_Two] :: ow) := hp
  refine ⟨_, rfl, ?_⟩
  clear hf; intro a hf
  refine st_assign hf rfl rfl (by decide) ?_
  clear hf; intro a ha hf; clear ha
  refine st_nil hf ?_
  refine th_n ?_
  refine wp_seq ?_
  refine wp_reg ?_
  refine st_move hf rfl rfl (by decide) ?_
  clear hf; intro a ha hf; clear ha
  refine st_ineq hf (by decide) rfl rfl rfl ?_
  clear hf; intro a ha hf; clear ha
  refine st_nil hf ?_
  refine th_n ?_
  refine wp_if hf rfl (fun hb => ?_) (fun hb => ?_)
  · replace h := ifT h hb
    refine wp_seq ?_
    refine wp_reg ?_
    refine st_move hf rfl rfl (by decide) ?_
    clear hf; intro a ha hf; clear ha
    refine st_assign hf rfl rfl (by decide) ?_
    clear hf; intro a ha hf; clear ha
    refine st_assign hf rfl rfl (by decide) ?_
    clear hf; intro a ha hf; clear ha
    refine st_nil hf ?_
    refine th_n ?_
    refine wp_ret ?_
    refine th_r ?_
    obtain rfl := Option.some.inj h
    have hp := hp.nil (Ek.int .i64) 3
    have hp : Hp _ _ _ (Res.sl (Ek.int .i64) 3 (.slice none 0 0) ([]) :: ow) := Hp.sel (pre := [Res.sl (Ek.int .i64) 3 (.slice none 0 0) ([]), Res.sl (Ek.int .i64) 3 v10 q7.2, Res.obj 39 v5 [v10], Res.obj 34 v1 [.int .i64 c0_Length, .int .u32 c0_One, .int .u32 c0_Two]]) (tail := ow) (rs' := [Res.sl (Ek.int .i64) 3 (.slice none 0 0) ([])]) hp [0] (by decide) (by simp) rfl
    exact ⟨rfl, ⟨_, hf.sub ⟨rfl, rfl, trivial⟩, hp⟩⟩
  replace h := ifF h hb
  refine wp_skip ?_
  refine th_n ?_
  refine wp_seq ?_
  refine wp_reg ?_
  refine st_ldO (u := v10) hf (by decide) pl39 rfl rfl (hp.ob (i := 1) rfl) rfl ?_
  clear hf; intro a ha hf; clear ha
  refine st_assign hf rfl rfl (by decide) ?_
  clear hf; intro a ha hf; clear ha
  refine st_assign hf rfl rfl (by decide) ?_
  clear hf; intro a ha hf; clear ha
  refine st_nil hf ?_
  refine th_n ?_
  refine wp_ret ?_
  obtain rfl := Option.some.inj h
  have hp : Hp _ _ _ (Res.sl (Ek.int .i64) 3 v10 q7.2 :: ow) := Hp.sel (pre := [Res.sl (Ek.int .i64) 3 v10 q7.2, Res.obj 39 v5 [v10], Res.obj 34 v1 [.int .i64 c0_Length, .int .u32 c0_One, .int .u32 c0_Two]]) (tail := ow) (rs' := [Res.sl (Ek.int .i64) 3 v10 q7.2]) hp [0] (by decide) (by simp) rfl
  exact ⟨rfl, ⟨_, hf.sub ⟨rfl, rfl, trivial⟩, hp⟩⟩

noncomputable def f_foghornref21_Walk.s1c (c0_Length : Int) (c0_One : Int) (c0_Two : Int) (q6 : ((List Bool) × Bool)) (out8 : (List Int)) (s9 : Int) (i10 : Int) : Option (((List Int) × Int × Int) ⊕ (List Int)) := (if (decide (i10 < (q6.1.length : Int))) = true then (if 0 ≤ i10 ∧ i10 < (q6.1.length : Int) then ((f_foghornref21_Go c0_Length c0_One c0_Two s9 (gt q6.1 i10)).bind fun q30 => (if (out8.length + ([q30.1]).length) * 8 ≤ 140737488355328 then (some (Sum.inl ((out8 ++ [q30.1]), q30.1, (IntKind.i64.wrap (i10 + (1 : Int)))))) else none)) else none) else (some (Sum.inr out8)))
noncomputable def f_foghornref21_Walk.s1 (c0_Length : Int) (c0_One : Int) (c0_Two : Int) (q6 : ((List Bool) × Bool)) (s : ((List Int) × Int × Int)) : Option (((List Int) × Int × Int) ⊕ (List Int)) := f_foghornref21_Walk.s1c c0_Length c0_One c0_Two q6 s.1 s.2.1 s.2.2
noncomputable def f_foghornref21_Walk (c0_Length : Int) (c0_One : Int) (c0_Two : Int) (bits1 : (List Bool)) : Option ((List Int) × Int) := ((f_foghornref21_May c0_Length c0_One c0_Two).bind fun q3 => (if (!q3) = true then (some ([], (1 : Int))) else ((f_foghornref21_whole c0_Length c0_One c0_Two bits1).bind fun q6 => (if (!q6.2) = true then (some ([], (1 : Int))) else ((loop (f_foghornref21_Walk.s1 c0_Length c0_One c0_Two q6) ([(0 : Int)], (0 : Int), (0 : Int))).bind (fun q36 => (some (q36, (0 : Int)))))))))
theorem f_foghornref21_Walk_c {S : Nat → Prop} {w0 w : World} {ow : List Res} (hp : Hp S w0 w ow) (c0_Length : Int) (c0_One : Int) (c0_Two : Int) (vbits1 : Value) (bits1 : (List Bool)) (hbits1 : RdS Ek.bool S w0 vbits1 bits1) {r : ((List Int) × Int)} (h : f_foghornref21_Walk c0_Length c0_One c0_Two bits1 = some r) :
    Calls Try.prog 34 #[.agg #[.int .i64 c0_Length, .int .u32 c0_One, .int .u32 c0_Two], vbits1] w (fun e w' => ∃ (u0 : Value), e = .returned (.tuple #[u0, .int .i64 r.2]) ∧ Hp S w0 w' (Res.sl (Ek.int .i64) 3 u0 r.1 :: ow)) := by
  unfold f_foghornref21_Walk at h
  refine enter (n := 45) (args := [.agg #[.int .i64 c0_Length, .int .u32 c0_One, .int .u32 c0_Two], vbits1]) Try.func34 rfl rfl (Nat.le_of_ble_eq_true rfl) fun a hf => ?_
  replace hf : Fr 45 a [(0, .agg #[.int .i64 c0_Length, .int .u32 c0_One, .int .u32 c0_Two]), (1, vbits1)] := hf
  refine wp_mono (Q := fun e a w => e = .ret ∧ ∃ (u0 : Value), Fr 45 a [(4, u0), (5, .int .i64 r.2)] ∧ Hp S w0 w (Res.sl (Ek.int .i64) 3 u0 r.1 :: ow)) ?_ ?_
  rotate_left
  · rintro e a w ⟨rfl, x0, hf, hp⟩
    exact ret2 hf rfl rfl rfl ⟨x0, rfl, hp⟩
  refine wp_seq ?_
  refine wp_reg ?_
  refine st_boxO (cs := [.int .i64 c0_Length, .int .u32 c0_One, .int .u32 c0_Two]) hf (by decide) hp rfl rfl rfl ?_
  clear hf; intro a w v1 hf hp0; clear hp; have hp := hp0; clear hp0
  replace hp : Hp _ _ _ (Res.obj 24 v1 [.int .i64 c0_Length, .int .u32 c0_One, .int .u32 c0_Two] :: ow) := hp
  refine st_assign hf rfl rfl (by decide) ?_
  clear hf; intro a ha hf; clear ha
  refine st_assign hf rfl rfl (by decide) ?_
  clear hf; intro a ha hf; clear ha
  refine st_nil hf ?_
  refine th_n ?_
  refine wp_seq ?_
  refine wp_seq ?_
  refine wp_reg ?_
  refine st_ldOA (m := 3) (us := [.int .i64 c0_Length, .int .u32 c0_One, .int .u32 c0_Two]) hf (by decide) (by kernel_rfl) rfl rfl (hp.ob (i := 0) rfl) rfl rfl ?_
  clear hf; intro a ha hf; clear ha
  obtain ⟨q3, hcall4, h⟩ := bnd h
  refine st_call hf (by decide) Try.func43 rfl rfl rfl rfl rfl (f_foghornref21_May_c hp _ _ _ hcall4) ?_
  rintro _ w ⟨rfl, hp0⟩
  clear hp; have hp := hp0; clear hp0
  replace hp : Hp _ _ _ (Res.obj 24 v1 [.int .i64 c0_Length, .int .u32 c0_One, .int .u32 c0_Two] :: ow) := hp
  refine ⟨_, rfl, ?_⟩
  clear hf; intro a hf
  refine st_not hf (by decide) rfl rfl ?_
  clear hf; intro a ha hf; clear ha
  refine st_nil hf ?_
  refine th_n ?_
  refine wp_if hf rfl (fun hb => ?_) (fun hb => ?_)
  · replace h := ifT h hb
    refine wp_seq ?_
    refine wp_reg ?_
    refine st_assign hf rfl rfl (by decide) ?_
    clear hf; intro a ha hf; clear ha
    refine st_assign hf rfl rfl (by decide) ?_
    clear hf; intro a ha hf; clear ha
    refine st_nil hf ?_
    refine th_n ?_
    refine wp_ret ?_
    refine th_r ?_
    obtain rfl := Option.some.inj h
    have hp := hp.nil (Ek.int .i64) 3
    have hp : Hp _ _ _ (Res.sl (Ek.int .i64) 3 (.slice none 0 0) ([]) :: ow) := Hp.sel (pre := [Res.sl (Ek.int .i64) 3 (.slice none 0 0) ([]), Res.obj 24 v1 [.int .i64 c0_Length, .int .u32 c0_One, .int .u32 c0_Two]]) (tail := ow) (rs' := [Res.sl (Ek.int .i64) 3 (.slice none 0 0) ([])]) hp [0] (by decide) (by simp) rfl
    exact ⟨rfl, ⟨_, hf.sub ⟨rfl, rfl, trivial⟩, hp⟩⟩
  replace h := ifF h hb
  refine wp_skip ?_
  refine th_n ?_
  refine wp_seq ?_
  refine wp_reg ?_
  refine st_ldOA (m := 3) (us := [.int .i64 c0_Length, .int .u32 c0_One, .int .u32 c0_Two]) hf (by decide) (by kernel_rfl) rfl rfl (hp.ob (i := 0) rfl) rfl rfl ?_
  clear hf; intro a ha hf; clear ha
  refine st_move hf rfl rfl (by decide) ?_
  clear hf; intro a ha hf; clear ha
  obtain ⟨q6, hcall7, h⟩ := bnd h
  refine st_call hf (by decide) Try.func48 rfl rfl rfl rfl rfl (f_foghornref21_whole_c hp _ _ _ _ _ hbits1 hcall7) ?_
  rintro _ w ⟨v8, rfl, hp0⟩
  clear hp; have hp := hp0; clear hp0
  replace hp : Hp _ _ _ (Res.sl Ek.bool 4 v8 q6.1 :: Res.obj 24 v1 [.int .i64 c0_Length, .int .u32 c0_One, .int .u32 c0_Two] :: ow) := hp
  refine ⟨_, rfl, ?_⟩
  clear hf; intro a hf
  refine st_move hf rfl rfl (by decide) ?_
  clear hf; intro a ha hf; clear ha
  refine st_extract hf (by decide) rfl rfl rfl ?_
  clear hf; intro a ha hf; clear ha
  refine st_extract hf (by decide) rfl rfl rfl ?_
  clear hf; intro a ha hf; clear ha
  refine st_assign hf rfl rfl (by decide) ?_
  clear hf; intro a ha hf; clear ha
  refine st_assign hf rfl rfl (by decide) ?_
  clear hf; intro a ha hf; clear ha
  refine st_nil hf ?_
  refine th_n ?_
  refine wp_seq ?_
  refine wp_seq ?_
  refine wp_reg ?_
  refine st_move hf rfl rfl (by decide) ?_
  clear hf; intro a ha hf; clear ha
  refine st_not hf (by decide) rfl rfl ?_
  clear hf; intro a ha hf; clear ha
  refine st_nil hf ?_
  refine th_n ?_
  refine wp_if hf rfl (fun hb => ?_) (fun hb => ?_)
  · replace h := ifT h hb
    refine wp_seq ?_
    refine wp_reg ?_
    refine st_assign hf rfl rfl (by decide) ?_
    clear hf; intro a ha hf; clear ha
    refine st_assign hf rfl rfl (by decide) ?_
    clear hf; intro a ha hf; clear ha
    refine st_nil hf ?_
    refine th_n ?_
    refine wp_ret ?_
    refine th_r ?_
    obtain rfl := Option.some.inj h
    have hp := hp.nil (Ek.int .i64) 3
    have hp : Hp _ _ _ (Res.sl (Ek.int .i64) 3 (.slice none 0 0) ([]) :: ow) := Hp.sel (pre := [Res.sl (Ek.int .i64) 3 (.slice none 0 0) ([]), Res.sl Ek.bool 4 v8 q6.1, Res.obj 24 v1 [.int .i64 c0_Length, .int .u32 c0_One, .int .u32 c0_Two]]) (tail := ow) (rs' := [Res.sl (Ek.int .i64) 3 (.slice none 0 0) ([])]) hp [0] (by decide) (by simp) rfl
    exact ⟨rfl, ⟨_, hf.sub ⟨rfl, rfl, trivial⟩, hp⟩⟩
  replace h := ifF h hb
  refine wp_skip ?_
  refine th_n ?_
  refine wp_seq ?_
  refine wp_reg ?_
  refine st_build (E := (Ek.int .i64)) (xs := [(0 : Int)]) hf (by decide) elt3 Try.underlying39 hp (vals := #[(0, .int .i64 (0 : Int))]) (cells := #[.int .i64 (0 : Int)]) rfl (by simp [hf.ev (x := (Operand.const (.int .i64 (0 : Int)))) rfl]) (by decide) (by decide) (z := .int .i64 0) (by kernel_rfl) (by kernel_rfl) rfl (reps_cons (cs := [.int .i64 (0 : Int)]) rfl (reps_nil _)) ?_
  clear hf; intro a w v11 hf hp0; clear hp; have hp := hp0; clear hp0
  replace hp : Hp _ _ _ (Res.sl (Ek.int .i64) 3 v11 ([(0 : Int)]) :: Res.sl Ek.bool 4 v8 q6.1 :: Res.obj 24 v1 [.int .i64 c0_Length, .int .u32 c0_One, .int .u32 c0_Two] :: ow) := hp
  refine st_assign hf rfl rfl (by decide) ?_
  clear hf; intro a ha hf; clear ha
  refine st_nil hf ?_
  refine th_n ?_
  refine wp_seq ?_
  refine wp_reg ?_
  refine st_assign hf rfl rfl (by decide) ?_
  clear hf; intro a ha hf; clear ha
  refine st_nil hf ?_
  refine th_n ?_
  refine wp_seq ?_
  refine wp_seq ?_
  refine wp_reg ?_
  refine st_assign hf rfl rfl (by decide) ?_
  clear hf; intro a ha hf; clear ha
  refine st_nil hf ?_
  refine th_n ?_
  refine wp_block ?_
  obtain ⟨q36, hl, h⟩ := bnd h
  have hp : Hp _ _ _ (Res.sl (Ek.int .i64) 3 v11 ([(0 : Int)]) :: Res.obj 24 v1 [.int .i64 c0_Length, .int .u32 c0_One, .int .u32 c0_Two] :: Res.sl Ek.bool 4 v8 q6.1 :: ow) := Hp.sel (pre := [Res.sl (Ek.int .i64) 3 v11 ([(0 : Int)]), Res.sl Ek.bool 4 v8 q6.1, Res.obj 24 v1 [.int .i64 c0_Length, .int .u32 c0_One, .int .u32 c0_Two]]) (tail := ow) (rs' := [Res.sl (Ek.int .i64) 3 v11 ([(0 : Int)]), Res.obj 24 v1 [.int .i64 c0_Length, .int .u32 c0_One, .int .u32 c0_Two], Res.sl Ek.bool 4 v8 q6.1]) hp [0, 2, 1] (by decide) (by simp) rfl
  refine wp_loop_pure (f := (f_foghornref21_Walk.s1 c0_Length c0_One c0_Two q6)) (s := ([(0 : Int)], (0 : Int), (0 : Int))) (fun s a w => ∃ (v13 : Value), Fr 45 a [(2, optr v1 0), (6, v8), (8, v13), (9, .int .i64 s.2.1), (10, .int .i64 s.2.2)] ∧ Hp S w0 w (Res.sl (Ek.int .i64) 3 v13 s.1 :: Res.obj 24 v1 [.int .i64 c0_Length, .int .u32 c0_One, .int .u32 c0_Two] :: Res.sl Ek.bool 4 v8 q6.1 :: ow)) (fun q e a w => e = .exit 0 ∧ ∃ (v15 : Value), Fr 45 a [(8, v15)] ∧ Hp S w0 w (Res.sl (Ek.int .i64) 3 v15 q :: ow)) ?_ hl ⟨_, hf.sub ⟨rfl, rfl, rfl, rfl, rfl, trivial⟩, hp⟩ ?_
  · clear hl hf hp
    intro s x a w h hI
    obtain ⟨out8, s9, i10⟩ := s
    obtain ⟨v13, hf, hp⟩ : ∃ (v13 : Value), Fr 45 a [(2, optr v1 0), (6, v8), (8, v13), (9, .int .i64 s9), (10, .int .i64 i10)] ∧ Hp S w0 w (Res.sl (Ek.int .i64) 3 v13 out8 :: Res.obj 24 v1 [.int .i64 c0_Length, .int .u32 c0_One, .int .u32 c0_Two] :: Res.sl Ek.bool 4 v8 q6.1 :: ow) := hI
    replace h : f_foghornref21_Walk.s1c c0_Length c0_One c0_Two q6 out8 s9 i10 = some x := h
    unfold f_foghornref21_Walk.s1c at h
    refine wp_seq ?_
    refine wp_seq ?_
    refine wp_reg ?_
    refine st_move hf rfl rfl (by decide) ?_
    clear hf; intro a ha hf; clear ha
    refine st_move hf rfl rfl (by decide) ?_
    clear hf; intro a ha hf; clear ha
    refine st_len (E := Ek.bool) hf (by decide) Try.underlying25 rfl rfl (hp.sl (i := 2) rfl) ?_
    clear hf; intro a ha hf; clear ha
    refine st_ilss hf (by decide) rfl rfl rfl ?_
    clear hf; intro a ha hf; clear ha
    refine st_nil hf ?_
    refine th_n ?_
    refine wp_if hf rfl (fun hb => ?_) (fun hb => ?_)
    · replace h := ifT h hb
      refine wp_skip ?_
      refine th_n ?_
      refine wp_seq ?_
      refine wp_block ?_
      refine wp_seq ?_
      obtain ⟨S17, hp18, rd19, up20, bk21⟩ := Hp.lendO hp (i := 1) rfl
      obtain ⟨S22, hp23, rd24, up25, bk26⟩ := Hp.lendS hp18 (i := 1) rfl
      have rl27 := ((rd19.now hp18).mono up25)
      have rl28 := rd24
      obtain ⟨hc29, h⟩ := chk h
      obtain ⟨q30, hcall31, h⟩ := bnd h
      refine wp_cutN (fun a w => Fr 45 a [(2, optr v1 0), (6, v8), (8, v13), (9, .int .i64 q30.1), (10, .int .i64 i10)] ∧ Hp S w0 w (Res.obj 24 v1 [.int .i64 c0_Length, .int .u32 c0_One, .int .u32 c0_Two] :: Res.sl Ek.bool 4 v8 q6.1 :: Res.sl (Ek.int .i64) 3 v13 out8 :: ow)) ?_ ?_
      · have hp := hp23.same (Same.drew w)
        refine dr_begin' (fun a w => Fr 45 a [(2, optr v1 0), (6, v8), (8, v13), (9, .int .i64 q30.1), (10, .int .i64 i10)] ∧ Hp S w0 w (Res.obj 24 v1 [.int .i64 c0_Length, .int .u32 c0_One, .int .u32 c0_Two] :: Res.sl Ek.bool 4 v8 q6.1 :: Res.sl (Ek.int .i64) 3 v13 out8 :: ow)) (fun w' => ∃ l, Hp S22 w w' l) [] (by kernel_rfl) ?_
        refine dr_take 0 (.agg #[.int .i64 c0_Length, .int .u32 c0_One, .int .u32 c0_Two]) rfl (by kernel_rfl) (by kernel_rfl) (by kernel_rfl) (by kernel_rfl) rfl rfl hf (by decide) rfl (fun w hp => ?_) ⟨_, hp⟩ ?_
        · obtain ⟨_, hp⟩ := hp
          refine st_ldOA (m := 3) (us := [.int .i64 c0_Length, .int .u32 c0_One, .int .u32 c0_Two]) hf (by decide) (by kernel_rfl) rfl rfl (rl27.ob hp) rfl rfl ?_
          clear hf; intro a ha hf
          exact st_nil hf (th_n ⟨ha, rfl⟩)
        clear hf; intro a hf
        refine dr_take 1 (.int .i64 s9) rfl (by kernel_rfl) (by kernel_rfl) (by kernel_rfl) (by kernel_rfl) rfl rfl hf (by decide) rfl (fun w hp => ?_) ⟨_, hp⟩ ?_
        · obtain ⟨_, hp⟩ := hp
          refine st_move hf rfl rfl (by decide) ?_
          clear hf; intro a ha hf
          exact st_nil hf (th_n ⟨ha, rfl⟩)
        clear hf; intro a hf
        refine dr_take 2 (v8) rfl (by kernel_rfl) (by kernel_rfl) (by kernel_rfl) (by kernel_rfl) rfl rfl hf (by decide) rfl (fun w hp => ?_) ⟨_, hp⟩ ?_
        · obtain ⟨_, hp⟩ := hp
          refine st_move hf rfl rfl (by decide) ?_
          clear hf; intro a ha hf
          exact st_nil hf (th_n ⟨ha, rfl⟩)
        clear hf; intro a hf
        refine dr_take 3 (.int .i64 i10) rfl (by kernel_rfl) (by kernel_rfl) (by kernel_rfl) (by kernel_rfl) rfl rfl hf (by decide) rfl (fun w hp => ?_) ⟨_, hp⟩ ?_
        · obtain ⟨_, hp⟩ := hp
          refine st_move hf rfl rfl (by decide) ?_
          clear hf; intro a ha hf
          exact st_nil hf (th_n ⟨ha, rfl⟩)
        clear hf; intro a hf
        refine dr_take 4 (eptr v8 i10 1) rfl (by kernel_rfl) (by kernel_rfl) (by kernel_rfl) (by kernel_rfl) rfl rfl hf (by decide) rfl (fun w hp => ?_) ⟨_, hp⟩ ?_
        · obtain ⟨_, hp⟩ := hp
          refine st_index (E := Ek.bool) hf (by decide) Try.underlying25 elt4 rfl rfl rfl (rl28.sl hp) hc29.1 hc29.2 ?_
          clear hf; intro a ha hf
          exact st_nil hf (th_n ⟨ha, rfl⟩)
        clear hf; intro a hf
        refine dr_take 5 (.bool (gt q6.1 i10)) rfl (by kernel_rfl) (by kernel_rfl) (by kernel_rfl) (by kernel_rfl) rfl rfl hf (by decide) rfl (fun w hp => ?_) ⟨_, hp⟩ ?_
        · obtain ⟨_, hp⟩ := hp
          refine st_ldB hf (by decide) pl4 rfl rfl (rl28.sl hp) hc29.1 hc29.2 ?_
          clear hf; intro a ha hf
          exact st_nil hf (th_n ⟨ha, rfl⟩)
        clear hf; intro a hf
        refine dr_one 6 rfl (by kernel_rfl) ?_
        refine st_call hf (by decide) Try.func42 rfl rfl rfl rfl rfl (f_foghornref21_Go_c hp _ _ _ _ _ hcall31) ?_
        rintro _ w ⟨rfl, hp0⟩
        clear hp; have hp := hp0; clear hp0
        replace hp : Hp _ _ _ (Res.sl (Ek.int .i64) 3 v13 out8 :: ow) := hp
        refine ⟨_, rfl, ?_⟩
        clear hf; intro a hf
        refine st_nil hf (th_n ⟨fun _ _ => ⟨_, hp⟩, ?_⟩)
        refine dr_take 7 (.tuple #[.int .i64 q30.1, .bool q30.2.1, .bool q30.2.2]) rfl (by kernel_rfl) (by kernel_rfl) (by kernel_rfl) (by kernel_rfl) rfl rfl hf (by decide) rfl (fun w hp => ?_) ⟨_, hp⟩ ?_
        · obtain ⟨_, hp⟩ := hp
          refine st_move hf rfl rfl (by decide) ?_
          clear hf; intro a ha hf
          exact st_nil hf (th_n ⟨ha, rfl⟩)
        clear hf; intro a hf
        refine dr_take 8 (.int .i64 q30.1) rfl (by kernel_rfl) (by kernel_rfl) (by kernel_rfl) (by kernel_rfl) rfl rfl hf (by decide) rfl (fun w hp => ?_) ⟨_, hp⟩ ?_
        · obtain ⟨_, hp⟩ := hp
          refine st_extract hf (by decide) rfl rfl rfl ?_
          clear hf; intro a ha hf
          exact st_nil hf (th_n ⟨ha, rfl⟩)
        clear hf; intro a hf
        refine dr_take 9 (.bool q30.2.1) rfl (by kernel_rfl) (by kernel_rfl) (by kernel_rfl) (by kernel_rfl) rfl rfl hf (by decide) rfl (fun w hp => ?_) ⟨_, hp⟩ ?_
        · obtain ⟨_, hp⟩ := hp
          refine st_extract hf (by decide) rfl rfl rfl ?_
          clear hf; intro a ha hf
          exact st_nil hf (th_n ⟨ha, rfl⟩)
        clear hf; intro a hf
        refine dr_take 10 (.bool q30.2.2) rfl (by kernel_rfl) (by kernel_rfl) (by kernel_rfl) (by kernel_rfl) rfl rfl hf (by decide) rfl (fun w hp => ?_) ⟨_, hp⟩ ?_
        · obtain ⟨_, hp⟩ := hp
          refine st_extract hf (by decide) rfl rfl rfl ?_
          clear hf; intro a ha hf
          exact st_nil hf (th_n ⟨ha, rfl⟩)
        clear hf; intro a hf
        refine dr_take 11 (.int .i64 q30.1) rfl (by kernel_rfl) (by kernel_rfl) (by kernel_rfl) (by kernel_rfl) rfl rfl hf (by decide) rfl (fun w hp => ?_) ⟨_, hp⟩ ?_
        · obtain ⟨_, hp⟩ := hp
          refine st_assign hf rfl rfl (by decide) ?_
          clear hf; intro a ha hf
          exact st_nil hf (th_n ⟨ha, rfl⟩)
        clear hf; intro a hf
        refine dr_end (by kernel_rfl) ?_ _
        have hp := bk26 _ _ hp
        have hp := bk21 _ _ hp
        exact ⟨hf.sub ⟨rfl, rfl, rfl, rfl, rfl, trivial⟩, hp⟩
      rintro a w ⟨hf, hp⟩
      refine th_n ?_
      refine wp_reg ?_
      refine st_move hf rfl rfl (by decide) ?_
      clear hf; intro a ha hf; clear ha
      refine st_move hf rfl rfl (by decide) ?_
      clear hf; intro a ha hf; clear ha
      refine st_build (E := (Ek.int .i64)) (xs := [q30.1]) hf (by decide) elt3 Try.underlying39 hp (vals := #[(0, .int .i64 q30.1)]) (cells := #[.int .i64 q30.1]) rfl (by simp [hf.ev (x := (Operand.tmp 41)) rfl]) (by decide) (by decide) (z := .int .i64 0) (by kernel_rfl) (by kernel_rfl) rfl (reps_cons (cs := [.int .i64 q30.1]) rfl (reps_nil _)) ?_
      clear hf; intro a w v32 hf hp0; clear hp; have hp := hp0; clear hp0
      replace hp : Hp _ _ _ (Res.sl (Ek.int .i64) 3 v32 ([q30.1]) :: Res.obj 24 v1 [.int .i64 c0_Length, .int .u32 c0_One, .int .u32 c0_Two] :: Res.sl Ek.bool 4 v8 q6.1 :: Res.sl (Ek.int .i64) 3 v13 out8 :: ow) := hp
      obtain ⟨hc34, h⟩ := chk h
      refine st_append (E := (Ek.int .i64)) hf (by decide) elt3 Try.underlying39 (by decide) hp (i := 3) rfl rfl rfl rfl (hp.sl (i := 0) rfl) hc34 ?_
      clear hf; intro a w v35 hf hp0; clear hp; have hp := hp0; clear hp0
      replace hp : Hp _ _ _ (Res.sl (Ek.int .i64) 3 v32 ([q30.1]) :: Res.obj 24 v1 [.int .i64 c0_Length, .int .u32 c0_One, .int .u32 c0_Two] :: Res.sl Ek.bool 4 v8 q6.1 :: Res.sl (Ek.int .i64) 3 v35 (out8 ++ [q30.1]) :: ow) := hp
      refine st_assign hf rfl rfl (by decide) ?_
      clear hf; intro a ha hf; clear ha
      refine st_nil hf ?_
      refine ib_n ?_
      refine th_n ?_
      refine wp_reg ?_
      refine st_move hf rfl rfl (by decide) ?_
      clear hf; intro a ha hf; clear ha
      refine st_iadd hf (by decide) rfl rfl rfl ?_
      clear hf; intro a ha hf; clear ha
      refine st_assign hf rfl rfl (by decide) ?_
      clear hf; intro a ha hf; clear ha
      refine st_nil hf ?_
      obtain rfl := Option.some.inj h
      have hp : Hp _ _ _ (Res.sl (Ek.int .i64) 3 v35 (out8 ++ [q30.1]) :: Res.obj 24 v1 [.int .i64 c0_Length, .int .u32 c0_One, .int .u32 c0_Two] :: Res.sl Ek.bool 4 v8 q6.1 :: ow) := Hp.sel (pre := [Res.sl (Ek.int .i64) 3 v32 ([q30.1]), Res.obj 24 v1 [.int .i64 c0_Length, .int .u32 c0_One, .int .u32 c0_Two], Res.sl Ek.bool 4 v8 q6.1, Res.sl (Ek.int .i64) 3 v35 (out8 ++ [q30.1])]) (tail := ow) (rs' := [Res.sl (Ek.int .i64) 3 v35 (out8 ++ [q30.1]), Res.obj 24 v1 [.int .i64 c0_Length, .int .u32 c0_One, .int .u32 c0_Two], Res.sl Ek.bool 4 v8 q6.1]) hp [3, 1, 2] (by decide) (by simp) rfl
      exact rnd_l ⟨_, hf.sub ⟨rfl, rfl, rfl, rfl, rfl, trivial⟩, hp⟩
    replace h := ifF h hb
    refine wp_exit ?_
    refine th_e ?_
    obtain rfl := Option.some.inj h
    have hp : Hp _ _ _ (Res.sl (Ek.int .i64) 3 v13 out8 :: ow) := Hp.sel (pre := [Res.sl (Ek.int .i64) 3 v13 out8, Res.obj 24 v1 [.int .i64 c0_Length, .int .u32 c0_One, .int .u32 c0_Two], Res.sl Ek.bool 4 v8 q6.1]) (tail := ow) (rs' := [Res.sl (Ek.int .i64) 3 v13 out8]) hp [0] (by decide) (by simp) rfl
    exact rnd_r (by simp) ⟨rfl, _, hf.sub ⟨rfl, trivial⟩, hp⟩
  clear hl hf hp
  intro e a w hne hO
  obtain ⟨rfl, v15, hf, hp⟩ := hO
  refine ib_same ?_
  refine th_n ?_
  refine wp_seq ?_
  refine wp_reg ?_
  refine st_move hf rfl rfl (by decide) ?_
  clear hf; intro a ha hf; clear ha
  refine st_assign hf rfl rfl (by decide) ?_
  clear hf; intro a ha hf; clear ha
  refine st_assign hf rfl rfl (by decide) ?_
  clear hf; intro a ha hf; clear ha
  refine st_nil hf ?_
  refine th_n ?_
  refine wp_ret ?_
  obtain rfl := Option.some.inj h
  exact ⟨rfl, ⟨_, hf.sub ⟨rfl, rfl, trivial⟩, hp⟩⟩

noncomputable def f_trellis_Code_Exact.s1c (c0_Length : Int) (c0_One : Int) (c0_Two : Int) (coded1 : (List Bool)) (out8 : (List Bool)) (state9 : Int) (t28 : Int) : Option (((List Bool) × Int × Int) ⊕ (((List Bool) × Int) ⊕ ((List Bool) × Int))) := (if (decide (t28 < (IntKind.i64.wrap (((coded1.length : Int)).tdiv (2 : Int))))) = true then ((f_trellis_Code_step c0_Length c0_One c0_Two state9 false).bind fun q12 => (if 0 ≤ (IntKind.i64.wrap ((2 : Int) * t28)) ∧ (IntKind.i64.wrap ((2 : Int) * t28)) < (coded1.length : Int) then ((if (q12.2.1 != (gt coded1 (IntKind.i64.wrap ((2 : Int) * t28)))) = true then (some true) else (if 0 ≤ (IntKind.i64.wrap ((IntKind.i64.wrap ((2 : Int) * t28)) + (1 : Int))) ∧ (IntKind.i64.wrap ((IntKind.i64.wrap ((2 : Int) * t28)) + (1 : Int))) < (coded1.length : Int) then (some (q12.2.2 != (gt coded1 (IntKind.i64.wrap ((IntKind.i64.wrap ((2 : Int) * t28)) + (1 : Int)))))) else none)).bind fun z17 => ((f_trellis_Code_step c0_Length c0_One c0_Two state9 z17).bind fun q19 => (if 0 ≤ (IntKind.i64.wrap ((2 : Int) * t28)) ∧ (IntKind.i64.wrap ((2 : Int) * t28)) < (coded1.length : Int) then ((if (q19.2.1 != (gt coded1 (IntKind.i64.wrap ((2 : Int) * t28)))) = true then (some true) else (if 0 ≤ (IntKind.i64.wrap ((IntKind.i64.wrap ((2 : Int) * t28)) + (1 : Int))) ∧ (IntKind.i64.wrap ((IntKind.i64.wrap ((2 : Int) * t28)) + (1 : Int))) < (coded1.length : Int) then (some (q19.2.2 != (gt coded1 (IntKind.i64.wrap ((IntKind.i64.wrap ((2 : Int) * t28)) + (1 : Int)))))) else none)).bind fun z24 => (if z24 = true then (some (Sum.inr (Sum.inr ([], (6 : Int))))) else (if (out8.length + ([z17]).length) * 1 ≤ 140737488355328 then (some (Sum.inl ((out8 ++ [z17]), q19.1, (IntKind.i64.wrap (t28 + (1 : Int)))))) else none))) else none))) else none)) else (some (Sum.inr (Sum.inl (out8, state9)))))
noncomputable def f_trellis_Code_Exact.s1 (c0_Length : Int) (c0_One : Int) (c0_Two : Int) (coded1 : (List Bool)) (s : ((List Bool) × Int × Int)) : Option (((List Bool) × Int × Int) ⊕ (((List Bool) × Int) ⊕ ((List Bool) × Int))) := f_trellis_Code_Exact.s1c c0_Length c0_One c0_Two coded1 s.1 s.2.1 s.2.2
noncomputable def f_trellis_Code_Exact (c0_Length : Int) (c0_One : Int) (c0_Two : Int) (coded1 : (List Bool)) : Option ((List Bool) × Int) := ((f_trellis_Code_Check c0_Length c0_One c0_Two).bind fun q3 => (if ((q3 != (0 : Int)) || (decide ((32768 : Int) < (coded1.length : Int)))) = true then (some ([], (1 : Int))) else ((loop (f_trellis_Code_Exact.s1 c0_Length c0_One c0_Two coded1) ([], (0 : Int), (0 : Int))).bind (fun q31 => sm q31 (fun q33 => (if (((decide ((0 : Int) < (iand .i64 (coded1.length : Int) (1 : Int)))) || (decide ((IntKind.i64.wrap (((coded1.length : Int)).tdiv (2 : Int))) < (IntKind.i64.wrap (c0_Length - (1 : Int)))))) || (q33.2 != (0 : Int))) = true then (some ([], (6 : Int))) else (if 0 ≤ (IntKind.i64.wrap ((IntKind.i64.wrap ((IntKind.i64.wrap (((coded1.length : Int)).tdiv (2 : Int))) - c0_Length)) + (1 : Int))) ∧ (IntKind.i64.wrap ((IntKind.i64.wrap ((IntKind.i64.wrap (((coded1.length : Int)).tdiv (2 : Int))) - c0_Length)) + (1 : Int))) ≤ ((q33.1 ++ ([] : List Bool)).length : Int) then (some (((q33.1 ++ ([] : List Bool)).take (((IntKind.i64.wrap ((IntKind.i64.wrap ((IntKind.i64.wrap (((coded1.length : Int)).tdiv (2 : Int))) - c0_Length)) + (1 : Int)))).toNat)), (0 : Int))) else none))) (fun q34 => (some (q34.1, q34.2)))))))
theorem f_trellis_Code_Exact_c {S : Nat → Prop} {w0 w : World} {ow : List Res} (hp : Hp S w0 w ow) (c0_Length : Int) (c0_One : Int) (c0_Two : Int) (vcoded1 : Value) (coded1 : (List Bool)) (hcoded1 : RdS Ek.bool S w0 vcoded1 coded1) {r : ((List Bool) × Int)} (h : f_trellis_Code_Exact c0_Length c0_One c0_Two coded1 = some r) :
    Calls Try.prog 20 #[.agg #[.int .i64 c0_Length, .int .u32 c0_One, .int .u32 c0_Two], vcoded1] w (fun e w' => ∃ (u0 : Value), e = .returned (.tuple #[u0, .int .i64 r.2]) ∧ Hp S w0 w' (Res.sl Ek.bool 4 u0 r.1 :: ow)) := by
  unfold f_trellis_Code_Exact at h
  refine enter (n := 107) (args := [.agg #[.int .i64 c0_Length, .int .u32 c0_One, .int .u32 c0_Two], vcoded1]) Try.func20 rfl rfl (Nat.le_of_ble_eq_true rfl) fun a hf => ?_
  replace hf : Fr 107 a [(0, .agg #[.int .i64 c0_Length, .int .u32 c0_One, .int .u32 c0_Two]), (1, vcoded1)] := hf
  refine wp_mono (Q := fun e a w => e = .ret ∧ ∃ (u0 : Value), Fr 107 a [(4, u0), (5, .int .i64 r.2)] ∧ Hp S w0 w (Res.sl Ek.bool 4 u0 r.1 :: ow)) ?_ ?_
  rotate_left
  · rintro e a w ⟨rfl, x0, hf, hp⟩
    exact ret2 hf rfl rfl rfl ⟨x0, rfl, hp⟩
  refine wp_seq ?_
  refine wp_reg ?_
  refine st_boxO (cs := [.int .i64 c0_Length, .int .u32 c0_One, .int .u32 c0_Two]) hf (by decide) hp rfl rfl rfl ?_
  clear hf; intro a w v1 hf hp0; clear hp; have hp := hp0; clear hp0
  replace hp : Hp _ _ _ (Res.obj 34 v1 [.int .i64 c0_Length, .int .u32 c0_One, .int .u32 c0_Two] :: ow) := hp
  refine st_assign hf rfl rfl (by decide) ?_
  clear hf; intro a ha hf; clear ha
  refine st_assign hf rfl rfl (by decide) ?_
  clear hf; intro a ha hf; clear ha
  refine st_nil hf ?_
  refine th_n ?_
  refine wp_seq ?_
  refine wp_seq ?_
  refine wp_reg ?_
  refine st_ldOA (m := 3) (us := [.int .i64 c0_Length, .int .u32 c0_One, .int .u32 c0_Two]) hf (by decide) (by kernel_rfl) rfl rfl (hp.ob (i := 0) rfl) rfl rfl ?_
  clear hf; intro a ha hf; clear ha
  obtain ⟨q3, hcall4, h⟩ := bnd h
  refine st_call hf (by decide) Try.func26 rfl rfl rfl rfl rfl (f_trellis_Code_Check_c hp _ _ _ hcall4) ?_
  rintro _ w ⟨rfl, hp0⟩
  clear hp; have hp := hp0; clear hp0
  replace hp : Hp _ _ _ (Res.obj 34 v1 [.int .i64 c0_Length, .int .u32 c0_One, .int .u32 c0_Two] :: ow) := hp
  refine ⟨_, rfl, ?_⟩
  clear hf; intro a hf
  refine st_assign hf rfl rfl (by decide) ?_
  clear hf; intro a ha hf; clear ha
  refine st_nil hf ?_
  refine th_n ?_
  refine wp_seq ?_
  refine wp_reg ?_
  refine st_move hf rfl rfl (by decide) ?_
  clear hf; intro a ha hf; clear ha
  refine st_ineq hf (by decide) rfl rfl rfl ?_
  clear hf; intro a ha hf; clear ha
  refine st_move hf rfl rfl (by decide) ?_
  clear hf; intro a ha hf; clear ha
  refine wpList_cut 4 (fun a w => Fr 107 a [(1, vcoded1), (2, optr v1 0), (23, .bool ((q3 != (0 : Int)) || (decide ((32768 : Int) < (coded1.length : Int)))))] ∧ Hp S w0 w (Res.obj 34 v1 [.int .i64 c0_Length, .int .u32 c0_One, .int .u32 c0_Two] :: ow)) ?_ ?_
  · rcases Bool.eq_false_or_eq_true (q3 != (0 : Int)) with hb6 | hb6
    · skip
      refine st_skip hf (wantN hf rfl rfl hb6) rfl (by decide) ?_ rfl
      clear hf; intro a hf
      refine st_skip hf (wantN hf rfl rfl hb6) rfl (by decide) ?_ rfl
      clear hf; intro a hf
      refine st_skip hf (wantN hf rfl rfl hb6) rfl (by decide) ?_ rfl
      clear hf; intro a hf
      refine st_pick (v := .bool true) hf rfl rfl (fun hb' => ?_) (fun hb' => ?_) (by decide) ?_
      · rfl
      · exact absurd (hb6.symm.trans hb') (by decide)
      clear hf; intro a ha hf; clear ha
      refine st_nil hf (th_n ?_)
      exact ⟨hf.sub ⟨rfl, rfl, (by rw [hb6]; rfl), trivial⟩, hp⟩
    refine st_move hf (wantY hf rfl rfl hb6) rfl (by decide) ?_
    clear hf; intro a ha hf; clear ha
    refine st_len (E := Ek.bool) hf (by decide) Try.underlying25 (wantY hf rfl rfl hb6) rfl (hcoded1.sl hp) ?_
    clear hf; intro a ha hf; clear ha
    refine st_igtr hf (by decide) (wantY hf rfl rfl hb6) rfl rfl ?_
    clear hf; intro a ha hf; clear ha
    refine st_pick (v := .bool (decide ((32768 : Int) < (coded1.length : Int)))) hf rfl rfl (fun hb' => ?_) (fun hb' => ?_) (by decide) ?_
    · exact absurd (hb6.symm.trans hb') (by decide)
    · rfl
    clear hf; intro a ha hf; clear ha
    refine st_nil hf (th_n ?_)
    exact ⟨hf.sub ⟨rfl, rfl, (by rw [hb6]; rfl), trivial⟩, hp⟩
  rintro a w ⟨hf, hp⟩
  refine st_nil hf ?_
  refine th_n ?_
  refine wp_if hf rfl (fun hb => ?_) (fun hb => ?_)
  · replace h := ifT h hb
    refine wp_seq ?_
    refine wp_reg ?_
    refine st_assign hf rfl rfl (by decide) ?_
    clear hf; intro a ha hf; clear ha
    refine st_assign hf rfl rfl (by decide) ?_
    clear hf; intro a ha hf; clear ha
    refine st_nil hf ?_
    refine th_n ?_
    refine wp_ret ?_
    refine th_r ?_
    obtain rfl := Option.some.inj h
    have hp := hp.nil Ek.bool 4
    have hp : Hp _ _ _ (Res.sl Ek.bool 4 (.slice none 0 0) ([]) :: ow) := Hp.sel (pre := [Res.sl Ek.bool 4 (.slice none 0 0) ([]), Res.obj 34 v1 [.int .i64 c0_Length, .int .u32 c0_One, .int .u32 c0_Two]]) (tail := ow) (rs' := [Res.sl Ek.bool 4 (.slice none 0 0) ([])]) hp [0] (by decide) (by simp) rfl
    exact ⟨rfl, ⟨_, hf.sub ⟨rfl, rfl, trivial⟩, hp⟩⟩
  replace h := ifF h hb
  refine wp_skip ?_
  refine th_n ?_
  refine wp_seq ?_
  refine wp_reg ?_
  refine st_move hf rfl rfl (by decide) ?_
  clear hf; intro a ha hf; clear ha
  refine st_len (E := Ek.bool) hf (by decide) Try.underlying25 rfl rfl (hcoded1.sl hp) ?_
  clear hf; intro a ha hf; clear ha
  refine st_iquo hf (by decide) rfl rfl rfl (by decide) ?_
  clear hf; intro a ha hf; clear ha
  refine st_assign hf rfl rfl (by decide) ?_
  clear hf; intro a ha hf; clear ha
  refine st_nil hf ?_
  refine th_n ?_
  refine wp_seq ?_
  refine wp_reg ?_
  refine st_assign hf rfl rfl (by decide) ?_
  clear hf; intro a ha hf; clear ha
  refine st_nil hf ?_
  refine th_n ?_
  refine wp_seq ?_
  refine wp_reg ?_
  refine st_assign hf rfl rfl (by decide) ?_
  clear hf; intro a ha hf; clear ha
  refine st_nil hf ?_
  refine th_n ?_
  refine wp_seq ?_
  refine wp_seq ?_
  refine wp_reg ?_
  refine st_move hf rfl rfl (by decide) ?_
  clear hf; intro a ha hf; clear ha
  refine st_move hf rfl rfl (by decide) ?_
  clear hf; intro a ha hf; clear ha
  refine st_nil hf ?_
  refine th_n ?_
  refine wp_block ?_
  obtain ⟨q31, hl, h⟩ := bnd h
  have hp := hp.nil Ek.bool 4
  refine wp_loop_pure (f := (f_trellis_Code_Exact.s1 c0_Length c0_One c0_Two coded1)) (s := ([], (0 : Int), (0 : Int))) (fun s a w => ∃ (v8 : Value), Fr 107 a [(1, vcoded1), (2, optr v1 0), (7, .int .i64 (IntKind.i64.wrap (((coded1.length : Int)).tdiv (2 : Int)))), (8, v8), (9, .int .i64 s.2.1), (27, .int .i64 (IntKind.i64.wrap (((coded1.length : Int)).tdiv (2 : Int)))), (28, .int .i64 s.2.2)] ∧ Hp S w0 w (Res.sl Ek.bool 4 v8 s.1 :: Res.obj 34 v1 [.int .i64 c0_Length, .int .u32 c0_One, .int .u32 c0_Two] :: ow)) (fun q e a w => match q with | (Sum.inl q) => e = .exit 0 ∧ ∃ (v10 : Value), Fr 107 a [(1, vcoded1), (2, optr v1 0), (7, .int .i64 (IntKind.i64.wrap (((coded1.length : Int)).tdiv (2 : Int)))), (8, v10), (9, .int .i64 q.2)] ∧ Hp S w0 w (Res.sl Ek.bool 4 v10 q.1 :: Res.obj 34 v1 [.int .i64 c0_Length, .int .u32 c0_One, .int .u32 c0_Two] :: ow) | (Sum.inr q) => e = .ret ∧ ∃ (u0 : Value), Fr 107 a [(4, u0), (5, .int .i64 q.2)] ∧ Hp S w0 w (Res.sl Ek.bool 4 u0 q.1 :: ow)) ?_ hl ⟨_, hf.sub ⟨rfl, rfl, rfl, rfl, rfl, rfl, rfl, trivial⟩, hp⟩ ?_
  · clear hl hf hp
    intro s x a w h hI
    obtain ⟨out8, state9, t28⟩ := s
    obtain ⟨v8, hf, hp⟩ : ∃ (v8 : Value), Fr 107 a [(1, vcoded1), (2, optr v1 0), (7, .int .i64 (IntKind.i64.wrap (((coded1.length : Int)).tdiv (2 : Int)))), (8, v8), (9, .int .i64 state9), (27, .int .i64 (IntKind.i64.wrap (((coded1.length : Int)).tdiv (2 : Int)))), (28, .int .i64 t28)] ∧ Hp S w0 w (Res.sl Ek.bool 4 v8 out8 :: Res.obj 34 v1 [.int .i64 c0_Length, .int .u32 c0_One, .int .u32 c0_Two] :: ow) := hI
    replace h : f_trellis_Code_Exact.s1c c0_Length c0_One c0_Two coded1 out8 state9 t28 = some x := h
    unfold f_trellis_Code_Exact.s1c at h
    refine wp_seq ?_
    refine wp_reg ?_
    refine st_ilss hf (by decide) rfl rfl rfl ?_
    clear hf; intro a ha hf; clear ha
    refine st_nil hf ?_
    refine th_n ?_
    refine wp_seq ?_
    refine wp_if hf rfl (fun hb => ?_) (fun hb => ?_)
    · replace h := ifT h hb
      refine wp_skip ?_
      refine th_n ?_
      refine wp_seq ?_
      refine wp_block ?_
      refine wp_seq ?_
      refine wp_reg ?_
      refine st_move hf rfl rfl (by decide) ?_
      clear hf; intro a ha hf; clear ha
      refine st_assign hf rfl rfl (by decide) ?_
      clear hf; intro a ha hf; clear ha
      refine st_nil hf ?_
      refine th_n ?_
      refine wp_seq ?_
      refine wp_reg ?_
      refine st_ldOA (m := 3) (us := [.int .i64 c0_Length, .int .u32 c0_One, .int .u32 c0_Two]) hf (by decide) (by kernel_rfl) rfl rfl (hp.ob (i := 1) rfl) rfl rfl ?_
      clear hf; intro a ha hf; clear ha
      refine st_move hf rfl rfl (by decide) ?_
      clear hf; intro a ha hf; clear ha
      obtain ⟨q12, hcall13, h⟩ := bnd h
      refine st_call hf (by decide) Try.func37 rfl rfl rfl rfl rfl (f_trellis_Code_step_c hp _ _ _ _ _ hcall13) ?_
      rintro _ w ⟨rfl, hp0⟩
      clear hp; have hp := hp0; clear hp0
      replace hp : Hp _ _ _ (Res.sl Ek.bool 4 v8 out8 :: Res.obj 34 v1 [.int .i64 c0_Length, .int .u32 c0_One, .int .u32 c0_Two] :: ow) := hp
      refine ⟨_, rfl, ?_⟩
      clear hf; intro a hf
      refine st_move hf rfl rfl (by decide) ?_
      clear hf; intro a ha hf; clear ha
      refine st_extract hf (by decide) rfl rfl rfl ?_
      clear hf; intro a ha hf; clear ha
      refine st_extract hf (by decide) rfl rfl rfl ?_
      clear hf; intro a ha hf; clear ha
      refine st_extract hf (by decide) rfl rfl rfl ?_
      clear hf; intro a ha hf; clear ha
      refine st_assign hf rfl rfl (by decide) ?_
      clear hf; intro a ha hf; clear ha
      refine st_assign hf rfl rfl (by decide) ?_
      clear hf; intro a ha hf; clear ha
      refine st_assign hf rfl rfl (by decide) ?_
      clear hf; intro a ha hf; clear ha
      refine st_nil hf ?_
      refine th_n ?_
      refine wp_seq ?_
      refine wp_reg ?_
      refine st_move hf rfl rfl (by decide) ?_
      clear hf; intro a ha hf; clear ha
      refine st_move hf rfl rfl (by decide) ?_
      clear hf; intro a ha hf; clear ha
      refine st_move hf rfl rfl (by decide) ?_
      clear hf; intro a ha hf; clear ha
      refine st_imul hf (by decide) rfl rfl rfl ?_
      clear hf; intro a ha hf; clear ha
      obtain ⟨hc14, h⟩ := chk h
      refine st_index (E := Ek.bool) hf (by decide) Try.underlying25 elt4 rfl rfl rfl (hcoded1.sl hp) hc14.1 hc14.2 ?_
      clear hf; intro a ha hf; clear ha
      refine st_ldB hf (by decide) pl4 rfl rfl (hcoded1.sl hp) hc14.1 hc14.2 ?_
      clear hf; intro a ha hf; clear ha
      refine st_bneq hf (by decide) Try.underlying4 rfl rfl rfl ?_
      clear hf; intro a ha hf; clear ha
      refine st_move hf rfl rfl (by decide) ?_
      clear hf; intro a ha hf; clear ha
      obtain ⟨z17, hz15, h⟩ := bnd h
      refine wpList_cut 9 (fun a w => Fr 107 a [(1, vcoded1), (2, optr v1 0), (7, .int .i64 (IntKind.i64.wrap (((coded1.length : Int)).tdiv (2 : Int)))), (8, v8), (9, .int .i64 state9), (10, .int .i64 t28), (27, .int .i64 (IntKind.i64.wrap (((coded1.length : Int)).tdiv (2 : Int)))), (28, .int .i64 t28), (54, .bool z17)] ∧ Hp S w0 w (Res.sl Ek.bool 4 v8 out8 :: Res.obj 34 v1 [.int .i64 c0_Length, .int .u32 c0_One, .int .u32 c0_Two] :: ow)) ?_ ?_
      · rcases Bool.eq_false_or_eq_true (q12.2.1 != (gt coded1 (IntKind.i64.wrap ((2 : Int) * t28)))) with hb16 | hb16
        · skip
          replace hz15 := ifT hz15 hb16
          refine st_skip hf (wantN hf rfl rfl hb16) rfl (by decide) ?_ rfl
          clear hf; intro a hf
          refine st_skip hf (wantN hf rfl rfl hb16) rfl (by decide) ?_ rfl
          clear hf; intro a hf
          refine st_skip hf (wantN hf rfl rfl hb16) rfl (by decide) ?_ rfl
          clear hf; intro a hf
          refine st_skip hf (wantN hf rfl rfl hb16) rfl (by decide) ?_ rfl
          clear hf; intro a hf
          refine st_skip hf (wantN hf rfl rfl hb16) rfl (by decide) ?_ rfl
          clear hf; intro a hf
          refine st_skip hf (wantN hf rfl rfl hb16) rfl (by decide) ?_ rfl
          clear hf; intro a hf
          refine st_skip hf (wantN hf rfl rfl hb16) rfl (by decide) ?_ rfl
          clear hf; intro a hf
          refine st_skip hf (wantN hf rfl rfl hb16) rfl (by decide) ?_ rfl
          clear hf; intro a hf
          obtain rfl := Option.some.inj hz15
          refine st_pick (v := .bool true) hf rfl rfl (fun hb' => ?_) (fun hb' => ?_) (by decide) ?_
          · rfl
          · exact absurd (hb16.symm.trans hb') (by decide)
          clear hf; intro a ha hf; clear ha
          refine st_nil hf (th_n ?_)
          exact ⟨hf.sub ⟨rfl, rfl, rfl, rfl, rfl, rfl, rfl, rfl, rfl, trivial⟩, hp⟩
        replace hz15 := ifF hz15 hb16
        refine st_move hf (wantY hf rfl rfl hb16) rfl (by decide) ?_
        clear hf; intro a ha hf; clear ha
        refine st_move hf (wantY hf rfl rfl hb16) rfl (by decide) ?_
        clear hf; intro a ha hf; clear ha
        refine st_move hf (wantY hf rfl rfl hb16) rfl (by decide) ?_
        clear hf; intro a ha hf; clear ha
        refine st_imul hf (by decide) (wantY hf rfl rfl hb16) rfl rfl ?_
        clear hf; intro a ha hf; clear ha
        refine st_iadd hf (by decide) (wantY hf rfl rfl hb16) rfl rfl ?_
        clear hf; intro a ha hf; clear ha
        obtain ⟨hc18, hz15⟩ := chk hz15
        refine st_index (E := Ek.bool) hf (by decide) Try.underlying25 elt4 (wantY hf rfl rfl hb16) rfl rfl (hcoded1.sl hp) hc18.1 hc18.2 ?_
        clear hf; intro a ha hf; clear ha
        refine st_ldB hf (by decide) pl4 (wantY hf rfl rfl hb16) rfl (hcoded1.sl hp) hc18.1 hc18.2 ?_
        clear hf; intro a ha hf; clear ha
        refine st_bneq hf (by decide) Try.underlying4 (wantY hf rfl rfl hb16) rfl rfl ?_
        clear hf; intro a ha hf; clear ha
        obtain rfl := Option.some.inj hz15
        refine st_pick (v := .bool (q12.2.2 != (gt coded1 (IntKind.i64.wrap ((IntKind.i64.wrap ((2 : Int) * t28)) + (1 : Int)))))) hf rfl rfl (fun hb' => ?_) (fun hb' => ?_) (by decide) ?_
        · exact absurd (hb16.symm.trans hb') (by decide)
        · rfl
        clear hf; intro a ha hf; clear ha
        refine st_nil hf (th_n ?_)
        exact ⟨hf.sub ⟨rfl, rfl, rfl, rfl, rfl, rfl, rfl, rfl, rfl, trivial⟩, hp⟩
      rintro a w ⟨hf, hp⟩
      refine st_assign hf rfl rfl (by decide) ?_
      clear hf; intro a ha hf; clear ha
      refine st_nil hf ?_
      refine th_n ?_
      refine wp_seq ?_
      refine wp_reg ?_
      refine st_ldOA (m := 3) (us := [.int .i64 c0_Length, .int .u32 c0_One, .int .u32 c0_Two]) hf (by decide) (by kernel_rfl) rfl rfl (hp.ob (i := 1) rfl) rfl rfl ?_
      clear hf; intro a ha hf; clear ha
      refine st_move hf rfl rfl (by decide) ?_
      clear hf; intro a ha hf; clear ha
      refine st_move hf rfl rfl (by decide) ?_
      clear hf; intro a ha hf; clear ha
      obtain ⟨q19, hcall20, h⟩ := bnd h
      refine st_call hf (by decide) Try.func37 rfl rfl rfl rfl rfl (f_trellis_Code_step_c hp _ _ _ _ _ hcall20) ?_
      rintro _ w ⟨rfl, hp0⟩
      clear hp; have hp := hp0; clear hp0
      replace hp : Hp _ _ _ (Res.sl Ek.bool 4 v8 out8 :: Res.obj 34 v1 [.int .i64 c0_Length, .int .u32 c0_One, .int .u32 c0_Two] :: ow) := hp
      refine ⟨_, rfl, ?_⟩
      clear hf; intro a hf
      refine st_move hf rfl rfl (by decide) ?_
      clear hf; intro a ha hf; clear ha
      refine st_extract hf (by decide) rfl rfl rfl ?_
      clear hf; intro a ha hf; clear ha
      refine st_extract hf (by decide) rfl rfl rfl ?_
      clear hf; intro a ha hf; clear ha
      refine st_extract hf (by decide) rfl rfl rfl ?_
      clear hf; intro a ha hf; clear ha
      refine st_assign hf rfl rfl (by decide) ?_
      clear hf; intro a ha hf; clear ha
      refine st_assign hf rfl rfl (by decide) ?_
      clear hf; intro a ha hf; clear ha
      refine st_assign hf rfl rfl (by decide) ?_
      clear hf; intro a ha hf; clear ha
      refine st_nil hf ?_
      refine th_n ?_
      refine wp_seq ?_
      refine wp_seq ?_
      refine wp_reg ?_
      refine st_move hf rfl rfl (by decide) ?_
      clear hf; intro a ha hf; clear ha
      refine st_move hf rfl rfl (by decide) ?_
      clear hf; intro a ha hf; clear ha
      refine st_move hf rfl rfl (by decide) ?_
      clear hf; intro a ha hf; clear ha
      refine st_imul hf (by decide) rfl rfl rfl ?_
      clear hf; intro a ha hf; clear ha
      obtain ⟨hc21, h⟩ := chk h
      refine st_index (E := Ek.bool) hf (by decide) Try.underlying25 elt4 rfl rfl rfl (hcoded1.sl hp) hc21.1 hc21.2 ?_
      clear hf; intro a ha hf; clear ha
      refine st_ldB hf (by decide) pl4 rfl rfl (hcoded1.sl hp) hc21.1 hc21.2 ?_
      clear hf; intro a ha hf; clear ha
      refine st_bneq hf (by decide) Try.underlying4 rfl rfl rfl ?_
      clear hf; intro a ha hf; clear ha
      refine st_move hf rfl rfl (by decide) ?_
      clear hf; intro a ha hf; clear ha
      obtain ⟨z24, hz22, h⟩ := bnd h
      refine wpList_cut 9 (fun a w => Fr 107 a [(1, vcoded1), (2, optr v1 0), (7, .int .i64 (IntKind.i64.wrap (((coded1.length : Int)).tdiv (2 : Int)))), (8, v8), (9, .int .i64 q19.1), (14, .bool z17), (27, .int .i64 (IntKind.i64.wrap (((coded1.length : Int)).tdiv (2 : Int)))), (28, .int .i64 t28), (79, .bool z24)] ∧ Hp S w0 w (Res.sl Ek.bool 4 v8 out8 :: Res.obj 34 v1 [.int .i64 c0_Length, .int .u32 c0_One, .int .u32 c0_Two] :: ow)) ?_ ?_
      · rcases Bool.eq_false_or_eq_true (q19.2.1 != (gt coded1 (IntKind.i64.wrap ((2 : Int) * t28)))) with hb23 | hb23
        · skip
          replace hz22 := ifT hz22 hb23
          refine st_skip hf (wantN hf rfl rfl hb23) rfl (by decide) ?_ rfl
          clear hf; intro a hf
          refine st_skip hf (wantN hf rfl rfl hb23) rfl (by decide) ?_ rfl
          clear hf; intro a hf
          refine st_skip hf (wantN hf rfl rfl hb23) rfl (by decide) ?_ rfl
          clear hf; intro a hf
          refine st_skip hf (wantN hf rfl rfl hb23) rfl (by decide) ?_ rfl
          clear hf; intro a hf
          refine st_skip hf (wantN hf rfl rfl hb23) rfl (by decide) ?_ rfl
          clear hf; intro a hf
          refine st_skip hf (wantN hf rfl rfl hb23) rfl (by decide) ?_ rfl
          clear hf; intro a hf
          refine st_skip hf (wantN hf rfl rfl hb23) rfl (by decide) ?_ rfl
          clear hf; intro a hf
          refine st_skip hf (wantN hf rfl rfl hb23) rfl (by decide) ?_ rfl
          clear hf; intro a hf
          obtain rfl := Option.some.inj hz22
          refine st_pick (v := .bool true) hf rfl rfl (fun hb' => ?_) (fun hb' => ?_) (by decide) ?_
          · rfl
          · exact absurd (hb23.symm.trans hb') (by decide)
          clear hf; intro a ha hf; clear ha
          refine st_nil hf (th_n ?_)
          exact ⟨hf.sub ⟨rfl, rfl, rfl, rfl, rfl, rfl, rfl, rfl, rfl, trivial⟩, hp⟩
        replace hz22 := ifF hz22 hb23
        refine st_move hf (wantY hf rfl rfl hb23) rfl (by decide) ?_
        clear hf; intro a ha hf; clear ha
        refine st_move hf (wantY hf rfl rfl hb23) rfl (by decide) ?_
        clear hf; intro a ha hf; clear ha
        refine st_move hf (wantY hf rfl rfl hb23) rfl (by decide) ?_
        clear hf; intro a ha hf; clear ha
        refine st_imul hf (by decide) (wantY hf rfl rfl hb23) rfl rfl ?_
        clear hf; intro a ha hf; clear ha
        refine st_iadd hf (by decide) (wantY hf rfl rfl hb23) rfl rfl ?_
        clear hf; intro a ha hf; clear ha
        obtain ⟨hc25, hz22⟩ := chk hz22
        refine st_index (E := Ek.bool) hf (by decide) Try.underlying25 elt4 (wantY hf rfl rfl hb23) rfl rfl (hcoded1.sl hp) hc25.1 hc25.2 ?_
        clear hf; intro a ha hf; clear ha
        refine st_ldB hf (by decide) pl4 (wantY hf rfl rfl hb23) rfl (hcoded1.sl hp) hc25.1 hc25.2 ?_
        clear hf; intro a ha hf; clear ha
        refine st_bneq hf (by decide) Try.underlying4 (wantY hf rfl rfl hb23) rfl rfl ?_
        clear hf; intro a ha hf; clear ha
        obtain rfl := Option.some.inj hz22
        refine st_pick (v := .bool (q19.2.2 != (gt coded1 (IntKind.i64.wrap ((IntKind.i64.wrap ((2 : Int) * t28)) + (1 : Int)))))) hf rfl rfl (fun hb' => ?_) (fun hb' => ?_) (by decide) ?_
        · exact absurd (hb23.symm.trans hb') (by decide)
        · rfl
        clear hf; intro a ha hf; clear ha
        refine st_nil hf (th_n ?_)
        exact ⟨hf.sub ⟨rfl, rfl, rfl, rfl, rfl, rfl, rfl, rfl, rfl, trivial⟩, hp⟩
      rintro a w ⟨hf, hp⟩
      refine st_nil hf ?_
      refine th_n ?_
      refine wp_if hf rfl (fun hb => ?_) (fun hb => ?_)
      · replace h := ifT h hb
        refine wp_seq ?_
        refine wp_reg ?_
        refine st_assign hf rfl rfl (by decide) ?_
        clear hf; intro a ha hf; clear ha
        refine st_assign hf rfl rfl (by decide) ?_
        clear hf; intro a ha hf; clear ha
        refine st_nil hf ?_
        refine th_n ?_
        refine wp_ret ?_
        refine th_r ?_
        refine ib_r ?_
        refine th_r ?_
        obtain rfl := Option.some.inj h
        have hp := hp.nil Ek.bool 4
        have hp : Hp _ _ _ (Res.sl Ek.bool 4 (.slice none 0 0) ([]) :: ow) := Hp.sel (pre := [Res.sl Ek.bool 4 (.slice none 0 0) ([]), Res.sl Ek.bool 4 v8 out8, Res.obj 34 v1 [.int .i64 c0_Length, .int .u32 c0_One, .int .u32 c0_Two]]) (tail := ow) (rs' := [Res.sl Ek.bool 4 (.slice none 0 0) ([])]) hp [0] (by decide) (by simp) rfl
        exact rnd_r (by simp) ⟨rfl, ⟨_, hf.sub ⟨rfl, rfl, trivial⟩, hp⟩⟩
      replace h := ifF h hb
      refine wp_skip ?_
      refine th_n ?_
      refine wp_reg ?_
      refine st_move hf rfl rfl (by decide) ?_
      clear hf; intro a ha hf; clear ha
      refine st_move hf rfl rfl (by decide) ?_
      clear hf; intro a ha hf; clear ha
      refine st_build (E := Ek.bool) (xs := [z17]) hf (by decide) elt4 Try.underlying25 hp (vals := #[(0, .bool z17)]) (cells := #[.bool z17]) rfl (by simp [hf.ev (x := (Operand.tmp 81)) rfl]) (by decide) (by decide) (z := .bool false) (by kernel_rfl) (by kernel_rfl) rfl (reps_cons (cs := [.bool z17]) rfl (reps_nil _)) ?_
      clear hf; intro a w v27 hf hp0; clear hp; have hp := hp0; clear hp0
      replace hp : Hp _ _ _ (Res.sl Ek.bool 4 v27 ([z17]) :: Res.sl Ek.bool 4 v8 out8 :: Res.obj 34 v1 [.int .i64 c0_Length, .int .u32 c0_One, .int .u32 c0_Two] :: ow) := hp
      obtain ⟨hc29, h⟩ := chk h
      refine st_append (E := Ek.bool) hf (by decide) elt4 Try.underlying25 (by decide) hp (i := 1) rfl rfl rfl rfl (hp.sl (i := 0) rfl) hc29 ?_
      clear hf; intro a w v30 hf hp0; clear hp; have hp := hp0; clear hp0
      replace hp : Hp _ _ _ (Res.sl Ek.bool 4 v27 ([z17]) :: Res.sl Ek.bool 4 v30 (out8 ++ [z17]) :: Res.obj 34 v1 [.int .i64 c0_Length, .int .u32 c0_One, .int .u32 c0_Two] :: ow) := hp
      refine st_assign hf rfl rfl (by decide) ?_
      clear hf; intro a ha hf; clear ha
      refine st_nil hf ?_
      refine ib_n ?_
      refine th_n ?_
      refine wp_reg ?_
      refine st_iadd hf (by decide) rfl rfl rfl ?_
      clear hf; intro a ha hf; clear ha
      refine st_move hf rfl rfl (by decide) ?_
      clear hf; intro a ha hf; clear ha
      refine st_nil hf ?_
      obtain rfl := Option.some.inj h
      have hp : Hp _ _ _ (Res.sl Ek.bool 4 v30 (out8 ++ [z17]) :: Res.obj 34 v1 [.int .i64 c0_Length, .int .u32 c0_One, .int .u32 c0_Two] :: ow) := Hp.sel (pre := [Res.sl Ek.bool 4 v27 ([z17]), Res.sl Ek.bool 4 v30 (out8 ++ [z17]), Res.obj 34 v1 [.int .i64 c0_Length, .int .u32 c0_One, .int .u32 c0_Two]]) (tail := ow) (rs' := [Res.sl Ek.bool 4 v30 (out8 ++ [z17]), Res.obj 34 v1 [.int .i64 c0_Length, .int .u32 c0_One, .int .u32 c0_Two]]) hp [1, 2] (by decide) (by simp) rfl
      exact rnd_l ⟨_, hf.sub ⟨rfl, rfl, rfl, rfl, rfl, rfl, rfl, trivial⟩, hp⟩
    replace h := ifF h hb
    refine wp_exit ?_
    refine th_e ?_
    obtain rfl := Option.some.inj h
    exact rnd_r (by simp) ⟨rfl, _, hf.sub ⟨rfl, rfl, rfl, rfl, rfl, trivial⟩, hp⟩
  clear hl hf hp
  intro e a w hne hO
  rcases q31 with q33 | q34
  · replace h := smL h
    obtain ⟨rfl, v10, hf, hp⟩ := hO
    refine ib_same ?_
    refine th_n ?_
    refine wp_seq ?_
    refine wp_seq ?_
    refine wp_reg ?_
    refine st_move hf rfl rfl (by decide) ?_
    clear hf; intro a ha hf; clear ha
    refine st_len (E := Ek.bool) hf (by decide) Try.underlying25 rfl rfl (hcoded1.sl hp) ?_
    clear hf; intro a ha hf; clear ha
    refine st_iand hf (by decide) rfl rfl rfl ?_
    clear hf; intro a ha hf; clear ha
    refine st_igtr hf (by decide) rfl rfl rfl ?_
    clear hf; intro a ha hf; clear ha
    refine st_move hf rfl rfl (by decide) ?_
    clear hf; intro a ha hf; clear ha
    refine wpList_cut 6 (fun a w => Fr 107 a [(2, optr v1 0), (7, .int .i64 (IntKind.i64.wrap (((coded1.length : Int)).tdiv (2 : Int)))), (8, v10), (9, .int .i64 q33.2), (95, .bool ((decide ((0 : Int) < (iand .i64 (coded1.length : Int) (1 : Int)))) || (decide ((IntKind.i64.wrap (((coded1.length : Int)).tdiv (2 : Int))) < (IntKind.i64.wrap (c0_Length - (1 : Int)))))))] ∧ Hp S w0 w (Res.sl Ek.bool 4 v10 q33.1 :: Res.obj 34 v1 [.int .i64 c0_Length, .int .u32 c0_One, .int .u32 c0_Two] :: ow)) ?_ ?_
    · rcases Bool.eq_false_or_eq_true (decide ((0 : Int) < (iand .i64 (coded1.length : Int) (1 : Int)))) with hb36 | hb36
      · skip
        refine st_skip hf (wantN hf rfl rfl hb36) rfl (by decide) ?_ rfl
        clear hf; intro a hf
        refine st_skip hf (wantN hf rfl rfl hb36) rfl (by decide) ?_ rfl
        clear hf; intro a hf
        refine st_skip hf (wantN hf rfl rfl hb36) rfl (by decide) ?_ rfl
        clear hf; intro a hf
        refine st_skip hf (wantN hf rfl rfl hb36) rfl (by decide) ?_ rfl
        clear hf; intro a hf
        refine st_skip hf (wantN hf rfl rfl hb36) rfl (by decide) ?_ rfl
        clear hf; intro a hf
        refine st_pick (v := .bool true) hf rfl rfl (fun hb' => ?_) (fun hb' => ?_) (by decide) ?_
        · rfl
        · exact absurd (hb36.symm.trans hb') (by decide)
        clear hf; intro a ha hf; clear ha
        refine st_nil hf (th_n ?_)
        exact ⟨hf.sub ⟨rfl, rfl, rfl, rfl, (by rw [hb36]; rfl), trivial⟩, hp⟩
      refine st_move hf (wantY hf rfl rfl hb36) rfl (by decide) ?_
      clear hf; intro a ha hf; clear ha
      refine st_fa (o' := 0) hf (by decide) (off := 0) (sz := 1) (by kernel_rfl) (by decide) (wantY hf rfl rfl hb36) rfl (hp.ob (i := 1) rfl) rfl ?_
      clear hf; intro a ha hf; clear ha
      refine st_ldO (u := .int .i64 c0_Length) hf (by decide) pl3 (wantY hf rfl rfl hb36) rfl (hp.ob (i := 1) rfl) rfl ?_
      clear hf; intro a ha hf; clear ha
      refine st_isub hf (by decide) (wantY hf rfl rfl hb36) rfl rfl ?_
      clear hf; intro a ha hf; clear ha
      refine st_ilss hf (by decide) (wantY hf rfl rfl hb36) rfl rfl ?_
      clear hf; intro a ha hf; clear ha
      refine st_pick (v := .bool (decide ((IntKind.i64.wrap (((coded1.length : Int)).tdiv (2 : Int))) < (IntKind.i64.wrap (c0_Length - (1 : Int)))))) hf rfl rfl (fun hb' => ?_) (fun hb' => ?_) (by decide) ?_
      · exact absurd (hb36.symm.trans hb') (by decide)
      · rfl
      clear hf; intro a ha hf; clear ha
      refine st_nil hf (th_n ?_)
      exact ⟨hf.sub ⟨rfl, rfl, rfl, rfl, (by rw [hb36]; rfl), trivial⟩, hp⟩
    rintro a w ⟨hf, hp⟩
    refine st_move hf rfl rfl (by decide) ?_
    clear hf; intro a ha hf; clear ha
    refine wpList_cut 3 (fun a w => Fr 107 a [(2, optr v1 0), (7, .int .i64 (IntKind.i64.wrap (((coded1.length : Int)).tdiv (2 : Int)))), (8, v10), (99, .bool (((decide ((0 : Int) < (iand .i64 (coded1.length : Int) (1 : Int)))) || (decide ((IntKind.i64.wrap (((coded1.length : Int)).tdiv (2 : Int))) < (IntKind.i64.wrap (c0_Length - (1 : Int)))))) || (q33.2 != (0 : Int))))] ∧ Hp S w0 w (Res.sl Ek.bool 4 v10 q33.1 :: Res.obj 34 v1 [.int .i64 c0_Length, .int .u32 c0_One, .int .u32 c0_Two] :: ow)) ?_ ?_
    · rcases Bool.eq_false_or_eq_true ((decide ((0 : Int) < (iand .i64 (coded1.length : Int) (1 : Int)))) || (decide ((IntKind.i64.wrap (((coded1.length : Int)).tdiv (2 : Int))) < (IntKind.i64.wrap (c0_Length - (1 : Int)))))) with hb38 | hb38
      · skip
        refine st_skip hf (wantN hf rfl rfl hb38) rfl (by decide) ?_ rfl
        clear hf; intro a hf
        refine st_skip hf (wantN hf rfl rfl hb38) rfl (by decide) ?_ rfl
        clear hf; intro a hf
        refine st_pick (v := .bool true) hf rfl rfl (fun hb' => ?_) (fun hb' => ?_) (by decide) ?_
        · rfl
        · exact absurd (hb38.symm.trans hb') (by decide)
        clear hf; intro a ha hf; clear ha
        refine st_nil hf (th_n ?_)
        exact ⟨hf.sub ⟨rfl, rfl, rfl, (by rw [hb38]; rfl), trivial⟩, hp⟩
      refine st_move hf (wantY hf rfl rfl hb38) rfl (by decide) ?_
      clear hf; intro a ha hf; clear ha
      refine st_ineq hf (by decide) (wantY hf rfl rfl hb38) rfl rfl ?_
      clear hf; intro a ha hf; clear ha
      refine st_pick (v := .bool (q33.2 != (0 : Int))) hf rfl rfl (fun hb' => ?_) (fun hb' => ?_) (by decide) ?_
      · exact absurd (hb38.symm.trans hb') (by decide)
      · rfl
      clear hf; intro a ha hf; clear ha
      refine st_nil hf (th_n ?_)
      exact ⟨hf.sub ⟨rfl, rfl, rfl, (by rw [hb38]; rfl), trivial⟩, hp⟩
    rintro a w ⟨hf, hp⟩
    refine st_nil hf ?_
    refine th_n ?_
    refine wp_if hf rfl (fun hb => ?_) (fun hb => ?_)
    · replace h := ifT h hb
      refine wp_seq ?_
      refine wp_reg ?_
      refine st_assign hf rfl rfl (by decide) ?_
      clear hf; intro a ha hf; clear ha
      refine st_assign hf rfl rfl (by decide) ?_
      clear hf; intro a ha hf; clear ha
      refine st_nil hf ?_
      refine th_n ?_
      refine wp_ret ?_
      refine th_r ?_
      obtain rfl := Option.some.inj h
      have hp := hp.nil Ek.bool 4
      have hp : Hp _ _ _ (Res.sl Ek.bool 4 (.slice none 0 0) ([]) :: ow) := Hp.sel (pre := [Res.sl Ek.bool 4 (.slice none 0 0) ([]), Res.sl Ek.bool 4 v10 q33.1, Res.obj 34 v1 [.int .i64 c0_Length, .int .u32 c0_One, .int .u32 c0_Two]]) (tail := ow) (rs' := [Res.sl Ek.bool 4 (.slice none 0 0) ([])]) hp [0] (by decide) (by simp) rfl
      exact ⟨rfl, ⟨_, hf.sub ⟨rfl, rfl, trivial⟩, hp⟩⟩
    replace h := ifF h hb
    refine wp_skip ?_
    refine th_n ?_
    refine wp_seq ?_
    refine wp_reg ?_
    refine st_move hf rfl rfl (by decide) ?_
    clear hf; intro a ha hf; clear ha
    refine st_move hf rfl rfl (by decide) ?_
    clear hf; intro a ha hf; clear ha
    refine st_fa (o' := 0) hf (by decide) (off := 0) (sz := 1) (by kernel_rfl) (by decide) rfl rfl (hp.ob (i := 1) rfl) rfl ?_
    clear hf; intro a ha hf; clear ha
    refine st_ldO (u := .int .i64 c0_Length) hf (by decide) pl3 rfl rfl (hp.ob (i := 1) rfl) rfl ?_
    clear hf; intro a ha hf; clear ha
    refine st_isub hf (by decide) rfl rfl rfl ?_
    clear hf; intro a ha hf; clear ha
    refine st_iadd hf (by decide) rfl rfl rfl ?_
    clear hf; intro a ha hf; clear ha
    obtain ⟨hc40, h⟩ := chk h
    have hc41 : 0 ≤ ((IntKind.i64.wrap ((IntKind.i64.wrap ((IntKind.i64.wrap (((coded1.length : Int)).tdiv (2 : Int))) - c0_Length)) + (1 : Int)))).toNat := by omega
    have hc42 : ((IntKind.i64.wrap ((IntKind.i64.wrap ((IntKind.i64.wrap (((coded1.length : Int)).tdiv (2 : Int))) - c0_Length)) + (1 : Int)))).toNat ≤ (q33.1 ++ ([] : List Bool)).length := by omega
    refine st_cutX (E := Ek.bool) hf (by decide) Try.underlying25 elt4 hp (i := 0) rfl rfl rfl (.inl ⟨rfl, rfl⟩) (.inr ⟨_, _, rfl, evI rfl (by omega)⟩) hc41 hc42 ?_
    clear hf; intro a ha hf; clear ha
    replace hp : Hp _ _ _ (Res.slx Ek.bool 4 (GL.cut v10 0 (((IntKind.i64.wrap ((IntKind.i64.wrap ((IntKind.i64.wrap (((coded1.length : Int)).tdiv (2 : Int))) - c0_Length)) + (1 : Int)))).toNat) 1) ((q33.1 ++ ([] : List Bool)).take (((IntKind.i64.wrap ((IntKind.i64.wrap ((IntKind.i64.wrap (((coded1.length : Int)).tdiv (2 : Int))) - c0_Length)) + (1 : Int)))).toNat)) ((q33.1 ++ ([] : List Bool)).drop (((IntKind.i64.wrap ((IntKind.i64.wrap ((IntKind.i64.wrap (((coded1.length : Int)).tdiv (2 : Int))) - c0_Length)) + (1 : Int)))).toNat)) :: Res.obj 34 v1 [.int .i64 c0_Length, .int .u32 c0_One, .int .u32 c0_Two] :: ow) := hp.cutOwn (i := 0) rfl hc42
    refine st_assign hf rfl rfl (by decide) ?_
    clear hf; intro a ha hf; clear ha
    refine st_assign hf rfl rfl (by decide) ?_
    clear hf; intro a ha hf; clear ha
    refine st_nil hf ?_
    refine th_n ?_
    refine wp_ret ?_
    obtain rfl := Option.some.inj h
    replace hp : Hp _ _ _ (Res.sl Ek.bool 4 (GL.cut v10 0 (((IntKind.i64.wrap ((IntKind.i64.wrap ((IntKind.i64.wrap (((coded1.length : Int)).tdiv (2 : Int))) - c0_Length)) + (1 : Int)))).toNat) 1) ((q33.1 ++ ([] : List Bool)).take (((IntKind.i64.wrap ((IntKind.i64.wrap ((IntKind.i64.wrap (((coded1.length : Int)).tdiv (2 : Int))) - c0_Length)) + (1 : Int)))).toNat)) :: Res.obj 34 v1 [.int .i64 c0_Length, .int .u32 c0_One, .int .u32 c0_Two] :: ow) := hp.forget (i := 0) rfl
    have hp : Hp _ _ _ (Res.sl Ek.bool 4 (GL.cut v10 0 (((IntKind.i64.wrap ((IntKind.i64.wrap ((IntKind.i64.wrap (((coded1.length : Int)).tdiv (2 : Int))) - c0_Length)) + (1 : Int)))).toNat) 1) ((q33.1 ++ ([] : List Bool)).take (((IntKind.i64.wrap ((IntKind.i64.wrap ((IntKind.i64.wrap (((coded1.length : Int)).tdiv (2 : Int))) - c0_Length)) + (1 : Int)))).toNat)) :: ow) := Hp.sel (pre := [Res.sl Ek.bool 4 (GL.cut v10 0 (((IntKind.i64.wrap ((IntKind.i64.wrap ((IntKind.i64.wrap (((coded1.length : Int)).tdiv (2 : Int))) - c0_Length)) + (1 : Int)))).toNat) 1) ((q33.1 ++ ([] : List Bool)).take (((IntKind.i64.wrap ((IntKind.i64.wrap ((IntKind.i64.wrap (((coded1.length : Int)).tdiv (2 : Int))) - c0_Length)) + (1 : Int)))).toNat)), Res.obj 34 v1 [.int .i64 c0_Length, .int .u32 c0_One, .int .u32 c0_Two]]) (tail := ow) (rs' := [Res.sl Ek.bool 4 (GL.cut v10 0 (((IntKind.i64.wrap ((IntKind.i64.wrap ((IntKind.i64.wrap (((coded1.length : Int)).tdiv (2 : Int))) - c0_Length)) + (1 : Int)))).toNat) 1) ((q33.1 ++ ([] : List Bool)).take (((IntKind.i64.wrap ((IntKind.i64.wrap ((IntKind.i64.wrap (((coded1.length : Int)).tdiv (2 : Int))) - c0_Length)) + (1 : Int)))).toNat))]) hp [0] (by decide) (by simp) rfl
    exact ⟨rfl, ⟨_, hf.sub ⟨rfl, rfl, trivial⟩, hp⟩⟩
  replace h := smR h
  obtain ⟨rfl, x0, hf, hp⟩ := hO
  refine ib_r ?_
  refine th_r ?_
  obtain rfl := Option.some.inj h
  exact ⟨rfl, ⟨_, hf.sub ⟨rfl, rfl, trivial⟩, hp⟩⟩

noncomputable def f_foghornref21_Exact.s2c (c0_Length : Int) (c0_One : Int) (c0_Two : Int) (coded1 : (List Bool)) (i9 : Int) (out7 : (List Bool)) (s8 : Int) (fits10 : Bool) (k11 : Int) : Option (((List Bool) × Int × Bool × Int) ⊕ ((List Bool) × Int × Bool)) := (if ((decide (k11 < (2 : Int))) && (!fits10)) = true then ((f_foghornref21_Go c0_Length c0_One c0_Two s8 (k11 == (1 : Int))).bind fun q21 => (if 0 ≤ (IntKind.i64.wrap ((2 : Int) * i9)) ∧ (IntKind.i64.wrap ((2 : Int) * i9)) < (coded1.length : Int) then ((if (q21.2.1 == (gt coded1 (IntKind.i64.wrap ((2 : Int) * i9)))) = true then (if 0 ≤ (IntKind.i64.wrap ((IntKind.i64.wrap ((2 : Int) * i9)) + (1 : Int))) ∧ (IntKind.i64.wrap ((IntKind.i64.wrap ((2 : Int) * i9)) + (1 : Int))) < (coded1.length : Int) then (some (q21.2.2 == (gt coded1 (IntKind.i64.wrap ((IntKind.i64.wrap ((2 : Int) * i9)) + (1 : Int)))))) else none) else (some false)).bind fun z26 => (if (z26 && ((decide (i9 < (IntKind.i64.wrap ((IntKind.i64.wrap (((coded1.length : Int)).tdiv (2 : Int))) - (IntKind.i64.wrap (c0_Length - (1 : Int))))))) || (!(k11 == (1 : Int))))) = true then (if (decide (i9 < (IntKind.i64.wrap ((IntKind.i64.wrap (((coded1.length : Int)).tdiv (2 : Int))) - (IntKind.i64.wrap (c0_Length - (1 : Int))))))) = true then (if (out7.length + ([(k11 == (1 : Int))]).length) * 1 ≤ 140737488355328 then (some (Sum.inl ((out7 ++ [(k11 == (1 : Int))]), q21.1, true, (IntKind.i64.wrap (k11 + (1 : Int)))))) else none) else (some (Sum.inl (out7, q21.1, true, (IntKind.i64.wrap (k11 + (1 : Int))))))) else (some (Sum.inl (out7, s8, fits10, (IntKind.i64.wrap (k11 + (1 : Int)))))))) else none)) else (some (Sum.inr (out7, s8, fits10))))
noncomputable def f_foghornref21_Exact.s2 (c0_Length : Int) (c0_One : Int) (c0_Two : Int) (coded1 : (List Bool)) (i9 : Int) (s : ((List Bool) × Int × Bool × Int)) : Option (((List Bool) × Int × Bool × Int) ⊕ ((List Bool) × Int × Bool)) := f_foghornref21_Exact.s2c c0_Length c0_One c0_Two coded1 i9 s.1 s.2.1 s.2.2.1 s.2.2.2
noncomputable def f_foghornref21_Exact.s1c (c0_Length : Int) (c0_One : Int) (c0_Two : Int) (coded1 : (List Bool)) (out7 : (List Bool)) (s8 : Int) (i9 : Int) : Option (((List Bool) × Int × Int) ⊕ ((List Bool) ⊕ ((List Bool) × Int))) := (if (decide (i9 < (IntKind.i64.wrap (((coded1.length : Int)).tdiv (2 : Int))))) = true then ((loop (f_foghornref21_Exact.s2 c0_Length c0_One c0_Two coded1 i9) (out7, s8, false, (0 : Int))).bind (fun q36 => (if (!q36.2.2) = true then (some (Sum.inr (Sum.inr ([], (6 : Int))))) else (some (Sum.inl (q36.1, q36.2.1, (IntKind.i64.wrap (i9 + (1 : Int))))))))) else (some (Sum.inr (Sum.inl out7))))
noncomputable def f_foghornref21_Exact.s1 (c0_Length : Int) (c0_One : Int) (c0_Two : Int) (coded1 : (List Bool)) (s : ((List Bool) × Int × Int)) : Option (((List Bool) × Int × Int) ⊕ ((List Bool) ⊕ ((List Bool) × Int))) := f_foghornref21_Exact.s1c c0_Length c0_One c0_Two coded1 s.1 s.2.1 s.2.2
noncomputable def f_foghornref21_Exact (c0_Length : Int) (c0_One : Int) (c0_Two : Int) (coded1 : (List Bool)) : Option ((List Bool) × Int) := ((f_foghornref21_May c0_Length c0_One c0_Two).bind fun q3 => (if ((!q3) || (decide ((32768 : Int) < (coded1.length : Int)))) = true then (some ([], (1 : Int))) else (if (((((coded1.length : Int)).tmod (2 : Int)) == (1 : Int)) || (decide ((IntKind.i64.wrap ((IntKind.i64.wrap (((coded1.length : Int)).tdiv (2 : Int))) - (IntKind.i64.wrap (c0_Length - (1 : Int))))) < (0 : Int)))) = true then (some ([], (6 : Int))) else ((loop (f_foghornref21_Exact.s1 c0_Length c0_One c0_Two coded1) ([], (0 : Int), (0 : Int))).bind (fun q38 => sm q38 (fun q40 => (some (q40, (0 : Int)))) (fun q41 => (some (q41.1, q41.2))))))))
theorem f_foghornref21_Exact_c {S : Nat → Prop} {w0 w : World} {ow : List Res} (hp : Hp S w0 w ow) (c0_Length : Int) (c0_One : Int) (c0_Two : Int) (vcoded1 : Value) (coded1 : (List Bool)) (hcoded1 : RdS Ek.bool S w0 vcoded1 coded1) {r : ((List Bool) × Int)} (h : f_foghornref21_Exact c0_Length c0_One c0_Two coded1 = some r) :
    Calls Try.prog 35 #[.agg #[.int .i64 c0_Length, .int .u32 c0_One, .int .u32 c0_Two], vcoded1] w (fun e w' => ∃ (u0 : Value), e = .returned (.tuple #[u0, .int .i64 r.2]) ∧ Hp S w0 w' (Res.sl Ek.bool 4 u0 r.1 :: ow)) := by
  unfold f_foghornref21_Exact at h
  refine enter (n := 101) (args := [.agg #[.int .i64 c0_Length, .int .u32 c0_One, .int .u32 c0_Two], vcoded1]) Try.func35 rfl rfl (Nat.le_of_ble_eq_true rfl) fun a hf => ?_
  replace hf : Fr 101 a [(0, .agg #[.int .i64 c0_Length, .int .u32 c0_One, .int .u32 c0_Two]), (1, vcoded1)] := hf
  refine wp_mono (Q := fun e a w => e = .ret ∧ ∃ (u0 : Value), Fr 101 a [(4, u0), (5, .int .i64 r.2)] ∧ Hp S w0 w (Res.sl Ek.bool 4 u0 r.1 :: ow)) ?_ ?_
  rotate_left
  · rintro e a w ⟨rfl, x0, hf, hp⟩
    exact ret2 hf rfl rfl rfl ⟨x0, rfl, hp⟩
  refine wp_seq ?_
  refine wp_reg ?_
  refine st_boxO (cs := [.int .i64 c0_Length, .int .u32 c0_One, .int .u32 c0_Two]) hf (by decide) hp rfl rfl rfl ?_
  clear hf; intro a w v1 hf hp0; clear hp; have hp := hp0; clear hp0
  replace hp : Hp _ _ _ (Res.obj 24 v1 [.int .i64 c0_Length, .int .u32 c0_One, .int .u32 c0_Two] :: ow) := hp
  refine st_assign hf rfl rfl (by decide) ?_
  clear hf; intro a ha hf; clear ha
  refine st_assign hf rfl rfl (by decide) ?_
  clear hf; intro a ha hf; clear ha
  refine st_nil hf ?_
  refine th_n ?_
  refine wp_seq ?_
  refine wp_seq ?_
  refine wp_reg ?_
  refine st_ldOA (m := 3) (us := [.int .i64 c0_Length, .int .u32 c0_One, .int .u32 c0_Two]) hf (by decide) (by kernel_rfl) rfl rfl (hp.ob (i := 0) rfl) rfl rfl ?_
  clear hf; intro a ha hf; clear ha
  obtain ⟨q3, hcall4, h⟩ := bnd h
  refine st_call hf (by decide) Try.func43 rfl rfl rfl rfl rfl (f_foghornref21_May_c hp _ _ _ hcall4) ?_
  rintro _ w ⟨rfl, hp0⟩
  clear hp; have hp := hp0; clear hp0
  replace hp : Hp _ _ _ (Res.obj 24 v1 [.int .i64 c0_Length, .int .u32 c0_One, .int .u32 c0_Two] :: ow) := hp
  refine ⟨_, rfl, ?_⟩
  clear hf; intro a hf
  refine st_not hf (by decide) rfl rfl ?_
  clear hf; intro a ha hf; clear ha
  refine st_move hf rfl rfl (by decide) ?_
  clear hf; intro a ha hf; clear ha
  refine wpList_cut 4 (fun a w => Fr 101 a [(1, vcoded1), (2, optr v1 0), (23, .bool ((!q3) || (decide ((32768 : Int) < (coded1.length : Int)))))] ∧ Hp S w0 w (Res.obj 24 v1 [.int .i64 c0_Length, .int .u32 c0_One, .int .u32 c0_Two] :: ow)) ?_ ?_
  · rcases Bool.eq_false_or_eq_true (!q3) with hb6 | hb6
    · skip
      refine st_skip hf (wantN hf rfl rfl hb6) rfl (by decide) ?_ rfl
      clear hf; intro a hf
      refine st_skip hf (wantN hf rfl rfl hb6) rfl (by decide) ?_ rfl
      clear hf; intro a hf
      refine st_skip hf (wantN hf rfl rfl hb6) rfl (by decide) ?_ rfl
      clear hf; intro a hf
      refine st_pick (v := .bool true) hf rfl rfl (fun hb' => ?_) (fun hb' => ?_) (by decide) ?_
      · rfl
      · exact absurd (hb6.symm.trans hb') (by decide)
      clear hf; intro a ha hf; clear ha
      refine st_nil hf (th_n ?_)
      exact ⟨hf.sub ⟨rfl, rfl, (by rw [hb6]; rfl), trivial⟩, hp⟩
    refine st_move hf (wantY hf rfl rfl hb6) rfl (by decide) ?_
    clear hf; intro a ha hf; clear ha
    refine st_len (E := Ek.bool) hf (by decide) Try.underlying25 (wantY hf rfl rfl hb6) rfl (hcoded1.sl hp) ?_
    clear hf; intro a ha hf; clear ha
    refine st_igtr hf (by decide) (wantY hf rfl rfl hb6) rfl rfl ?_
    clear hf; intro a ha hf; clear ha
    refine st_pick (v := .bool (decide ((32768 : Int) < (coded1.length : Int)))) hf rfl rfl (fun hb' => ?_) (fun hb' => ?_) (by decide) ?_
    · exact absurd (hb6.symm.trans hb') (by decide)
    · rfl
    clear hf; intro a ha hf; clear ha
    refine st_nil hf (th_n ?_)
    exact ⟨hf.sub ⟨rfl, rfl, (by rw [hb6]; rfl), trivial⟩, hp⟩
  rintro a w ⟨hf, hp⟩
  refine st_nil hf ?_
  refine th_n ?_
  refine wp_if hf rfl (fun hb => ?_) (fun hb => ?_)
  · replace h := ifT h hb
    refine wp_seq ?_
    refine wp_reg ?_
    refine st_assign hf rfl rfl (by decide) ?_
    clear hf; intro a ha hf; clear ha
    refine st_assign hf rfl rfl (by decide) ?_
    clear hf; intro a ha hf; clear ha
    refine st_nil hf ?_
    refine th_n ?_
    refine wp_ret ?_
    refine th_r ?_
    obtain rfl := Option.some.inj h
    have hp := hp.nil Ek.bool 4
    have hp : Hp _ _ _ (Res.sl Ek.bool 4 (.slice none 0 0) ([]) :: ow) := Hp.sel (pre := [Res.sl Ek.bool 4 (.slice none 0 0) ([]), Res.obj 24 v1 [.int .i64 c0_Length, .int .u32 c0_One, .int .u32 c0_Two]]) (tail := ow) (rs' := [Res.sl Ek.bool 4 (.slice none 0 0) ([])]) hp [0] (by decide) (by simp) rfl
    exact ⟨rfl, ⟨_, hf.sub ⟨rfl, rfl, trivial⟩, hp⟩⟩
  replace h := ifF h hb
  refine wp_skip ?_
  refine th_n ?_
  refine wp_seq ?_
  refine wp_reg ?_
  refine st_move hf rfl rfl (by decide) ?_
  clear hf; intro a ha hf; clear ha
  refine st_len (E := Ek.bool) hf (by decide) Try.underlying25 rfl rfl (hcoded1.sl hp) ?_
  clear hf; intro a ha hf; clear ha
  refine st_iquo hf (by decide) rfl rfl rfl (by decide) ?_
  clear hf; intro a ha hf; clear ha
  refine st_fa (o' := 0) hf (by decide) (off := 0) (sz := 1) (by kernel_rfl) (by decide) rfl rfl (hp.ob (i := 0) rfl) rfl ?_
  clear hf; intro a ha hf; clear ha
  refine st_ldO (u := .int .i64 c0_Length) hf (by decide) pl3 rfl rfl (hp.ob (i := 0) rfl) rfl ?_
  clear hf; intro a ha hf; clear ha
  refine st_isub hf (by decide) rfl rfl rfl ?_
  clear hf; intro a ha hf; clear ha
  refine st_isub hf (by decide) rfl rfl rfl ?_
  clear hf; intro a ha hf; clear ha
  refine st_assign hf rfl rfl (by decide) ?_
  clear hf; intro a ha hf; clear ha
  refine st_nil hf ?_
  refine th_n ?_
  refine wp_seq ?_
  refine wp_seq ?_
  refine wp_reg ?_
  refine st_move hf rfl rfl (by decide) ?_
  clear hf; intro a ha hf; clear ha
  refine st_len (E := Ek.bool) hf (by decide) Try.underlying25 rfl rfl (hcoded1.sl hp) ?_
  clear hf; intro a ha hf; clear ha
  refine st_irem hf (by decide) rfl rfl rfl (by decide) ?_
  clear hf; intro a ha hf; clear ha
  refine st_ieql hf (by decide) rfl rfl rfl ?_
  clear hf; intro a ha hf; clear ha
  refine st_move hf rfl rfl (by decide) ?_
  clear hf; intro a ha hf; clear ha
  refine wpList_cut 3 (fun a w => Fr 101 a [(1, vcoded1), (2, optr v1 0), (6, .int .i64 (IntKind.i64.wrap ((IntKind.i64.wrap (((coded1.length : Int)).tdiv (2 : Int))) - (IntKind.i64.wrap (c0_Length - (1 : Int)))))), (38, .bool (((((coded1.length : Int)).tmod (2 : Int)) == (1 : Int)) || (decide ((IntKind.i64.wrap ((IntKind.i64.wrap (((coded1.length : Int)).tdiv (2 : Int))) - (IntKind.i64.wrap (c0_Length - (1 : Int))))) < (0 : Int)))))] ∧ Hp S w0 w (Res.obj 24 v1 [.int .i64 c0_Length, .int .u32 c0_One, .int .u32 c0_Two] :: ow)) ?_ ?_
  · rcases Bool.eq_false_or_eq_true ((((coded1.length : Int)).tmod (2 : Int)) == (1 : Int)) with hb9 | hb9
    · skip
      refine st_skip hf (wantN hf rfl rfl hb9) rfl (by decide) ?_ rfl
      clear hf; intro a hf
      refine st_skip hf (wantN hf rfl rfl hb9) rfl (by decide) ?_ rfl
      clear hf; intro a hf
      refine st_pick (v := .bool true) hf rfl rfl (fun hb' => ?_) (fun hb' => ?_) (by decide) ?_
      · rfl
      · exact absurd (hb9.symm.trans hb') (by decide)
      clear hf; intro a ha hf; clear ha
      refine st_nil hf (th_n ?_)
      exact ⟨hf.sub ⟨rfl, rfl, rfl, (by rw [hb9]; rfl), trivial⟩, hp⟩
    refine st_move hf (wantY hf rfl rfl hb9) rfl (by decide) ?_
    clear hf; intro a ha hf; clear ha
    refine st_ilss hf (by decide) (wantY hf rfl rfl hb9) rfl rfl ?_
    clear hf; intro a ha hf; clear ha
    refine st_pick (v := .bool (decide ((IntKind.i64.wrap ((IntKind.i64.wrap (((coded1.length : Int)).tdiv (2 : Int))) - (IntKind.i64.wrap (c0_Length - (1 : Int))))) < (0 : Int)))) hf rfl rfl (fun hb' => ?_) (fun hb' => ?_) (by decide) ?_
    · exact absurd (hb9.symm.trans hb') (by decide)
    · rfl
    clear hf; intro a ha hf; clear ha
    refine st_nil hf (th_n ?_)
    exact ⟨hf.sub ⟨rfl, rfl, rfl, (by rw [hb9]; rfl), trivial⟩, hp⟩
  rintro a w ⟨hf, hp⟩
  refine st_nil hf ?_
  refine th_n ?_
  refine wp_if hf rfl (fun hb => ?_) (fun hb => ?_)
  · replace h := ifT h hb
    refine wp_seq ?_
    refine wp_reg ?_
    refine st_assign hf rfl rfl (by decide) ?_
    clear hf; intro a ha hf; clear ha
    refine st_assign hf rfl rfl (by decide) ?_
    clear hf; intro a ha hf; clear ha
    refine st_nil hf ?_
    refine th_n ?_
    refine wp_ret ?_
    refine th_r ?_
    obtain rfl := Option.some.inj h
    have hp := hp.nil Ek.bool 4
    have hp : Hp _ _ _ (Res.sl Ek.bool 4 (.slice none 0 0) ([]) :: ow) := Hp.sel (pre := [Res.sl Ek.bool 4 (.slice none 0 0) ([]), Res.obj 24 v1 [.int .i64 c0_Length, .int .u32 c0_One, .int .u32 c0_Two]]) (tail := ow) (rs' := [Res.sl Ek.bool 4 (.slice none 0 0) ([])]) hp [0] (by decide) (by simp) rfl
    exact ⟨rfl, ⟨_, hf.sub ⟨rfl, rfl, trivial⟩, hp⟩⟩
  replace h := ifF h hb
  refine wp_skip ?_
  refine th_n ?_
  refine wp_seq ?_
  refine wp_reg ?_
  refine st_assign hf rfl rfl (by decide) ?_
  clear hf; intro a ha hf; clear ha
  refine st_nil hf ?_
  refine th_n ?_
  refine wp_seq ?_
  refine wp_reg ?_
  refine st_assign hf rfl rfl (by decide) ?_
  clear hf; intro a ha hf; clear ha
  refine st_nil hf ?_
  refine th_n ?_
  refine wp_seq ?_
  refine wp_seq ?_
  refine wp_reg ?_
  refine st_assign hf rfl rfl (by decide) ?_
  clear hf; intro a ha hf; clear ha
  refine st_nil hf ?_
  refine th_n ?_
  refine wp_block ?_
  obtain ⟨q38, hl, h⟩ := bnd h
  have hp := hp.nil Ek.bool 4
  refine wp_loop_pure (f := (f_foghornref21_Exact.s1 c0_Length c0_One c0_Two coded1)) (s := ([], (0 : Int), (0 : Int))) (fun s a w => ∃ (v11 : Value), Fr 101 a [(1, vcoded1), (2, optr v1 0), (6, .int .i64 (IntKind.i64.wrap ((IntKind.i64.wrap (((coded1.length : Int)).tdiv (2 : Int))) - (IntKind.i64.wrap (c0_Length - (1 : Int)))))), (7, v11), (8, .int .i64 s.2.1), (9, .int .i64 s.2.2)] ∧ Hp S w0 w (Res.sl Ek.bool 4 v11 s.1 :: Res.obj 24 v1 [.int .i64 c0_Length, .int .u32 c0_One, .int .u32 c0_Two] :: ow)) (fun q e a w => match q with | (Sum.inl q) => e = .exit 0 ∧ ∃ (v13 : Value), Fr 101 a [(7, v13)] ∧ Hp S w0 w (Res.sl Ek.bool 4 v13 q :: ow) | (Sum.inr q) => e = .ret ∧ ∃ (u0 : Value), Fr 101 a [(4, u0), (5, .int .i64 q.2)] ∧ Hp S w0 w (Res.sl Ek.bool 4 u0 q.1 :: ow)) ?_ hl ⟨_, hf.sub ⟨rfl, rfl, rfl, rfl, rfl, rfl, trivial⟩, hp⟩ ?_
  · clear hl hf hp
    intro s x a w h hI
    obtain ⟨out7, s8, i9⟩ := s
    obtain ⟨v11, hf, hp⟩ : ∃ (v11 : Value), Fr 101 a [(1, vcoded1), (2, optr v1 0), (6, .int .i64 (IntKind.i64.wrap ((IntKind.i64.wrap (((coded1.length : Int)).tdiv (2 : Int))) - (IntKind.i64.wrap (c0_Length - (1 : Int)))))), (7, v11), (8, .int .i64 s8), (9, .int .i64 i9)] ∧ Hp S w0 w (Res.sl Ek.bool 4 v11 out7 :: Res.obj 24 v1 [.int .i64 c0_Length, .int .u32 c0_One, .int .u32 c0_Two] :: ow) := hI
    replace h : f_foghornref21_Exact.s1c c0_Length c0_One c0_Two coded1 out7 s8 i9 = some x := h
    unfold f_foghornref21_Exact.s1c at h
    refine wp_seq ?_
    refine wp_seq ?_
    refine wp_reg ?_
    refine st_move hf rfl rfl (by decide) ?_
    clear hf; intro a ha hf; clear ha
    refine st_move hf rfl rfl (by decide) ?_
    clear hf; intro a ha hf; clear ha
    refine st_len (E := Ek.bool) hf (by decide) Try.underlying25 rfl rfl (hcoded1.sl hp) ?_
    clear hf; intro a ha hf; clear ha
    refine st_iquo hf (by decide) rfl rfl rfl (by decide) ?_
    clear hf; intro a ha hf; clear ha
    refine st_ilss hf (by decide) rfl rfl rfl ?_
    clear hf; intro a ha hf; clear ha
    refine st_nil hf ?_
    refine th_n ?_
    refine wp_if hf rfl (fun hb => ?_) (fun hb => ?_)
    · replace h := ifT h hb
      refine wp_skip ?_
      refine th_n ?_
      refine wp_seq ?_
      refine wp_block ?_
      refine wp_seq ?_
      refine wp_reg ?_
      refine st_assign hf rfl rfl (by decide) ?_
      clear hf; intro a ha hf; clear ha
      refine st_nil hf ?_
      refine th_n ?_
      refine wp_seq ?_
      refine wp_seq ?_
      refine wp_reg ?_
      refine st_assign hf rfl rfl (by decide) ?_
      clear hf; intro a ha hf; clear ha
      refine st_nil hf ?_
      refine th_n ?_
      refine wp_block ?_
      obtain ⟨q36, hl, h⟩ := bnd h
      refine wp_loop_pure (f := (f_foghornref21_Exact.s2 c0_Length c0_One c0_Two coded1 i9)) (s := (out7, s8, false, (0 : Int))) (fun s a w => ∃ (v15 : Value), Fr 101 a [(1, vcoded1), (2, optr v1 0), (6, .int .i64 (IntKind.i64.wrap ((IntKind.i64.wrap (((coded1.length : Int)).tdiv (2 : Int))) - (IntKind.i64.wrap (c0_Length - (1 : Int)))))), (7, v15), (8, .int .i64 s.2.1), (9, .int .i64 i9), (10, .bool s.2.2.1), (11, .int .i64 s.2.2.2)] ∧ Hp S w0 w (Res.sl Ek.bool 4 v15 s.1 :: Res.obj 24 v1 [.int .i64 c0_Length, .int .u32 c0_One, .int .u32 c0_Two] :: ow)) (fun q e a w => e = .exit 2 ∧ ∃ (v17 : Value), Fr 101 a [(1, vcoded1), (2, optr v1 0), (6, .int .i64 (IntKind.i64.wrap ((IntKind.i64.wrap (((coded1.length : Int)).tdiv (2 : Int))) - (IntKind.i64.wrap (c0_Length - (1 : Int)))))), (7, v17), (8, .int .i64 q.2.1), (9, .int .i64 i9), (10, .bool q.2.2)] ∧ Hp S w0 w (Res.sl Ek.bool 4 v17 q.1 :: Res.obj 24 v1 [.int .i64 c0_Length, .int .u32 c0_One, .int .u32 c0_Two] :: ow)) ?_ hl ⟨_, hf.sub ⟨rfl, rfl, rfl, rfl, rfl, rfl, rfl, rfl, trivial⟩, hp⟩ ?_
      · clear hl hf hp
        intro s x a w h hI
        obtain ⟨out7, s8, fits10, k11⟩ := s
        obtain ⟨v15, hf, hp⟩ : ∃ (v15 : Value), Fr 101 a [(1, vcoded1), (2, optr v1 0), (6, .int .i64 (IntKind.i64.wrap ((IntKind.i64.wrap (((coded1.length : Int)).tdiv (2 : Int))) - (IntKind.i64.wrap (c0_Length - (1 : Int)))))), (7, v15), (8, .int .i64 s8), (9, .int .i64 i9), (10, .bool fits10), (11, .int .i64 k11)] ∧ Hp S w0 w (Res.sl Ek.bool 4 v15 out7 :: Res.obj 24 v1 [.int .i64 c0_Length, .int .u32 c0_One, .int .u32 c0_Two] :: ow) := hI
        replace h : f_foghornref21_Exact.s2c c0_Length c0_One c0_Two coded1 i9 out7 s8 fits10 k11 = some x := h
        unfold f_foghornref21_Exact.s2c at h
        refine wp_seq ?_
        refine wp_seq ?_
        refine wp_reg ?_
        refine st_move hf rfl rfl (by decide) ?_
        clear hf; intro a ha hf; clear ha
        refine st_ilss hf (by decide) rfl rfl rfl ?_
        clear hf; intro a ha hf; clear ha
        refine st_move hf rfl rfl (by decide) ?_
        clear hf; intro a ha hf; clear ha
        refine wpList_cut 3 (fun a w => Fr 101 a [(1, vcoded1), (2, optr v1 0), (6, .int .i64 (IntKind.i64.wrap ((IntKind.i64.wrap (((coded1.length : Int)).tdiv (2 : Int))) - (IntKind.i64.wrap (c0_Length - (1 : Int)))))), (7, v15), (8, .int .i64 s8), (9, .int .i64 i9), (10, .bool fits10), (11, .int .i64 k11), (51, .bool ((decide (k11 < (2 : Int))) && (!fits10)))] ∧ Hp S w0 w (Res.sl Ek.bool 4 v15 out7 :: Res.obj 24 v1 [.int .i64 c0_Length, .int .u32 c0_One, .int .u32 c0_Two] :: ow)) ?_ ?_
        · rcases Bool.eq_false_or_eq_true (decide (k11 < (2 : Int))) with hb20 | hb20
          · skip
            refine st_move hf (wantY hf rfl rfl hb20) rfl (by decide) ?_
            clear hf; intro a ha hf; clear ha
            refine st_not hf (by decide) (wantY hf rfl rfl hb20) rfl ?_
            clear hf; intro a ha hf; clear ha
            refine st_pick (v := .bool (!fits10)) hf rfl rfl (fun hb' => ?_) (fun hb' => ?_) (by decide) ?_
            · rfl
            · exact absurd (hb20.symm.trans hb') (by decide)
            clear hf; intro a ha hf; clear ha
            refine st_nil hf (th_n ?_)
            exact ⟨hf.sub ⟨rfl, rfl, rfl, rfl, rfl, rfl, rfl, rfl, (by rw [hb20]; rfl), trivial⟩, hp⟩
          refine st_skip hf (wantN hf rfl rfl hb20) rfl (by decide) ?_ rfl
          clear hf; intro a hf
          refine st_skip hf (wantN hf rfl rfl hb20) rfl (by decide) ?_ rfl
          clear hf; intro a hf
          refine st_pick (v := .bool false) hf rfl rfl (fun hb' => ?_) (fun hb' => ?_) (by decide) ?_
          · exact absurd (hb20.symm.trans hb') (by decide)
          · rfl
          clear hf; intro a ha hf; clear ha
          refine st_nil hf (th_n ?_)
          exact ⟨hf.sub ⟨rfl, rfl, rfl, rfl, rfl, rfl, rfl, rfl, (by rw [hb20]; rfl), trivial⟩, hp⟩
        rintro a w ⟨hf, hp⟩
        refine st_nil hf ?_
        refine th_n ?_
        refine wp_if hf rfl (fun hb => ?_) (fun hb => ?_)
        · replace h := ifT h hb
          refine wp_skip ?_
          refine th_n ?_
          refine wp_seq ?_
          refine wp_block ?_
          refine wp_seq ?_
          refine wp_reg ?_
          refine st_move hf rfl rfl (by decide) ?_
          clear hf; intro a ha hf; clear ha
          refine st_ieql hf (by decide) rfl rfl rfl ?_
          clear hf; intro a ha hf; clear ha
          refine st_assign hf rfl rfl (by decide) ?_
          clear hf; intro a ha hf; clear ha
          refine st_nil hf ?_
          refine th_n ?_
          refine wp_seq ?_
          refine wp_reg ?_
          refine st_ldOA (m := 3) (us := [.int .i64 c0_Length, .int .u32 c0_One, .int .u32 c0_Two]) hf (by decide) (by kernel_rfl) rfl rfl (hp.ob (i := 1) rfl) rfl rfl ?_
          clear hf; intro a ha hf; clear ha
          refine st_move hf rfl rfl (by decide) ?_
          clear hf; intro a ha hf; clear ha
          refine st_move hf rfl rfl (by decide) ?_
          clear hf; intro a ha hf; clear ha
          obtain ⟨q21, hcall22, h⟩ := bnd h
          refine st_call hf (by decide) Try.func42 rfl rfl rfl rfl rfl (f_foghornref21_Go_c hp _ _ _ _ _ hcall22) ?_
          rintro _ w ⟨rfl, hp0⟩
          clear hp; have hp := hp0; clear hp0
          replace hp : Hp _ _ _ (Res.sl Ek.bool 4 v15 out7 :: Res.obj 24 v1 [.int .i64 c0_Length, .int .u32 c0_One, .int .u32 c0_Two] :: ow) := hp
          refine ⟨_, rfl, ?_⟩
          clear hf; intro a hf
          refine st_move hf rfl rfl (by decide) ?_
          clear hf; intro a ha hf; clear ha
          refine st_extract hf (by decide) rfl rfl rfl ?_
          clear hf; intro a ha hf; clear ha
          refine st_extract hf (by decide) rfl rfl rfl ?_
          clear hf; intro a ha hf; clear ha
          refine st_extract hf (by decide) rfl rfl rfl ?_
          clear hf; intro a ha hf; clear ha
          refine st_assign hf rfl rfl (by decide) ?_
          clear hf; intro a ha hf; clear ha
          refine st_assign hf rfl rfl (by decide) ?_
          clear hf; intro a ha hf; clear ha
          refine st_assign hf rfl rfl (by decide) ?_
          clear hf; intro a ha hf; clear ha
          refine st_nil hf ?_
          refine th_n ?_
          refine wp_seq ?_
          refine wp_reg ?_
          refine st_move hf rfl rfl (by decide) ?_
          clear hf; intro a ha hf; clear ha
          refine st_move hf rfl rfl (by decide) ?_
          clear hf; intro a ha hf; clear ha
          refine st_move hf rfl rfl (by decide) ?_
          clear hf; intro a ha hf; clear ha
          refine st_imul hf (by decide) rfl rfl rfl ?_
          clear hf; intro a ha hf; clear ha
          obtain ⟨hc23, h⟩ := chk h
          refine st_index (E := Ek.bool) hf (by decide) Try.underlying25 elt4 rfl rfl rfl (hcoded1.sl hp) hc23.1 hc23.2 ?_
          clear hf; intro a ha hf; clear ha
          refine st_ldB hf (by decide) pl4 rfl rfl (hcoded1.sl hp) hc23.1 hc23.2 ?_
          clear hf; intro a ha hf; clear ha
          refine st_beql hf (by decide) Try.underlying4 rfl rfl rfl ?_
          clear hf; intro a ha hf; clear ha
          refine st_move hf rfl rfl (by decide) ?_
          clear hf; intro a ha hf; clear ha
          obtain ⟨z26, hz24, h⟩ := bnd h
          refine wpList_cut 9 (fun a w => Fr 101 a [(1, vcoded1), (2, optr v1 0), (6, .int .i64 (IntKind.i64.wrap ((IntKind.i64.wrap (((coded1.length : Int)).tdiv (2 : Int))) - (IntKind.i64.wrap (c0_Length - (1 : Int)))))), (7, v15), (8, .int .i64 s8), (9, .int .i64 i9), (10, .bool fits10), (11, .int .i64 k11), (12, .bool (k11 == (1 : Int))), (13, .int .i64 q21.1), (80, .bool z26)] ∧ Hp S w0 w (Res.sl Ek.bool 4 v15 out7 :: Res.obj 24 v1 [.int .i64 c0_Length, .int .u32 c0_One, .int .u32 c0_Two] :: ow)) ?_ ?_
          · rcases Bool.eq_false_or_eq_true (q21.2.1 == (gt coded1 (IntKind.i64.wrap ((2 : Int) * i9)))) with hb25 | hb25
            · skip
              replace hz24 := ifT hz24 hb25
              refine st_move hf (wantY hf rfl rfl hb25) rfl (by decide) ?_
              clear hf; intro a ha hf; clear ha
              refine st_move hf (wantY hf rfl rfl hb25) rfl (by decide) ?_
              clear hf; intro a ha hf; clear ha
              refine st_move hf (wantY hf rfl rfl hb25) rfl (by decide) ?_
              clear hf; intro a ha hf; clear ha
              refine st_imul hf (by decide) (wantY hf rfl rfl hb25) rfl rfl ?_
              clear hf; intro a ha hf; clear ha
              refine st_iadd hf (by decide) (wantY hf rfl rfl hb25) rfl rfl ?_
              clear hf; intro a ha hf; clear ha
              obtain ⟨hc27, hz24⟩ := chk hz24
              refine st_index (E := Ek.bool) hf (by decide) Try.underlying25 elt4 (wantY hf rfl rfl hb25) rfl rfl (hcoded1.sl hp) hc27.1 hc27.2 ?_
              clear hf; intro a ha hf; clear ha
              refine st_ldB hf (by decide) pl4 (wantY hf rfl rfl hb25) rfl (hcoded1.sl hp) hc27.1 hc27.2 ?_
              clear hf; intro a ha hf; clear ha
              refine st_beql hf (by decide) Try.underlying4 (wantY hf rfl rfl hb25) rfl rfl ?_
              clear hf; intro a ha hf; clear ha
              obtain rfl := Option.some.inj hz24
              refine st_pick (v := .bool (q21.2.2 == (gt coded1 (IntKind.i64.wrap ((IntKind.i64.wrap ((2 : Int) * i9)) + (1 : Int)))))) hf rfl rfl (fun hb' => ?_) (fun hb' => ?_) (by decide) ?_
              · rfl
              · exact absurd (hb25.symm.trans hb') (by decide)
              clear hf; intro a ha hf; clear ha
              refine st_nil hf (th_n ?_)
              exact ⟨hf.sub ⟨rfl, rfl, rfl, rfl, rfl, rfl, rfl, rfl, rfl, rfl, rfl, trivial⟩, hp⟩
            replace hz24 := ifF hz24 hb25
            refine st_skip hf (wantN hf rfl rfl hb25) rfl (by decide) ?_ rfl
            clear hf; intro a hf
            refine st_skip hf (wantN hf rfl rfl hb25) rfl (by decide) ?_ rfl
            clear hf; intro a hf
            refine st_skip hf (wantN hf rfl rfl hb25) rfl (by decide) ?_ rfl
            clear hf; intro a hf
            refine st_skip hf (wantN hf rfl rfl hb25) rfl (by decide) ?_ rfl
            clear hf; intro a hf
            refine st_skip hf (wantN hf rfl rfl hb25) rfl (by decide) ?_ rfl
            clear hf; intro a hf
            refine st_skip hf (wantN hf rfl rfl hb25) rfl (by decide) ?_ rfl
            clear hf; intro a hf
            refine st_skip hf (wantN hf rfl rfl hb25) rfl (by decide) ?_ rfl
            clear hf; intro a hf
            refine st_skip hf (wantN hf rfl rfl hb25) rfl (by decide) ?_ rfl
            clear hf; intro a hf
            obtain rfl := Option.some.inj hz24
            refine st_pick (v := .bool false) hf rfl rfl (fun hb' => ?_) (fun hb' => ?_) (by decide) ?_
            · exact absurd (hb25.symm.trans hb') (by decide)
            · rfl
            clear hf; intro a ha hf; clear ha
            refine st_nil hf (th_n ?_)
            exact ⟨hf.sub ⟨rfl, rfl, rfl, rfl, rfl, rfl, rfl, rfl, rfl, rfl, rfl, trivial⟩, hp⟩
          rintro a w ⟨hf, hp⟩
          refine st_move hf rfl rfl (by decide) ?_
          clear hf; intro a ha hf; clear ha
          refine wpList_cut 8 (fun a w => Fr 101 a [(1, vcoded1), (2, optr v1 0), (6, .int .i64 (IntKind.i64.wrap ((IntKind.i64.wrap (((coded1.length : Int)).tdiv (2 : Int))) - (IntKind.i64.wrap (c0_Length - (1 : Int)))))), (7, v15), (8, .int .i64 s8), (9, .int .i64 i9), (10, .bool fits10), (11, .int .i64 k11), (12, .bool (k11 == (1 : Int))), (13, .int .i64 q21.1), (89, .bool (z26 && ((decide (i9 < (IntKind.i64.wrap ((IntKind.i64.wrap (((coded1.length : Int)).tdiv (2 : Int))) - (IntKind.i64.wrap (c0_Length - (1 : Int))))))) || (!(k11 == (1 : Int))))))] ∧ Hp S w0 w (Res.sl Ek.bool 4 v15 out7 :: Res.obj 24 v1 [.int .i64 c0_Length, .int .u32 c0_One, .int .u32 c0_Two] :: ow)) ?_ ?_
          · rcases Bool.eq_false_or_eq_true z26 with hb29 | hb29
            · skip
              refine st_move hf (wantY hf rfl rfl hb29) rfl (by decide) ?_
              clear hf; intro a ha hf; clear ha
              refine st_move hf (wantY hf rfl rfl hb29) rfl (by decide) ?_
              clear hf; intro a ha hf; clear ha
              refine st_ilss hf (by decide) (wantY hf rfl rfl hb29) rfl rfl ?_
              clear hf; intro a ha hf; clear ha
              refine st_move hf (wantY hf rfl rfl hb29) rfl (by decide) ?_
              clear hf; intro a ha hf; clear ha
              refine wpList_cut 3 (fun a w => Fr 101 a [(1, vcoded1), (2, optr v1 0), (6, .int .i64 (IntKind.i64.wrap ((IntKind.i64.wrap (((coded1.length : Int)).tdiv (2 : Int))) - (IntKind.i64.wrap (c0_Length - (1 : Int)))))), (7, v15), (8, .int .i64 s8), (9, .int .i64 i9), (10, .bool fits10), (11, .int .i64 k11), (12, .bool (k11 == (1 : Int))), (13, .int .i64 q21.1), (81, .bool z26), (88, .bool ((decide (i9 < (IntKind.i64.wrap ((IntKind.i64.wrap (((coded1.length : Int)).tdiv (2 : Int))) - (IntKind.i64.wrap (c0_Length - (1 : Int))))))) || (!(k11 == (1 : Int)))))] ∧ Hp S w0 w (Res.sl Ek.bool 4 v15 out7 :: Res.obj 24 v1 [.int .i64 c0_Length, .int .u32 c0_One, .int .u32 c0_Two] :: ow)) ?_ ?_
              · rcases Bool.eq_false_or_eq_true (decide (i9 < (IntKind.i64.wrap ((IntKind.i64.wrap (((coded1.length : Int)).tdiv (2 : Int))) - (IntKind.i64.wrap (c0_Length - (1 : Int))))))) with hb31 | hb31
                · skip
                  refine st_skip hf (wantN hf rfl rfl hb31) rfl (by decide) ?_ rfl
                  clear hf; intro a hf
                  refine st_skip hf (wantN hf rfl rfl hb31) rfl (by decide) ?_ rfl
                  clear hf; intro a hf
                  refine st_pick (v := .bool true) hf (wantY hf rfl rfl hb29) rfl (fun hb' => ?_) (fun hb' => ?_) (by decide) ?_
                  · rfl
                  · exact absurd (hb31.symm.trans hb') (by decide)
                  clear hf; intro a ha hf; clear ha
                  refine st_nil hf (th_n ?_)
                  exact ⟨hf.sub ⟨rfl, rfl, rfl, rfl, rfl, rfl, rfl, rfl, rfl, rfl, rfl, (by rw [hb31]; rfl), trivial⟩, hp⟩
                refine st_move hf (wantY hf rfl rfl hb31) rfl (by decide) ?_
                clear hf; intro a ha hf; clear ha
                refine st_not hf (by decide) (wantY hf rfl rfl hb31) rfl ?_
                clear hf; intro a ha hf; clear ha
                refine st_pick (v := .bool (!(k11 == (1 : Int)))) hf (wantY hf rfl rfl hb29) rfl (fun hb' => ?_) (fun hb' => ?_) (by decide) ?_
                · exact absurd (hb31.symm.trans hb') (by decide)
                · rfl
                clear hf; intro a ha hf; clear ha
                refine st_nil hf (th_n ?_)
                exact ⟨hf.sub ⟨rfl, rfl, rfl, rfl, rfl, rfl, rfl, rfl, rfl, rfl, rfl, (by rw [hb31]; rfl), trivial⟩, hp⟩
              rintro a w ⟨hf, hp⟩
              refine st_pick (v := .bool ((decide (i9 < (IntKind.i64.wrap ((IntKind.i64.wrap (((coded1.length : Int)).tdiv (2 : Int))) - (IntKind.i64.wrap (c0_Length - (1 : Int))))))) || (!(k11 == (1 : Int))))) hf rfl rfl (fun hb' => ?_) (fun hb' => ?_) (by decide) ?_
              · rfl
              · exact absurd (hb29.symm.trans hb') (by decide)
              clear hf; intro a ha hf; clear ha
              refine st_nil hf (th_n ?_)
              exact ⟨hf.sub ⟨rfl, rfl, rfl, rfl, rfl, rfl, rfl, rfl, rfl, rfl, (by rw [hb29]; rfl), trivial⟩, hp⟩
            refine st_skip hf (wantN hf rfl rfl hb29) rfl (by decide) ?_ rfl
            clear hf; intro a hf
            refine st_skip hf (wantN hf rfl rfl hb29) rfl (by decide) ?_ rfl
            clear hf; intro a hf
            refine st_skip hf (wantN hf rfl rfl hb29) rfl (by decide) ?_ rfl
            clear hf; intro a hf
            refine st_skipU hf (wantN hf rfl rfl hb29) rfl (by decide) ?_
            clear hf; intro a hf
            refine st_skip hf (wantU hf rfl rfl) rfl (by decide) ?_ rfl
            clear hf; intro a hf
            refine st_skip hf (wantU hf rfl rfl) rfl (by decide) ?_ rfl
            clear hf; intro a hf
            refine st_skip hf (wantN hf rfl rfl hb29) rfl (by decide) ?_ rfl
            clear hf; intro a hf
            refine st_pick (v := .bool false) hf rfl rfl (fun hb' => ?_) (fun hb' => ?_) (by decide) ?_
            · exact absurd (hb29.symm.trans hb') (by decide)
            · rfl
            clear hf; intro a ha hf; clear ha
            refine st_nil hf (th_n ?_)
            exact ⟨hf.sub ⟨rfl, rfl, rfl, rfl, rfl, rfl, rfl, rfl, rfl, rfl, (by rw [hb29]; rfl), trivial⟩, hp⟩
          rintro a w ⟨hf, hp⟩
          refine st_nil hf ?_
          refine th_n ?_
          refine wp_if hf rfl (fun hb => ?_) (fun hb => ?_)
          · replace h := ifT h hb
            refine wp_seq ?_
            refine wp_reg ?_
            refine st_assign hf rfl rfl (by decide) ?_
            clear hf; intro a ha hf; clear ha
            refine st_nil hf ?_
            refine th_n ?_
            refine wp_seq ?_
            refine wp_reg ?_
            refine st_move hf rfl rfl (by decide) ?_
            clear hf; intro a ha hf; clear ha
            refine st_assign hf rfl rfl (by decide) ?_
            clear hf; intro a ha hf; clear ha
            refine st_nil hf ?_
            refine th_n ?_
            refine wp_seq ?_
            refine wp_reg ?_
            refine st_move hf rfl rfl (by decide) ?_
            clear hf; intro a ha hf; clear ha
            refine st_move hf rfl rfl (by decide) ?_
            clear hf; intro a ha hf; clear ha
            refine st_ilss hf (by decide) rfl rfl rfl ?_
            clear hf; intro a ha hf; clear ha
            refine st_nil hf ?_
            refine th_n ?_
            refine wp_if hf rfl (fun hb => ?_) (fun hb => ?_)
            · replace h := ifT h hb
              refine wp_reg ?_
              refine st_move hf rfl rfl (by decide) ?_
              clear hf; intro a ha hf; clear ha
              refine st_move hf rfl rfl (by decide) ?_
              clear hf; intro a ha hf; clear ha
              refine st_build (E := Ek.bool) (xs := [(k11 == (1 : Int))]) hf (by decide) elt4 Try.underlying25 hp (vals := #[(0, .bool (k11 == (1 : Int)))]) (cells := #[.bool (k11 == (1 : Int))]) rfl (by simp [hf.ev (x := (Operand.tmp 95)) rfl]) (by decide) (by decide) (z := .bool false) (by kernel_rfl) (by kernel_rfl) rfl (reps_cons (cs := [.bool (k11 == (1 : Int))]) rfl (reps_nil _)) ?_
              clear hf; intro a w v32 hf hp0; clear hp; have hp := hp0; clear hp0
              replace hp : Hp _ _ _ (Res.sl Ek.bool 4 v32 ([(k11 == (1 : Int))]) :: Res.sl Ek.bool 4 v15 out7 :: Res.obj 24 v1 [.int .i64 c0_Length, .int .u32 c0_One, .int .u32 c0_Two] :: ow) := hp
              obtain ⟨hc34, h⟩ := chk h
              refine st_append (E := Ek.bool) hf (by decide) elt4 Try.underlying25 (by decide) hp (i := 1) rfl rfl rfl rfl (hp.sl (i := 0) rfl) hc34 ?_
              clear hf; intro a w v35 hf hp0; clear hp; have hp := hp0; clear hp0
              replace hp : Hp _ _ _ (Res.sl Ek.bool 4 v32 ([(k11 == (1 : Int))]) :: Res.sl Ek.bool 4 v35 (out7 ++ [(k11 == (1 : Int))]) :: Res.obj 24 v1 [.int .i64 c0_Length, .int .u32 c0_One, .int .u32 c0_Two] :: ow) := hp
              refine st_assign hf rfl rfl (by decide) ?_
              clear hf; intro a ha hf; clear ha
              refine st_nil hf ?_
              refine ib_n ?_
              refine th_n ?_
              refine wp_reg ?_
              refine st_move hf rfl rfl (by decide) ?_
              clear hf; intro a ha hf; clear ha
              refine st_iadd hf (by decide) rfl rfl rfl ?_
              clear hf; intro a ha hf; clear ha
              refine st_assign hf rfl rfl (by decide) ?_
              clear hf; intro a ha hf; clear ha
              refine st_nil hf ?_
              obtain rfl := Option.some.inj h
              have hp : Hp _ _ _ (Res.sl Ek.bool 4 v35 (out7 ++ [(k11 == (1 : Int))]) :: Res.obj 24 v1 [.int .i64 c0_Length, .int .u32 c0_One, .int .u32 c0_Two] :: ow) := Hp.sel (pre := [Res.sl Ek.bool 4 v32 ([(k11 == (1 : Int))]), Res.sl Ek.bool 4 v35 (out7 ++ [(k11 == (1 : Int))]), Res.obj 24 v1 [.int .i64 c0_Length, .int .u32 c0_One, .int .u32 c0_Two]]) (tail := ow) (rs' := [Res.sl Ek.bool 4 v35 (out7 ++ [(k11 == (1 : Int))]), Res.obj 24 v1 [.int .i64 c0_Length, .int .u32 c0_One, .int .u32 c0_Two]]) hp [1, 2] (by decide) (by simp) rfl
              exact rnd_l ⟨_, hf.sub ⟨rfl, rfl, rfl, rfl, rfl, rfl, rfl, rfl, trivial⟩, hp⟩
            replace h := ifF h hb
            refine wp_skip ?_
            refine ib_n ?_
            refine th_n ?_
            refine wp_reg ?_
            refine st_move hf rfl rfl (by decide) ?_
            clear hf; intro a ha hf; clear ha
            refine st_iadd hf (by decide) rfl rfl rfl ?_
            clear hf; intro a ha hf; clear ha
            refine st_assign hf rfl rfl (by decide) ?_
            clear hf; intro a ha hf; clear ha
            refine st_nil hf ?_
            obtain rfl := Option.some.inj h
            exact rnd_l ⟨_, hf.sub ⟨rfl, rfl, rfl, rfl, rfl, rfl, rfl, rfl, trivial⟩, hp⟩
          replace h := ifF h hb
          refine wp_skip ?_
          refine ib_n ?_
          refine th_n ?_
          refine wp_reg ?_
          refine st_move hf rfl rfl (by decide) ?_
          clear hf; intro a ha hf; clear ha
          refine st_iadd hf (by decide) rfl rfl rfl ?_
          clear hf; intro a ha hf; clear ha
          refine st_assign hf rfl rfl (by decide) ?_
          clear hf; intro a ha hf; clear ha
          refine st_nil hf ?_
          obtain rfl := Option.some.inj h
          exact rnd_l ⟨_, hf.sub ⟨rfl, rfl, rfl, rfl, rfl, rfl, rfl, rfl, trivial⟩, hp⟩
        replace h := ifF h hb
        refine wp_exit ?_
        refine th_e ?_
        obtain rfl := Option.some.inj h
        exact rnd_r (by simp) ⟨rfl, _, hf.sub ⟨rfl, rfl, rfl, rfl, rfl, rfl, rfl, trivial⟩, hp⟩
      clear hl hf hp
      intro e a w hne hO
      obtain ⟨rfl, v17, hf, hp⟩ := hO
      refine ib_same ?_
      refine th_n ?_
      refine wp_seq ?_
      refine wp_reg ?_
      refine st_move hf rfl rfl (by decide) ?_
      clear hf; intro a ha hf; clear ha
      refine st_not hf (by decide) rfl rfl ?_
      clear hf; intro a ha hf; clear ha
      refine st_nil hf ?_
      refine th_n ?_
      refine wp_if hf rfl (fun hb => ?_) (fun hb => ?_)
      · replace h := ifT h hb
        refine wp_seq ?_
        refine wp_reg ?_
        refine st_assign hf rfl rfl (by decide) ?_
        clear hf; intro a ha hf; clear ha
        refine st_assign hf rfl rfl (by decide) ?_
        clear hf; intro a ha hf; clear ha
        refine st_nil hf ?_
        refine th_n ?_
        refine wp_ret ?_
        refine ib_r ?_
        refine th_r ?_
        obtain rfl := Option.some.inj h
        have hp := hp.nil Ek.bool 4
        have hp : Hp _ _ _ (Res.sl Ek.bool 4 (.slice none 0 0) ([]) :: ow) := Hp.sel (pre := [Res.sl Ek.bool 4 (.slice none 0 0) ([]), Res.sl Ek.bool 4 v17 q36.1, Res.obj 24 v1 [.int .i64 c0_Length, .int .u32 c0_One, .int .u32 c0_Two]]) (tail := ow) (rs' := [Res.sl Ek.bool 4 (.slice none 0 0) ([])]) hp [0] (by decide) (by simp) rfl
        exact rnd_r (by simp) ⟨rfl, ⟨_, hf.sub ⟨rfl, rfl, trivial⟩, hp⟩⟩
      replace h := ifF h hb
      refine wp_skip ?_
      refine ib_n ?_
      refine th_n ?_
      refine wp_reg ?_
      refine st_move hf rfl rfl (by decide) ?_
      clear hf; intro a ha hf; clear ha
      refine st_iadd hf (by decide) rfl rfl rfl ?_
      clear hf; intro a ha hf; clear ha
      refine st_assign hf rfl rfl (by decide) ?_
      clear hf; intro a ha hf; clear ha
      refine st_nil hf ?_
      obtain rfl := Option.some.inj h
      exact rnd_l ⟨_, hf.sub ⟨rfl, rfl, rfl, rfl, rfl, rfl, trivial⟩, hp⟩
    replace h := ifF h hb
    refine wp_exit ?_
    refine th_e ?_
    obtain rfl := Option.some.inj h
    have hp : Hp _ _ _ (Res.sl Ek.bool 4 v11 out7 :: ow) := Hp.sel (pre := [Res.sl Ek.bool 4 v11 out7, Res.obj 24 v1 [.int .i64 c0_Length, .int .u32 c0_One, .int .u32 c0_Two]]) (tail := ow) (rs' := [Res.sl Ek.bool 4 v11 out7]) hp [0] (by decide) (by simp) rfl
    exact rnd_r (by simp) ⟨rfl, _, hf.sub ⟨rfl, trivial⟩, hp⟩
  clear hl hf hp
  intro e a w hne hO
  rcases q38 with q40 | q41
  · replace h := smL h
    obtain ⟨rfl, v13, hf, hp⟩ := hO
    refine ib_same ?_
    refine th_n ?_
    refine wp_seq ?_
    refine wp_reg ?_
    refine st_move hf rfl rfl (by decide) ?_
    clear hf; intro a ha hf; clear ha
    refine st_assign hf rfl rfl (by decide) ?_
    clear hf; intro a ha hf; clear ha
    refine st_assign hf rfl rfl (by decide) ?_
    clear hf; intro a ha hf; clear ha
    refine st_nil hf ?_
    refine th_n ?_
    refine wp_ret ?_
    obtain rfl := Option.some.inj h
    exact ⟨rfl, ⟨_, hf.sub ⟨rfl, rfl, trivial⟩, hp⟩⟩
  replace h := smR h
  obtain ⟨rfl, x0, hf, hp⟩ := hO
  refine ib_r ?_
  refine th_r ?_
  obtain rfl := Option.some.inj h
  exact ⟨rfl, ⟨_, hf.sub ⟨rfl, rfl, trivial⟩, hp⟩⟩

noncomputable def f_foghornlaw21_kept (m0 : (List Bool)) (m0S : (List Bool)) (l1 : (List Bool)) : Option Bool := ((f_foghornref21_Same m0 l1).bind fun q1 => ((if q1 = true then (if 0 ≤ (IntKind.i64.wrap ((l1.length : Int) + (1 : Int))) ∧ (IntKind.i64.wrap ((l1.length : Int) + (1 : Int))) ≤ ((m0 ++ m0S).length : Int) then (if 0 ≤ (l1.length : Int) ∧ (l1.length : Int) < (((m0 ++ m0S).take (((IntKind.i64.wrap ((l1.length : Int) + (1 : Int)))).toNat)).length : Int) then (some (gt ((m0 ++ m0S).take (((IntKind.i64.wrap ((l1.length : Int) + (1 : Int)))).toNat)) (l1.length : Int))) else none) else none) else (some false)).bind fun z5 => (some z5)))
theorem f_foghornlaw21_kept_c {S : Nat → Prop} {w0 w : World} {ow : List Res} (hp : Hp S w0 w ow) (vm0 : Value) (m0 : (List Bool)) (m0S : (List Bool)) (hm0 : RdX Ek.bool S w0 vm0 m0 m0S) (vl1 : Value) (l1 : (List Bool)) (hl1 : RdS Ek.bool S w0 vl1 l1) {r : Bool} (h : f_foghornlaw21_kept m0 m0S l1 = some r) :
    Calls Try.prog 10 #[vm0, vl1] w (fun e w' => e = .returned (.bool r) ∧ Hp S w0 w' (ow)) := by
  unfold f_foghornlaw21_kept at h
  refine enter (n := 19) (args := [vm0, vl1]) Try.func10 rfl rfl (Nat.le_of_ble_eq_true rfl) fun a hf => ?_
  replace hf : Fr 19 a [(0, vm0), (1, vl1)] := hf
  refine wp_mono (Q := fun e a w => e = .ret ∧ Fr 19 a [(4, .bool r)] ∧ Hp S w0 w (ow)) ?_ ?_
  rotate_left
  · rintro e a w ⟨rfl, hf, hp⟩
    exact ret1 hf rfl rfl ⟨rfl, hp⟩
  refine wp_seq ?_
  refine wp_reg ?_
  refine st_assign hf rfl rfl (by decide) ?_
  clear hf; intro a ha hf; clear ha
  refine st_nil hf ?_
  refine th_n ?_
  refine wp_seq ?_
  refine wp_reg ?_
  refine st_move hf rfl rfl (by decide) ?_
  clear hf; intro a ha hf; clear ha
  refine st_move hf rfl rfl (by decide) ?_
  clear hf; intro a ha hf; clear ha
  obtain ⟨q1, hcall2, h⟩ := bnd h
  refine st_call hf (by decide) Try.func33 rfl rfl rfl rfl rfl (f_foghornref21_Same_c hp _ _ hm0.rd _ _ hl1 hcall2) ?_
  rintro _ w ⟨rfl, hp0⟩
  clear hp; have hp := hp0; clear hp0
  replace hp : Hp _ _ _ (ow) := hp
  refine ⟨_, rfl, ?_⟩
  clear hf; intro a hf
  refine st_move hf rfl rfl (by decide) ?_
  clear hf; intro a ha hf; clear ha
  obtain ⟨z5, hz3, h⟩ := bnd h
  refine wpList_cut 10 (fun a w => Fr 19 a [(18, .bool z5)] ∧ Hp S w0 w (ow)) ?_ ?_
  · rcases Bool.eq_false_or_eq_true q1 with hb4 | hb4
    · skip
      replace hz3 := ifT hz3 hb4
      refine st_move hf (wantY hf rfl rfl hb4) rfl (by decide) ?_
      clear hf; intro a ha hf; clear ha
      refine st_move hf (wantY hf rfl rfl hb4) rfl (by decide) ?_
      clear hf; intro a ha hf; clear ha
      refine st_len (E := Ek.bool) hf (by decide) Try.underlying25 (wantY hf rfl rfl hb4) rfl (hl1.sl hp) ?_
      clear hf; intro a ha hf; clear ha
      refine st_iadd hf (by decide) (wantY hf rfl rfl hb4) rfl rfl ?_
      clear hf; intro a ha hf; clear ha
      obtain ⟨hc6, hz3⟩ := chk hz3
      have hc7 : 0 ≤ ((IntKind.i64.wrap ((l1.length : Int) + (1 : Int)))).toNat := by omega
      have hc8 : ((IntKind.i64.wrap ((l1.length : Int) + (1 : Int)))).toNat ≤ (m0 ++ m0S).length := by omega
      refine st_cutXr (E := Ek.bool) hf (by decide) Try.underlying25 elt4 (hm0.now hp) (wantY hf rfl rfl hb4) rfl (.inl ⟨rfl, rfl⟩) (.inr ⟨_, _, rfl, evI rfl (by omega)⟩) hc7 hc8 ?_
      clear hf; intro a ha hf; clear ha
      refine st_move hf (wantY hf rfl rfl hb4) rfl (by decide) ?_
      clear hf; intro a ha hf; clear ha
      refine st_len (E := Ek.bool) hf (by decide) Try.underlying25 (wantY hf rfl rfl hb4) rfl (hl1.sl hp) ?_
      clear hf; intro a ha hf; clear ha
      obtain ⟨hc9, hz3⟩ := chk hz3
      refine st_index (E := Ek.bool) hf (by decide) Try.underlying25 elt4 (wantY hf rfl rfl hb4) rfl rfl ((RdX.take hm0 hc8).sl hp) hc9.1 hc9.2 ?_
      clear hf; intro a ha hf; clear ha
      refine st_ldB hf (by decide) pl4 (wantY hf rfl rfl hb4) rfl ((RdX.take hm0 hc8).sl hp) hc9.1 hc9.2 ?_
      clear hf; intro a ha hf; clear ha
      obtain rfl := Option.some.inj hz3
      refine st_pick (v := .bool (gt ((m0 ++ m0S).take (((IntKind.i64.wrap ((l1.length : Int) + (1 : Int)))).toNat)) (l1.length : Int))) hf rfl rfl (fun hb' => ?_) (fun hb' => ?_) (by decide) ?_
      · rfl
      · exact absurd (hb4.symm.trans hb') (by decide)
      clear hf; intro a ha hf; clear ha
      refine st_nil hf (th_n ?_)
      exact ⟨hf.sub ⟨rfl, trivial⟩, hp⟩
    replace hz3 := ifF hz3 hb4
    refine st_skip hf (wantN hf rfl rfl hb4) rfl (by decide) ?_ rfl
    clear hf; intro a hf
    refine st_skip hf (wantN hf rfl rfl hb4) rfl (by decide) ?_ rfl
    clear hf; intro a hf
    refine st_skip hf (wantN hf rfl rfl hb4) rfl (by decide) ?_ rfl
    clear hf; intro a hf
    refine st_skip hf (wantN hf rfl rfl hb4) rfl (by decide) ?_ rfl
    clear hf; intro a hf
    refine st_skip hf (wantN hf rfl rfl hb4) rfl (by decide) ?_ rfl
    clear hf; intro a hf
    refine st_skip hf (wantN hf rfl rfl hb4) rfl (by decide) ?_ rfl
    clear hf; intro a hf
    refine st_skip hf (wantN hf rfl rfl hb4) rfl (by decide) ?_ rfl
    clear hf; intro a hf
    refine st_skip hf (wantN hf rfl rfl hb4) rfl (by decide) ?_ rfl
    clear hf; intro a hf
    refine st_skip hf (wantN hf rfl rfl hb4) rfl (by decide) ?_ rfl
    clear hf; intro a hf
    obtain rfl := Option.some.inj hz3
    refine st_pick (v := .bool false) hf rfl rfl (fun hb' => ?_) (fun hb' => ?_) (by decide) ?_
    · exact absurd (hb4.symm.trans hb') (by decide)
    · rfl
    clear hf; intro a ha hf; clear ha
    refine st_nil hf (th_n ?_)
    exact ⟨hf.sub ⟨rfl, trivial⟩, hp⟩
  rintro a w ⟨hf, hp⟩
  refine st_assign hf rfl rfl (by decide) ?_
  clear hf; intro a ha hf; clear ha
  refine st_nil hf ?_
  refine th_n ?_
  refine wp_ret ?_
  obtain rfl := Option.some.inj h
  exact ⟨rfl, ⟨hf.sub ⟨rfl, trivial⟩, hp⟩⟩

noncomputable def f_foghornlaw21_ways.s1c (a7 : (List Bool)) (i11 : Int) : Option (((List Bool) × Int) ⊕ Unit) := (if (decide (i11 < (a7.length : Int))) = true then (if 0 ≤ i11 ∧ i11 < (a7.length : Int) then (if 0 ≤ i11 ∧ i11 < (a7.length : Int) then (some (Sum.inl ((a7.set (i11).toNat (!(gt a7 i11))), (IntKind.i64.wrap (i11 + (1 : Int)))))) else none) else none) else (some (Sum.inr ())))
noncomputable def f_foghornlaw21_ways.s1  (s : ((List Bool) × Int)) : Option (((List Bool) × Int) ⊕ Unit) := f_foghornlaw21_ways.s1c s.1 s.2
noncomputable def f_foghornlaw21_ways.s2c (q39 : ((List Int) × Int)) (w12 : (List Int)) (i14 : Int) : Option (((List Int) × Int) ⊕ (Unit ⊕ Bool)) := (if (decide (i14 < (q39.1.length : Int))) = true then (if 0 ≤ i14 ∧ i14 < (w12.length : Int) then (if 0 ≤ i14 ∧ i14 < (q39.1.length : Int) then (if ((gt w12 i14) != (gt q39.1 i14)) = true then (some (Sum.inr (Sum.inr false))) else (if 0 ≤ i14 ∧ i14 < (w12.length : Int) then (some (Sum.inl ((w12.set (i14).toNat (-1 : Int)), (IntKind.i64.wrap (i14 + (1 : Int)))))) else none)) else none) else none) else (some (Sum.inr (Sum.inl ()))))
noncomputable def f_foghornlaw21_ways.s2 (q39 : ((List Int) × Int)) (s : ((List Int) × Int)) : Option (((List Int) × Int) ⊕ (Unit ⊕ Bool)) := f_foghornlaw21_ways.s2c q39 s.1 s.2
noncomputable def f_foghornlaw21_ways.s3c (p20 : (List Bool)) (i22 : Int) : Option (((List Bool) × Int) ⊕ Unit) := (if (decide (i22 < (p20.length : Int))) = true then (if 0 ≤ i22 ∧ i22 < (p20.length : Int) then (if 0 ≤ i22 ∧ i22 < (p20.length : Int) then (some (Sum.inl ((p20.set (i22).toNat (!(gt p20 i22))), (IntKind.i64.wrap (i22 + (1 : Int)))))) else none) else none) else (some (Sum.inr ())))
noncomputable def f_foghornlaw21_ways.s3  (s : ((List Bool) × Int)) : Option (((List Bool) × Int) ⊕ Unit) := f_foghornlaw21_ways.s3c s.1 s.2
noncomputable def f_foghornlaw21_ways (c0_Length : Int) (c0_One : Int) (c0_Two : Int) (m1 : (List Bool)) (m1S : (List Bool)) (bits2 : (List Bool)) : Option Bool := ((f_foghornlaw21_own c0_Length c0_One c0_Two).bind fun q3 => ((f_trellis_Code_Encode q3.1 q3.2.1 q3.2.2 m1).bind fun q5 => ((f_foghornref21_Encode c0_Length c0_One c0_Two bits2).bind fun q9 => ((if (q5.2 != q9.2) = true then (some true) else ((f_foghornref21_Same q5.1 q9.1).bind fun q16 => (some (!q16)))).bind fun z15 => (if z15 = true then (some false) else ((loop f_foghornlaw21_ways.s1 (q5.1, (0 : Int))).bind (fun q32 => ((f_foghornlaw21_own c0_Length c0_One c0_Two).bind fun q33 => ((f_trellis_Code_Walk q33.1 q33.2.1 q33.2.2 m1).bind fun q35 => ((f_foghornref21_Walk c0_Length c0_One c0_Two bits2).bind fun q39 => (if ((q35.2 != q39.2) || ((q35.1.length : Int) != (q39.1.length : Int))) = true then (some false) else ((loop (f_foghornlaw21_ways.s2 q39) (q35.1, (0 : Int))).bind (fun q64 => sm q64 (fun q65 => ((f_foghornlaw21_own c0_Length c0_One c0_Two).bind fun q67 => ((f_trellis_Code_Exact q67.1 q67.2.1 q67.2.2 m1).bind fun q69 => ((f_foghornref21_Exact c0_Length c0_One c0_Two bits2).bind fun q73 => ((f_foghornlaw21_own c0_Length c0_One c0_Two).bind fun q77 => ((f_trellis_Code_Encode q77.1 q77.2.1 q77.2.2 m1).bind fun q79 => ((if (q69.2 != q73.2) = true then (some true) else ((f_foghornref21_Same q69.1 q73.1).bind fun q86 => (some (!q86)))).bind fun z85 => ((if z85 = true then (some true) else ((f_foghornref21_Same q79.1 q9.1).bind fun q101 => (some (!q101)))).bind fun z100 => (if z100 = true then (some false) else ((f_foghornlaw21_lent q9.1).bind fun q113 => ((f_foghornlaw21_own c0_Length c0_One c0_Two).bind fun q122 => ((f_trellis_Code_Exact q122.1 q122.2.1 q122.2.2 q113.1).bind fun q124 => ((f_foghornref21_Exact c0_Length c0_One c0_Two q9.1).bind fun q133 => ((if (q124.2 != q133.2) = true then (some true) else ((f_foghornref21_Same q124.1 q133.1).bind fun q145 => (some (!q145)))).bind fun z144 => ((if z144 = true then (some true) else ((f_foghornlaw21_kept q113.1 q113.2 q9.1).bind fun q160 => (some (!q160)))).bind fun z159 => (if z159 = true then (some false) else ((loop f_foghornlaw21_ways.s3 (q124.1, (0 : Int))).bind (fun q176 => ((f_foghornlaw21_kept q113.1 q113.2 q9.1).bind fun q177 => (some q177)))))))))))))))))))) (fun q66 => (some q66)))))))))))))))
theorem f_foghornlaw21_ways_c {S : Nat → Prop} {w0 w : World} {ow : List Res} (hp : Hp S w0 w ow) (c0_Length : Int) (c0_One : Int) (c0_Two : Int) (vm1 : Value) (m1 : (List Bool)) (m1S : (List Bool)) (hm1 : RdX Ek.bool S w0 vm1 m1 m1S) (vbits2 : Value) (bits2 : (List Bool)) (hbits2 : RdS Ek.bool S w0 vbits2 bits2) {r : Bool} (h : f_foghornlaw21_ways c0_Length c0_One c0_Two m1 m1S bits2 = some r) :
    Calls Try.prog 9 #[.agg #[.int .i64 c0_Length, .int .u32 c0_One, .int .u32 c0_Two], vm1, vbits2] w (fun e w' => e = .returned (.bool r) ∧ Hp S w0 w' (ow)) := by
  unfold f_foghornlaw21_ways at h
  refine enter (n := 182) (args := [.agg #[.int .i64 c0_Length, .int .u32 c0_One, .int .u32 c0_Two], vm1, vbits2]) Try.func9 rfl rfl (Nat.le_of_ble_eq_true rfl) fun a hf => ?_
  replace hf : Fr 182 a [(0, .agg #[.int .i64 c0_Length, .int .u32 c0_One, .int .u32 c0_Two]), (1, vm1), (2, vbits2)] := hf
  refine wp_mono (Q := fun e a w => e = .ret ∧ Fr 182 a [(6, .bool r)] ∧ Hp S w0 w (ow)) ?_ ?_
  rotate_left
  · rintro e a w ⟨rfl, hf, hp⟩
    exact ret1 hf rfl rfl ⟨rfl, hp⟩
  refine wp_seq ?_
  refine wp_reg ?_
  refine st_boxO (cs := [.int .i64 c0_Length, .int .u32 c0_One, .int .u32 c0_Two]) hf (by decide) hp rfl rfl rfl ?_
  clear hf; intro a w v1 hf hp0; clear hp; have hp := hp0; clear hp0
  replace hp : Hp _ _ _ (Res.obj 24 v1 [.int .i64 c0_Length, .int .u32 c0_One, .int .u32 c0_Two] :: ow) := hp
  refine st_assign hf rfl rfl (by decide) ?_
  clear hf; intro a ha hf; clear ha
  refine st_nil hf ?_
  refine th_n ?_
  refine wp_seq ?_
  refine wp_reg ?_
  refine st_ldOA (m := 3) (us := [.int .i64 c0_Length, .int .u32 c0_One, .int .u32 c0_Two]) hf (by decide) (by kernel_rfl) rfl rfl (hp.ob (i := 0) rfl) rfl rfl ?_
  clear hf; intro a ha hf; clear ha
  obtain ⟨q3, hcall4, h⟩ := bnd h
  refine st_call hf (by decide) Try.func22 rfl rfl rfl rfl rfl (f_foghornlaw21_own_c hp _ _ _ hcall4) ?_
  rintro _ w ⟨rfl, hp0⟩
  clear hp; have hp := hp0; clear hp0
  replace hp : Hp _ _ _ (Res.obj 24 v1 [.int .i64 c0_Length, .int .u32 c0_One, .int .u32 c0_Two] :: ow) := hp
  refine ⟨_, rfl, ?_⟩
  clear hf; intro a hf
  refine st_move hf rfl rfl (by decide) ?_
  clear hf; intro a ha hf; clear ha
  obtain ⟨q5, hcall6, h⟩ := bnd h
  refine st_call hf (by decide) Try.func13 rfl rfl rfl rfl rfl (f_trellis_Code_Encode_c hp _ _ _ _ _ hm1.rd hcall6) ?_
  rintro _ w ⟨v7, rfl, hp0⟩
  clear hp; have hp := hp0; clear hp0
  replace hp : Hp _ _ _ (Res.sl Ek.bool 4 v7 q5.1 :: Res.obj 24 v1 [.int .i64 c0_Length, .int .u32 c0_One, .int .u32 c0_Two] :: ow) := hp
  refine ⟨_, rfl, ?_⟩
  clear hf; intro a hf
  refine st_move hf rfl rfl (by decide) ?_
  clear hf; intro a ha hf; clear ha
  refine st_extract hf (by decide) rfl rfl rfl ?_
  clear hf; intro a ha hf; clear ha
  refine st_extract hf (by decide) rfl rfl rfl ?_
  clear hf; intro a ha hf; clear ha
  refine st_assign hf rfl rfl (by decide) ?_
  clear hf; intro a ha hf; clear ha
  refine st_assign hf rfl rfl (by decide) ?_
  clear hf; intro a ha hf; clear ha
  refine st_nil hf ?_
  refine th_n ?_
  refine wp_seq ?_
  refine wp_reg ?_
  refine st_ldOA (m := 3) (us := [.int .i64 c0_Length, .int .u32 c0_One, .int .u32 c0_Two]) hf (by decide) (by kernel_rfl) rfl rfl (hp.ob (i := 1) rfl) rfl rfl ?_
  clear hf; intro a ha hf; clear ha
  refine st_move hf rfl rfl (by decide) ?_
  clear hf; intro a ha hf; clear ha
  obtain ⟨q9, hcall10, h⟩ := bnd h
  refine st_call hf (by decide) Try.func32 rfl rfl rfl rfl rfl (f_foghornref21_Encode_c hp _ _ _ _ _ hbits2 hcall10) ?_
  rintro _ w ⟨v11, rfl, hp0⟩
  clear hp; have hp := hp0; clear hp0
  replace hp : Hp _ _ _ (Res.sl Ek.bool 4 v11 q9.1 :: Res.sl Ek.bool 4 v7 q5.1 :: Res.obj 24 v1 [.int .i64 c0_Length, .int .u32 c0_One, .int .u32 c0_Two] :: ow) := hp
  refine ⟨_, rfl, ?_⟩
  clear hf; intro a hf
  refine st_move hf rfl rfl (by decide) ?_
  clear hf; intro a ha hf; clear ha
  refine st_extract hf (by decide) rfl rfl rfl ?_
  clear hf; intro a ha hf; clear ha
  refine st_extract hf (by decide) rfl rfl rfl ?_
  clear hf; intro a ha hf; clear ha
  refine st_assign hf rfl rfl (by decide) ?_
  clear hf; intro a ha hf; clear ha
  refine st_assign hf rfl rfl (by decide) ?_
  clear hf; intro a ha hf; clear ha
  refine st_nil hf ?_
  refine th_n ?_
  refine wp_seq ?_
  refine wp_seq ?_
  refine wp_reg ?_
  refine st_move hf rfl rfl (by decide) ?_
  clear hf; intro a ha hf; clear ha
  refine st_move hf rfl rfl (by decide) ?_
  clear hf; intro a ha hf; clear ha
  refine st_ineq hf (by decide) rfl rfl rfl ?_
  clear hf; intro a ha hf; clear ha
  refine st_move hf rfl rfl (by decide) ?_
  clear hf; intro a ha hf; clear ha
  obtain ⟨z15, hz13, h⟩ := bnd h
  refine wpList_cut 5 (fun a w => Fr 182 a [(1, vm1), (2, vbits2), (3, optr v1 0), (7, v7), (9, v11), (44, .bool z15)] ∧ Hp S w0 w (Res.sl Ek.bool 4 v11 q9.1 :: Res.sl Ek.bool 4 v7 q5.1 :: Res.obj 24 v1 [.int .i64 c0_Length, .int .u32 c0_One, .int .u32 c0_Two] :: ow)) ?_ ?_
  · rcases Bool.eq_false_or_eq_true (q5.2 != q9.2) with hb14 | hb14
    · skip
      replace hz13 := ifT hz13 hb14
      refine st_skip hf (wantN hf rfl rfl hb14) rfl (by decide) ?_ rfl
      clear hf; intro a hf
      refine st_skip hf (wantN hf rfl rfl hb14) rfl (by decide) ?_ rfl
      clear hf; intro a hf
      refine st_skip hf (wantN hf rfl rfl hb14) rfl (by decide) ?_ rfl
      clear hf; intro a hf
      refine st_skip hf (wantN hf rfl rfl hb14) rfl (by decide) ?_ rfl
      clear hf; intro a hf
      obtain rfl := Option.some.inj hz13
      refine st_pick (v := .bool true) hf rfl rfl (fun hb' => ?_) (fun hb' => ?_) (by decide) ?_
      · rfl
      · exact absurd (hb14.symm.trans hb') (by decide)
      clear hf; intro a ha hf; clear ha
      refine st_nil hf (th_n ?_)
      exact ⟨hf.sub ⟨rfl, rfl, rfl, rfl, rfl, rfl, trivial⟩, hp⟩
    replace hz13 := ifF hz13 hb14
    refine st_move hf (wantY hf rfl rfl hb14) rfl (by decide) ?_
    clear hf; intro a ha hf; clear ha
    refine st_move hf (wantY hf rfl rfl hb14) rfl (by decide) ?_
    clear hf; intro a ha hf; clear ha
    obtain ⟨q16, hcall17, hz13⟩ := bnd hz13
    obtain ⟨S18, hp19, rd20, up21, bk22⟩ := Hp.lendS hp (i := 1) rfl
    obtain ⟨S23, hp24, rd25, up26, bk27⟩ := Hp.lendS hp19 (i := 0) rfl
    refine st_call hf (by decide) Try.func33 rfl rfl (wantY hf rfl rfl hb14) rfl rfl (f_foghornref21_Same_c hp24 _ _ ((rd20.now hp19).mono up26) _ _ rd25 hcall17) ?_
    rintro _ w ⟨rfl, hp0⟩
    have hp0 := bk27 _ _ hp0
    have hp0 := bk22 _ _ hp0
    clear hp; have hp := hp0; clear hp0
    replace hp : Hp _ _ _ (Res.sl Ek.bool 4 v7 q5.1 :: Res.sl Ek.bool 4 v11 q9.1 :: Res.obj 24 v1 [.int .i64 c0_Length, .int .u32 c0_One, .int .u32 c0_Two] :: ow) := hp
    refine ⟨_, rfl, ?_⟩
    clear hf; intro a hf
    refine st_not hf (by decide) (wantY hf rfl rfl hb14) rfl ?_
    clear hf; intro a ha hf; clear ha
    obtain rfl := Option.some.inj hz13
    refine st_pick (v := .bool (!q16)) hf rfl rfl (fun hb' => ?_) (fun hb' => ?_) (by decide) ?_
    · exact absurd (hb14.symm.trans hb') (by decide)
    · rfl
    clear hf; intro a ha hf; clear ha
    refine st_nil hf (th_n ?_)
    have hp : Hp _ _ _ (Res.sl Ek.bool 4 v11 q9.1 :: Res.sl Ek.bool 4 v7 q5.1 :: Res.obj 24 v1 [.int .i64 c0_Length, .int .u32 c0_One, .int .u32 c0_Two] :: ow) := Hp.sel (pre := [Res.sl Ek.bool 4 v7 q5.1, Res.sl Ek.bool 4 v11 q9.1, Res.obj 24 v1 [.int .i64 c0_Length, .int .u32 c0_One, .int .u32 c0_Two]]) (tail := ow) (rs' := [Res.sl Ek.bool 4 v11 q9.1, Res.sl Ek.bool 4 v7 q5.1, Res.obj 24 v1 [.int .i64 c0_Length, .int .u32 c0_One, .int .u32 c0_Two]]) hp [1, 0, 2] (by decide) (by simp) rfl
    exact ⟨hf.sub ⟨rfl, rfl, rfl, rfl, rfl, rfl, trivial⟩, hp⟩
  rintro a w ⟨hf, hp⟩
  refine st_nil hf ?_
  refine th_n ?_
  refine wp_if hf rfl (fun hb => ?_) (fun hb => ?_)
  · replace h := ifT h hb
    refine wp_seq ?_
    refine wp_reg ?_
    refine st_assign hf rfl rfl (by decide) ?_
    clear hf; intro a ha hf; clear ha
    refine st_nil hf ?_
    refine th_n ?_
    refine wp_ret ?_
    refine th_r ?_
    obtain rfl := Option.some.inj h
    have hp : Hp _ _ _ (ow) := Hp.sel (pre := [Res.sl Ek.bool 4 v11 q9.1, Res.sl Ek.bool 4 v7 q5.1, Res.obj 24 v1 [.int .i64 c0_Length, .int .u32 c0_One, .int .u32 c0_Two]]) (tail := ow) (rs' := []) hp [] (by decide) (by simp) rfl
    exact ⟨rfl, ⟨hf.sub ⟨rfl, trivial⟩, hp⟩⟩
  replace h := ifF h hb
  refine wp_skip ?_
  refine th_n ?_
  refine wp_seq ?_
  refine wp_seq ?_
  refine wp_reg ?_
  refine st_assign hf rfl rfl (by decide) ?_
  clear hf; intro a ha hf; clear ha
  refine st_nil hf ?_
  refine th_n ?_
  refine wp_block ?_
  obtain ⟨q32, hl, h⟩ := bnd h
  have hp : Hp _ _ _ (Res.sl Ek.bool 4 v7 q5.1 :: Res.obj 24 v1 [.int .i64 c0_Length, .int .u32 c0_One, .int .u32 c0_Two] :: Res.sl Ek.bool 4 v11 q9.1 :: ow) := Hp.sel (pre := [Res.sl Ek.bool 4 v11 q9.1, Res.sl Ek.bool 4 v7 q5.1, Res.obj 24 v1 [.int .i64 c0_Length, .int .u32 c0_One, .int .u32 c0_Two]]) (tail := ow) (rs' := [Res.sl Ek.bool 4 v7 q5.1, Res.obj 24 v1 [.int .i64 c0_Length, .int .u32 c0_One, .int .u32 c0_Two], Res.sl Ek.bool 4 v11 q9.1]) hp [1, 2, 0] (by decide) (by simp) rfl
  refine wp_loop_pure (f := f_foghornlaw21_ways.s1) (s := (q5.1, (0 : Int))) (fun s a w => ∃ (v28 : Value), Fr 182 a [(1, vm1), (2, vbits2), (3, optr v1 0), (7, v28), (9, v11), (11, .int .i64 s.2)] ∧ Hp S w0 w (Res.sl Ek.bool 4 v28 s.1 :: Res.obj 24 v1 [.int .i64 c0_Length, .int .u32 c0_One, .int .u32 c0_Two] :: Res.sl Ek.bool 4 v11 q9.1 :: ow)) (fun q e a w => e = .exit 0 ∧ Fr 182 a [(1, vm1), (2, vbits2), (3, optr v1 0), (9, v11)] ∧ Hp S w0 w (Res.obj 24 v1 [.int .i64 c0_Length, .int .u32 c0_One, .int .u32 c0_Two] :: Res.sl Ek.bool 4 v11 q9.1 :: ow)) ?_ hl ⟨_, hf.sub ⟨rfl, rfl, rfl, rfl, rfl, rfl, trivial⟩, hp⟩ ?_
  · clear hl hf hp
    intro s x a w h hI
    obtain ⟨a7, i11⟩ := s
    obtain ⟨v28, hf, hp⟩ : ∃ (v28 : Value), Fr 182 a [(1, vm1), (2, vbits2), (3, optr v1 0), (7, v28), (9, v11), (11, .int .i64 i11)] ∧ Hp S w0 w (Res.sl Ek.bool 4 v28 a7 :: Res.obj 24 v1 [.int .i64 c0_Length, .int .u32 c0_One, .int .u32 c0_Two] :: Res.sl Ek.bool 4 v11 q9.1 :: ow) := hI
    replace h : f_foghornlaw21_ways.s1c a7 i11 = some x := h
    unfold f_foghornlaw21_ways.s1c at h
    refine wp_seq ?_
    refine wp_seq ?_
    refine wp_reg ?_
    refine st_move hf rfl rfl (by decide) ?_
    clear hf; intro a ha hf; clear ha
    refine st_move hf rfl rfl (by decide) ?_
    clear hf; intro a ha hf; clear ha
    refine st_len (E := Ek.bool) hf (by decide) Try.underlying25 rfl rfl (hp.sl (i := 0) rfl) ?_
    clear hf; intro a ha hf; clear ha
    refine st_ilss hf (by decide) rfl rfl rfl ?_
    clear hf; intro a ha hf; clear ha
    refine st_nil hf ?_
    refine th_n ?_
    refine wp_if hf rfl (fun hb => ?_) (fun hb => ?_)
    · replace h := ifT h hb
      refine wp_skip ?_
      refine th_n ?_
      refine wp_seq ?_
      refine wp_block ?_
      refine wp_reg ?_
      refine st_move hf rfl rfl (by decide) ?_
      clear hf; intro a ha hf; clear ha
      refine st_move hf rfl rfl (by decide) ?_
      clear hf; intro a ha hf; clear ha
      refine st_move hf rfl rfl (by decide) ?_
      clear hf; intro a ha hf; clear ha
      refine st_move hf rfl rfl (by decide) ?_
      clear hf; intro a ha hf; clear ha
      obtain ⟨hc30, h⟩ := chk h
      refine st_index (E := Ek.bool) hf (by decide) Try.underlying25 elt4 rfl rfl rfl (hp.sl (i := 0) rfl) hc30.1 hc30.2 ?_
      clear hf; intro a ha hf; clear ha
      refine st_ldB hf (by decide) pl4 rfl rfl (hp.sl (i := 0) rfl) hc30.1 hc30.2 ?_
      clear hf; intro a ha hf; clear ha
      refine st_not hf (by decide) rfl rfl ?_
      clear hf; intro a ha hf; clear ha
      obtain ⟨hc31, h⟩ := chk h
      refine st_index (E := Ek.bool) hf (by decide) Try.underlying25 elt4 rfl rfl rfl (hp.sl (i := 0) rfl) hc31.1 hc31.2 ?_
      clear hf; intro a ha hf; clear ha
      refine st_store (E := Ek.bool) hf elt4 hp (i := 0) rfl rfl rfl rfl rfl hc31.1 hc31.2 ?_
      clear hf; intro a w hf hp0; clear hp; have hp := hp0; clear hp0
      replace hp : Hp _ _ _ (Res.sl Ek.bool 4 v28 (a7.set (i11).toNat (!(gt a7 i11))) :: Res.obj 24 v1 [.int .i64 c0_Length, .int .u32 c0_One, .int .u32 c0_Two] :: Res.sl Ek.bool 4 v11 q9.1 :: ow) := hp
      refine st_nil hf ?_
      refine ib_n ?_
      refine th_n ?_
      refine wp_reg ?_
      refine st_move hf rfl rfl (by decide) ?_
      clear hf; intro a ha hf; clear ha
      refine st_iadd hf (by decide) rfl rfl rfl ?_
      clear hf; intro a ha hf; clear ha
      refine st_assign hf rfl rfl (by decide) ?_
      clear hf; intro a ha hf; clear ha
      refine st_nil hf ?_
      obtain rfl := Option.some.inj h
      exact rnd_l ⟨_, hf.sub ⟨rfl, rfl, rfl, rfl, rfl, rfl, trivial⟩, hp⟩
    replace h := ifF h hb
    refine wp_exit ?_
    refine th_e ?_
    obtain rfl := Option.some.inj h
    have hp : Hp _ _ _ (Res.obj 24 v1 [.int .i64 c0_Length, .int .u32 c0_One, .int .u32 c0_Two] :: Res.sl Ek.bool 4 v11 q9.1 :: ow) := Hp.sel (pre := [Res.sl Ek.bool 4 v28 a7, Res.obj 24 v1 [.int .i64 c0_Length, .int .u32 c0_One, .int .u32 c0_Two], Res.sl Ek.bool 4 v11 q9.1]) (tail := ow) (rs' := [Res.obj 24 v1 [.int .i64 c0_Length, .int .u32 c0_One, .int .u32 c0_Two], Res.sl Ek.bool 4 v11 q9.1]) hp [1, 2] (by decide) (by simp) rfl
    exact rnd_r (by simp) ⟨rfl, hf.sub ⟨rfl, rfl, rfl, rfl, trivial⟩, hp⟩
  clear hl hf hp
  intro e a w hne hO
  obtain ⟨rfl, hf, hp⟩ := hO
  refine ib_same ?_
  refine th_n ?_
  refine wp_seq ?_
  refine wp_reg ?_
  refine st_ldOA (m := 3) (us := [.int .i64 c0_Length, .int .u32 c0_One, .int .u32 c0_Two]) hf (by decide) (by kernel_rfl) rfl rfl (hp.ob (i := 0) rfl) rfl rfl ?_
  clear hf; intro a ha hf; clear ha
  obtain ⟨q33, hcall34, h⟩ := bnd h
  refine st_call hf (by decide) Try.func22 rfl rfl rfl rfl rfl (f_foghornlaw21_own_c hp _ _ _ hcall34) ?_
  rintro _ w ⟨rfl, hp0⟩
  clear hp; have hp := hp0; clear hp0
  replace hp : Hp _ _ _ (Res.obj 24 v1 [.int .i64 c0_Length, .int .u32 c0_One, .int .u32 c0_Two] :: Res.sl Ek.bool 4 v11 q9.1 :: ow) := hp
  refine ⟨_, rfl, ?_⟩
  clear hf; intro a hf
  refine st_move hf rfl rfl (by decide) ?_
  clear hf; intro a ha hf; clear ha
  obtain ⟨q35, hcall36, h⟩ := bnd h
  refine st_call hf (by decide) Try.func14 rfl rfl rfl rfl rfl (f_trellis_Code_Walk_c hp _ _ _ _ _ hm1.rd hcall36) ?_
  rintro _ w ⟨v37, rfl, hp0⟩
  clear hp; have hp := hp0; clear hp0
  replace hp : Hp _ _ _ (Res.sl (Ek.int .i64) 3 v37 q35.1 :: Res.obj 24 v1 [.int .i64 c0_Length, .int .u32 c0_One, .int .u32 c0_Two] :: Res.sl Ek.bool 4 v11 q9.1 :: ow) := hp
  refine ⟨_, rfl, ?_⟩
  clear hf; intro a hf
  refine st_move hf rfl rfl (by decide) ?_
  clear hf; intro a ha hf; clear ha
  refine st_extract hf (by decide) rfl rfl rfl ?_
  clear hf; intro a ha hf; clear ha
  refine st_extract hf (by decide) rfl rfl rfl ?_
  clear hf; intro a ha hf; clear ha
  refine st_assign hf rfl rfl (by decide) ?_
  clear hf; intro a ha hf; clear ha
  refine st_assign hf rfl rfl (by decide) ?_
  clear hf; intro a ha hf; clear ha
  refine st_nil hf ?_
  refine th_n ?_
  refine wp_seq ?_
  refine wp_reg ?_
  refine st_ldOA (m := 3) (us := [.int .i64 c0_Length, .int .u32 c0_One, .int .u32 c0_Two]) hf (by decide) (by kernel_rfl) rfl rfl (hp.ob (i := 1) rfl) rfl rfl ?_
  clear hf; intro a ha hf; clear ha
  refine st_move hf rfl rfl (by decide) ?_
  clear hf; intro a ha hf; clear ha
  obtain ⟨q39, hcall40, h⟩ := bnd h
  refine st_call hf (by decide) Try.func34 rfl rfl rfl rfl rfl (f_foghornref21_Walk_c hp _ _ _ _ _ hbits2 hcall40) ?_
  rintro _ w ⟨v41, rfl, hp0⟩
  clear hp; have hp := hp0; clear hp0
  replace hp : Hp _ _ _ (Res.sl (Ek.int .i64) 3 v41 q39.1 :: Res.sl (Ek.int .i64) 3 v37 q35.1 :: Res.obj 24 v1 [.int .i64 c0_Length, .int .u32 c0_One, .int .u32 c0_Two] :: Res.sl Ek.bool 4 v11 q9.1 :: ow) := hp
  refine ⟨_, rfl, ?_⟩
  clear hf; intro a hf
  refine st_move hf rfl rfl (by decide) ?_
  clear hf; intro a ha hf; clear ha
  refine st_extract hf (by decide) rfl rfl rfl ?_
  clear hf; intro a ha hf; clear ha
  refine st_extract hf (by decide) rfl rfl rfl ?_
  clear hf; intro a ha hf; clear ha
  refine st_assign hf rfl rfl (by decide) ?_
  clear hf; intro a ha hf; clear ha
  refine st_assign hf rfl rfl (by decide) ?_
  clear hf; intro a ha hf; clear ha
  refine st_nil hf ?_
  refine th_n ?_
  refine wp_seq ?_
  refine wp_seq ?_
  refine wp_reg ?_
  refine st_move hf rfl rfl (by decide) ?_
  clear hf; intro a ha hf; clear ha
  refine st_move hf rfl rfl (by decide) ?_
  clear hf; intro a ha hf; clear ha
  refine st_ineq hf (by decide) rfl rfl rfl ?_
  clear hf; intro a ha hf; clear ha
  refine st_move hf rfl rfl (by decide) ?_
  clear hf; intro a ha hf; clear ha
  refine wpList_cut 6 (fun a w => Fr 182 a [(1, vm1), (2, vbits2), (3, optr v1 0), (9, v11), (12, v37), (13, v41), (81, .bool ((q35.2 != q39.2) || ((q35.1.length : Int) != (q39.1.length : Int))))] ∧ Hp S w0 w (Res.sl (Ek.int .i64) 3 v41 q39.1 :: Res.sl (Ek.int .i64) 3 v37 q35.1 :: Res.obj 24 v1 [.int .i64 c0_Length, .int .u32 c0_One, .int .u32 c0_Two] :: Res.sl Ek.bool 4 v11 q9.1 :: ow)) ?_ ?_
  · rcases Bool.eq_false_or_eq_true (q35.2 != q39.2) with hb44 | hb44
    · skip
      refine st_skip hf (wantN hf rfl rfl hb44) rfl (by decide) ?_ rfl
      clear hf; intro a hf
      refine st_skip hf (wantN hf rfl rfl hb44) rfl (by decide) ?_ rfl
      clear hf; intro a hf
      refine st_skip hf (wantN hf rfl rfl hb44) rfl (by decide) ?_ rfl
      clear hf; intro a hf
      refine st_skip hf (wantN hf rfl rfl hb44) rfl (by decide) ?_ rfl
      clear hf; intro a hf
      refine st_skip hf (wantN hf rfl rfl hb44) rfl (by decide) ?_ rfl
      clear hf; intro a hf
      refine st_pick (v := .bool true) hf rfl rfl (fun hb' => ?_) (fun hb' => ?_) (by decide) ?_
      · rfl
      · exact absurd (hb44.symm.trans hb') (by decide)
      clear hf; intro a ha hf; clear ha
      refine st_nil hf (th_n ?_)
      exact ⟨hf.sub ⟨rfl, rfl, rfl, rfl, rfl, rfl, (by rw [hb44]; rfl), trivial⟩, hp⟩
    refine st_move hf (wantY hf rfl rfl hb44) rfl (by decide) ?_
    clear hf; intro a ha hf; clear ha
    refine st_len (E := (Ek.int .i64)) hf (by decide) Try.underlying39 (wantY hf rfl rfl hb44) rfl (hp.sl (i := 1) rfl) ?_
    clear hf; intro a ha hf; clear ha
    refine st_move hf (wantY hf rfl rfl hb44) rfl (by decide) ?_
    clear hf; intro a ha hf; clear ha
    refine st_len (E := (Ek.int .i64)) hf (by decide) Try.underlying39 (wantY hf rfl rfl hb44) rfl (hp.sl (i := 0) rfl) ?_
    clear hf; intro a ha hf; clear ha
    refine st_ineq hf (by decide) (wantY hf rfl rfl hb44) rfl rfl ?_
    clear hf; intro a ha hf; clear ha
    refine st_pick (v := .bool ((q35.1.length : Int) != (q39.1.length : Int))) hf rfl rfl (fun hb' => ?_) (fun hb' => ?_) (by decide) ?_
    · exact absurd (hb44.symm.trans hb') (by decide)
    · rfl
    clear hf; intro a ha hf; clear ha
    refine st_nil hf (th_n ?_)
    exact ⟨hf.sub ⟨rfl, rfl, rfl, rfl, rfl, rfl, (by rw [hb44]; rfl), trivial⟩, hp⟩
  rintro a w ⟨hf, hp⟩
  refine st_nil hf ?_
  refine th_n ?_
  refine wp_if hf rfl (fun hb => ?_) (fun hb => ?_)
  · replace h := ifT h hb
    refine wp_seq ?_
    refine wp_reg ?_
    refine st_assign hf rfl rfl (by decide) ?_
    clear hf; intro a ha hf; clear ha
    refine st_nil hf ?_
    refine th_n ?_
    refine wp_ret ?_
    refine th_r ?_
    obtain rfl := Option.some.inj h
    have hp : Hp _ _ _ (ow) := Hp.sel (pre := [Res.sl (Ek.int .i64) 3 v41 q39.1, Res.sl (Ek.int .i64) 3 v37 q35.1, Res.obj 24 v1 [.int .i64 c0_Length, .int .u32 c0_One, .int .u32 c0_Two], Res.sl Ek.bool 4 v11 q9.1]) (tail := ow) (rs' := []) hp [] (by decide) (by simp) rfl
    exact ⟨rfl, ⟨hf.sub ⟨rfl, trivial⟩, hp⟩⟩
  replace h := ifF h hb
  refine wp_skip ?_
  refine th_n ?_
  refine wp_seq ?_
  refine wp_seq ?_
  refine wp_reg ?_
  refine st_assign hf rfl rfl (by decide) ?_
  clear hf; intro a ha hf; clear ha
  refine st_nil hf ?_
  refine th_n ?_
  refine wp_block ?_
  obtain ⟨q64, hl, h⟩ := bnd h
  have hp : Hp _ _ _ (Res.sl (Ek.int .i64) 3 v37 q35.1 :: Res.obj 24 v1 [.int .i64 c0_Length, .int .u32 c0_One, .int .u32 c0_Two] :: Res.sl Ek.bool 4 v11 q9.1 :: Res.sl (Ek.int .i64) 3 v41 q39.1 :: ow) := Hp.sel (pre := [Res.sl (Ek.int .i64) 3 v41 q39.1, Res.sl (Ek.int .i64) 3 v37 q35.1, Res.obj 24 v1 [.int .i64 c0_Length, .int .u32 c0_One, .int .u32 c0_Two], Res.sl Ek.bool 4 v11 q9.1]) (tail := ow) (rs' := [Res.sl (Ek.int .i64) 3 v37 q35.1, Res.obj 24 v1 [.int .i64 c0_Length, .int .u32 c0_One, .int .u32 c0_Two], Res.sl Ek.bool 4 v11 q9.1, Res.sl (Ek.int .i64) 3 v41 q39.1]) hp [1, 2, 3, 0] (by decide) (by simp) rfl
  refine wp_loop_pure (f := (f_foghornlaw21_ways.s2 q39)) (s := (q35.1, (0 : Int))) (fun s a w => ∃ (v45 : Value), Fr 182 a [(1, vm1), (2, vbits2), (3, optr v1 0), (9, v11), (12, v45), (13, v41), (14, .int .i64 s.2)] ∧ Hp S w0 w (Res.sl (Ek.int .i64) 3 v45 s.1 :: Res.obj 24 v1 [.int .i64 c0_Length, .int .u32 c0_One, .int .u32 c0_Two] :: Res.sl Ek.bool 4 v11 q9.1 :: Res.sl (Ek.int .i64) 3 v41 q39.1 :: ow)) (fun q e a w => match q with | (Sum.inl q) => e = .exit 2 ∧ Fr 182 a [(1, vm1), (2, vbits2), (3, optr v1 0), (9, v11)] ∧ Hp S w0 w (Res.obj 24 v1 [.int .i64 c0_Length, .int .u32 c0_One, .int .u32 c0_Two] :: Res.sl Ek.bool 4 v11 q9.1 :: ow) | (Sum.inr q) => e = .ret ∧ Fr 182 a [(6, .bool q)] ∧ Hp S w0 w (ow)) ?_ hl ⟨_, hf.sub ⟨rfl, rfl, rfl, rfl, rfl, rfl, rfl, trivial⟩, hp⟩ ?_
  · clear hl hf hp
    intro s x a w h hI
    obtain ⟨w12, i14⟩ := s
    obtain ⟨v45, hf, hp⟩ : ∃ (v45 : Value), Fr 182 a [(1, vm1), (2, vbits2), (3, optr v1 0), (9, v11), (12, v45), (13, v41), (14, .int .i64 i14)] ∧ Hp S w0 w (Res.sl (Ek.int .i64) 3 v45 w12 :: Res.obj 24 v1 [.int .i64 c0_Length, .int .u32 c0_One, .int .u32 c0_Two] :: Res.sl Ek.bool 4 v11 q9.1 :: Res.sl (Ek.int .i64) 3 v41 q39.1 :: ow) := hI
    replace h : f_foghornlaw21_ways.s2c q39 w12 i14 = some x := h
    unfold f_foghornlaw21_ways.s2c at h
    refine wp_seq ?_
    refine wp_seq ?_
    refine wp_reg ?_
    refine st_move hf rfl rfl (by decide) ?_
    clear hf; intro a ha hf; clear ha
    refine st_move hf rfl rfl (by decide) ?_
    clear hf; intro a ha hf; clear ha
    refine st_len (E := (Ek.int .i64)) hf (by decide) Try.underlying39 rfl rfl (hp.sl (i := 3) rfl) ?_
    clear hf; intro a ha hf; clear ha
    refine st_ilss hf (by decide) rfl rfl rfl ?_
    clear hf; intro a ha hf; clear ha
    refine st_nil hf ?_
    refine th_n ?_
    refine wp_if hf rfl (fun hb => ?_) (fun hb => ?_)
    · replace h := ifT h hb
      refine wp_skip ?_
      refine th_n ?_
      refine wp_seq ?_
      refine wp_block ?_
      refine wp_seq ?_
      refine wp_seq ?_
      obtain ⟨S47, hp48, rd49, up50, bk51⟩ := Hp.lendS hp (i := 0) rfl
      obtain ⟨S52, hp53, rd54, up55, bk56⟩ := Hp.lendS hp48 (i := 2) rfl
      have rl57 := ((((hm1.rd.now hp).mono up50).now hp48).mono up55)
      have rl58 := ((((hbits2.now hp).mono up50).now hp48).mono up55)
      have rl59 := ((rd49.now hp48).mono up55)
      have rl60 := rd54
      obtain ⟨hc61, h⟩ := chk h
      obtain ⟨hc62, h⟩ := chk h
      refine wp_cutN (fun a w => Fr 182 a [(1, vm1), (2, vbits2), (3, optr v1 0), (9, v11), (12, v45), (13, v41), (14, .int .i64 i14), (96, .bool ((gt w12 i14) != (gt q39.1 i14)))] ∧ Hp S w0 w (Res.sl (Ek.int .i64) 3 v45 w12 :: Res.sl (Ek.int .i64) 3 v41 q39.1 :: Res.obj 24 v1 [.int .i64 c0_Length, .int .u32 c0_One, .int .u32 c0_Two] :: Res.sl Ek.bool 4 v11 q9.1 :: ow)) ?_ ?_
      · have hp := hp53.same (Same.drew w)
        refine dr_begin' (fun a w => Fr 182 a [(1, vm1), (2, vbits2), (3, optr v1 0), (9, v11), (12, v45), (13, v41), (14, .int .i64 i14), (96, .bool ((gt w12 i14) != (gt q39.1 i14)))] ∧ Hp S w0 w (Res.sl (Ek.int .i64) 3 v45 w12 :: Res.sl (Ek.int .i64) 3 v41 q39.1 :: Res.obj 24 v1 [.int .i64 c0_Length, .int .u32 c0_One, .int .u32 c0_Two] :: Res.sl Ek.bool 4 v11 q9.1 :: ow)) (fun w' => ∃ l, Hp S52 w w' l) [] (by kernel_rfl) ?_
        refine dr_take 0 (v45) rfl (by kernel_rfl) (by kernel_rfl) (by kernel_rfl) (by kernel_rfl) rfl rfl hf (by decide) rfl (fun w hp => ?_) ⟨_, hp⟩ ?_
        · obtain ⟨_, hp⟩ := hp
          refine st_move hf rfl rfl (by decide) ?_
          clear hf; intro a ha hf
          exact st_nil hf (th_n ⟨ha, rfl⟩)
        clear hf; intro a hf
        refine dr_take 1 (.int .i64 i14) rfl (by kernel_rfl) (by kernel_rfl) (by kernel_rfl) (by kernel_rfl) rfl rfl hf (by decide) rfl (fun w hp => ?_) ⟨_, hp⟩ ?_
        · obtain ⟨_, hp⟩ := hp
          refine st_move hf rfl rfl (by decide) ?_
          clear hf; intro a ha hf
          exact st_nil hf (th_n ⟨ha, rfl⟩)
        clear hf; intro a hf
        refine dr_take 2 (eptr v45 i14 1) rfl (by kernel_rfl) (by kernel_rfl) (by kernel_rfl) (by kernel_rfl) rfl rfl hf (by decide) rfl (fun w hp => ?_) ⟨_, hp⟩ ?_
        · obtain ⟨_, hp⟩ := hp
          refine st_index (E := (Ek.int .i64)) hf (by decide) Try.underlying39 elt3 rfl rfl rfl (rl59.sl hp) hc61.1 hc61.2 ?_
          clear hf; intro a ha hf
          exact st_nil hf (th_n ⟨ha, rfl⟩)
        clear hf; intro a hf
        refine dr_take 3 (.int .i64 (gt w12 i14)) rfl (by kernel_rfl) (by kernel_rfl) (by kernel_rfl) (by kernel_rfl) rfl rfl hf (by decide) rfl (fun w hp => ?_) ⟨_, hp⟩ ?_
        · obtain ⟨_, hp⟩ := hp
          refine st_ldI hf (by decide) pl3 rfl rfl (rl59.sl hp) hc61.1 hc61.2 ?_
          clear hf; intro a ha hf
          exact st_nil hf (th_n ⟨ha, rfl⟩)
        clear hf; intro a hf
        refine dr_take 4 (v41) rfl (by kernel_rfl) (by kernel_rfl) (by kernel_rfl) (by kernel_rfl) rfl rfl hf (by decide) rfl (fun w hp => ?_) ⟨_, hp⟩ ?_
        · obtain ⟨_, hp⟩ := hp
          refine st_move hf rfl rfl (by decide) ?_
          clear hf; intro a ha hf
          exact st_nil hf (th_n ⟨ha, rfl⟩)
        clear hf; intro a hf
        refine dr_take 5 (.int .i64 i14) rfl (by kernel_rfl) (by kernel_rfl) (by kernel_rfl) (by kernel_rfl) rfl rfl hf (by decide) rfl (fun w hp => ?_) ⟨_, hp⟩ ?_
        · obtain ⟨_, hp⟩ := hp
          refine st_move hf rfl rfl (by decide) ?_
          clear hf; intro a ha hf
          exact st_nil hf (th_n ⟨ha, rfl⟩)
        clear hf; intro a hf
        refine dr_take 6 (eptr v41 i14 1) rfl (by kernel_rfl) (by kernel_rfl) (by kernel_rfl) (by kernel_rfl) rfl rfl hf (by decide) rfl (fun w hp => ?_) ⟨_, hp⟩ ?_
        · obtain ⟨_, hp⟩ := hp
          refine st_index (E := (Ek.int .i64)) hf (by decide) Try.underlying39 elt3 rfl rfl rfl (rl60.sl hp) hc62.1 hc62.2 ?_
          clear hf; intro a ha hf
          exact st_nil hf (th_n ⟨ha, rfl⟩)
        clear hf; intro a hf
        refine dr_take 7 (.int .i64 (gt q39.1 i14)) rfl (by kernel_rfl) (by kernel_rfl) (by kernel_rfl) (by kernel_rfl) rfl rfl hf (by decide) rfl (fun w hp => ?_) ⟨_, hp⟩ ?_
        · obtain ⟨_, hp⟩ := hp
          refine st_ldI hf (by decide) pl3 rfl rfl (rl60.sl hp) hc62.1 hc62.2 ?_
          clear hf; intro a ha hf
          exact st_nil hf (th_n ⟨ha, rfl⟩)
        clear hf; intro a hf
        refine dr_take 8 (.bool ((gt w12 i14) != (gt q39.1 i14))) rfl (by kernel_rfl) (by kernel_rfl) (by kernel_rfl) (by kernel_rfl) rfl rfl hf (by decide) rfl (fun w hp => ?_) ⟨_, hp⟩ ?_
        · obtain ⟨_, hp⟩ := hp
          refine st_ineq hf (by decide) rfl rfl rfl ?_
          clear hf; intro a ha hf
          exact st_nil hf (th_n ⟨ha, rfl⟩)
        clear hf; intro a hf
        refine dr_end (by kernel_rfl) ?_ _
        have hp := bk56 _ _ hp
        have hp := bk51 _ _ hp
        exact ⟨hf.sub ⟨rfl, rfl, rfl, rfl, rfl, rfl, rfl, rfl, trivial⟩, hp⟩
      rintro a w ⟨hf, hp⟩
      refine th_n ?_
      refine wp_if hf rfl (fun hb => ?_) (fun hb => ?_)
      · replace h := ifT h hb
        refine wp_seq ?_
        refine wp_reg ?_
        refine st_assign hf rfl rfl (by decide) ?_
        clear hf; intro a ha hf; clear ha
        refine st_nil hf ?_
        refine th_n ?_
        refine wp_ret ?_
        refine th_r ?_
        refine ib_r ?_
        refine th_r ?_
        obtain rfl := Option.some.inj h
        have hp : Hp _ _ _ (ow) := Hp.sel (pre := [Res.sl (Ek.int .i64) 3 v45 w12, Res.sl (Ek.int .i64) 3 v41 q39.1, Res.obj 24 v1 [.int .i64 c0_Length, .int .u32 c0_One, .int .u32 c0_Two], Res.sl Ek.bool 4 v11 q9.1]) (tail := ow) (rs' := []) hp [] (by decide) (by simp) rfl
        exact rnd_r (by simp) ⟨rfl, ⟨hf.sub ⟨rfl, trivial⟩, hp⟩⟩
      replace h := ifF h hb
      refine wp_skip ?_
      refine th_n ?_
      refine wp_reg ?_
      refine st_move hf rfl rfl (by decide) ?_
      clear hf; intro a ha hf; clear ha
      refine st_move hf rfl rfl (by decide) ?_
      clear hf; intro a ha hf; clear ha
      obtain ⟨hc63, h⟩ := chk h
      refine st_index (E := (Ek.int .i64)) hf (by decide) Try.underlying39 elt3 rfl rfl rfl (hp.sl (i := 0) rfl) hc63.1 hc63.2 ?_
      clear hf; intro a ha hf; clear ha
      refine st_store (E := (Ek.int .i64)) hf elt3 hp (i := 0) rfl rfl rfl rfl rfl hc63.1 hc63.2 ?_
      clear hf; intro a w hf hp0; clear hp; have hp := hp0; clear hp0
      replace hp : Hp _ _ _ (Res.sl (Ek.int .i64) 3 v45 (w12.set (i14).toNat (-1 : Int)) :: Res.sl (Ek.int .i64) 3 v41 q39.1 :: Res.obj 24 v1 [.int .i64 c0_Length, .int .u32 c0_One, .int .u32 c0_Two] :: Res.sl Ek.bool 4 v11 q9.1 :: ow) := hp
      refine st_nil hf ?_
      refine ib_n ?_
      refine th_n ?_
      refine wp_reg ?_
      refine st_move hf rfl rfl (by decide) ?_
      clear hf; intro a ha hf; clear ha
      refine st_iadd hf (by decide) rfl rfl rfl ?_
      clear hf; intro a ha hf; clear ha
      refine st_assign hf rfl rfl (by decide) ?_
      clear hf; intro a ha hf; clear ha
      refine st_nil hf ?_
      obtain rfl := Option.some.inj h
      have hp : Hp _ _ _ (Res.sl (Ek.int .i64) 3 v45 (w12.set (i14).toNat (-1 : Int)) :: Res.obj 24 v1 [.int .i64 c0_Length, .int .u32 c0_One, .int .u32 c0_Two] :: Res.sl Ek.bool 4 v11 q9.1 :: Res.sl (Ek.int .i64) 3 v41 q39.1 :: ow) := Hp.sel (pre := [Res.sl (Ek.int .i64) 3 v45 (w12.set (i14).toNat (-1 : Int)), Res.sl (Ek.int .i64) 3 v41 q39.1, Res.obj 24 v1 [.int .i64 c0_Length, .int .u32 c0_One, .int .u32 c0_Two], Res.sl Ek.bool 4 v11 q9.1]) (tail := ow) (rs' := [Res.sl (Ek.int .i64) 3 v45 (w12.set (i14).toNat (-1 : Int)), Res.obj 24 v1 [.int .i64 c0_Length, .int .u32 c0_One, .int .u32 c0_Two], Res.sl Ek.bool 4 v11 q9.1, Res.sl (Ek.int .i64) 3 v41 q39.1]) hp [0, 2, 3, 1] (by decide) (by simp) rfl
      exact rnd_l ⟨_, hf.sub ⟨rfl, rfl, rfl, rfl, rfl, rfl, rfl, trivial⟩, hp⟩
    replace h := ifF h hb
    refine wp_exit ?_
    refine th_e ?_
    obtain rfl := Option.some.inj h
    have hp : Hp _ _ _ (Res.obj 24 v1 [.int .i64 c0_Length, .int .u32 c0_One, .int .u32 c0_Two] :: Res.sl Ek.bool 4 v11 q9.1 :: ow) := Hp.sel (pre := [Res.sl (Ek.int .i64) 3 v45 w12, Res.obj 24 v1 [.int .i64 c0_Length, .int .u32 c0_One, .int .u32 c0_Two], Res.sl Ek.bool 4 v11 q9.1, Res.sl (Ek.int .i64) 3 v41 q39.1]) (tail := ow) (rs' := [Res.obj 24 v1 [.int .i64 c0_Length, .int .u32 c0_One, .int .u32 c0_Two], Res.sl Ek.bool 4 v11 q9.1]) hp [1, 2] (by decide) (by simp) rfl
    exact rnd_r (by simp) ⟨rfl, hf.sub ⟨rfl, rfl, rfl, rfl, trivial⟩, hp⟩
  clear hl hf hp
  intro e a w hne hO
  rcases q64 with q65 | q66
  · replace h := smL h
    obtain ⟨rfl, hf, hp⟩ := hO
    refine ib_same ?_
    refine th_n ?_
    refine wp_seq ?_
    refine wp_reg ?_
    refine st_ldOA (m := 3) (us := [.int .i64 c0_Length, .int .u32 c0_One, .int .u32 c0_Two]) hf (by decide) (by kernel_rfl) rfl rfl (hp.ob (i := 0) rfl) rfl rfl ?_
    clear hf; intro a ha hf; clear ha
    obtain ⟨q67, hcall68, h⟩ := bnd h
    refine st_call hf (by decide) Try.func22 rfl rfl rfl rfl rfl (f_foghornlaw21_own_c hp _ _ _ hcall68) ?_
    rintro _ w ⟨rfl, hp0⟩
    clear hp; have hp := hp0; clear hp0
    replace hp : Hp _ _ _ (Res.obj 24 v1 [.int .i64 c0_Length, .int .u32 c0_One, .int .u32 c0_Two] :: Res.sl Ek.bool 4 v11 q9.1 :: ow) := hp
    refine ⟨_, rfl, ?_⟩
    clear hf; intro a hf
    refine st_move hf rfl rfl (by decide) ?_
    clear hf; intro a ha hf; clear ha
    obtain ⟨q69, hcall70, h⟩ := bnd h
    refine st_call hf (by decide) Try.func20 rfl rfl rfl rfl rfl (f_trellis_Code_Exact_c hp _ _ _ _ _ hm1.rd hcall70) ?_
    rintro _ w ⟨v71, rfl, hp0⟩
    clear hp; have hp := hp0; clear hp0
    replace hp : Hp _ _ _ (Res.sl Ek.bool 4 v71 q69.1 :: Res.obj 24 v1 [.int .i64 c0_Length, .int .u32 c0_One, .int .u32 c0_Two] :: Res.sl Ek.bool 4 v11 q9.1 :: ow) := hp
    refine ⟨_, rfl, ?_⟩
    clear hf; intro a hf
    refine st_move hf rfl rfl (by decide) ?_
    clear hf; intro a ha hf; clear ha
    refine st_extract hf (by decide) rfl rfl rfl ?_
    clear hf; intro a ha hf; clear ha
    refine st_extract hf (by decide) rfl rfl rfl ?_
    clear hf; intro a ha hf; clear ha
    refine st_assign hf rfl rfl (by decide) ?_
    clear hf; intro a ha hf; clear ha
    refine st_assign hf rfl rfl (by decide) ?_
    clear hf; intro a ha hf; clear ha
    refine st_nil hf ?_
    refine th_n ?_
    refine wp_seq ?_
    refine wp_reg ?_
    refine st_ldOA (m := 3) (us := [.int .i64 c0_Length, .int .u32 c0_One, .int .u32 c0_Two]) hf (by decide) (by kernel_rfl) rfl rfl (hp.ob (i := 1) rfl) rfl rfl ?_
    clear hf; intro a ha hf; clear ha
    refine st_move hf rfl rfl (by decide) ?_
    clear hf; intro a ha hf; clear ha
    obtain ⟨q73, hcall74, h⟩ := bnd h
    refine st_call hf (by decide) Try.func35 rfl rfl rfl rfl rfl (f_foghornref21_Exact_c hp _ _ _ _ _ hbits2 hcall74) ?_
    rintro _ w ⟨v75, rfl, hp0⟩
    clear hp; have hp := hp0; clear hp0
    replace hp : Hp _ _ _ (Res.sl Ek.bool 4 v75 q73.1 :: Res.sl Ek.bool 4 v71 q69.1 :: Res.obj 24 v1 [.int .i64 c0_Length, .int .u32 c0_One, .int .u32 c0_Two] :: Res.sl Ek.bool 4 v11 q9.1 :: ow) := hp
    refine ⟨_, rfl, ?_⟩
    clear hf; intro a hf
    refine st_move hf rfl rfl (by decide) ?_
    clear hf; intro a ha hf; clear ha
    refine st_extract hf (by decide) rfl rfl rfl ?_
    clear hf; intro a ha hf; clear ha
    refine st_extract hf (by decide) rfl rfl rfl ?_
    clear hf; intro a ha hf; clear ha
    refine st_assign hf rfl rfl (by decide) ?_
    clear hf; intro a ha hf; clear ha
    refine st_assign hf rfl rfl (by decide) ?_
    clear hf; intro a ha hf; clear ha
    refine st_nil hf ?_
    refine th_n ?_
    refine wp_seq ?_
    refine wp_reg ?_
    refine st_ldOA (m := 3) (us := [.int .i64 c0_Length, .int .u32 c0_One, .int .u32 c0_Two]) hf (by decide) (by kernel_rfl) rfl rfl (hp.ob (i := 2) rfl) rfl rfl ?_
    clear hf; intro a ha hf; clear ha
    obtain ⟨q77, hcall78, h⟩ := bnd h
    refine st_call hf (by decide) Try.func22 rfl rfl rfl rfl rfl (f_foghornlaw21_own_c hp _ _ _ hcall78) ?_
    rintro _ w ⟨rfl, hp0⟩
    clear hp; have hp := hp0; clear hp0
    replace hp : Hp _ _ _ (Res.sl Ek.bool 4 v75 q73.1 :: Res.sl Ek.bool 4 v71 q69.1 :: Res.obj 24 v1 [.int .i64 c0_Length, .int .u32 c0_One, .int .u32 c0_Two] :: Res.sl Ek.bool 4 v11 q9.1 :: ow) := hp
    refine ⟨_, rfl, ?_⟩
    clear hf; intro a hf
    refine st_move hf rfl rfl (by decide) ?_
    clear hf; intro a ha hf; clear ha
    obtain ⟨q79, hcall80, h⟩ := bnd h
    refine st_call hf (by decide) Try.func13 rfl rfl rfl rfl rfl (f_trellis_Code_Encode_c hp _ _ _ _ _ hm1.rd hcall80) ?_
    rintro _ w ⟨v81, rfl, hp0⟩
    clear hp; have hp := hp0; clear hp0
    replace hp : Hp _ _ _ (Res.sl Ek.bool 4 v81 q79.1 :: Res.sl Ek.bool 4 v75 q73.1 :: Res.sl Ek.bool 4 v71 q69.1 :: Res.obj 24 v1 [.int .i64 c0_Length, .int .u32 c0_One, .int .u32 c0_Two] :: Res.sl Ek.bool 4 v11 q9.1 :: ow) := hp
    refine ⟨_, rfl, ?_⟩
    clear hf; intro a hf
    refine st_move hf rfl rfl (by decide) ?_
    clear hf; intro a ha hf; clear ha
    refine st_extract hf (by decide) rfl rfl rfl ?_
    clear hf; intro a ha hf; clear ha
    refine st_extract hf (by decide) rfl rfl rfl ?_
    clear hf; intro a ha hf; clear ha
    refine st_assign hf rfl rfl (by decide) ?_
    clear hf; intro a ha hf; clear ha
    refine st_assign hf rfl rfl (by decide) ?_
    clear hf; intro a ha hf; clear ha
    refine st_nil hf ?_
    refine th_n ?_
    refine wp_seq ?_
    refine wp_seq ?_
    refine wp_reg ?_
    refine st_move hf rfl rfl (by decide) ?_
    clear hf; intro a ha hf; clear ha
    refine st_move hf rfl rfl (by decide) ?_
    clear hf; intro a ha hf; clear ha
    refine st_ineq hf (by decide) rfl rfl rfl ?_
    clear hf; intro a ha hf; clear ha
    refine st_move hf rfl rfl (by decide) ?_
    clear hf; intro a ha hf; clear ha
    obtain ⟨z85, hz83, h⟩ := bnd h
    refine wpList_cut 5 (fun a w => Fr 182 a [(3, optr v1 0), (9, v11), (17, v81), (128, .bool z85)] ∧ Hp S w0 w (Res.sl Ek.bool 4 v81 q79.1 :: Res.sl Ek.bool 4 v75 q73.1 :: Res.sl Ek.bool 4 v71 q69.1 :: Res.obj 24 v1 [.int .i64 c0_Length, .int .u32 c0_One, .int .u32 c0_Two] :: Res.sl Ek.bool 4 v11 q9.1 :: ow)) ?_ ?_
    · rcases Bool.eq_false_or_eq_true (q69.2 != q73.2) with hb84 | hb84
      · skip
        replace hz83 := ifT hz83 hb84
        refine st_skip hf (wantN hf rfl rfl hb84) rfl (by decide) ?_ rfl
        clear hf; intro a hf
        refine st_skip hf (wantN hf rfl rfl hb84) rfl (by decide) ?_ rfl
        clear hf; intro a hf
        refine st_skip hf (wantN hf rfl rfl hb84) rfl (by decide) ?_ rfl
        clear hf; intro a hf
        refine st_skip hf (wantN hf rfl rfl hb84) rfl (by decide) ?_ rfl
        clear hf; intro a hf
        obtain rfl := Option.some.inj hz83
        refine st_pick (v := .bool true) hf rfl rfl (fun hb' => ?_) (fun hb' => ?_) (by decide) ?_
        · rfl
        · exact absurd (hb84.symm.trans hb') (by decide)
        clear hf; intro a ha hf; clear ha
        refine st_nil hf (th_n ?_)
        exact ⟨hf.sub ⟨rfl, rfl, rfl, rfl, trivial⟩, hp⟩
      replace hz83 := ifF hz83 hb84
      refine st_move hf (wantY hf rfl rfl hb84) rfl (by decide) ?_
      clear hf; intro a ha hf; clear ha
      refine st_move hf (wantY hf rfl rfl hb84) rfl (by decide) ?_
      clear hf; intro a ha hf; clear ha
      obtain ⟨q86, hcall87, hz83⟩ := bnd hz83
      obtain ⟨S88, hp89, rd90, up91, bk92⟩ := Hp.lendS hp (i := 2) rfl
      obtain ⟨S93, hp94, rd95, up96, bk97⟩ := Hp.lendS hp89 (i := 1) rfl
      refine st_call hf (by decide) Try.func33 rfl rfl (wantY hf rfl rfl hb84) rfl rfl (f_foghornref21_Same_c hp94 _ _ ((rd90.now hp89).mono up96) _ _ rd95 hcall87) ?_
      rintro _ w ⟨rfl, hp0⟩
      have hp0 := bk97 _ _ hp0
      have hp0 := bk92 _ _ hp0
      clear hp; have hp := hp0; clear hp0
      replace hp : Hp _ _ _ (Res.sl Ek.bool 4 v71 q69.1 :: Res.sl Ek.bool 4 v75 q73.1 :: Res.sl Ek.bool 4 v81 q79.1 :: Res.obj 24 v1 [.int .i64 c0_Length, .int .u32 c0_One, .int .u32 c0_Two] :: Res.sl Ek.bool 4 v11 q9.1 :: ow) := hp
      refine ⟨_, rfl, ?_⟩
      clear hf; intro a hf
      refine st_not hf (by decide) (wantY hf rfl rfl hb84) rfl ?_
      clear hf; intro a ha hf; clear ha
      obtain rfl := Option.some.inj hz83
      refine st_pick (v := .bool (!q86)) hf rfl rfl (fun hb' => ?_) (fun hb' => ?_) (by decide) ?_
      · exact absurd (hb84.symm.trans hb') (by decide)
      · rfl
      clear hf; intro a ha hf; clear ha
      refine st_nil hf (th_n ?_)
      have hp : Hp _ _ _ (Res.sl Ek.bool 4 v81 q79.1 :: Res.sl Ek.bool 4 v75 q73.1 :: Res.sl Ek.bool 4 v71 q69.1 :: Res.obj 24 v1 [.int .i64 c0_Length, .int .u32 c0_One, .int .u32 c0_Two] :: Res.sl Ek.bool 4 v11 q9.1 :: ow) := Hp.sel (pre := [Res.sl Ek.bool 4 v71 q69.1, Res.sl Ek.bool 4 v75 q73.1, Res.sl Ek.bool 4 v81 q79.1, Res.obj 24 v1 [.int .i64 c0_Length, .int .u32 c0_One, .int .u32 c0_Two], Res.sl Ek.bool 4 v11 q9.1]) (tail := ow) (rs' := [Res.sl Ek.bool 4 v81 q79.1, Res.sl Ek.bool 4 v75 q73.1, Res.sl Ek.bool 4 v71 q69.1, Res.obj 24 v1 [.int .i64 c0_Length, .int .u32 c0_One, .int .u32 c0_Two], Res.sl Ek.bool 4 v11 q9.1]) hp [2, 1, 0, 3, 4] (by decide) (by simp) rfl
      exact ⟨hf.sub ⟨rfl, rfl, rfl, rfl, trivial⟩, hp⟩
    rintro a w ⟨hf, hp⟩
    refine st_move hf rfl rfl (by decide) ?_
    clear hf; intro a ha hf; clear ha
    obtain ⟨z100, hz98, h⟩ := bnd h
    refine wpList_cut 5 (fun a w => Fr 182 a [(3, optr v1 0), (9, v11), (134, .bool z100)] ∧ Hp S w0 w (Res.sl Ek.bool 4 v81 q79.1 :: Res.sl Ek.bool 4 v75 q73.1 :: Res.sl Ek.bool 4 v71 q69.1 :: Res.obj 24 v1 [.int .i64 c0_Length, .int .u32 c0_One, .int .u32 c0_Two] :: Res.sl Ek.bool 4 v11 q9.1 :: ow)) ?_ ?_
    · rcases Bool.eq_false_or_eq_true z85 with hb99 | hb99
      · skip
        replace hz98 := ifT hz98 hb99
        refine st_skip hf (wantN hf rfl rfl hb99) rfl (by decide) ?_ rfl
        clear hf; intro a hf
        refine st_skip hf (wantN hf rfl rfl hb99) rfl (by decide) ?_ rfl
        clear hf; intro a hf
        refine st_skip hf (wantN hf rfl rfl hb99) rfl (by decide) ?_ rfl
        clear hf; intro a hf
        refine st_skip hf (wantN hf rfl rfl hb99) rfl (by decide) ?_ rfl
        clear hf; intro a hf
        obtain rfl := Option.some.inj hz98
        refine st_pick (v := .bool true) hf rfl rfl (fun hb' => ?_) (fun hb' => ?_) (by decide) ?_
        · rfl
        · exact absurd (hb99.symm.trans hb') (by decide)
        clear hf; intro a ha hf; clear ha
        refine st_nil hf (th_n ?_)
        exact ⟨hf.sub ⟨rfl, rfl, rfl, trivial⟩, hp⟩
      replace hz98 := ifF hz98 hb99
      refine st_move hf (wantY hf rfl rfl hb99) rfl (by decide) ?_
      clear hf; intro a ha hf; clear ha
      refine st_move hf (wantY hf rfl rfl hb99) rfl (by decide) ?_
      clear hf; intro a ha hf; clear ha
      obtain ⟨q101, hcall102, hz98⟩ := bnd hz98
      obtain ⟨S103, hp104, rd105, up106, bk107⟩ := Hp.lendS hp (i := 0) rfl
      obtain ⟨S108, hp109, rd110, up111, bk112⟩ := Hp.lendS hp104 (i := 3) rfl
      refine st_call hf (by decide) Try.func33 rfl rfl (wantY hf rfl rfl hb99) rfl rfl (f_foghornref21_Same_c hp109 _ _ ((rd105.now hp104).mono up111) _ _ rd110 hcall102) ?_
      rintro _ w ⟨rfl, hp0⟩
      have hp0 := bk112 _ _ hp0
      have hp0 := bk107 _ _ hp0
      clear hp; have hp := hp0; clear hp0
      replace hp : Hp _ _ _ (Res.sl Ek.bool 4 v81 q79.1 :: Res.sl Ek.bool 4 v11 q9.1 :: Res.sl Ek.bool 4 v75 q73.1 :: Res.sl Ek.bool 4 v71 q69.1 :: Res.obj 24 v1 [.int .i64 c0_Length, .int .u32 c0_One, .int .u32 c0_Two] :: ow) := hp
      refine ⟨_, rfl, ?_⟩
      clear hf; intro a hf
      refine st_not hf (by decide) (wantY hf rfl rfl hb99) rfl ?_
      clear hf; intro a ha hf; clear ha
      obtain rfl := Option.some.inj hz98
      refine st_pick (v := .bool (!q101)) hf rfl rfl (fun hb' => ?_) (fun hb' => ?_) (by decide) ?_
      · exact absurd (hb99.symm.trans hb') (by decide)
      · rfl
      clear hf; intro a ha hf; clear ha
      refine st_nil hf (th_n ?_)
      have hp : Hp _ _ _ (Res.sl Ek.bool 4 v81 q79.1 :: Res.sl Ek.bool 4 v75 q73.1 :: Res.sl Ek.bool 4 v71 q69.1 :: Res.obj 24 v1 [.int .i64 c0_Length, .int .u32 c0_One, .int .u32 c0_Two] :: Res.sl Ek.bool 4 v11 q9.1 :: ow) := Hp.sel (pre := [Res.sl Ek.bool 4 v81 q79.1, Res.sl Ek.bool 4 v11 q9.1, Res.sl Ek.bool 4 v75 q73.1, Res.sl Ek.bool 4 v71 q69.1, Res.obj 24 v1 [.int .i64 c0_Length, .int .u32 c0_One, .int .u32 c0_Two]]) (tail := ow) (rs' := [Res.sl Ek.bool 4 v81 q79.1, Res.sl Ek.bool 4 v75 q73.1, Res.sl Ek.bool 4 v71 q69.1, Res.obj 24 v1 [.int .i64 c0_Length, .int .u32 c0_One, .int .u32 c0_Two], Res.sl Ek.bool 4 v11 q9.1]) hp [0, 2, 3, 4, 1] (by decide) (by simp) rfl
      exact ⟨hf.sub ⟨rfl, rfl, rfl, trivial⟩, hp⟩
    rintro a w ⟨hf, hp⟩
    refine st_nil hf ?_
    refine th_n ?_
    refine wp_if hf rfl (fun hb => ?_) (fun hb => ?_)
    · replace h := ifT h hb
      refine wp_seq ?_
      refine wp_reg ?_
      refine st_assign hf rfl rfl (by decide) ?_
      clear hf; intro a ha hf; clear ha
      refine st_nil hf ?_
      refine th_n ?_
      refine wp_ret ?_
      refine th_r ?_
      obtain rfl := Option.some.inj h
      have hp : Hp _ _ _ (ow) := Hp.sel (pre := [Res.sl Ek.bool 4 v81 q79.1, Res.sl Ek.bool 4 v75 q73.1, Res.sl Ek.bool 4 v71 q69.1, Res.obj 24 v1 [.int .i64 c0_Length, .int .u32 c0_One, .int .u32 c0_Two], Res.sl Ek.bool 4 v11 q9.1]) (tail := ow) (rs' := []) hp [] (by decide) (by simp) rfl
      exact ⟨rfl, ⟨hf.sub ⟨rfl, trivial⟩, hp⟩⟩
    replace h := ifF h hb
    refine wp_skip ?_
    refine th_n ?_
    refine wp_seq ?_
    refine wp_reg ?_
    refine st_move hf rfl rfl (by decide) ?_
    clear hf; intro a ha hf; clear ha
    obtain ⟨q113, hcall114, h⟩ := bnd h
    obtain ⟨S115, hp116, rd117, up118, bk119⟩ := Hp.lendS hp (i := 4) rfl
    refine st_call hf (by decide) Try.func8 rfl rfl rfl rfl rfl (f_foghornlaw21_lent_c hp116 _ _ rd117 hcall114) ?_
    rintro _ w ⟨v120, rfl, hp0⟩
    have hp0 := bk119 _ _ hp0
    clear hp; have hp := hp0; clear hp0
    replace hp : Hp _ _ _ (Res.sl Ek.bool 4 v11 q9.1 :: Res.slx Ek.bool 4 v120 q113.1 q113.2 :: Res.sl Ek.bool 4 v81 q79.1 :: Res.sl Ek.bool 4 v75 q73.1 :: Res.sl Ek.bool 4 v71 q69.1 :: Res.obj 24 v1 [.int .i64 c0_Length, .int .u32 c0_One, .int .u32 c0_Two] :: ow) := hp
    refine ⟨_, rfl, ?_⟩
    clear hf; intro a hf
    refine st_assign hf rfl rfl (by decide) ?_
    clear hf; intro a ha hf; clear ha
    refine st_nil hf ?_
    refine th_n ?_
    refine wp_seq ?_
    refine wp_reg ?_
    refine st_ldOA (m := 3) (us := [.int .i64 c0_Length, .int .u32 c0_One, .int .u32 c0_Two]) hf (by decide) (by kernel_rfl) rfl rfl (hp.ob (i := 5) rfl) rfl rfl ?_
    clear hf; intro a ha hf; clear ha
    obtain ⟨q122, hcall123, h⟩ := bnd h
    refine st_call hf (by decide) Try.func22 rfl rfl rfl rfl rfl (f_foghornlaw21_own_c hp _ _ _ hcall123) ?_
    rintro _ w ⟨rfl, hp0⟩
    clear hp; have hp := hp0; clear hp0
    replace hp : Hp _ _ _ (Res.sl Ek.bool 4 v11 q9.1 :: Res.slx Ek.bool 4 v120 q113.1 q113.2 :: Res.sl Ek.bool 4 v81 q79.1 :: Res.sl Ek.bool 4 v75 q73.1 :: Res.sl Ek.bool 4 v71 q69.1 :: Res.obj 24 v1 [.int .i64 c0_Length, .int .u32 c0_One, .int .u32 c0_Two] :: ow) := hp
    refine ⟨_, rfl, ?_⟩
    clear hf; intro a hf
    refine st_move hf rfl rfl (by decide) ?_
    clear hf; intro a ha hf; clear ha
    obtain ⟨q124, hcall125, h⟩ := bnd h
    obtain ⟨S126, hp127, rd128, up129, bk130⟩ := Hp.lendS hp (i := 1) rfl
    refine st_call hf (by decide) Try.func20 rfl rfl rfl rfl rfl (f_trellis_Code_Exact_c hp127 _ _ _ _ _ rd128 hcall125) ?_
    rintro _ w ⟨v131, rfl, hp0⟩
    have hp0 := bk130 _ _ hp0
    clear hp; have hp := hp0; clear hp0
    replace hp : Hp _ _ _ (Res.slx Ek.bool 4 v120 q113.1 q113.2 :: Res.sl Ek.bool 4 v131 q124.1 :: Res.sl Ek.bool 4 v11 q9.1 :: Res.sl Ek.bool 4 v81 q79.1 :: Res.sl Ek.bool 4 v75 q73.1 :: Res.sl Ek.bool 4 v71 q69.1 :: Res.obj 24 v1 [.int .i64 c0_Length, .int .u32 c0_One, .int .u32 c0_Two] :: ow) := hp
    refine ⟨_, rfl, ?_⟩
    clear hf; intro a hf
    refine st_move hf rfl rfl (by decide) ?_
    clear hf; intro a ha hf; clear ha
    refine st_extract hf (by decide) rfl rfl rfl ?_
    clear hf; intro a ha hf; clear ha
    refine st_extract hf (by decide) rfl rfl rfl ?_
    clear hf; intro a ha hf; clear ha
    refine st_assign hf rfl rfl (by decide) ?_
    clear hf; intro a ha hf; clear ha
    refine st_assign hf rfl rfl (by decide) ?_
    clear hf; intro a ha hf; clear ha
    refine st_nil hf ?_
    refine th_n ?_
    refine wp_seq ?_
    refine wp_reg ?_
    refine st_ldOA (m := 3) (us := [.int .i64 c0_Length, .int .u32 c0_One, .int .u32 c0_Two]) hf (by decide) (by kernel_rfl) rfl rfl (hp.ob (i := 6) rfl) rfl rfl ?_
    clear hf; intro a ha hf; clear ha
    refine st_move hf rfl rfl (by decide) ?_
    clear hf; intro a ha hf; clear ha
    obtain ⟨q133, hcall134, h⟩ := bnd h
    obtain ⟨S135, hp136, rd137, up138, bk139⟩ := Hp.lendS hp (i := 2) rfl
    refine st_call hf (by decide) Try.func35 rfl rfl rfl rfl rfl (f_foghornref21_Exact_c hp136 _ _ _ _ _ rd137 hcall134) ?_
    rintro _ w ⟨v140, rfl, hp0⟩
    have hp0 := bk139 _ _ hp0
    clear hp; have hp := hp0; clear hp0
    replace hp : Hp _ _ _ (Res.sl Ek.bool 4 v11 q9.1 :: Res.sl Ek.bool 4 v140 q133.1 :: Res.slx Ek.bool 4 v120 q113.1 q113.2 :: Res.sl Ek.bool 4 v131 q124.1 :: Res.sl Ek.bool 4 v81 q79.1 :: Res.sl Ek.bool 4 v75 q73.1 :: Res.sl Ek.bool 4 v71 q69.1 :: Res.obj 24 v1 [.int .i64 c0_Length, .int .u32 c0_One, .int .u32 c0_Two] :: ow) := hp
    refine ⟨_, rfl, ?_⟩
    clear hf; intro a hf
    refine st_move hf rfl rfl (by decide) ?_
    clear hf; intro a ha hf; clear ha
    refine st_extract hf (by decide) rfl rfl rfl ?_
    clear hf; intro a ha hf; clear ha
    refine st_extract hf (by decide) rfl rfl rfl ?_
    clear hf; intro a ha hf; clear ha
    refine st_assign hf rfl rfl (by decide) ?_
    clear hf; intro a ha hf; clear ha
    refine st_assign hf rfl rfl (by decide) ?_
    clear hf; intro a ha hf; clear ha
    refine st_nil hf ?_
    refine th_n ?_
    refine wp_seq ?_
    refine wp_seq ?_
    refine wp_reg ?_
    refine st_move hf rfl rfl (by decide) ?_
    clear hf; intro a ha hf; clear ha
    refine st_move hf rfl rfl (by decide) ?_
    clear hf; intro a ha hf; clear ha
    refine st_ineq hf (by decide) rfl rfl rfl ?_
    clear hf; intro a ha hf; clear ha
    refine st_move hf rfl rfl (by decide) ?_
    clear hf; intro a ha hf; clear ha
    obtain ⟨z144, hz142, h⟩ := bnd h
    refine wpList_cut 5 (fun a w => Fr 182 a [(9, v11), (19, v120), (20, v131), (158, .bool z144)] ∧ Hp S w0 w (Res.sl Ek.bool 4 v11 q9.1 :: Res.sl Ek.bool 4 v140 q133.1 :: Res.slx Ek.bool 4 v120 q113.1 q113.2 :: Res.sl Ek.bool 4 v131 q124.1 :: Res.sl Ek.bool 4 v81 q79.1 :: Res.sl Ek.bool 4 v75 q73.1 :: Res.sl Ek.bool 4 v71 q69.1 :: Res.obj 24 v1 [.int .i64 c0_Length, .int .u32 c0_One, .int .u32 c0_Two] :: ow)) ?_ ?_
    · rcases Bool.eq_false_or_eq_true (q124.2 != q133.2) with hb143 | hb143
      · skip
        replace hz142 := ifT hz142 hb143
        refine st_skip hf (wantN hf rfl rfl hb143) rfl (by decide) ?_ rfl
        clear hf; intro a hf
        refine st_skip hf (wantN hf rfl rfl hb143) rfl (by decide) ?_ rfl
        clear hf; intro a hf
        refine st_skip hf (wantN hf rfl rfl hb143) rfl (by decide) ?_ rfl
        clear hf; intro a hf
        refine st_skip hf (wantN hf rfl rfl hb143) rfl (by decide) ?_ rfl
        clear hf; intro a hf
        obtain rfl := Option.some.inj hz142
        refine st_pick (v := .bool true) hf rfl rfl (fun hb' => ?_) (fun hb' => ?_) (by decide) ?_
        · rfl
        · exact absurd (hb143.symm.trans hb') (by decide)
        clear hf; intro a ha hf; clear ha
        refine st_nil hf (th_n ?_)
        exact ⟨hf.sub ⟨rfl, rfl, rfl, rfl, trivial⟩, hp⟩
      replace hz142 := ifF hz142 hb143
      refine st_move hf (wantY hf rfl rfl hb143) rfl (by decide) ?_
      clear hf; intro a ha hf; clear ha
      refine st_move hf (wantY hf rfl rfl hb143) rfl (by decide) ?_
      clear hf; intro a ha hf; clear ha
      obtain ⟨q145, hcall146, hz142⟩ := bnd hz142
      obtain ⟨S147, hp148, rd149, up150, bk151⟩ := Hp.lendS hp (i := 3) rfl
      obtain ⟨S152, hp153, rd154, up155, bk156⟩ := Hp.lendS hp148 (i := 1) rfl
      refine st_call hf (by decide) Try.func33 rfl rfl (wantY hf rfl rfl hb143) rfl rfl (f_foghornref21_Same_c hp153 _ _ ((rd149.now hp148).mono up155) _ _ rd154 hcall146) ?_
      rintro _ w ⟨rfl, hp0⟩
      have hp0 := bk156 _ _ hp0
      have hp0 := bk151 _ _ hp0
      clear hp; have hp := hp0; clear hp0
      replace hp : Hp _ _ _ (Res.sl Ek.bool 4 v131 q124.1 :: Res.sl Ek.bool 4 v140 q133.1 :: Res.sl Ek.bool 4 v11 q9.1 :: Res.slx Ek.bool 4 v120 q113.1 q113.2 :: Res.sl Ek.bool 4 v81 q79.1 :: Res.sl Ek.bool 4 v75 q73.1 :: Res.sl Ek.bool 4 v71 q69.1 :: Res.obj 24 v1 [.int .i64 c0_Length, .int .u32 c0_One, .int .u32 c0_Two] :: ow) := hp
      refine ⟨_, rfl, ?_⟩
      clear hf; intro a hf
      refine st_not hf (by decide) (wantY hf rfl rfl hb143) rfl ?_
      clear hf; intro a ha hf; clear ha
      obtain rfl := Option.some.inj hz142
      refine st_pick (v := .bool (!q145)) hf rfl rfl (fun hb' => ?_) (fun hb' => ?_) (by decide) ?_
      · exact absurd (hb143.symm.trans hb') (by decide)
      · rfl
      clear hf; intro a ha hf; clear ha
      refine st_nil hf (th_n ?_)
      have hp : Hp _ _ _ (Res.sl Ek.bool 4 v11 q9.1 :: Res.sl Ek.bool 4 v140 q133.1 :: Res.slx Ek.bool 4 v120 q113.1 q113.2 :: Res.sl Ek.bool 4 v131 q124.1 :: Res.sl Ek.bool 4 v81 q79.1 :: Res.sl Ek.bool 4 v75 q73.1 :: Res.sl Ek.bool 4 v71 q69.1 :: Res.obj 24 v1 [.int .i64 c0_Length, .int .u32 c0_One, .int .u32 c0_Two] :: ow) := Hp.sel (pre := [Res.sl Ek.bool 4 v131 q124.1, Res.sl Ek.bool 4 v140 q133.1, Res.sl Ek.bool 4 v11 q9.1, Res.slx Ek.bool 4 v120 q113.1 q113.2, Res.sl Ek.bool 4 v81 q79.1, Res.sl Ek.bool 4 v75 q73.1, Res.sl Ek.bool 4 v71 q69.1, Res.obj 24 v1 [.int .i64 c0_Length, .int .u32 c0_One, .int .u32 c0_Two]]) (tail := ow) (rs' := [Res.sl Ek.bool 4 v11 q9.1, Res.sl Ek.bool 4 v140 q133.1, Res.slx Ek.bool 4 v120 q113.1 q113.2, Res.sl Ek.bool 4 v131 q124.1, Res.sl Ek.bool 4 v81 q79.1, Res.sl Ek.bool 4 v75 q73.1, Res.sl Ek.bool 4 v71 q69.1, Res.obj 24 v1 [.int .i64 c0_Length, .int .u32 c0_One, .int .u32 c0_Two]]) hp [2, 1, 3, 0, 4, 5, 6, 7] (by decide) (by simp) rfl
      exact ⟨hf.sub ⟨rfl, rfl, rfl, rfl, trivial⟩, hp⟩
    rintro a w ⟨hf, hp⟩
    refine st_move hf rfl rfl (by decide) ?_
    clear hf; intro a ha hf; clear ha
    obtain ⟨z159, hz157, h⟩ := bnd h
    refine wpList_cut 5 (fun a w => Fr 182 a [(9, v11), (19, v120), (20, v131), (164, .bool z159)] ∧ Hp S w0 w (Res.sl Ek.bool 4 v11 q9.1 :: Res.sl Ek.bool 4 v140 q133.1 :: Res.slx Ek.bool 4 v120 q113.1 q113.2 :: Res.sl Ek.bool 4 v131 q124.1 :: Res.sl Ek.bool 4 v81 q79.1 :: Res.sl Ek.bool 4 v75 q73.1 :: Res.sl Ek.bool 4 v71 q69.1 :: Res.obj 24 v1 [.int .i64 c0_Length, .int .u32 c0_One, .int .u32 c0_Two] :: ow)) ?_ ?_
    · rcases Bool.eq_false_or_eq_true z144 with hb158 | hb158
      · skip
        replace hz157 := ifT hz157 hb158
        refine st_skip hf (wantN hf rfl rfl hb158) rfl (by decide) ?_ rfl
        clear hf; intro a hf
        refine st_skip hf (wantN hf rfl rfl hb158) rfl (by decide) ?_ rfl
        clear hf; intro a hf
        refine st_skip hf (wantN hf rfl rfl hb158) rfl (by decide) ?_ rfl
        clear hf; intro a hf
        refine st_skip hf (wantN hf rfl rfl hb158) rfl (by decide) ?_ rfl
        clear hf; intro a hf
        obtain rfl := Option.some.inj hz157
        refine st_pick (v := .bool true) hf rfl rfl (fun hb' => ?_) (fun hb' => ?_) (by decide) ?_
        · rfl
        · exact absurd (hb158.symm.trans hb') (by decide)
        clear hf; intro a ha hf; clear ha
        refine st_nil hf (th_n ?_)
        exact ⟨hf.sub ⟨rfl, rfl, rfl, rfl, trivial⟩, hp⟩
      replace hz157 := ifF hz157 hb158
      refine st_move hf (wantY hf rfl rfl hb158) rfl (by decide) ?_
      clear hf; intro a ha hf; clear ha
      refine st_move hf (wantY hf rfl rfl hb158) rfl (by decide) ?_
      clear hf; intro a ha hf; clear ha
      obtain ⟨q160, hcall161, hz157⟩ := bnd hz157
      obtain ⟨S162, hp163, rd164, up165, bk166⟩ := Hp.lendX hp (i := 2) rfl
      obtain ⟨S167, hp168, rd169, up170, bk171⟩ := Hp.lendS hp163 (i := 0) rfl
      refine st_call hf (by decide) Try.func10 rfl rfl (wantY hf rfl rfl hb158) rfl rfl (f_foghornlaw21_kept_c hp168 _ _ _ ((rd164.now hp163).mono up170) _ _ rd169 hcall161) ?_
      rintro _ w ⟨rfl, hp0⟩
      have hp0 := bk171 _ _ hp0
      have hp0 := bk166 _ _ hp0
      clear hp; have hp := hp0; clear hp0
      replace hp : Hp _ _ _ (Res.slx Ek.bool 4 v120 q113.1 q113.2 :: Res.sl Ek.bool 4 v11 q9.1 :: Res.sl Ek.bool 4 v140 q133.1 :: Res.sl Ek.bool 4 v131 q124.1 :: Res.sl Ek.bool 4 v81 q79.1 :: Res.sl Ek.bool 4 v75 q73.1 :: Res.sl Ek.bool 4 v71 q69.1 :: Res.obj 24 v1 [.int .i64 c0_Length, .int .u32 c0_One, .int .u32 c0_Two] :: ow) := hp
      refine ⟨_, rfl, ?_⟩
      clear hf; intro a hf
      refine st_not hf (by decide) (wantY hf rfl rfl hb158) rfl ?_
      clear hf; intro a ha hf; clear ha
      obtain rfl := Option.some.inj hz157
      refine st_pick (v := .bool (!q160)) hf rfl rfl (fun hb' => ?_) (fun hb' => ?_) (by decide) ?_
      · exact absurd (hb158.symm.trans hb') (by decide)
      · rfl
      clear hf; intro a ha hf; clear ha
      refine st_nil hf (th_n ?_)
      have hp : Hp _ _ _ (Res.sl Ek.bool 4 v11 q9.1 :: Res.sl Ek.bool 4 v140 q133.1 :: Res.slx Ek.bool 4 v120 q113.1 q113.2 :: Res.sl Ek.bool 4 v131 q124.1 :: Res.sl Ek.bool 4 v81 q79.1 :: Res.sl Ek.bool 4 v75 q73.1 :: Res.sl Ek.bool 4 v71 q69.1 :: Res.obj 24 v1 [.int .i64 c0_Length, .int .u32 c0_One, .int .u32 c0_Two] :: ow) := Hp.sel (pre := [Res.slx Ek.bool 4 v120 q113.1 q113.2, Res.sl Ek.bool 4 v11 q9.1, Res.sl Ek.bool 4 v140 q133.1, Res.sl Ek.bool 4 v131 q124.1, Res.sl Ek.bool 4 v81 q79.1, Res.sl Ek.bool 4 v75 q73.1, Res.sl Ek.bool 4 v71 q69.1, Res.obj 24 v1 [.int .i64 c0_Length, .int .u32 c0_One, .int .u32 c0_Two]]) (tail := ow) (rs' := [Res.sl Ek.bool 4 v11 q9.1, Res.sl Ek.bool 4 v140 q133.1, Res.slx Ek.bool 4 v120 q113.1 q113.2, Res.sl Ek.bool 4 v131 q124.1, Res.sl Ek.bool 4 v81 q79.1, Res.sl Ek.bool 4 v75 q73.1, Res.sl Ek.bool 4 v71 q69.1, Res.obj 24 v1 [.int .i64 c0_Length, .int .u32 c0_One, .int .u32 c0_Two]]) hp [1, 2, 0, 3, 4, 5, 6, 7] (by decide) (by simp) rfl
      exact ⟨hf.sub ⟨rfl, rfl, rfl, rfl, trivial⟩, hp⟩
    rintro a w ⟨hf, hp⟩
    refine st_nil hf ?_
    refine th_n ?_
    refine wp_if hf rfl (fun hb => ?_) (fun hb => ?_)
    · replace h := ifT h hb
      refine wp_seq ?_
      refine wp_reg ?_
      refine st_assign hf rfl rfl (by decide) ?_
      clear hf; intro a ha hf; clear ha
      refine st_nil hf ?_
      refine th_n ?_
      refine wp_ret ?_
      refine th_r ?_
      obtain rfl := Option.some.inj h
      have hp : Hp _ _ _ (ow) := Hp.sel (pre := [Res.sl Ek.bool 4 v11 q9.1, Res.sl Ek.bool 4 v140 q133.1, Res.slx Ek.bool 4 v120 q113.1 q113.2, Res.sl Ek.bool 4 v131 q124.1, Res.sl Ek.bool 4 v81 q79.1, Res.sl Ek.bool 4 v75 q73.1, Res.sl Ek.bool 4 v71 q69.1, Res.obj 24 v1 [.int .i64 c0_Length, .int .u32 c0_One, .int .u32 c0_Two]]) (tail := ow) (rs' := []) hp [] (by decide) (by simp) rfl
      exact ⟨rfl, ⟨hf.sub ⟨rfl, trivial⟩, hp⟩⟩
    replace h := ifF h hb
    refine wp_skip ?_
    refine th_n ?_
    refine wp_seq ?_
    refine wp_seq ?_
    refine wp_reg ?_
    refine st_assign hf rfl rfl (by decide) ?_
    clear hf; intro a ha hf; clear ha
    refine st_nil hf ?_
    refine th_n ?_
    refine wp_block ?_
    obtain ⟨q176, hl, h⟩ := bnd h
    have hp : Hp _ _ _ (Res.sl Ek.bool 4 v131 q124.1 :: Res.sl Ek.bool 4 v11 q9.1 :: Res.slx Ek.bool 4 v120 q113.1 q113.2 :: ow) := Hp.sel (pre := [Res.sl Ek.bool 4 v11 q9.1, Res.sl Ek.bool 4 v140 q133.1, Res.slx Ek.bool 4 v120 q113.1 q113.2, Res.sl Ek.bool 4 v131 q124.1, Res.sl Ek.bool 4 v81 q79.1, Res.sl Ek.bool 4 v75 q73.1, Res.sl Ek.bool 4 v71 q69.1, Res.obj 24 v1 [.int .i64 c0_Length, .int .u32 c0_One, .int .u32 c0_Two]]) (tail := ow) (rs' := [Res.sl Ek.bool 4 v131 q124.1, Res.sl Ek.bool 4 v11 q9.1, Res.slx Ek.bool 4 v120 q113.1 q113.2]) hp [3, 0, 2] (by decide) (by simp) rfl
    refine wp_loop_pure (f := f_foghornlaw21_ways.s3) (s := (q124.1, (0 : Int))) (fun s a w => ∃ (v172 : Value), Fr 182 a [(9, v11), (19, v120), (20, v172), (22, .int .i64 s.2)] ∧ Hp S w0 w (Res.sl Ek.bool 4 v172 s.1 :: Res.sl Ek.bool 4 v11 q9.1 :: Res.slx Ek.bool 4 v120 q113.1 q113.2 :: ow)) (fun q e a w => e = .exit 4 ∧ Fr 182 a [(9, v11), (19, v120)] ∧ Hp S w0 w (Res.sl Ek.bool 4 v11 q9.1 :: Res.slx Ek.bool 4 v120 q113.1 q113.2 :: ow)) ?_ hl ⟨_, hf.sub ⟨rfl, rfl, rfl, rfl, trivial⟩, hp⟩ ?_
    · clear hl hf hp
      intro s x a w h hI
      obtain ⟨p20, i22⟩ := s
      obtain ⟨v172, hf, hp⟩ : ∃ (v172 : Value), Fr 182 a [(9, v11), (19, v120), (20, v172), (22, .int .i64 i22)] ∧ Hp S w0 w (Res.sl Ek.bool 4 v172 p20 :: Res.sl Ek.bool 4 v11 q9.1 :: Res.slx Ek.bool 4 v120 q113.1 q113.2 :: ow) := hI
      replace h : f_foghornlaw21_ways.s3c p20 i22 = some x := h
      unfold f_foghornlaw21_ways.s3c at h
      refine wp_seq ?_
      refine wp_seq ?_
      refine wp_reg ?_
      refine st_move hf rfl rfl (by decide) ?_
      clear hf; intro a ha hf; clear ha
      refine st_move hf rfl rfl (by decide) ?_
      clear hf; intro a ha hf; clear ha
      refine st_len (E := Ek.bool) hf (by decide) Try.underlying25 rfl rfl (hp.sl (i := 0) rfl) ?_
      clear hf; intro a ha hf; clear ha
      refine st_ilss hf (by decide) rfl rfl rfl ?_
      clear hf; intro a ha hf; clear ha
      refine st_nil hf ?_
      refine th_n ?_
      refine wp_if hf rfl (fun hb => ?_) (fun hb => ?_)
      · replace h := ifT h hb
        refine wp_skip ?_
        refine th_n ?_
        refine wp_seq ?_
        refine wp_block ?_
        refine wp_reg ?_
        refine st_move hf rfl rfl (by decide) ?_
        clear hf; intro a ha hf; clear ha
        refine st_move hf rfl rfl (by decide) ?_
        clear hf; intro a ha hf; clear ha
        refine st_move hf rfl rfl (by decide) ?_
        clear hf; intro a ha hf; clear ha
        refine st_move hf rfl rfl (by decide) ?_
        clear hf; intro a ha hf; clear ha
        obtain ⟨hc174, h⟩ := chk h
        refine st_index (E := Ek.bool) hf (by decide) Try.underlying25 elt4 rfl rfl rfl (hp.sl (i := 0) rfl) hc174.1 hc174.2 ?_
        clear hf; intro a ha hf; clear ha
        refine st_ldB hf (by decide) pl4 rfl rfl (hp.sl (i := 0) rfl) hc174.1 hc174.2 ?_
        clear hf; intro a ha hf; clear ha
        refine st_not hf (by decide) rfl rfl ?_
        clear hf; intro a ha hf; clear ha
        obtain ⟨hc175, h⟩ := chk h
        refine st_index (E := Ek.bool) hf (by decide) Try.underlying25 elt4 rfl rfl rfl (hp.sl (i := 0) rfl) hc175.1 hc175.2 ?_
        clear hf; intro a ha hf; clear ha
        refine st_store (E := Ek.bool) hf elt4 hp (i := 0) rfl rfl rfl rfl rfl hc175.1 hc175.2 ?_
        clear hf; intro a w hf hp0; clear hp; have hp := hp0; clear hp0
        replace hp : Hp _ _ _ (Res.sl Ek.bool 4 v172 (p20.set (i22).toNat (!(gt p20 i22))) :: Res.sl Ek.bool 4 v11 q9.1 :: Res.slx Ek.bool 4 v120 q113.1 q113.2 :: ow) := hp
        refine st_nil hf ?_
        refine ib_n ?_
        refine th_n ?_
        refine wp_reg ?_
        refine st_move hf rfl rfl (by decide) ?_
        clear hf; intro a ha hf; clear ha
        refine st_iadd hf (by decide) rfl rfl rfl ?_
        clear hf; intro a ha hf; clear ha
        refine st_assign hf rfl rfl (by decide) ?_
        clear hf; intro a ha hf; clear ha
        refine st_nil hf ?_
        obtain rfl := Option.some.inj h
        exact rnd_l ⟨_, hf.sub ⟨rfl, rfl, rfl, rfl, trivial⟩, hp⟩
      replace h := ifF h hb
      refine wp_exit ?_
      refine th_e ?_
      obtain rfl := Option.some.inj h
      have hp : Hp _ _ _ (Res.sl Ek.bool 4 v11 q9.1 :: Res.slx Ek.bool 4 v120 q113.1 q113.2 :: ow) := Hp.sel (pre := [Res.sl Ek.bool 4 v172 p20, Res.sl Ek.bool 4 v11 q9.1, Res.slx Ek.bool 4 v120 q113.1 q113.2]) (tail := ow) (rs' := [Res.sl Ek.bool 4 v11 q9.1, Res.slx Ek.bool 4 v120 q113.1 q113.2]) hp [1, 2] (by decide) (by simp) rfl
      exact rnd_r (by simp) ⟨rfl, hf.sub ⟨rfl, rfl, trivial⟩, hp⟩
    clear hl hf hp
    intro e a w hne hO
    obtain ⟨rfl, hf, hp⟩ := hO
    refine ib_same ?_
    refine th_n ?_
    refine wp_seq ?_
    refine wp_reg ?_
    refine st_move hf rfl rfl (by decide) ?_
    clear hf; intro a ha hf; clear ha
    refine st_move hf rfl rfl (by decide) ?_
    clear hf; intro a ha hf; clear ha
    obtain ⟨q177, hcall178, h⟩ := bnd h
    obtain ⟨S179, hp180, rd181, up182, bk183⟩ := Hp.lendX hp (i := 1) rfl
    obtain ⟨S184, hp185, rd186, up187, bk188⟩ := Hp.lendS hp180 (i := 0) rfl
    refine st_call hf (by decide) Try.func10 rfl rfl rfl rfl rfl (f_foghornlaw21_kept_c hp185 _ _ _ ((rd181.now hp180).mono up187) _ _ rd186 hcall178) ?_
    rintro _ w ⟨rfl, hp0⟩
    have hp0 := bk188 _ _ hp0
    have hp0 := bk183 _ _ hp0
    clear hp; have hp := hp0; clear hp0
    replace hp : Hp _ _ _ (Res.slx Ek.bool 4 v120 q113.1 q113.2 :: Res.sl Ek.bool 4 v11 q9.1 :: ow) := hp
    refine ⟨_, rfl, ?_⟩
    clear hf; intro a hf
    refine st_assign hf rfl rfl (by decide) ?_
    clear hf; intro a ha hf; clear ha
    refine st_nil hf ?_
    refine th_n ?_
    refine wp_ret ?_
    obtain rfl := Option.some.inj h
    have hp : Hp _ _ _ (ow) := Hp.sel (pre := [Res.slx Ek.bool 4 v120 q113.1 q113.2, Res.sl Ek.bool 4 v11 q9.1]) (tail := ow) (rs' := []) hp [] (by decide) (by simp) rfl
    exact ⟨rfl, ⟨hf.sub ⟨rfl, trivial⟩, hp⟩⟩
  replace h := smR h
  obtain ⟨rfl, hf, hp⟩ := hO
  refine ib_r ?_
  refine th_r ?_
  obtain rfl := Option.some.inj h
  exact ⟨rfl, ⟨hf.sub ⟨rfl, trivial⟩, hp⟩⟩

noncomputable def f_trellis_Short  : Option (Int × Int × Int) := (some ((3 : Int), (7 : Int), (5 : Int)))
theorem f_trellis_Short_c {S : Nat → Prop} {w0 w : World} {ow : List Res} (hp : Hp S w0 w ow) {r : (Int × Int × Int)} (h : f_trellis_Short = some r) :
    Calls Try.prog 30 #[] w (fun e w' => e = .returned (.agg #[.int .i64 r.1, .int .u32 r.2.1, .int .u32 r.2.2]) ∧ Hp S w0 w' (ow)) := by
  unfold f_trellis_Short at h
  refine enter (n := 2) (args := []) Try.func30 rfl rfl (Nat.le_of_ble_eq_true rfl) fun a hf => ?_
  replace hf : Fr 2 a [] := hf
  refine wp_mono (Q := fun e a w => e = .ret ∧ ∃ (c0 : Value), Fr 2 a [(0, optr c0 0)] ∧ Hp S w0 w (Res.obj 34 c0 [.int .i64 r.1, .int .u32 r.2.1, .int .u32 r.2.2] :: ow)) ?_ ?_
  rotate_left
  · rintro e a w ⟨rfl, c0, hf, hp⟩
    exact retG1 hf rfl ⟨_, _, rfl, hp.ob (i := 0) rfl, .inr ⟨by kernel_rfl, rfl⟩⟩ ⟨rfl, hp.drop⟩
  refine wp_seq ?_
  refine wp_reg ?_
  refine st_alloc (cs := [.int .i64 (0 : Int), .int .u32 (0 : Int), .int .u32 (0 : Int)]) (zv := .agg #[.int .i64 (0 : Int), .int .u32 (0 : Int), .int .u32 (0 : Int)]) hf (by decide) (by kernel_rfl) rfl hp rfl ?_
  clear hf; intro a w v1 hf hp0; clear hp; have hp := hp0; clear hp0
  replace hp : Hp _ _ _ (Res.obj 34 v1 [.int .i64 (0 : Int), .int .u32 (0 : Int), .int .u32 (0 : Int)] :: ow) := hp
  refine st_nil hf ?_
  refine th_n ?_
  refine wp_seq ?_
  refine wp_reg ?_
  refine st_buildA (vals := [(0, .int .i64 (3 : Int)), (1, .int .u32 (7 : Int)), (2, .int .u32 (5 : Int))]) (cells := [.int .i64 (3 : Int), .int .u32 (7 : Int), .int .u32 (5 : Int)]) hf (by decide) rfl (by simp [hf.ev (x := (Operand.const (.int .i64 (3 : Int)))) rfl, hf.ev (x := (Operand.const (.int .u32 (7 : Int)))) rfl, hf.ev (x := (Operand.const (.int .u32 (5 : Int)))) rfl]) (fun w => by kernel_rfl) ?_
  clear hf; intro a ha hf; clear ha
  refine st_stO (us := [.int .i64 (3 : Int), .int .u32 (7 : Int), .int .u32 (5 : Int)]) hf hp (i := 0) rfl rfl rfl rfl rfl (by rfl) (by kernel_rfl) (Nat.le_of_ble_eq_true rfl) ?_
  clear hf; intro a w hf hp0; clear hp; have hp := hp0; clear hp0
  replace hp : Hp _ _ _ (Res.obj 34 v1 [.int .i64 (3 : Int), .int .u32 (7 : Int), .int .u32 (5 : Int)] :: ow) := hp
  refine st_nil hf ?_
  refine th_n ?_
  refine wp_ret ?_
  obtain rfl := Option.some.inj h
  exact ⟨rfl, ⟨_, hf.sub ⟨rfl, trivial⟩, hp⟩⟩

noncomputable def f_foghornlaw21_awake  : Option Bool := ((f_trellis_Code_Encode (3 : Int) (7 : Int) (5 : Int) ([true])).bind fun q3 => ((if (q3.2 == (0 : Int)) = true then ((f_foghornref21_Same q3.1 ([true, true, true, false, true, true])).bind fun q17 => (some q17)) else (some false)).bind fun z14 => ((if z14 = true then ((f_trellis_Short).bind fun q32 => (some ((q32.1 == (3 : Int)) && ((q32.2.1 == (7 : Int)) && ((q32.2.2 == (5 : Int)) && true))))) else (some false)).bind fun z31 => (some z31))))
theorem f_foghornlaw21_awake_c {S : Nat → Prop} {w0 w : World} {ow : List Res} (hp : Hp S w0 w ow) {r : Bool} (h : f_foghornlaw21_awake = some r) :
    Calls Try.prog 11 #[] w (fun e w' => e = .returned (.bool r) ∧ Hp S w0 w' (ow)) := by
  unfold f_foghornlaw21_awake at h
  refine enter (n := 21) (args := []) Try.func11 rfl rfl (Nat.le_of_ble_eq_true rfl) fun a hf => ?_
  replace hf : Fr 21 a [] := hf
  refine wp_mono (Q := fun e a w => e = .ret ∧ Fr 21 a [(0, .bool r)] ∧ Hp S w0 w (ow)) ?_ ?_
  rotate_left
  · rintro e a w ⟨rfl, hf, hp⟩
    exact ret1 hf rfl rfl ⟨rfl, hp⟩
  refine wp_seq ?_
  refine wp_reg ?_
  refine st_assign hf rfl rfl (by decide) ?_
  clear hf; intro a ha hf; clear ha
  refine st_nil hf ?_
  refine th_n ?_
  refine wp_seq ?_
  refine wp_reg ?_
  refine st_buildA (vals := [(0, .int .i64 (3 : Int)), (1, .int .u32 (7 : Int)), (2, .int .u32 (5 : Int))]) (cells := [.int .i64 (3 : Int), .int .u32 (7 : Int), .int .u32 (5 : Int)]) hf (by decide) rfl (by simp [hf.ev (x := (Operand.const (.int .i64 (3 : Int)))) rfl, hf.ev (x := (Operand.const (.int .u32 (7 : Int)))) rfl, hf.ev (x := (Operand.const (.int .u32 (5 : Int)))) rfl]) (fun w => by kernel_rfl) ?_
  clear hf; intro a ha hf; clear ha
  refine st_build (E := Ek.bool) (xs := [true]) hf (by decide) elt4 Try.underlying25 hp (vals := #[(0, .bool true)]) (cells := #[.bool true]) rfl (by simp [hf.ev (x := (Operand.const (.bool true))) rfl]) (by decide) (by decide) (z := .bool false) (by kernel_rfl) (by kernel_rfl) rfl (reps_cons (cs := [.bool true]) rfl (reps_nil _)) ?_
  clear hf; intro a w v1 hf hp0; clear hp; have hp := hp0; clear hp0
  replace hp : Hp _ _ _ (Res.sl Ek.bool 4 v1 ([true]) :: ow) := hp
  obtain ⟨q3, hcall4, h⟩ := bnd h
  obtain ⟨S5, hp6, rd7, up8, bk9⟩ := Hp.lendS hp (i := 0) rfl
  refine st_call hf (by decide) Try.func13 rfl rfl rfl rfl rfl (f_trellis_Code_Encode_c hp6 _ _ _ _ _ rd7 hcall4) ?_
  rintro _ w ⟨v10, rfl, hp0⟩
  have hp0 := bk9 _ _ hp0
  clear hp; have hp := hp0; clear hp0
  replace hp : Hp _ _ _ (Res.sl Ek.bool 4 v1 ([true]) :: Res.sl Ek.bool 4 v10 q3.1 :: ow) := hp
  refine ⟨_, rfl, ?_⟩
  clear hf; intro a hf
  refine st_move hf rfl rfl (by decide) ?_
  clear hf; intro a ha hf; clear ha
  refine st_extract hf (by decide) rfl rfl rfl ?_
  clear hf; intro a ha hf; clear ha
  refine st_extract hf (by decide) rfl rfl rfl ?_
  clear hf; intro a ha hf; clear ha
  refine st_assign hf rfl rfl (by decide) ?_
  clear hf; intro a ha hf; clear ha
  refine st_assign hf rfl rfl (by decide) ?_
  clear hf; intro a ha hf; clear ha
  refine st_nil hf ?_
  refine th_n ?_
  refine wp_seq ?_
  refine wp_reg ?_
  refine st_move hf rfl rfl (by decide) ?_
  clear hf; intro a ha hf; clear ha
  refine st_ieql hf (by decide) rfl rfl rfl ?_
  clear hf; intro a ha hf; clear ha
  refine st_move hf rfl rfl (by decide) ?_
  clear hf; intro a ha hf; clear ha
  obtain ⟨z14, hz12, h⟩ := bnd h
  refine wpList_cut 4 (fun a w => Fr 21 a [(15, .bool z14)] ∧ Hp S w0 w (Res.sl Ek.bool 4 v1 ([true]) :: Res.sl Ek.bool 4 v10 q3.1 :: ow)) ?_ ?_
  · rcases Bool.eq_false_or_eq_true (q3.2 == (0 : Int)) with hb13 | hb13
    · skip
      replace hz12 := ifT hz12 hb13
      refine st_move hf (wantY hf rfl rfl hb13) rfl (by decide) ?_
      clear hf; intro a ha hf; clear ha
      refine st_build (E := Ek.bool) (xs := [true, true, true, false, true, true]) hf (by decide) elt4 Try.underlying25 hp (vals := #[(0, .bool true), (1, .bool true), (2, .bool true), (3, .bool false), (4, .bool true), (5, .bool true)]) (cells := #[.bool true, .bool true, .bool true, .bool false, .bool true, .bool true]) (wantY hf rfl rfl hb13) (by simp [hf.ev (x := (Operand.const (.bool true))) rfl, hf.ev (x := (Operand.const (.bool true))) rfl, hf.ev (x := (Operand.const (.bool true))) rfl, hf.ev (x := (Operand.const (.bool false))) rfl, hf.ev (x := (Operand.const (.bool true))) rfl, hf.ev (x := (Operand.const (.bool true))) rfl]) (by decide) (by decide) (z := .bool false) (by kernel_rfl) (by kernel_rfl) rfl (reps_cons (cs := [.bool true]) rfl (reps_cons (cs := [.bool true]) rfl (reps_cons (cs := [.bool true]) rfl (reps_cons (cs := [.bool false]) rfl (reps_cons (cs := [.bool true]) rfl (reps_cons (cs := [.bool true]) rfl (reps_nil _))))))) ?_
      clear hf; intro a w v15 hf hp0; clear hp; have hp := hp0; clear hp0
      replace hp : Hp _ _ _ (Res.sl Ek.bool 4 v15 ([true, true, true, false, true, true]) :: Res.sl Ek.bool 4 v1 ([true]) :: Res.sl Ek.bool 4 v10 q3.1 :: ow) := hp
      obtain ⟨q17, hcall18, hz12⟩ := bnd hz12
      obtain ⟨S19, hp20, rd21, up22, bk23⟩ := Hp.lendS hp (i := 2) rfl
      obtain ⟨S24, hp25, rd26, up27, bk28⟩ := Hp.lendS hp20 (i := 0) rfl
      refine st_call hf (by decide) Try.func33 rfl rfl (wantY hf rfl rfl hb13) rfl rfl (f_foghornref21_Same_c hp25 _ _ ((rd21.now hp20).mono up27) _ _ rd26 hcall18) ?_
      rintro _ w ⟨rfl, hp0⟩
      have hp0 := bk28 _ _ hp0
      have hp0 := bk23 _ _ hp0
      clear hp; have hp := hp0; clear hp0
      replace hp : Hp _ _ _ (Res.sl Ek.bool 4 v10 q3.1 :: Res.sl Ek.bool 4 v15 ([true, true, true, false, true, true]) :: Res.sl Ek.bool 4 v1 ([true]) :: ow) := hp
      refine ⟨_, rfl, ?_⟩
      clear hf; intro a hf
      obtain rfl := Option.some.inj hz12
      refine st_pick (v := .bool q17) hf rfl rfl (fun hb' => ?_) (fun hb' => ?_) (by decide) ?_
      · rfl
      · exact absurd (hb13.symm.trans hb') (by decide)
      clear hf; intro a ha hf; clear ha
      refine st_nil hf (th_n ?_)
      have hp : Hp _ _ _ (Res.sl Ek.bool 4 v1 ([true]) :: Res.sl Ek.bool 4 v10 q3.1 :: ow) := Hp.sel (pre := [Res.sl Ek.bool 4 v10 q3.1, Res.sl Ek.bool 4 v15 ([true, true, true, false, true, true]), Res.sl Ek.bool 4 v1 ([true])]) (tail := ow) (rs' := [Res.sl Ek.bool 4 v1 ([true]), Res.sl Ek.bool 4 v10 q3.1]) hp [2, 0] (by decide) (by simp) rfl
      exact ⟨hf.sub ⟨rfl, trivial⟩, hp⟩
    replace hz12 := ifF hz12 hb13
    refine st_skip hf (wantN hf rfl rfl hb13) rfl (by decide) ?_ rfl
    clear hf; intro a hf
    refine st_skip hf (wantN hf rfl rfl hb13) rfl (by decide) ?_ rfl
    clear hf; intro a hf
    refine st_skip hf (wantN hf rfl rfl hb13) rfl (by decide) ?_ rfl
    clear hf; intro a hf
    obtain rfl := Option.some.inj hz12
    refine st_pick (v := .bool false) hf rfl rfl (fun hb' => ?_) (fun hb' => ?_) (by decide) ?_
    · exact absurd (hb13.symm.trans hb') (by decide)
    · rfl
    clear hf; intro a ha hf; clear ha
    refine st_nil hf (th_n ?_)
    exact ⟨hf.sub ⟨rfl, trivial⟩, hp⟩
  rintro a w ⟨hf, hp⟩
  refine st_move hf rfl rfl (by decide) ?_
  clear hf; intro a ha hf; clear ha
  obtain ⟨z31, hz29, h⟩ := bnd h
  refine wpList_cut 4 (fun a w => Fr 21 a [(20, .bool z31)] ∧ Hp S w0 w (Res.sl Ek.bool 4 v1 ([true]) :: Res.sl Ek.bool 4 v10 q3.1 :: ow)) ?_ ?_
  · rcases Bool.eq_false_or_eq_true z14 with hb30 | hb30
    · skip
      replace hz29 := ifT hz29 hb30
      obtain ⟨q32, hcall33, hz29⟩ := bnd hz29
      refine st_call hf (by decide) Try.func30 rfl rfl (wantY hf rfl rfl hb30) rfl rfl (f_trellis_Short_c hp  hcall33) ?_
      rintro _ w ⟨rfl, hp0⟩
      clear hp; have hp := hp0; clear hp0
      replace hp : Hp _ _ _ (Res.sl Ek.bool 4 v1 ([true]) :: Res.sl Ek.bool 4 v10 q3.1 :: ow) := hp
      refine ⟨_, rfl, ?_⟩
      clear hf; intro a hf
      refine st_buildA (vals := [(0, .int .i64 (3 : Int)), (1, .int .u32 (7 : Int)), (2, .int .u32 (5 : Int))]) (cells := [.int .i64 (3 : Int), .int .u32 (7 : Int), .int .u32 (5 : Int)]) hf (by decide) (wantY hf rfl rfl hb30) (by simp [hf.ev (x := (Operand.const (.int .i64 (3 : Int)))) rfl, hf.ev (x := (Operand.const (.int .u32 (7 : Int)))) rfl, hf.ev (x := (Operand.const (.int .u32 (5 : Int)))) rfl]) (fun w => by kernel_rfl) ?_
      clear hf; intro a ha hf; clear ha
      refine st_eqA (xs := [.int .i64 q32.1, .int .u32 q32.2.1, .int .u32 q32.2.2]) (ys := [.int .i64 (3 : Int), .int .u32 (7 : Int), .int .u32 (5 : Int)]) hf (by decide) (by kernel_rfl) (by kernel_rfl) (by kernel_rfl) (by kernel_rfl) (wantY hf rfl rfl hb30) rfl rfl (b := ((q32.1 == (3 : Int)) && ((q32.2.1 == (7 : Int)) && ((q32.2.2 == (5 : Int)) && true)))) rfl ?_
      clear hf; intro a ha hf; clear ha
      obtain rfl := Option.some.inj hz29
      refine st_pick (v := .bool ((q32.1 == (3 : Int)) && ((q32.2.1 == (7 : Int)) && ((q32.2.2 == (5 : Int)) && true)))) hf rfl rfl (fun hb' => ?_) (fun hb' => ?_) (by decide) ?_
      · rfl
      · exact absurd (hb30.symm.trans hb') (by decide)
      clear hf; intro a ha hf; clear ha
      refine st_nil hf (th_n ?_)
      exact ⟨hf.sub ⟨rfl, trivial⟩, hp⟩
    replace hz29 := ifF hz29 hb30
    refine st_skip hf (wantN hf rfl rfl hb30) rfl (by decide) ?_ rfl
    clear hf; intro a hf
    refine st_skip hf (wantN hf rfl rfl hb30) rfl (by decide) ?_ rfl
    clear hf; intro a hf
    refine st_skip hf (wantN hf rfl rfl hb30) rfl (by decide) ?_ rfl
    clear hf; intro a hf
    obtain rfl := Option.some.inj hz29
    refine st_pick (v := .bool false) hf rfl rfl (fun hb' => ?_) (fun hb' => ?_) (by decide) ?_
    · exact absurd (hb30.symm.trans hb') (by decide)
    · rfl
    clear hf; intro a ha hf; clear ha
    refine st_nil hf (th_n ?_)
    exact ⟨hf.sub ⟨rfl, trivial⟩, hp⟩
  rintro a w ⟨hf, hp⟩
  refine st_assign hf rfl rfl (by decide) ?_
  clear hf; intro a ha hf; clear ha
  refine st_nil hf ?_
  refine th_n ?_
  refine wp_ret ?_
  obtain rfl := Option.some.inj h
  have hp : Hp _ _ _ (ow) := Hp.sel (pre := [Res.sl Ek.bool 4 v1 ([true]), Res.sl Ek.bool 4 v10 q3.1]) (tail := ow) (rs' := []) hp [] (by decide) (by simp) rfl
  exact ⟨rfl, ⟨hf.sub ⟨rfl, trivial⟩, hp⟩⟩

noncomputable def f_foghornlaw21_TrellisWays.s1c (bits1 : (List Bool)) (m5 : (List Bool)) (turned6 : (List Bool)) (i7 : Int) : Option (((List Bool) × (List Bool) × Int) ⊕ ((List Bool) × (List Bool))) := (if (decide (i7 < (bits1.length : Int))) = true then (if 0 ≤ i7 ∧ i7 < (bits1.length : Int) then (if 0 ≤ i7 ∧ i7 < (turned6.length : Int) then (if 0 ≤ i7 ∧ i7 < ((turned6.set (i7).toNat ((gt bits1 i7) != (((i7).tmod (2 : Int)) == (0 : Int)))).length : Int) then (if 0 ≤ i7 ∧ i7 < (m5.length : Int) then (some (Sum.inl ((m5.set (i7).toNat (gt (turned6.set (i7).toNat ((gt bits1 i7) != (((i7).tmod (2 : Int)) == (0 : Int)))) i7)), (turned6.set (i7).toNat ((gt bits1 i7) != (((i7).tmod (2 : Int)) == (0 : Int)))), (IntKind.i64.wrap (i7 + (1 : Int)))))) else none) else none) else none) else none) else (some (Sum.inr (m5, turned6))))
noncomputable def f_foghornlaw21_TrellisWays.s1 (bits1 : (List Bool)) (s : ((List Bool) × (List Bool) × Int)) : Option (((List Bool) × (List Bool) × Int) ⊕ ((List Bool) × (List Bool))) := f_foghornlaw21_TrellisWays.s1c bits1 s.1 s.2.1 s.2.2
noncomputable def f_foghornlaw21_TrellisWays (c0_Length : Int) (c0_One : Int) (c0_Two : Int) (bits1 : (List Bool)) : Option Bool := ((f_foghornlaw21_lent bits1).bind fun q3 => ((f_foghornlaw21_ways c0_Length c0_One c0_Two q3.1 q3.2 bits1).bind fun q7 => ((if (!q7) = true then (some true) else ((f_foghornlaw21_kept q3.1 q3.2 bits1).bind fun q17 => (some (!q17)))).bind fun z16 => (if z16 = true then (some false) else (if 0 ≤ (bits1.length : Int) ∧ (bits1.length : Int) ≤ (bits1.length : Int) ∧ (bits1.length : Int) * 1 ≤ 281474976710656 then ((loop (f_foghornlaw21_TrellisWays.s1 bits1) (q3.1, (List.replicate ((bits1.length : Int)).toNat false), (0 : Int))).bind (fun q39 => ((f_foghornlaw21_ways c0_Length c0_One c0_Two q39.1 q3.2 q39.2).bind fun q40 => ((if q40 = true then ((f_foghornlaw21_kept q39.1 q3.2 q39.2).bind fun q55 => (some q55)) else (some false)).bind fun z54 => ((if z54 = true then ((f_foghornlaw21_awake).bind fun q70 => (some q70)) else (some false)).bind fun z69 => (some z69)))))) else none)))))
theorem f_foghornlaw21_TrellisWays_c {S : Nat → Prop} {w0 w : World} {ow : List Res} (hp : Hp S w0 w ow) (c0_Length : Int) (c0_One : Int) (c0_Two : Int) (vbits1 : Value) (bits1 : (List Bool)) (hbits1 : RdS Ek.bool S w0 vbits1 bits1) {r : Bool} (h : f_foghornlaw21_TrellisWays c0_Length c0_One c0_Two bits1 = some r) :
    Calls Try.prog 3 #[.agg #[.int .i64 c0_Length, .int .u32 c0_One, .int .u32 c0_Two], vbits1] w (fun e w' => e = .returned (.bool r) ∧ Hp S w0 w' (ow)) := by
  unfold f_foghornlaw21_TrellisWays at h
  refine enter (n := 60) (args := [.agg #[.int .i64 c0_Length, .int .u32 c0_One, .int .u32 c0_Two], vbits1]) Try.func3 rfl rfl (Nat.le_of_ble_eq_true rfl) fun a hf => ?_
  replace hf : Fr 60 a [(0, .agg #[.int .i64 c0_Length, .int .u32 c0_One, .int .u32 c0_Two]), (1, vbits1)] := hf
  refine wp_mono (Q := fun e a w => e = .ret ∧ Fr 60 a [(4, .bool r)] ∧ Hp S w0 w (ow)) ?_ ?_
  rotate_left
  · rintro e a w ⟨rfl, hf, hp⟩
    exact ret1 hf rfl rfl ⟨rfl, hp⟩
  refine wp_seq ?_
  refine wp_reg ?_
  refine st_boxO (cs := [.int .i64 c0_Length, .int .u32 c0_One, .int .u32 c0_Two]) hf (by decide) hp rfl rfl rfl ?_
  clear hf; intro a w v1 hf hp0; clear hp; have hp := hp0; clear hp0
  replace hp : Hp _ _ _ (Res.obj 24 v1 [.int .i64 c0_Length, .int .u32 c0_One, .int .u32 c0_Two] :: ow) := hp
  refine st_assign hf rfl rfl (by decide) ?_
  clear hf; intro a ha hf; clear ha
  refine st_nil hf ?_
  refine th_n ?_
  refine wp_seq ?_
  refine wp_reg ?_
  refine st_move hf rfl rfl (by decide) ?_
  clear hf; intro a ha hf; clear ha
  obtain ⟨q3, hcall4, h⟩ := bnd h
  refine st_call hf (by decide) Try.func8 rfl rfl rfl rfl rfl (f_foghornlaw21_lent_c hp _ _ hbits1 hcall4) ?_
  rintro _ w ⟨v5, rfl, hp0⟩
  clear hp; have hp := hp0; clear hp0
  replace hp : Hp _ _ _ (Res.slx Ek.bool 4 v5 q3.1 q3.2 :: Res.obj 24 v1 [.int .i64 c0_Length, .int .u32 c0_One, .int .u32 c0_Two] :: ow) := hp
  refine ⟨_, rfl, ?_⟩
  clear hf; intro a hf
  refine st_assign hf rfl rfl (by decide) ?_
  clear hf; intro a ha hf; clear ha
  refine st_nil hf ?_
  refine th_n ?_
  refine wp_seq ?_
  refine wp_seq ?_
  refine wp_reg ?_
  refine st_ldOA (m := 3) (us := [.int .i64 c0_Length, .int .u32 c0_One, .int .u32 c0_Two]) hf (by decide) (by kernel_rfl) rfl rfl (hp.ob (i := 1) rfl) rfl rfl ?_
  clear hf; intro a ha hf; clear ha
  refine st_move hf rfl rfl (by decide) ?_
  clear hf; intro a ha hf; clear ha
  refine st_move hf rfl rfl (by decide) ?_
  clear hf; intro a ha hf; clear ha
  obtain ⟨q7, hcall8, h⟩ := bnd h
  obtain ⟨S9, hp10, rd11, up12, bk13⟩ := Hp.lendX hp (i := 0) rfl
  refine st_call hf (by decide) Try.func9 rfl rfl rfl rfl rfl (f_foghornlaw21_ways_c hp10 _ _ _ _ _ _ rd11 _ _ ((hbits1.now hp).mono up12) hcall8) ?_
  rintro _ w ⟨rfl, hp0⟩
  have hp0 := bk13 _ _ hp0
  clear hp; have hp := hp0; clear hp0
  replace hp : Hp _ _ _ (Res.slx Ek.bool 4 v5 q3.1 q3.2 :: Res.obj 24 v1 [.int .i64 c0_Length, .int .u32 c0_One, .int .u32 c0_Two] :: ow) := hp
  refine ⟨_, rfl, ?_⟩
  clear hf; intro a hf
  refine st_not hf (by decide) rfl rfl ?_
  clear hf; intro a ha hf; clear ha
  refine st_move hf rfl rfl (by decide) ?_
  clear hf; intro a ha hf; clear ha
  obtain ⟨z16, hz14, h⟩ := bnd h
  refine wpList_cut 5 (fun a w => Fr 60 a [(1, vbits1), (2, optr v1 0), (5, v5), (20, .bool z16)] ∧ Hp S w0 w (Res.slx Ek.bool 4 v5 q3.1 q3.2 :: Res.obj 24 v1 [.int .i64 c0_Length, .int .u32 c0_One, .int .u32 c0_Two] :: ow)) ?_ ?_
  · rcases Bool.eq_false_or_eq_true (!q7) with hb15 | hb15
    · skip
      replace hz14 := ifT hz14 hb15
      refine st_skip hf (wantN hf rfl rfl hb15) rfl (by decide) ?_ rfl
      clear hf; intro a hf
      refine st_skip hf (wantN hf rfl rfl hb15) rfl (by decide) ?_ rfl
      clear hf; intro a hf
      refine st_skip hf (wantN hf rfl rfl hb15) rfl (by decide) ?_ rfl
      clear hf; intro a hf
      refine st_skip hf (wantN hf rfl rfl hb15) rfl (by decide) ?_ rfl
      clear hf; intro a hf
      obtain rfl := Option.some.inj hz14
      refine st_pick (v := .bool true) hf rfl rfl (fun hb' => ?_) (fun hb' => ?_) (by decide) ?_
      · rfl
      · exact absurd (hb15.symm.trans hb') (by decide)
      clear hf; intro a ha hf; clear ha
      refine st_nil hf (th_n ?_)
      exact ⟨hf.sub ⟨rfl, rfl, rfl, rfl, trivial⟩, hp⟩
    replace hz14 := ifF hz14 hb15
    refine st_move hf (wantY hf rfl rfl hb15) rfl (by decide) ?_
    clear hf; intro a ha hf; clear ha
    refine st_move hf (wantY hf rfl rfl hb15) rfl (by decide) ?_
    clear hf; intro a ha hf; clear ha
    obtain ⟨q17, hcall18, hz14⟩ := bnd hz14
    obtain ⟨S19, hp20, rd21, up22, bk23⟩ := Hp.lendX hp (i := 0) rfl
    refine st_call hf (by decide) Try.func10 rfl rfl (wantY hf rfl rfl hb15) rfl rfl (f_foghornlaw21_kept_c hp20 _ _ _ rd21 _ _ ((hbits1.now hp).mono up22) hcall18) ?_
    rintro _ w ⟨rfl, hp0⟩
    have hp0 := bk23 _ _ hp0
    clear hp; have hp := hp0; clear hp0
    replace hp : Hp _ _ _ (Res.slx Ek.bool 4 v5 q3.1 q3.2 :: Res.obj 24 v1 [.int .i64 c0_Length, .int .u32 c0_One, .int .u32 c0_Two] :: ow) := hp
    refine ⟨_, rfl, ?_⟩
    clear hf; intro a hf
    refine st_not hf (by decide) (wantY hf rfl rfl hb15) rfl ?_
    clear hf; intro a ha hf; clear ha
    obtain rfl := Option.some.inj hz14
    refine st_pick (v := .bool (!q17)) hf rfl rfl (fun hb' => ?_) (fun hb' => ?_) (by decide) ?_
    · exact absurd (hb15.symm.trans hb') (by decide)
    · rfl
    clear hf; intro a ha hf; clear ha
    refine st_nil hf (th_n ?_)
    exact ⟨hf.sub ⟨rfl, rfl, rfl, rfl, trivial⟩, hp⟩
  rintro a w ⟨hf, hp⟩
  refine st_nil hf ?_
  refine th_n ?_
  refine wp_if hf rfl (fun hb => ?_) (fun hb => ?_)
  · replace h := ifT h hb
    refine wp_seq ?_
    refine wp_reg ?_
    refine st_assign hf rfl rfl (by decide) ?_
    clear hf; intro a ha hf; clear ha
    refine st_nil hf ?_
    refine th_n ?_
    refine wp_ret ?_
    refine th_r ?_
    obtain rfl := Option.some.inj h
    have hp : Hp _ _ _ (ow) := Hp.sel (pre := [Res.slx Ek.bool 4 v5 q3.1 q3.2, Res.obj 24 v1 [.int .i64 c0_Length, .int .u32 c0_One, .int .u32 c0_Two]]) (tail := ow) (rs' := []) hp [] (by decide) (by simp) rfl
    exact ⟨rfl, ⟨hf.sub ⟨rfl, trivial⟩, hp⟩⟩
  replace h := ifF h hb
  refine wp_skip ?_
  refine th_n ?_
  refine wp_seq ?_
  refine wp_reg ?_
  refine st_move hf rfl rfl (by decide) ?_
  clear hf; intro a ha hf; clear ha
  refine st_len (E := Ek.bool) hf (by decide) Try.underlying25 rfl rfl (hbits1.sl hp) ?_
  clear hf; intro a ha hf; clear ha
  obtain ⟨hc24, h⟩ := chk h
  refine st_make (E := Ek.bool) hf (by decide) elt4 Try.underlying25 (by decide) hp rfl rfl rfl hc24.1 hc24.2.1 hc24.2.2 ?_
  clear hf; intro a w v25 hf hp0; clear hp; have hp := hp0; clear hp0
  replace hp : Hp _ _ _ (Res.sl Ek.bool 4 v25 (List.replicate ((bits1.length : Int)).toNat false) :: Res.slx Ek.bool 4 v5 q3.1 q3.2 :: Res.obj 24 v1 [.int .i64 c0_Length, .int .u32 c0_One, .int .u32 c0_Two] :: ow) := hp
  refine st_assign hf rfl rfl (by decide) ?_
  clear hf; intro a ha hf; clear ha
  refine st_nil hf ?_
  refine th_n ?_
  refine wp_seq ?_
  refine wp_seq ?_
  refine wp_reg ?_
  refine st_assign hf rfl rfl (by decide) ?_
  clear hf; intro a ha hf; clear ha
  refine st_nil hf ?_
  refine th_n ?_
  refine wp_block ?_
  obtain ⟨q39, hl, h⟩ := bnd h
  have hp : Hp _ _ _ (Res.slx Ek.bool 4 v5 q3.1 q3.2 :: Res.sl Ek.bool 4 v25 (List.replicate ((bits1.length : Int)).toNat false) :: Res.obj 24 v1 [.int .i64 c0_Length, .int .u32 c0_One, .int .u32 c0_Two] :: ow) := Hp.sel (pre := [Res.sl Ek.bool 4 v25 (List.replicate ((bits1.length : Int)).toNat false), Res.slx Ek.bool 4 v5 q3.1 q3.2, Res.obj 24 v1 [.int .i64 c0_Length, .int .u32 c0_One, .int .u32 c0_Two]]) (tail := ow) (rs' := [Res.slx Ek.bool 4 v5 q3.1 q3.2, Res.sl Ek.bool 4 v25 (List.replicate ((bits1.length : Int)).toNat false), Res.obj 24 v1 [.int .i64 c0_Length, .int .u32 c0_One, .int .u32 c0_Two]]) hp [1, 0, 2] (by decide) (by simp) rfl
  refine wp_loop_pure (f := (f_foghornlaw21_TrellisWays.s1 bits1)) (s := (q3.1, (List.replicate ((bits1.length : Int)).toNat false), (0 : Int))) (fun s a w => ∃ (v27 : Value) (v29 : Value), Fr 60 a [(1, vbits1), (2, optr v1 0), (5, v27), (6, v29), (7, .int .i64 s.2.2)] ∧ Hp S w0 w (Res.slx Ek.bool 4 v27 s.1 q3.2 :: Res.sl Ek.bool 4 v29 s.2.1 :: Res.obj 24 v1 [.int .i64 c0_Length, .int .u32 c0_One, .int .u32 c0_Two] :: ow)) (fun q e a w => e = .exit 0 ∧ ∃ (v31 : Value) (v33 : Value), Fr 60 a [(2, optr v1 0), (5, v31), (6, v33)] ∧ Hp S w0 w (Res.slx Ek.bool 4 v31 q.1 q3.2 :: Res.sl Ek.bool 4 v33 q.2 :: Res.obj 24 v1 [.int .i64 c0_Length, .int .u32 c0_One, .int .u32 c0_Two] :: ow)) ?_ hl ⟨_, _, hf.sub ⟨rfl, rfl, rfl, rfl, rfl, trivial⟩, hp⟩ ?_
  · clear hl hf hp
    intro s x a w h hI
    obtain ⟨m5, turned6, i7⟩ := s
    obtain ⟨v27, v29, hf, hp⟩ : ∃ (v27 : Value) (v29 : Value), Fr 60 a [(1, vbits1), (2, optr v1 0), (5, v27), (6, v29), (7, .int .i64 i7)] ∧ Hp S w0 w (Res.slx Ek.bool 4 v27 m5 q3.2 :: Res.sl Ek.bool 4 v29 turned6 :: Res.obj 24 v1 [.int .i64 c0_Length, .int .u32 c0_One, .int .u32 c0_Two] :: ow) := hI
    replace h : f_foghornlaw21_TrellisWays.s1c bits1 m5 turned6 i7 = some x := h
    unfold f_foghornlaw21_TrellisWays.s1c at h
    refine wp_seq ?_
    refine wp_seq ?_
    refine wp_reg ?_
    refine st_move hf rfl rfl (by decide) ?_
    clear hf; intro a ha hf; clear ha
    refine st_move hf rfl rfl (by decide) ?_
    clear hf; intro a ha hf; clear ha
    refine st_len (E := Ek.bool) hf (by decide) Try.underlying25 rfl rfl (hbits1.sl hp) ?_
    clear hf; intro a ha hf; clear ha
    refine st_ilss hf (by decide) rfl rfl rfl ?_
    clear hf; intro a ha hf; clear ha
    refine st_nil hf ?_
    refine th_n ?_
    refine wp_if hf rfl (fun hb => ?_) (fun hb => ?_)
    · replace h := ifT h hb
      refine wp_skip ?_
      refine th_n ?_
      refine wp_seq ?_
      refine wp_block ?_
      refine wp_seq ?_
      refine wp_reg ?_
      refine st_move hf rfl rfl (by decide) ?_
      clear hf; intro a ha hf; clear ha
      refine st_move hf rfl rfl (by decide) ?_
      clear hf; intro a ha hf; clear ha
      refine st_move hf rfl rfl (by decide) ?_
      clear hf; intro a ha hf; clear ha
      refine st_move hf rfl rfl (by decide) ?_
      clear hf; intro a ha hf; clear ha
      obtain ⟨hc35, h⟩ := chk h
      refine st_index (E := Ek.bool) hf (by decide) Try.underlying25 elt4 rfl rfl rfl (hbits1.sl hp) hc35.1 hc35.2 ?_
      clear hf; intro a ha hf; clear ha
      refine st_ldB hf (by decide) pl4 rfl rfl (hbits1.sl hp) hc35.1 hc35.2 ?_
      clear hf; intro a ha hf; clear ha
      refine st_move hf rfl rfl (by decide) ?_
      clear hf; intro a ha hf; clear ha
      refine st_irem hf (by decide) rfl rfl rfl (by decide) ?_
      clear hf; intro a ha hf; clear ha
      refine st_ieql hf (by decide) rfl rfl rfl ?_
      clear hf; intro a ha hf; clear ha
      refine st_bneq hf (by decide) Try.underlying4 rfl rfl rfl ?_
      clear hf; intro a ha hf; clear ha
      obtain ⟨hc36, h⟩ := chk h
      refine st_index (E := Ek.bool) hf (by decide) Try.underlying25 elt4 rfl rfl rfl (hp.sl (i := 1) rfl) hc36.1 hc36.2 ?_
      clear hf; intro a ha hf; clear ha
      refine st_store (E := Ek.bool) hf elt4 hp (i := 1) rfl rfl rfl rfl rfl hc36.1 hc36.2 ?_
      clear hf; intro a w hf hp0; clear hp; have hp := hp0; clear hp0
      replace hp : Hp _ _ _ (Res.slx Ek.bool 4 v27 m5 q3.2 :: Res.sl Ek.bool 4 v29 (turned6.set (i7).toNat ((gt bits1 i7) != (((i7).tmod (2 : Int)) == (0 : Int)))) :: Res.obj 24 v1 [.int .i64 c0_Length, .int .u32 c0_One, .int .u32 c0_Two] :: ow) := hp
      refine st_nil hf ?_
      refine th_n ?_
      refine wp_reg ?_
      refine st_move hf rfl rfl (by decide) ?_
      clear hf; intro a ha hf; clear ha
      refine st_move hf rfl rfl (by decide) ?_
      clear hf; intro a ha hf; clear ha
      refine st_move hf rfl rfl (by decide) ?_
      clear hf; intro a ha hf; clear ha
      refine st_move hf rfl rfl (by decide) ?_
      clear hf; intro a ha hf; clear ha
      obtain ⟨hc37, h⟩ := chk h
      refine st_index (E := Ek.bool) hf (by decide) Try.underlying25 elt4 rfl rfl rfl (hp.sl (i := 1) rfl) hc37.1 hc37.2 ?_
      clear hf; intro a ha hf; clear ha
      refine st_ldB hf (by decide) pl4 rfl rfl (hp.sl (i := 1) rfl) hc37.1 hc37.2 ?_
      clear hf; intro a ha hf; clear ha
      obtain ⟨hc38, h⟩ := chk h
      refine st_index (E := Ek.bool) hf (by decide) Try.underlying25 elt4 rfl rfl rfl (hp.sl (i := 0) rfl) hc38.1 hc38.2 ?_
      clear hf; intro a ha hf; clear ha
      refine st_store (E := Ek.bool) hf elt4 hp (i := 0) rfl rfl rfl rfl rfl hc38.1 hc38.2 ?_
      clear hf; intro a w hf hp0; clear hp; have hp := hp0; clear hp0
      replace hp : Hp _ _ _ (Res.slx Ek.bool 4 v27 (m5.set (i7).toNat (gt (turned6.set (i7).toNat ((gt bits1 i7) != (((i7).tmod (2 : Int)) == (0 : Int)))) i7)) q3.2 :: Res.sl Ek.bool 4 v29 (turned6.set (i7).toNat ((gt bits1 i7) != (((i7).tmod (2 : Int)) == (0 : Int)))) :: Res.obj 24 v1 [.int .i64 c0_Length, .int .u32 c0_One, .int .u32 c0_Two] :: ow) := hp
      refine st_nil hf ?_
      refine ib_n ?_
      refine th_n ?_
      refine wp_reg ?_
      refine st_move hf rfl rfl (by decide) ?_
      clear hf; intro a ha hf; clear ha
      refine st_iadd hf (by decide) rfl rfl rfl ?_
      clear hf; intro a ha hf; clear ha
      refine st_assign hf rfl rfl (by decide) ?_
      clear hf; intro a ha hf; clear ha
      refine st_nil hf ?_
      obtain rfl := Option.some.inj h
      exact rnd_l ⟨_, _, hf.sub ⟨rfl, rfl, rfl, rfl, rfl, trivial⟩, hp⟩
    replace h := ifF h hb
    refine wp_exit ?_
    refine th_e ?_
    obtain rfl := Option.some.inj h
    exact rnd_r (by simp) ⟨rfl, _, _, hf.sub ⟨rfl, rfl, rfl, trivial⟩, hp⟩
  clear hl hf hp
  intro e a w hne hO
  obtain ⟨rfl, v31, v33, hf, hp⟩ := hO
  refine ib_same ?_
  refine th_n ?_
  refine wp_seq ?_
  refine wp_reg ?_
  refine st_ldOA (m := 3) (us := [.int .i64 c0_Length, .int .u32 c0_One, .int .u32 c0_Two]) hf (by decide) (by kernel_rfl) rfl rfl (hp.ob (i := 2) rfl) rfl rfl ?_
  clear hf; intro a ha hf; clear ha
  refine st_move hf rfl rfl (by decide) ?_
  clear hf; intro a ha hf; clear ha
  refine st_move hf rfl rfl (by decide) ?_
  clear hf; intro a ha hf; clear ha
  obtain ⟨q40, hcall41, h⟩ := bnd h
  obtain ⟨S42, hp43, rd44, up45, bk46⟩ := Hp.lendX hp (i := 0) rfl
  obtain ⟨S47, hp48, rd49, up50, bk51⟩ := Hp.lendS hp43 (i := 0) rfl
  refine st_call hf (by decide) Try.func9 rfl rfl rfl rfl rfl (f_foghornlaw21_ways_c hp48 _ _ _ _ _ _ ((rd44.now hp43).mono up50) _ _ rd49 hcall41) ?_
  rintro _ w ⟨rfl, hp0⟩
  have hp0 := bk51 _ _ hp0
  have hp0 := bk46 _ _ hp0
  clear hp; have hp := hp0; clear hp0
  replace hp : Hp _ _ _ (Res.slx Ek.bool 4 v31 q39.1 q3.2 :: Res.sl Ek.bool 4 v33 q39.2 :: Res.obj 24 v1 [.int .i64 c0_Length, .int .u32 c0_One, .int .u32 c0_Two] :: ow) := hp
  refine ⟨_, rfl, ?_⟩
  clear hf; intro a hf
  refine st_move hf rfl rfl (by decide) ?_
  clear hf; intro a ha hf; clear ha
  obtain ⟨z54, hz52, h⟩ := bnd h
  refine wpList_cut 4 (fun a w => Fr 60 a [(56, .bool z54)] ∧ Hp S w0 w (Res.slx Ek.bool 4 v31 q39.1 q3.2 :: Res.sl Ek.bool 4 v33 q39.2 :: Res.obj 24 v1 [.int .i64 c0_Length, .int .u32 c0_One, .int .u32 c0_Two] :: ow)) ?_ ?_
  · rcases Bool.eq_false_or_eq_true q40 with hb53 | hb53
    · skip
      replace hz52 := ifT hz52 hb53
      refine st_move hf (wantY hf rfl rfl hb53) rfl (by decide) ?_
      clear hf; intro a ha hf; clear ha
      refine st_move hf (wantY hf rfl rfl hb53) rfl (by decide) ?_
      clear hf; intro a ha hf; clear ha
      obtain ⟨q55, hcall56, hz52⟩ := bnd hz52
      obtain ⟨S57, hp58, rd59, up60, bk61⟩ := Hp.lendX hp (i := 0) rfl
      obtain ⟨S62, hp63, rd64, up65, bk66⟩ := Hp.lendS hp58 (i := 0) rfl
      refine st_call hf (by decide) Try.func10 rfl rfl (wantY hf rfl rfl hb53) rfl rfl (f_foghornlaw21_kept_c hp63 _ _ _ ((rd59.now hp58).mono up65) _ _ rd64 hcall56) ?_
      rintro _ w ⟨rfl, hp0⟩
      have hp0 := bk66 _ _ hp0
      have hp0 := bk61 _ _ hp0
      clear hp; have hp := hp0; clear hp0
      replace hp : Hp _ _ _ (Res.slx Ek.bool 4 v31 q39.1 q3.2 :: Res.sl Ek.bool 4 v33 q39.2 :: Res.obj 24 v1 [.int .i64 c0_Length, .int .u32 c0_One, .int .u32 c0_Two] :: ow) := hp
      refine ⟨_, rfl, ?_⟩
      clear hf; intro a hf
      obtain rfl := Option.some.inj hz52
      refine st_pick (v := .bool q55) hf rfl rfl (fun hb' => ?_) (fun hb' => ?_) (by decide) ?_
      · rfl
      · exact absurd (hb53.symm.trans hb') (by decide)
      clear hf; intro a ha hf; clear ha
      refine st_nil hf (th_n ?_)
      exact ⟨hf.sub ⟨rfl, trivial⟩, hp⟩
    replace hz52 := ifF hz52 hb53
    refine st_skip hf (wantN hf rfl rfl hb53) rfl (by decide) ?_ rfl
    clear hf; intro a hf
    refine st_skip hf (wantN hf rfl rfl hb53) rfl (by decide) ?_ rfl
    clear hf; intro a hf
    refine st_skip hf (wantN hf rfl rfl hb53) rfl (by decide) ?_ rfl
    clear hf; intro a hf
    obtain rfl := Option.some.inj hz52
    refine st_pick (v := .bool false) hf rfl rfl (fun hb' => ?_) (fun hb' => ?_) (by decide) ?_
    · exact absurd (hb53.symm.trans hb') (by decide)
    · rfl
    clear hf; intro a ha hf; clear ha
    refine st_nil hf (th_n ?_)
    exact ⟨hf.sub ⟨rfl, trivial⟩, hp⟩
  rintro a w ⟨hf, hp⟩
  refine st_move hf rfl rfl (by decide) ?_
  clear hf; intro a ha hf; clear ha
  obtain ⟨z69, hz67, h⟩ := bnd h
  refine wpList_cut 2 (fun a w => Fr 60 a [(59, .bool z69)] ∧ Hp S w0 w (Res.slx Ek.bool 4 v31 q39.1 q3.2 :: Res.sl Ek.bool 4 v33 q39.2 :: Res.obj 24 v1 [.int .i64 c0_Length, .int .u32 c0_One, .int .u32 c0_Two] :: ow)) ?_ ?_
  · rcases Bool.eq_false_or_eq_true z54 with hb68 | hb68
    · skip
      replace hz67 := ifT hz67 hb68
      obtain ⟨q70, hcall71, hz67⟩ := bnd hz67
      refine st_call hf (by decide) Try.func11 rfl rfl (wantY hf rfl rfl hb68) rfl rfl (f_foghornlaw21_awake_c hp  hcall71) ?_
      rintro _ w ⟨rfl, hp0⟩
      clear hp; have hp := hp0; clear hp0
      replace hp : Hp _ _ _ (Res.slx Ek.bool 4 v31 q39.1 q3.2 :: Res.sl Ek.bool 4 v33 q39.2 :: Res.obj 24 v1 [.int .i64 c0_Length, .int .u32 c0_One, .int .u32 c0_Two] :: ow) := hp
      refine ⟨_, rfl, ?_⟩
      clear hf; intro a hf
      obtain rfl := Option.some.inj hz67
      refine st_pick (v := .bool q70) hf rfl rfl (fun hb' => ?_) (fun hb' => ?_) (by decide) ?_
      · rfl
      · exact absurd (hb68.symm.trans hb') (by decide)
      clear hf; intro a ha hf; clear ha
      refine st_nil hf (th_n ?_)
      exact ⟨hf.sub ⟨rfl, trivial⟩, hp⟩
    replace hz67 := ifF hz67 hb68
    refine st_skip hf (wantN hf rfl rfl hb68) rfl (by decide) ?_ rfl
    clear hf; intro a hf
    obtain rfl := Option.some.inj hz67
    refine st_pick (v := .bool false) hf rfl rfl (fun hb' => ?_) (fun hb' => ?_) (by decide) ?_
    · exact absurd (hb68.symm.trans hb') (by decide)
    · rfl
    clear hf; intro a ha hf; clear ha
    refine st_nil hf (th_n ?_)
    exact ⟨hf.sub ⟨rfl, trivial⟩, hp⟩
  rintro a w ⟨hf, hp⟩
  refine st_assign hf rfl rfl (by decide) ?_
  clear hf; intro a ha hf; clear ha
  refine st_nil hf ?_
  refine th_n ?_
  refine wp_ret ?_
  obtain rfl := Option.some.inj h
  have hp : Hp _ _ _ (ow) := Hp.sel (pre := [Res.slx Ek.bool 4 v31 q39.1 q3.2, Res.sl Ek.bool 4 v33 q39.2, Res.obj 24 v1 [.int .i64 c0_Length, .int .u32 c0_One, .int .u32 c0_Two]]) (tail := ow) (rs' := []) hp [] (by decide) (by simp) rfl
  exact ⟨rfl, ⟨hf.sub ⟨rfl, trivial⟩, hp⟩⟩

end Go.Proofs.Ytilodendgbjelaa
