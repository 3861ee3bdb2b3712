/- The functions foghorn foghornlaw03.PlaneFilters: what each answers, as a plain function, and that its call answers it; printed by gen.py. -/
import Derived.Test.YteifkccomfdciaaProg
import Derived.Test.YteifkccomfdciaaGlY
import Derived.KernelRfl
set_option linter.unusedVariables false
set_option linter.unusedSimpArgs false
set_option maxRecDepth 100000
set_option maxHeartbeats 4000000
namespace Go.Proofs.Yteifkccomfdciaa
open GL
theorem elt24 : ElT Try.prog Ek.c128 24 16 (Fl.bits 0, Fl.bits 0) := ElT.of (z := .complex .f64 0 0) (by kernel_rfl) ⟨_, _, rfl, rfl, rfl⟩
theorem elt92 : ElT Try.prog (Ek.pair (Ek.int .i8) (Ek.int .i8)) 92 2 ((0 : Int), (0 : Int)) := ElT.of (z := .agg #[.int .i8 0, .int .i8 0]) (by kernel_rfl) ⟨[.int .i8 0], [.int .i8 0], rfl, rfl, rfl⟩
theorem pl2 : Plain Try.prog 2 := ⟨⟨_, Try.underlying2, trivial⟩⟩
theorem pl3 : Plain Try.prog 3 := ⟨⟨_, Try.underlying3, trivial⟩⟩
theorem pl24 : Plain Try.prog 24 := ⟨⟨_, Try.underlying24, trivial⟩⟩
theorem pl43 : Plain Try.prog 43 := ⟨⟨_, Try.underlying43, trivial⟩⟩
theorem pl91 : Plain Try.prog 91 := ⟨⟨_, Try.underlying91, trivial⟩⟩
noncomputable def f_foghornlaw03_numbers.s1c (l0 : (List (Int × Int))) (most1 : Int) (by2 : Fl) (out7 : (List (Fl × Fl))) (i8 : Int) : Option (((List (Fl × Fl)) × Int) ⊕ (List (Fl × Fl))) := (if ((decide (i8 < (l0.length : Int))) && (decide (i8 < most1))) = true then (if 0 ≤ i8 ∧ i8 < (l0.length : Int) then ((farithS .quo (fofi (((gt l0 i8).1).tmod (64 : Int))) by2).bind fun q9 => (if 0 ≤ i8 ∧ i8 < (l0.length : Int) then ((farithS .quo (fofi (((gt l0 i8).2).tmod (64 : Int))) by2).bind fun q13 => (if (out7.length + ([(q9, q13)]).length) * 16 ≤ 140737488355328 then (some (Sum.inl ((out7 ++ [(q9, q13)]), (IntKind.i64.wrap (i8 + (1 : Int)))))) else none)) else none)) else none) else (some (Sum.inr out7)))
noncomputable def f_foghornlaw03_numbers.s1 (l0 : (List (Int × Int))) (most1 : Int) (by2 : Fl) (s : ((List (Fl × Fl)) × Int)) : Option (((List (Fl × Fl)) × Int) ⊕ (List (Fl × Fl))) := f_foghornlaw03_numbers.s1c l0 most1 by2 s.1 s.2
noncomputable def f_foghornlaw03_numbers (l0 : (List (Int × Int))) (most1 : Int) (by2 : Fl) : Option (List (Fl × Fl)) := ((loop (f_foghornlaw03_numbers.s1 l0 most1 by2) ([], (0 : Int))).bind (fun q19 => (some q19)))
theorem f_foghornlaw03_numbers_c {S : Nat → Prop} {w0 w : World} {ow : List Res} (hp : Hp S w0 w ow) (vl0 : Value) (l0 : (List (Int × Int))) (hl0 : RdS (Ek.pair (Ek.int .i8) (Ek.int .i8)) S w0 vl0 l0) (most1 : Int) (bby2 : Nat) (by2 : Fl) (hby2 : by2.rep bby2) {r : (List (Fl × Fl))} (h : f_foghornlaw03_numbers l0 most1 by2 = some r) :
    Calls Try.prog 27 #[vl0, .int .i64 most1, .float .f64 bby2] w (fun e w' => ∃ (u0 : Value), e = .returned (u0) ∧ Hp S w0 w' (Res.sl Ek.c128 24 u0 r :: ow)) := by
  unfold f_foghornlaw03_numbers at h
  refine enter (n := 43) (args := [vl0, .int .i64 most1, .float .f64 bby2]) Try.func27 rfl rfl (Nat.le_of_ble_eq_true rfl) fun a hf => ?_
  replace hf : Fr 43 a [(0, vl0), (1, .int .i64 most1), (2, .float .f64 bby2)] := hf
  refine wp_mono (Q := fun e a w => e = .ret ∧ ∃ (u0 : Value), Fr 43 a [(6, u0)] ∧ Hp S w0 w (Res.sl Ek.c128 24 u0 r :: ow)) ?_ ?_
  rotate_left
  · rintro e a w ⟨rfl, x0, hf, hp⟩
    exact ret1 hf rfl rfl ⟨x0, rfl, hp⟩
  refine wp_seq ?_
  refine wp_reg ?_
  refine st_assign hf rfl rfl (by decide) ?_
  clear hf; intro a ha hf; clear ha
  refine st_nil hf ?_
  refine th_n ?_
  refine wp_seq ?_
  refine wp_reg ?_
  refine st_assign hf rfl rfl (by decide) ?_
  clear hf; intro a ha hf; clear ha
  refine st_nil hf ?_
  refine th_n ?_
  refine wp_seq ?_
  refine wp_seq ?_
  refine wp_reg ?_
  refine st_assign hf rfl rfl (by decide) ?_
  clear hf; intro a ha hf; clear ha
  refine st_nil hf ?_
  refine th_n ?_
  refine wp_block ?_
  obtain ⟨q19, hl, h⟩ := bnd h
  have hp := hp.nil Ek.c128 24
  refine wp_loop_pure (f := (f_foghornlaw03_numbers.s1 l0 most1 by2)) (s := ([], (0 : Int))) (fun s a w => ∃ (v1 : Value), Fr 43 a [(0, vl0), (1, .int .i64 most1), (2, .float .f64 bby2), (7, v1), (8, .int .i64 s.2)] ∧ Hp S w0 w (Res.sl Ek.c128 24 v1 s.1 :: ow)) (fun q e a w => e = .exit 0 ∧ ∃ (v3 : Value), Fr 43 a [(7, v3)] ∧ Hp S w0 w (Res.sl Ek.c128 24 v3 q :: ow)) ?_ hl ⟨_, hf.sub ⟨rfl, rfl, rfl, rfl, rfl, trivial⟩, hp⟩ ?_
  · clear hl hf hp
    intro s x a w h hI
    obtain ⟨out7, i8⟩ := s
    obtain ⟨v1, hf, hp⟩ : ∃ (v1 : Value), Fr 43 a [(0, vl0), (1, .int .i64 most1), (2, .float .f64 bby2), (7, v1), (8, .int .i64 i8)] ∧ Hp S w0 w (Res.sl Ek.c128 24 v1 out7 :: ow) := hI
    replace h : f_foghornlaw03_numbers.s1c l0 most1 by2 out7 i8 = some x := h
    unfold f_foghornlaw03_numbers.s1c at h
    refine wp_seq ?_
    refine wp_seq ?_
    refine wp_reg ?_
    refine st_move hf rfl rfl (by decide) ?_
    clear hf; intro a ha hf; clear ha
    refine st_move hf rfl rfl (by decide) ?_
    clear hf; intro a ha hf; clear ha
    refine st_len (E := (Ek.pair (Ek.int .i8) (Ek.int .i8))) hf (by decide) Try.underlying43 rfl rfl (hl0.sl hp) ?_
    clear hf; intro a ha hf; clear ha
    refine st_ilss hf (by decide) rfl rfl rfl ?_
    clear hf; intro a ha hf; clear ha
    refine st_move hf rfl rfl (by decide) ?_
    clear hf; intro a ha hf; clear ha
    refine wpList_cut 4 (fun a w => Fr 43 a [(0, vl0), (1, .int .i64 most1), (2, .float .f64 bby2), (7, v1), (8, .int .i64 i8), (17, .bool ((decide (i8 < (l0.length : Int))) && (decide (i8 < most1))))] ∧ Hp S w0 w (Res.sl Ek.c128 24 v1 out7 :: ow)) ?_ ?_
    · rcases Bool.eq_false_or_eq_true (decide (i8 < (l0.length : Int))) with hb6 | hb6
      · skip
        refine st_move hf (wantY hf rfl rfl hb6) rfl (by decide) ?_
        clear hf; intro a ha hf; clear ha
        refine st_move hf (wantY hf rfl rfl hb6) rfl (by decide) ?_
        clear hf; intro a ha hf; clear ha
        refine st_ilss hf (by decide) (wantY hf rfl rfl hb6) rfl rfl ?_
        clear hf; intro a ha hf; clear ha
        refine st_pick (v := .bool (decide (i8 < most1))) hf rfl rfl (fun hb' => ?_) (fun hb' => ?_) (by decide) ?_
        · rfl
        · exact absurd (hb6.symm.trans hb') (by decide)
        clear hf; intro a ha hf; clear ha
        refine st_nil hf (th_n ?_)
        exact ⟨hf.sub ⟨rfl, rfl, rfl, rfl, rfl, (by rw [hb6]; rfl), trivial⟩, hp⟩
      refine st_skip hf (wantN hf rfl rfl hb6) rfl (by decide) ?_ rfl
      clear hf; intro a hf
      refine st_skip hf (wantN hf rfl rfl hb6) rfl (by decide) ?_ rfl
      clear hf; intro a hf
      refine st_skip hf (wantN hf rfl rfl hb6) rfl (by decide) ?_ rfl
      clear hf; intro a hf
      refine st_pick (v := .bool false) hf rfl rfl (fun hb' => ?_) (fun hb' => ?_) (by decide) ?_
      · exact absurd (hb6.symm.trans hb') (by decide)
      · rfl
      clear hf; intro a ha hf; clear ha
      refine st_nil hf (th_n ?_)
      exact ⟨hf.sub ⟨rfl, rfl, rfl, rfl, rfl, (by rw [hb6]; rfl), trivial⟩, hp⟩
    rintro a w ⟨hf, hp⟩
    refine st_nil hf ?_
    refine th_n ?_
    refine wp_if hf rfl (fun hb => ?_) (fun hb => ?_)
    · replace h := ifT h hb
      refine wp_skip ?_
      refine th_n ?_
      refine wp_seq ?_
      refine wp_block ?_
      obtain ⟨hc7, h⟩ := chk h
      have hc8 : 0 ≤ (0 : Int) ∧ (0 : Int) < (2 : Int) := by decide
      obtain ⟨q9, hq10, h⟩ := bnd h
      obtain ⟨hc11, h⟩ := chk h
      have hc12 : 0 ≤ (1 : Int) ∧ (1 : Int) < (2 : Int) := by decide
      obtain ⟨q13, hq14, h⟩ := bnd h
      obtain ⟨hc17, h⟩ := chk h
      refine wp_cutN (fun a w => ∃ (v15 : Value) (v18 : Value), Fr 43 a [(0, vl0), (1, .int .i64 most1), (2, .float .f64 bby2), (7, v18), (8, .int .i64 i8)] ∧ Hp S w0 w (Res.sl Ek.c128 24 v15 ([(q9, q13)]) :: Res.sl Ek.c128 24 v18 (out7 ++ [(q9, q13)]) :: ow)) ?_ ?_
      · have hp := hp.same (Same.drew w)
        refine dr_begin' (fun a w => ∃ (v15 : Value) (v18 : Value), Fr 43 a [(0, vl0), (1, .int .i64 most1), (2, .float .f64 bby2), (7, v18), (8, .int .i64 i8)] ∧ Hp S w0 w (Res.sl Ek.c128 24 v15 ([(q9, q13)]) :: Res.sl Ek.c128 24 v18 (out7 ++ [(q9, q13)]) :: ow)) (fun w' => ∃ l, Hp S w0 w' l) [] (by kernel_rfl) ?_
        refine dr_take 0 (v1) rfl (by kernel_rfl) (by kernel_rfl) (by kernel_rfl) (by kernel_rfl) rfl rfl hf (by decide) rfl (fun w hp => ?_) ⟨_, hp⟩ ?_
        · obtain ⟨_, hp⟩ := hp
          refine st_move hf rfl rfl (by decide) ?_
          clear hf; intro a ha hf
          exact st_nil hf (th_n ⟨ha, rfl⟩)
        clear hf; intro a hf
        refine dr_take 1 (vl0) rfl (by kernel_rfl) (by kernel_rfl) (by kernel_rfl) (by kernel_rfl) rfl rfl hf (by decide) rfl (fun w hp => ?_) ⟨_, hp⟩ ?_
        · obtain ⟨_, hp⟩ := hp
          refine st_move hf rfl rfl (by decide) ?_
          clear hf; intro a ha hf
          exact st_nil hf (th_n ⟨ha, rfl⟩)
        clear hf; intro a hf
        refine dr_take 2 (.int .i64 i8) rfl (by kernel_rfl) (by kernel_rfl) (by kernel_rfl) (by kernel_rfl) rfl rfl hf (by decide) rfl (fun w hp => ?_) ⟨_, hp⟩ ?_
        · obtain ⟨_, hp⟩ := hp
          refine st_move hf rfl rfl (by decide) ?_
          clear hf; intro a ha hf
          exact st_nil hf (th_n ⟨ha, rfl⟩)
        clear hf; intro a hf
        refine dr_take 3 (eptr vl0 i8 2) rfl (by kernel_rfl) (by kernel_rfl) (by kernel_rfl) (by kernel_rfl) rfl rfl hf (by decide) rfl (fun w hp => ?_) ⟨_, hp⟩ ?_
        · obtain ⟨_, hp⟩ := hp
          refine st_index (E := (Ek.pair (Ek.int .i8) (Ek.int .i8))) hf (by decide) Try.underlying43 elt92 rfl rfl rfl (hl0.sl hp) hc7.1 hc7.2 ?_
          clear hf; intro a ha hf
          exact st_nil hf (th_n ⟨ha, rfl⟩)
        clear hf; intro a hf
        refine dr_take 4 (optr (eptr vl0 i8 2) (((0 : Int)).toNat * 1)) rfl (by kernel_rfl) (by kernel_rfl) (by kernel_rfl) (by kernel_rfl) rfl rfl hf (by decide) rfl (fun w hp => ?_) ⟨_, hp⟩ ?_
        · obtain ⟨_, hp⟩ := hp
          refine st_iaP (sz := 1) hf (by decide) Try.underlying92 (by kernel_rfl) rfl rfl rfl (Sl.isP (hl0.sl hp) hc7.1 hc7.2) hc8.1 hc8.2 ?_
          clear hf; intro a ha hf
          exact st_nil hf (th_n ⟨ha, rfl⟩)
        clear hf; intro a hf
        refine dr_take 5 (.int .i8 ((gt l0 i8).1)) rfl (by kernel_rfl) (by kernel_rfl) (by kernel_rfl) (by kernel_rfl) rfl rfl hf (by decide) rfl (fun w hp => ?_) ⟨_, hp⟩ ?_
        · obtain ⟨_, hp⟩ := hp
          refine st_ldQ (F := (Ek.int .i8)) (yv := (gt l0 i8).1) hf (by decide) pl91 (fun x => .int .i8 x) (fun _ _ h => h) rfl rfl (Sl.part (E := (Ek.pair (Ek.int .i8) (Ek.int .i8))) (F := (Ek.int .i8)) (o := ((0 : Int)).toNat * 1) (Sub.fst (E := (Ek.int .i8)) (F := (Ek.int .i8))) (hl0.sl hp) hc7.1 hc7.2) ?_
          clear hf; intro a ha hf
          exact st_nil hf (th_n ⟨ha, rfl⟩)
        clear hf; intro a hf
        refine dr_take 6 (.int .i8 (((gt l0 i8).1).tmod (64 : Int))) rfl (by kernel_rfl) (by kernel_rfl) (by kernel_rfl) (by kernel_rfl) rfl rfl hf (by decide) rfl (fun w hp => ?_) ⟨_, hp⟩ ?_
        · obtain ⟨_, hp⟩ := hp
          refine st_irem hf (by decide) rfl rfl rfl (by decide) ?_
          clear hf; intro a ha hf
          exact st_nil hf (th_n ⟨ha, rfl⟩)
        clear hf; intro a hf
        refine dr_take 7 (.float .f64 (FloatKind.f64.nearest (((gt l0 i8).1).tmod (64 : Int)))) rfl (by kernel_rfl) (by kernel_rfl) (by kernel_rfl) (by kernel_rfl) rfl rfl hf (by decide) rfl (fun w hp => ?_) ⟨_, hp⟩ ?_
        · obtain ⟨_, hp⟩ := hp
          refine st_conv_if Try.underlying91 Try.underlying22 hf (by decide) rfl rfl ?_
          clear hf; intro a ha hf
          exact st_nil hf (th_n ⟨ha, rfl⟩)
        clear hf; intro a hf
        refine dr_take 8 (.float .f64 bby2) rfl (by kernel_rfl) (by kernel_rfl) (by kernel_rfl) (by kernel_rfl) rfl rfl hf (by decide) rfl (fun w hp => ?_) ⟨_, hp⟩ ?_
        · obtain ⟨_, hp⟩ := hp
          refine st_move hf rfl rfl (by decide) ?_
          clear hf; intro a ha hf
          exact st_nil hf (th_n ⟨ha, rfl⟩)
        clear hf; intro a hf
        refine dr_take 9 (.float .f64 (flb q9)) rfl (by kernel_rfl) (by kernel_rfl) (by kernel_rfl) (by kernel_rfl) rfl rfl hf (by decide) rfl (fun w hp => ?_) ⟨_, hp⟩ ?_
        · obtain ⟨_, hp⟩ := hp
          refine st_fs (op := .quo) rfl hf (by decide) rfl rfl rfl (show Fl.rep (FloatKind.f64.nearest (((gt l0 i8).1).tmod (64 : Int))) (fofi (((gt l0 i8).1).tmod (64 : Int))) from rfl) (show Fl.rep bby2 by2 from hby2) hq10 ?_
          clear hf; intro a ha hf
          exact st_nil hf (th_n ⟨ha, rfl⟩)
        clear hf; intro a hf
        refine dr_take 10 (vl0) rfl (by kernel_rfl) (by kernel_rfl) (by kernel_rfl) (by kernel_rfl) rfl rfl hf (by decide) rfl (fun w hp => ?_) ⟨_, hp⟩ ?_
        · obtain ⟨_, hp⟩ := hp
          refine st_move hf rfl rfl (by decide) ?_
          clear hf; intro a ha hf
          exact st_nil hf (th_n ⟨ha, rfl⟩)
        clear hf; intro a hf
        refine dr_take 11 (.int .i64 i8) rfl (by kernel_rfl) (by kernel_rfl) (by kernel_rfl) (by kernel_rfl) rfl rfl hf (by decide) rfl (fun w hp => ?_) ⟨_, hp⟩ ?_
        · obtain ⟨_, hp⟩ := hp
          refine st_move hf rfl rfl (by decide) ?_
          clear hf; intro a ha hf
          exact st_nil hf (th_n ⟨ha, rfl⟩)
        clear hf; intro a hf
        refine dr_take 12 (eptr vl0 i8 2) rfl (by kernel_rfl) (by kernel_rfl) (by kernel_rfl) (by kernel_rfl) rfl rfl hf (by decide) rfl (fun w hp => ?_) ⟨_, hp⟩ ?_
        · obtain ⟨_, hp⟩ := hp
          refine st_index (E := (Ek.pair (Ek.int .i8) (Ek.int .i8))) hf (by decide) Try.underlying43 elt92 rfl rfl rfl (hl0.sl hp) hc11.1 hc11.2 ?_
          clear hf; intro a ha hf
          exact st_nil hf (th_n ⟨ha, rfl⟩)
        clear hf; intro a hf
        refine dr_take 13 (optr (eptr vl0 i8 2) (((1 : Int)).toNat * 1)) rfl (by kernel_rfl) (by kernel_rfl) (by kernel_rfl) (by kernel_rfl) rfl rfl hf (by decide) rfl (fun w hp => ?_) ⟨_, hp⟩ ?_
        · obtain ⟨_, hp⟩ := hp
          refine st_iaP (sz := 1) hf (by decide) Try.underlying92 (by kernel_rfl) rfl rfl rfl (Sl.isP (hl0.sl hp) hc11.1 hc11.2) hc12.1 hc12.2 ?_
          clear hf; intro a ha hf
          exact st_nil hf (th_n ⟨ha, rfl⟩)
        clear hf; intro a hf
        refine dr_take 14 (.int .i8 ((gt l0 i8).2)) rfl (by kernel_rfl) (by kernel_rfl) (by kernel_rfl) (by kernel_rfl) rfl rfl hf (by decide) rfl (fun w hp => ?_) ⟨_, hp⟩ ?_
        · obtain ⟨_, hp⟩ := hp
          refine st_ldQ (F := (Ek.int .i8)) (yv := (gt l0 i8).2) hf (by decide) pl91 (fun x => .int .i8 x) (fun _ _ h => h) rfl rfl (Sl.part (E := (Ek.pair (Ek.int .i8) (Ek.int .i8))) (F := (Ek.int .i8)) (o := ((1 : Int)).toNat * 1) (Sub.snd (E := (Ek.int .i8)) (F := (Ek.int .i8))) (hl0.sl hp) hc11.1 hc11.2) ?_
          clear hf; intro a ha hf
          exact st_nil hf (th_n ⟨ha, rfl⟩)
        clear hf; intro a hf
        refine dr_take 15 (.int .i8 (((gt l0 i8).2).tmod (64 : Int))) rfl (by kernel_rfl) (by kernel_rfl) (by kernel_rfl) (by kernel_rfl) rfl rfl hf (by decide) rfl (fun w hp => ?_) ⟨_, hp⟩ ?_
        · obtain ⟨_, hp⟩ := hp
          refine st_irem hf (by decide) rfl rfl rfl (by decide) ?_
          clear hf; intro a ha hf
          exact st_nil hf (th_n ⟨ha, rfl⟩)
        clear hf; intro a hf
        refine dr_take 16 (.float .f64 (FloatKind.f64.nearest (((gt l0 i8).2).tmod (64 : Int)))) rfl (by kernel_rfl) (by kernel_rfl) (by kernel_rfl) (by kernel_rfl) rfl rfl hf (by decide) rfl (fun w hp => ?_) ⟨_, hp⟩ ?_
        · obtain ⟨_, hp⟩ := hp
          refine st_conv_if Try.underlying91 Try.underlying22 hf (by decide) rfl rfl ?_
          clear hf; intro a ha hf
          exact st_nil hf (th_n ⟨ha, rfl⟩)
        clear hf; intro a hf
        refine dr_take 17 (.float .f64 bby2) rfl (by kernel_rfl) (by kernel_rfl) (by kernel_rfl) (by kernel_rfl) rfl rfl hf (by decide) rfl (fun w hp => ?_) ⟨_, hp⟩ ?_
        · obtain ⟨_, hp⟩ := hp
          refine st_move hf rfl rfl (by decide) ?_
          clear hf; intro a ha hf
          exact st_nil hf (th_n ⟨ha, rfl⟩)
        clear hf; intro a hf
        refine dr_take 18 (.float .f64 (flb q13)) rfl (by kernel_rfl) (by kernel_rfl) (by kernel_rfl) (by kernel_rfl) rfl rfl hf (by decide) rfl (fun w hp => ?_) ⟨_, hp⟩ ?_
        · obtain ⟨_, hp⟩ := hp
          refine st_fs (op := .quo) rfl hf (by decide) rfl rfl rfl (show Fl.rep (FloatKind.f64.nearest (((gt l0 i8).2).tmod (64 : Int))) (fofi (((gt l0 i8).2).tmod (64 : Int))) from rfl) (show Fl.rep bby2 by2 from hby2) hq14 ?_
          clear hf; intro a ha hf
          exact st_nil hf (th_n ⟨ha, rfl⟩)
        clear hf; intro a hf
        refine dr_take 19 (.complex .f64 (flb q9) (flb q13)) rfl (by kernel_rfl) (by kernel_rfl) (by kernel_rfl) (by kernel_rfl) rfl rfl hf (by decide) rfl (fun w hp => ?_) ⟨_, hp⟩ ?_
        · obtain ⟨_, hp⟩ := hp
          refine st_complex hf (by decide) rfl rfl rfl ?_
          clear hf; intro a ha hf
          exact st_nil hf (th_n ⟨ha, rfl⟩)
        clear hf; intro a hf
        refine dr_one 20 rfl (by kernel_rfl) ?_
        refine st_build (E := Ek.c128) (xs := [(q9, q13)]) hf (by decide) elt24 Try.underlying41 hp (vals := #[(0, .complex .f64 (flb q9) (flb q13))]) (cells := #[.complex .f64 (flb q9) (flb q13)]) rfl (by simp [hf.ev (x := (Operand.tmp 39)) rfl]) (by decide) (by decide) (z := .complex .f64 0 0) (by kernel_rfl) (by kernel_rfl) rfl (reps_cons (cs := [.complex .f64 (flb q9) (flb q13)]) (show Ek.c128.rep [.complex .f64 (flb q9) (flb q13)] (q9, q13) from ⟨_, _, rfl, (farithS_rep hq10), (farithS_rep hq14)⟩) (reps_nil _)) ?_
        clear hf; intro a w v15 hf hp0; clear hp; have hp := hp0; clear hp0
        replace hp : Hp _ _ _ (Res.sl Ek.c128 24 v15 ([(q9, q13)]) :: Res.sl Ek.c128 24 v1 out7 :: ow) := hp
        refine st_nil hf (th_n ⟨fun _ _ => ⟨_, hp⟩, ?_⟩)
        refine dr_one 21 rfl (by kernel_rfl) ?_
        refine st_append (E := Ek.c128) hf (by decide) elt24 Try.underlying41 (by decide) hp (i := 1) rfl rfl rfl rfl (hp.sl (i := 0) rfl) hc17 ?_
        clear hf; intro a w v18 hf hp0; clear hp; have hp := hp0; clear hp0
        replace hp : Hp _ _ _ (Res.sl Ek.c128 24 v15 ([(q9, q13)]) :: Res.sl Ek.c128 24 v18 (out7 ++ [(q9, q13)]) :: ow) := hp
        refine st_nil hf (th_n ⟨fun _ _ => ⟨_, hp⟩, ?_⟩)
        refine dr_take 22 (v18) rfl (by kernel_rfl) (by kernel_rfl) (by kernel_rfl) (by kernel_rfl) rfl rfl hf (by decide) rfl (fun w hp => ?_) ⟨_, hp⟩ ?_
        · obtain ⟨_, hp⟩ := hp
          refine st_assign hf rfl rfl (by decide) ?_
          clear hf; intro a ha hf
          exact st_nil hf (th_n ⟨ha, rfl⟩)
        clear hf; intro a hf
        refine dr_end (by kernel_rfl) ?_ _
        exact ⟨v15, v18, hf.sub ⟨rfl, rfl, rfl, rfl, rfl, trivial⟩, hp⟩
      rintro a w ⟨v15, v18, hf, hp⟩
      refine ib_n ?_
      refine th_n ?_
      refine wp_reg ?_
      refine st_move hf rfl rfl (by decide) ?_
      clear hf; intro a ha hf; clear ha
      refine st_iadd hf (by decide) rfl rfl rfl ?_
      clear hf; intro a ha hf; clear ha
      refine st_assign hf rfl rfl (by decide) ?_
      clear hf; intro a ha hf; clear ha
      refine st_nil hf ?_
      obtain rfl := Option.some.inj h
      have hp : Hp _ _ _ (Res.sl Ek.c128 24 v18 (out7 ++ [(q9, q13)]) :: ow) := Hp.sel (pre := [Res.sl Ek.c128 24 v15 ([(q9, q13)]), Res.sl Ek.c128 24 v18 (out7 ++ [(q9, q13)])]) (tail := ow) (rs' := [Res.sl Ek.c128 24 v18 (out7 ++ [(q9, q13)])]) hp [1] (by decide) (by simp) rfl
      exact rnd_l ⟨_, hf.sub ⟨rfl, rfl, rfl, rfl, rfl, trivial⟩, hp⟩
    replace h := ifF h hb
    refine wp_exit ?_
    refine th_e ?_
    obtain rfl := Option.some.inj h
    exact rnd_r (by simp) ⟨rfl, _, hf.sub ⟨rfl, trivial⟩, hp⟩
  clear hl hf hp
  intro e a w hne hO
  obtain ⟨rfl, v3, hf, hp⟩ := hO
  refine ib_same ?_
  refine th_n ?_
  refine wp_seq ?_
  refine wp_reg ?_
  refine st_move hf rfl rfl (by decide) ?_
  clear hf; intro a ha hf; clear ha
  refine st_assign hf rfl rfl (by decide) ?_
  clear hf; intro a ha hf; clear ha
  refine st_nil hf ?_
  refine th_n ?_
  refine wp_ret ?_
  obtain rfl := Option.some.inj h
  exact ⟨rfl, ⟨_, hf.sub ⟨rfl, trivial⟩, hp⟩⟩

noncomputable def f_plane_Gauss_may (g0_Re : Int) (g0_Im : Int) : Option Bool := (some ((((decide ((-1073741824 : Int) ≤ g0_Re)) && (decide (g0_Re ≤ (1073741824 : Int)))) && (decide ((-1073741824 : Int) ≤ g0_Im))) && (decide (g0_Im ≤ (1073741824 : Int)))))
theorem f_plane_Gauss_may_c {S : Nat → Prop} {w0 w : World} {ow : List Res} (hp : Hp S w0 w ow) (g0_Re : Int) (g0_Im : Int) {r : Bool} (h : f_plane_Gauss_may g0_Re g0_Im = some r) :
    Calls Try.prog 55 #[.agg #[.int .i64 g0_Re, .int .i64 g0_Im]] w (fun e w' => e = .returned (.bool r) ∧ Hp S w0 w' (ow)) := by
  unfold f_plane_Gauss_may at h
  refine enter (n := 21) (args := [.agg #[.int .i64 g0_Re, .int .i64 g0_Im]]) Try.func55 rfl rfl (Nat.le_of_ble_eq_true rfl) fun a hf => ?_
  replace hf : Fr 21 a [(0, .agg #[.int .i64 g0_Re, .int .i64 g0_Im])] := hf
  refine wp_mono (Q := fun e a w => e = .ret ∧ Fr 21 a [(2, .bool r)] ∧ Hp S w0 w (ow)) ?_ ?_
  rotate_left
  · rintro e a w ⟨rfl, hf, hp⟩
    exact ret1 hf rfl rfl ⟨rfl, hp⟩
  refine wp_seq ?_
  refine wp_reg ?_
  refine st_boxO (cs := [.int .i64 g0_Re, .int .i64 g0_Im]) hf (by decide) hp rfl rfl rfl ?_
  clear hf; intro a w v1 hf hp0; clear hp; have hp := hp0; clear hp0
  replace hp : Hp _ _ _ (Res.obj 56 v1 [.int .i64 g0_Re, .int .i64 g0_Im] :: ow) := hp
  refine st_assign hf rfl rfl (by decide) ?_
  clear hf; intro a ha hf; clear ha
  refine st_nil hf ?_
  refine th_n ?_
  refine wp_seq ?_
  refine wp_reg ?_
  refine st_fa (o' := 0) hf (by decide) (off := 0) (sz := 1) (by kernel_rfl) (by decide) rfl rfl (hp.ob (i := 0) rfl) rfl ?_
  clear hf; intro a ha hf; clear ha
  refine st_ldO (u := .int .i64 g0_Re) hf (by decide) pl2 rfl rfl (hp.ob (i := 0) rfl) rfl ?_
  clear hf; intro a ha hf; clear ha
  refine st_igeq hf (by decide) rfl rfl rfl ?_
  clear hf; intro a ha hf; clear ha
  refine st_move hf rfl rfl (by decide) ?_
  clear hf; intro a ha hf; clear ha
  refine wpList_cut 4 (fun a w => Fr 21 a [(1, optr v1 0), (10, .bool ((decide ((-1073741824 : Int) ≤ g0_Re)) && (decide (g0_Re ≤ (1073741824 : Int)))))] ∧ Hp S w0 w (Res.obj 56 v1 [.int .i64 g0_Re, .int .i64 g0_Im] :: ow)) ?_ ?_
  · rcases Bool.eq_false_or_eq_true (decide ((-1073741824 : Int) ≤ g0_Re)) with hb4 | hb4
    · skip
      refine st_fa (o' := 0) hf (by decide) (off := 0) (sz := 1) (by kernel_rfl) (by decide) (wantY hf rfl rfl hb4) rfl (hp.ob (i := 0) rfl) rfl ?_
      clear hf; intro a ha hf; clear ha
      refine st_ldO (u := .int .i64 g0_Re) hf (by decide) pl2 (wantY hf rfl rfl hb4) rfl (hp.ob (i := 0) rfl) rfl ?_
      clear hf; intro a ha hf; clear ha
      refine st_ileq hf (by decide) (wantY hf rfl rfl hb4) rfl rfl ?_
      clear hf; intro a ha hf; clear ha
      refine st_pick (v := .bool (decide (g0_Re ≤ (1073741824 : Int)))) hf rfl rfl (fun hb' => ?_) (fun hb' => ?_) (by decide) ?_
      · rfl
      · exact absurd (hb4.symm.trans hb') (by decide)
      clear hf; intro a ha hf; clear ha
      refine st_nil hf (th_n ?_)
      exact ⟨hf.sub ⟨rfl, (by rw [hb4]; rfl), trivial⟩, hp⟩
    refine st_skip hf (wantN hf rfl rfl hb4) rfl (by decide) ?_ rfl
    clear hf; intro a hf
    refine st_skip hf (wantN hf rfl rfl hb4) rfl (by decide) ?_ rfl
    clear hf; intro a hf
    refine st_skip hf (wantN hf rfl rfl hb4) rfl (by decide) ?_ rfl
    clear hf; intro a hf
    refine st_pick (v := .bool false) hf rfl rfl (fun hb' => ?_) (fun hb' => ?_) (by decide) ?_
    · exact absurd (hb4.symm.trans hb') (by decide)
    · rfl
    clear hf; intro a ha hf; clear ha
    refine st_nil hf (th_n ?_)
    exact ⟨hf.sub ⟨rfl, (by rw [hb4]; rfl), trivial⟩, hp⟩
  rintro a w ⟨hf, hp⟩
  refine st_move hf rfl rfl (by decide) ?_
  clear hf; intro a ha hf; clear ha
  refine wpList_cut 4 (fun a w => Fr 21 a [(1, optr v1 0), (15, .bool (((decide ((-1073741824 : Int) ≤ g0_Re)) && (decide (g0_Re ≤ (1073741824 : Int)))) && (decide ((-1073741824 : Int) ≤ g0_Im))))] ∧ Hp S w0 w (Res.obj 56 v1 [.int .i64 g0_Re, .int .i64 g0_Im] :: ow)) ?_ ?_
  · rcases Bool.eq_false_or_eq_true ((decide ((-1073741824 : Int) ≤ g0_Re)) && (decide (g0_Re ≤ (1073741824 : Int)))) with hb6 | hb6
    · skip
      refine st_fa (o' := 1) hf (by decide) (off := 1) (sz := 1) (by kernel_rfl) (by decide) (wantY hf rfl rfl hb6) rfl (hp.ob (i := 0) rfl) rfl ?_
      clear hf; intro a ha hf; clear ha
      refine st_ldO (u := .int .i64 g0_Im) hf (by decide) pl2 (wantY hf rfl rfl hb6) rfl (hp.ob (i := 0) rfl) rfl ?_
      clear hf; intro a ha hf; clear ha
      refine st_igeq hf (by decide) (wantY hf rfl rfl hb6) rfl rfl ?_
      clear hf; intro a ha hf; clear ha
      refine st_pick (v := .bool (decide ((-1073741824 : Int) ≤ g0_Im))) hf rfl rfl (fun hb' => ?_) (fun hb' => ?_) (by decide) ?_
      · rfl
      · exact absurd (hb6.symm.trans hb') (by decide)
      clear hf; intro a ha hf; clear ha
      refine st_nil hf (th_n ?_)
      exact ⟨hf.sub ⟨rfl, (by rw [hb6]; rfl), trivial⟩, hp⟩
    refine st_skip hf (wantN hf rfl rfl hb6) rfl (by decide) ?_ rfl
    clear hf; intro a hf
    refine st_skip hf (wantN hf rfl rfl hb6) rfl (by decide) ?_ rfl
    clear hf; intro a hf
    refine st_skip hf (wantN hf rfl rfl hb6) rfl (by decide) ?_ rfl
    clear hf; intro a hf
    refine st_pick (v := .bool false) hf rfl rfl (fun hb' => ?_) (fun hb' => ?_) (by decide) ?_
    · exact absurd (hb6.symm.trans hb') (by decide)
    · rfl
    clear hf; intro a ha hf; clear ha
    refine st_nil hf (th_n ?_)
    exact ⟨hf.sub ⟨rfl, (by rw [hb6]; rfl), trivial⟩, hp⟩
  rintro a w ⟨hf, hp⟩
  refine st_move hf rfl rfl (by decide) ?_
  clear hf; intro a ha hf; clear ha
  refine wpList_cut 4 (fun a w => Fr 21 a [(20, .bool ((((decide ((-1073741824 : Int) ≤ g0_Re)) && (decide (g0_Re ≤ (1073741824 : Int)))) && (decide ((-1073741824 : Int) ≤ g0_Im))) && (decide (g0_Im ≤ (1073741824 : Int)))))] ∧ Hp S w0 w (Res.obj 56 v1 [.int .i64 g0_Re, .int .i64 g0_Im] :: ow)) ?_ ?_
  · rcases Bool.eq_false_or_eq_true (((decide ((-1073741824 : Int) ≤ g0_Re)) && (decide (g0_Re ≤ (1073741824 : Int)))) && (decide ((-1073741824 : Int) ≤ g0_Im))) with hb8 | hb8
    · skip
      refine st_fa (o' := 1) hf (by decide) (off := 1) (sz := 1) (by kernel_rfl) (by decide) (wantY hf rfl rfl hb8) rfl (hp.ob (i := 0) rfl) rfl ?_
      clear hf; intro a ha hf; clear ha
      refine st_ldO (u := .int .i64 g0_Im) hf (by decide) pl2 (wantY hf rfl rfl hb8) rfl (hp.ob (i := 0) rfl) rfl ?_
      clear hf; intro a ha hf; clear ha
      refine st_ileq hf (by decide) (wantY hf rfl rfl hb8) rfl rfl ?_
      clear hf; intro a ha hf; clear ha
      refine st_pick (v := .bool (decide (g0_Im ≤ (1073741824 : Int)))) hf rfl rfl (fun hb' => ?_) (fun hb' => ?_) (by decide) ?_
      · rfl
      · exact absurd (hb8.symm.trans hb') (by decide)
      clear hf; intro a ha hf; clear ha
      refine st_nil hf (th_n ?_)
      exact ⟨hf.sub ⟨(by rw [hb8]; rfl), trivial⟩, hp⟩
    refine st_skip hf (wantN hf rfl rfl hb8) rfl (by decide) ?_ rfl
    clear hf; intro a hf
    refine st_skip hf (wantN hf rfl rfl hb8) rfl (by decide) ?_ rfl
    clear hf; intro a hf
    refine st_skip hf (wantN hf rfl rfl hb8) rfl (by decide) ?_ rfl
    clear hf; intro a hf
    refine st_pick (v := .bool false) hf rfl rfl (fun hb' => ?_) (fun hb' => ?_) (by decide) ?_
    · exact absurd (hb8.symm.trans hb') (by decide)
    · rfl
    clear hf; intro a ha hf; clear ha
    refine st_nil hf (th_n ?_)
    exact ⟨hf.sub ⟨(by rw [hb8]; rfl), trivial⟩, hp⟩
  rintro a w ⟨hf, hp⟩
  refine st_assign hf rfl rfl (by decide) ?_
  clear hf; intro a ha hf; clear ha
  refine st_nil hf ?_
  refine th_n ?_
  refine wp_ret ?_
  obtain rfl := Option.some.inj h
  have hp : Hp _ _ _ (ow) := Hp.sel (pre := [Res.obj 56 v1 [.int .i64 g0_Re, .int .i64 g0_Im]]) (tail := ow) (rs' := []) hp [] (by decide) (by simp) rfl
  exact ⟨rfl, ⟨hf.sub ⟨rfl, trivial⟩, hp⟩⟩

noncomputable def f_plane_Gauss_half (g0_Re : Int) (g0_Im : Int) : Option ((Int × Int) × Int) := (some (((IntKind.i64.wrap (((IntKind.i64.wrap ((IntKind.i64.wrap (g0_Re - (iand .i64 (IntKind.i64.wrap (g0_Re + g0_Im)) (1 : Int)))) + g0_Im))).tdiv (2 : Int))), (IntKind.i64.wrap (((IntKind.i64.wrap (g0_Im - (IntKind.i64.wrap (g0_Re - (iand .i64 (IntKind.i64.wrap (g0_Re + g0_Im)) (1 : Int))))))).tdiv (2 : Int)))), (IntKind.u32.wrap (iand .i64 (IntKind.i64.wrap (g0_Re + g0_Im)) (1 : Int)))))
theorem f_plane_Gauss_half_c {S : Nat → Prop} {w0 w : World} {ow : List Res} (hp : Hp S w0 w ow) (g0_Re : Int) (g0_Im : Int) {r : ((Int × Int) × Int)} (h : f_plane_Gauss_half g0_Re g0_Im = some r) :
    Calls Try.prog 59 #[.agg #[.int .i64 g0_Re, .int .i64 g0_Im]] w (fun e w' => e = .returned (.tuple #[.agg #[.int .i64 r.1.1, .int .i64 r.1.2], .int .u32 r.2]) ∧ Hp S w0 w' (ow)) := by
  unfold f_plane_Gauss_half at h
  refine enter (n := 31) (args := [.agg #[.int .i64 g0_Re, .int .i64 g0_Im]]) Try.func59 rfl rfl (Nat.le_of_ble_eq_true rfl) fun a hf => ?_
  replace hf : Fr 31 a [(0, .agg #[.int .i64 g0_Re, .int .i64 g0_Im])] := hf
  refine wp_mono (Q := fun e a w => e = .ret ∧ ∃ (c0 : Value), Fr 31 a [(2, optr c0 0), (3, .int .u32 r.2)] ∧ Hp S w0 w (Res.obj 56 c0 [.int .i64 r.1.1, .int .i64 r.1.2] :: ow)) ?_ ?_
  rotate_left
  · rintro e a w ⟨rfl, c0, hf, hp⟩
    exact retG2 hf rfl ⟨_, _, rfl, hp.ob (i := 0) rfl, .inr ⟨by kernel_rfl, rfl⟩⟩ rfl ⟨rfl, hp.drop⟩
  refine wp_seq ?_
  refine wp_reg ?_
  refine st_boxO (cs := [.int .i64 g0_Re, .int .i64 g0_Im]) hf (by decide) hp rfl rfl rfl ?_
  clear hf; intro a w v1 hf hp0; clear hp; have hp := hp0; clear hp0
  replace hp : Hp _ _ _ (Res.obj 56 v1 [.int .i64 g0_Re, .int .i64 g0_Im] :: ow) := hp
  refine st_alloc (cs := [.int .i64 (0 : Int), .int .i64 (0 : Int)]) (zv := .agg #[.int .i64 (0 : Int), .int .i64 (0 : Int)]) hf (by decide) (by kernel_rfl) rfl hp rfl ?_
  clear hf; intro a w v3 hf hp0; clear hp; have hp := hp0; clear hp0
  replace hp : Hp _ _ _ (Res.obj 56 v3 [.int .i64 (0 : Int), .int .i64 (0 : Int)] :: Res.obj 56 v1 [.int .i64 g0_Re, .int .i64 g0_Im] :: ow) := hp
  refine st_assign hf rfl rfl (by decide) ?_
  clear hf; intro a ha hf; clear ha
  refine st_nil hf ?_
  refine th_n ?_
  refine wp_seq ?_
  refine wp_reg ?_
  refine st_fa (o' := 0) hf (by decide) (off := 0) (sz := 1) (by kernel_rfl) (by decide) rfl rfl (hp.ob (i := 1) rfl) rfl ?_
  clear hf; intro a ha hf; clear ha
  refine st_ldO (u := .int .i64 g0_Re) hf (by decide) pl2 rfl rfl (hp.ob (i := 1) rfl) rfl ?_
  clear hf; intro a ha hf; clear ha
  refine st_fa (o' := 1) hf (by decide) (off := 1) (sz := 1) (by kernel_rfl) (by decide) rfl rfl (hp.ob (i := 1) rfl) rfl ?_
  clear hf; intro a ha hf; clear ha
  refine st_ldO (u := .int .i64 g0_Im) hf (by decide) pl2 rfl rfl (hp.ob (i := 1) rfl) rfl ?_
  clear hf; intro a ha hf; clear ha
  refine st_iadd hf (by decide) rfl rfl rfl ?_
  clear hf; intro a ha hf; clear ha
  refine st_iand hf (by decide) rfl rfl rfl ?_
  clear hf; intro a ha hf; clear ha
  refine st_assign hf rfl rfl (by decide) ?_
  clear hf; intro a ha hf; clear ha
  refine st_nil hf ?_
  refine th_n ?_
  refine wp_seq ?_
  refine wp_reg ?_
  refine st_fa (o' := 0) hf (by decide) (off := 0) (sz := 1) (by kernel_rfl) (by decide) rfl rfl (hp.ob (i := 1) rfl) rfl ?_
  clear hf; intro a ha hf; clear ha
  refine st_ldO (u := .int .i64 g0_Re) hf (by decide) pl2 rfl rfl (hp.ob (i := 1) rfl) rfl ?_
  clear hf; intro a ha hf; clear ha
  refine st_move hf rfl rfl (by decide) ?_
  clear hf; intro a ha hf; clear ha
  refine st_isub hf (by decide) rfl rfl rfl ?_
  clear hf; intro a ha hf; clear ha
  refine st_fa (o' := 0) hf (by decide) (off := 0) (sz := 1) (by kernel_rfl) (by decide) rfl rfl (hp.ob (i := 1) rfl) rfl ?_
  clear hf; intro a ha hf; clear ha
  refine st_stO (us := [.int .i64 (IntKind.i64.wrap (g0_Re - (iand .i64 (IntKind.i64.wrap (g0_Re + g0_Im)) (1 : Int))))]) hf hp (i := 1) rfl rfl rfl rfl rfl (by rfl) (by kernel_rfl) (Nat.le_of_ble_eq_true rfl) ?_
  clear hf; intro a w hf hp0; clear hp; have hp := hp0; clear hp0
  replace hp : Hp _ _ _ (Res.obj 56 v3 [.int .i64 (0 : Int), .int .i64 (0 : Int)] :: Res.obj 56 v1 [.int .i64 (IntKind.i64.wrap (g0_Re - (iand .i64 (IntKind.i64.wrap (g0_Re + g0_Im)) (1 : Int)))), .int .i64 g0_Im] :: ow) := hp
  refine st_nil hf ?_
  refine th_n ?_
  refine wp_seq ?_
  refine wp_reg ?_
  refine st_fa (o' := 0) hf (by decide) (off := 0) (sz := 1) (by kernel_rfl) (by decide) rfl rfl (hp.ob (i := 1) rfl) rfl ?_
  clear hf; intro a ha hf; clear ha
  refine st_ldO (u := .int .i64 (IntKind.i64.wrap (g0_Re - (iand .i64 (IntKind.i64.wrap (g0_Re + g0_Im)) (1 : Int))))) hf (by decide) pl2 rfl rfl (hp.ob (i := 1) rfl) rfl ?_
  clear hf; intro a ha hf; clear ha
  refine st_fa (o' := 1) hf (by decide) (off := 1) (sz := 1) (by kernel_rfl) (by decide) rfl rfl (hp.ob (i := 1) rfl) rfl ?_
  clear hf; intro a ha hf; clear ha
  refine st_ldO (u := .int .i64 g0_Im) hf (by decide) pl2 rfl rfl (hp.ob (i := 1) rfl) rfl ?_
  clear hf; intro a ha hf; clear ha
  refine st_iadd hf (by decide) rfl rfl rfl ?_
  clear hf; intro a ha hf; clear ha
  refine st_iquo hf (by decide) rfl rfl rfl (by decide) ?_
  clear hf; intro a ha hf; clear ha
  refine st_fa (o' := 1) hf (by decide) (off := 1) (sz := 1) (by kernel_rfl) (by decide) rfl rfl (hp.ob (i := 1) rfl) rfl ?_
  clear hf; intro a ha hf; clear ha
  refine st_ldO (u := .int .i64 g0_Im) hf (by decide) pl2 rfl rfl (hp.ob (i := 1) rfl) rfl ?_
  clear hf; intro a ha hf; clear ha
  refine st_fa (o' := 0) hf (by decide) (off := 0) (sz := 1) (by kernel_rfl) (by decide) rfl rfl (hp.ob (i := 1) rfl) rfl ?_
  clear hf; intro a ha hf; clear ha
  refine st_ldO (u := .int .i64 (IntKind.i64.wrap (g0_Re - (iand .i64 (IntKind.i64.wrap (g0_Re + g0_Im)) (1 : Int))))) hf (by decide) pl2 rfl rfl (hp.ob (i := 1) rfl) rfl ?_
  clear hf; intro a ha hf; clear ha
  refine st_isub hf (by decide) rfl rfl rfl ?_
  clear hf; intro a ha hf; clear ha
  refine st_iquo hf (by decide) rfl rfl rfl (by decide) ?_
  clear hf; intro a ha hf; clear ha
  refine st_buildA (vals := [(0, .int .i64 (IntKind.i64.wrap (((IntKind.i64.wrap ((IntKind.i64.wrap (g0_Re - (iand .i64 (IntKind.i64.wrap (g0_Re + g0_Im)) (1 : Int)))) + g0_Im))).tdiv (2 : Int)))), (1, .int .i64 (IntKind.i64.wrap (((IntKind.i64.wrap (g0_Im - (IntKind.i64.wrap (g0_Re - (iand .i64 (IntKind.i64.wrap (g0_Re + g0_Im)) (1 : Int))))))).tdiv (2 : Int))))]) (cells := [.int .i64 (IntKind.i64.wrap (((IntKind.i64.wrap ((IntKind.i64.wrap (g0_Re - (iand .i64 (IntKind.i64.wrap (g0_Re + g0_Im)) (1 : Int)))) + g0_Im))).tdiv (2 : Int))), .int .i64 (IntKind.i64.wrap (((IntKind.i64.wrap (g0_Im - (IntKind.i64.wrap (g0_Re - (iand .i64 (IntKind.i64.wrap (g0_Re + g0_Im)) (1 : Int))))))).tdiv (2 : Int)))]) hf (by decide) rfl (by simp [hf.ev (x := (Operand.tmp 21)) rfl, hf.ev (x := (Operand.tmp 27)) rfl]) (fun w => by kernel_rfl) ?_
  clear hf; intro a ha hf; clear ha
  refine st_move hf rfl rfl (by decide) ?_
  clear hf; intro a ha hf; clear ha
  refine st_conv_ii hf (by decide) (by rw [Try.underlying2]; rfl) Try.underlying66 rfl rfl ?_
  clear hf; intro a ha hf; clear ha
  refine st_stO (us := [.int .i64 (IntKind.i64.wrap (((IntKind.i64.wrap ((IntKind.i64.wrap (g0_Re - (iand .i64 (IntKind.i64.wrap (g0_Re + g0_Im)) (1 : Int)))) + g0_Im))).tdiv (2 : Int))), .int .i64 (IntKind.i64.wrap (((IntKind.i64.wrap (g0_Im - (IntKind.i64.wrap (g0_Re - (iand .i64 (IntKind.i64.wrap (g0_Re + g0_Im)) (1 : Int))))))).tdiv (2 : Int)))]) hf hp (i := 0) rfl rfl rfl rfl rfl (by rfl) (by kernel_rfl) (Nat.le_of_ble_eq_true rfl) ?_
  clear hf; intro a w hf hp0; clear hp; have hp := hp0; clear hp0
  replace hp : Hp _ _ _ (Res.obj 56 v3 [.int .i64 (IntKind.i64.wrap (((IntKind.i64.wrap ((IntKind.i64.wrap (g0_Re - (iand .i64 (IntKind.i64.wrap (g0_Re + g0_Im)) (1 : Int)))) + g0_Im))).tdiv (2 : Int))), .int .i64 (IntKind.i64.wrap (((IntKind.i64.wrap (g0_Im - (IntKind.i64.wrap (g0_Re - (iand .i64 (IntKind.i64.wrap (g0_Re + g0_Im)) (1 : Int))))))).tdiv (2 : Int)))] :: Res.obj 56 v1 [.int .i64 (IntKind.i64.wrap (g0_Re - (iand .i64 (IntKind.i64.wrap (g0_Re + g0_Im)) (1 : Int)))), .int .i64 g0_Im] :: ow) := hp
  refine st_assign hf rfl rfl (by decide) ?_
  clear hf; intro a ha hf; clear ha
  refine st_nil hf ?_
  refine th_n ?_
  refine wp_ret ?_
  obtain rfl := Option.some.inj h
  have hp : Hp _ _ _ (Res.obj 56 v3 [.int .i64 (IntKind.i64.wrap (((IntKind.i64.wrap ((IntKind.i64.wrap (g0_Re - (iand .i64 (IntKind.i64.wrap (g0_Re + g0_Im)) (1 : Int)))) + g0_Im))).tdiv (2 : Int))), .int .i64 (IntKind.i64.wrap (((IntKind.i64.wrap (g0_Im - (IntKind.i64.wrap (g0_Re - (iand .i64 (IntKind.i64.wrap (g0_Re + g0_Im)) (1 : Int))))))).tdiv (2 : Int)))] :: ow) := Hp.sel (pre := [Res.obj 56 v3 [.int .i64 (IntKind.i64.wrap (((IntKind.i64.wrap ((IntKind.i64.wrap (g0_Re - (iand .i64 (IntKind.i64.wrap (g0_Re + g0_Im)) (1 : Int)))) + g0_Im))).tdiv (2 : Int))), .int .i64 (IntKind.i64.wrap (((IntKind.i64.wrap (g0_Im - (IntKind.i64.wrap (g0_Re - (iand .i64 (IntKind.i64.wrap (g0_Re + g0_Im)) (1 : Int))))))).tdiv (2 : Int)))], Res.obj 56 v1 [.int .i64 (IntKind.i64.wrap (g0_Re - (iand .i64 (IntKind.i64.wrap (g0_Re + g0_Im)) (1 : Int)))), .int .i64 g0_Im]]) (tail := ow) (rs' := [Res.obj 56 v3 [.int .i64 (IntKind.i64.wrap (((IntKind.i64.wrap ((IntKind.i64.wrap (g0_Re - (iand .i64 (IntKind.i64.wrap (g0_Re + g0_Im)) (1 : Int)))) + g0_Im))).tdiv (2 : Int))), .int .i64 (IntKind.i64.wrap (((IntKind.i64.wrap (g0_Im - (IntKind.i64.wrap (g0_Re - (iand .i64 (IntKind.i64.wrap (g0_Re + g0_Im)) (1 : Int))))))).tdiv (2 : Int)))]]) hp [0] (by decide) (by simp) rfl
  exact ⟨rfl, ⟨_, hf.sub ⟨rfl, rfl, trivial⟩, hp⟩⟩

noncomputable def f_plane_Gauss_Class.s1c (depth1 : Int) (g2c_0 : Int) (g2c_1 : Int) (class6 : Int) (t21 : Int) : Option ((Int × Int × Int × Int) ⊕ Int) := (if (decide (t21 < depth1)) = true then ((f_plane_Gauss_half g2c_0 g2c_1).bind fun q10 => (if 0 ≤ t21 then (some (Sum.inl (q10.1.1, q10.1.2, (ior .u32 class6 (ishl .u32 q10.2 t21)), (IntKind.i64.wrap (t21 + (1 : Int)))))) else none)) else (some (Sum.inr class6)))
noncomputable def f_plane_Gauss_Class.s1 (depth1 : Int) (s : (Int × Int × Int × Int)) : Option ((Int × Int × Int × Int) ⊕ Int) := f_plane_Gauss_Class.s1c depth1 s.1 s.2.1 s.2.2.1 s.2.2.2
noncomputable def f_plane_Gauss_Class (g0_Re : Int) (g0_Im : Int) (depth1 : Int) : Option (Int × Int) := ((f_plane_Gauss_may g0_Re g0_Im).bind fun q3 => (if (((!q3) || (decide (depth1 < (0 : Int)))) || (decide ((30 : Int) < depth1))) = true then (some ((0 : Int), (1 : Int))) else ((loop (f_plane_Gauss_Class.s1 depth1) (g0_Re, g0_Im, (0 : Int), (0 : Int))).bind (fun q13 => (some (q13, (0 : Int)))))))
theorem f_plane_Gauss_Class_c {S : Nat → Prop} {w0 w : World} {ow : List Res} (hp : Hp S w0 w ow) (g0_Re : Int) (g0_Im : Int) (depth1 : Int) {r : (Int × Int)} (h : f_plane_Gauss_Class g0_Re g0_Im depth1 = some r) :
    Calls Try.prog 36 #[.agg #[.int .i64 g0_Re, .int .i64 g0_Im], .int .i64 depth1] w (fun e w' => e = .returned (.tuple #[.int .u32 r.1, .int .i64 r.2]) ∧ Hp S w0 w' (ow)) := by
  unfold f_plane_Gauss_Class at h
  refine enter (n := 36) (args := [.agg #[.int .i64 g0_Re, .int .i64 g0_Im], .int .i64 depth1]) Try.func36 rfl rfl (Nat.le_of_ble_eq_true rfl) fun a hf => ?_
  replace hf : Fr 36 a [(0, .agg #[.int .i64 g0_Re, .int .i64 g0_Im]), (1, .int .i64 depth1)] := hf
  refine wp_mono (Q := fun e a w => e = .ret ∧ Fr 36 a [(4, .int .u32 r.1), (5, .int .i64 r.2)] ∧ Hp S w0 w (ow)) ?_ ?_
  rotate_left
  · rintro e a w ⟨rfl, hf, hp⟩
    exact ret2 hf rfl rfl rfl ⟨rfl, hp⟩
  refine wp_seq ?_
  refine wp_reg ?_
  refine st_boxO (cs := [.int .i64 g0_Re, .int .i64 g0_Im]) hf (by decide) hp rfl rfl rfl ?_
  clear hf; intro a w v1 hf hp0; clear hp; have hp := hp0; clear hp0
  replace hp : Hp _ _ _ (Res.obj 56 v1 [.int .i64 g0_Re, .int .i64 g0_Im] :: ow) := hp
  refine st_assign hf rfl rfl (by decide) ?_
  clear hf; intro a ha hf; clear ha
  refine st_assign hf rfl rfl (by decide) ?_
  clear hf; intro a ha hf; clear ha
  refine st_nil hf ?_
  refine th_n ?_
  refine wp_seq ?_
  refine wp_seq ?_
  refine wp_reg ?_
  refine st_ldOA (m := 2) (us := [.int .i64 g0_Re, .int .i64 g0_Im]) hf (by decide) (by kernel_rfl) rfl rfl (hp.ob (i := 0) rfl) rfl rfl ?_
  clear hf; intro a ha hf; clear ha
  obtain ⟨q3, hcall4, h⟩ := bnd h
  refine st_call hf (by decide) Try.func55 rfl rfl rfl rfl rfl (f_plane_Gauss_may_c hp _ _ hcall4) ?_
  rintro _ w ⟨rfl, hp0⟩
  clear hp; have hp := hp0; clear hp0
  replace hp : Hp _ _ _ (Res.obj 56 v1 [.int .i64 g0_Re, .int .i64 g0_Im] :: ow) := hp
  refine ⟨_, rfl, ?_⟩
  clear hf; intro a hf
  refine st_not hf (by decide) rfl rfl ?_
  clear hf; intro a ha hf; clear ha
  refine st_move hf rfl rfl (by decide) ?_
  clear hf; intro a ha hf; clear ha
  refine wpList_cut 3 (fun a w => Fr 36 a [(1, .int .i64 depth1), (2, optr v1 0), (15, .bool ((!q3) || (decide (depth1 < (0 : Int)))))] ∧ Hp S w0 w (Res.obj 56 v1 [.int .i64 g0_Re, .int .i64 g0_Im] :: ow)) ?_ ?_
  · rcases Bool.eq_false_or_eq_true (!q3) with hb6 | hb6
    · skip
      refine st_skip hf (wantN hf rfl rfl hb6) rfl (by decide) ?_ rfl
      clear hf; intro a hf
      refine st_skip hf (wantN hf rfl rfl hb6) rfl (by decide) ?_ rfl
      clear hf; intro a hf
      refine st_pick (v := .bool true) hf rfl rfl (fun hb' => ?_) (fun hb' => ?_) (by decide) ?_
      · rfl
      · exact absurd (hb6.symm.trans hb') (by decide)
      clear hf; intro a ha hf; clear ha
      refine st_nil hf (th_n ?_)
      exact ⟨hf.sub ⟨rfl, rfl, (by rw [hb6]; rfl), trivial⟩, hp⟩
    refine st_move hf (wantY hf rfl rfl hb6) rfl (by decide) ?_
    clear hf; intro a ha hf; clear ha
    refine st_ilss hf (by decide) (wantY hf rfl rfl hb6) rfl rfl ?_
    clear hf; intro a ha hf; clear ha
    refine st_pick (v := .bool (decide (depth1 < (0 : Int)))) hf rfl rfl (fun hb' => ?_) (fun hb' => ?_) (by decide) ?_
    · exact absurd (hb6.symm.trans hb') (by decide)
    · rfl
    clear hf; intro a ha hf; clear ha
    refine st_nil hf (th_n ?_)
    exact ⟨hf.sub ⟨rfl, rfl, (by rw [hb6]; rfl), trivial⟩, hp⟩
  rintro a w ⟨hf, hp⟩
  refine st_move hf rfl rfl (by decide) ?_
  clear hf; intro a ha hf; clear ha
  refine wpList_cut 3 (fun a w => Fr 36 a [(1, .int .i64 depth1), (2, optr v1 0), (19, .bool (((!q3) || (decide (depth1 < (0 : Int)))) || (decide ((30 : Int) < depth1))))] ∧ Hp S w0 w (Res.obj 56 v1 [.int .i64 g0_Re, .int .i64 g0_Im] :: ow)) ?_ ?_
  · rcases Bool.eq_false_or_eq_true ((!q3) || (decide (depth1 < (0 : Int)))) with hb8 | hb8
    · skip
      refine st_skip hf (wantN hf rfl rfl hb8) rfl (by decide) ?_ rfl
      clear hf; intro a hf
      refine st_skip hf (wantN hf rfl rfl hb8) rfl (by decide) ?_ rfl
      clear hf; intro a hf
      refine st_pick (v := .bool true) hf rfl rfl (fun hb' => ?_) (fun hb' => ?_) (by decide) ?_
      · rfl
      · exact absurd (hb8.symm.trans hb') (by decide)
      clear hf; intro a ha hf; clear ha
      refine st_nil hf (th_n ?_)
      exact ⟨hf.sub ⟨rfl, rfl, (by rw [hb8]; rfl), trivial⟩, hp⟩
    refine st_move hf (wantY hf rfl rfl hb8) rfl (by decide) ?_
    clear hf; intro a ha hf; clear ha
    refine st_igtr hf (by decide) (wantY hf rfl rfl hb8) rfl rfl ?_
    clear hf; intro a ha hf; clear ha
    refine st_pick (v := .bool (decide ((30 : Int) < depth1))) hf rfl rfl (fun hb' => ?_) (fun hb' => ?_) (by decide) ?_
    · exact absurd (hb8.symm.trans hb') (by decide)
    · rfl
    clear hf; intro a ha hf; clear ha
    refine st_nil hf (th_n ?_)
    exact ⟨hf.sub ⟨rfl, rfl, (by rw [hb8]; rfl), trivial⟩, hp⟩
  rintro a w ⟨hf, hp⟩
  refine st_nil hf ?_
  refine th_n ?_
  refine wp_if hf rfl (fun hb => ?_) (fun hb => ?_)
  · replace h := ifT h hb
    refine wp_seq ?_
    refine wp_reg ?_
    refine st_assign hf rfl rfl (by decide) ?_
    clear hf; intro a ha hf; clear ha
    refine st_assign hf rfl rfl (by decide) ?_
    clear hf; intro a ha hf; clear ha
    refine st_nil hf ?_
    refine th_n ?_
    refine wp_ret ?_
    refine th_r ?_
    obtain rfl := Option.some.inj h
    have hp : Hp _ _ _ (ow) := Hp.sel (pre := [Res.obj 56 v1 [.int .i64 g0_Re, .int .i64 g0_Im]]) (tail := ow) (rs' := []) hp [] (by decide) (by simp) rfl
    exact ⟨rfl, ⟨hf.sub ⟨rfl, rfl, trivial⟩, hp⟩⟩
  replace h := ifF h hb
  refine wp_skip ?_
  refine th_n ?_
  refine wp_seq ?_
  refine wp_reg ?_
  refine st_assign hf rfl rfl (by decide) ?_
  clear hf; intro a ha hf; clear ha
  refine st_nil hf ?_
  refine th_n ?_
  refine wp_seq ?_
  refine wp_seq ?_
  refine wp_reg ?_
  refine st_move hf rfl rfl (by decide) ?_
  clear hf; intro a ha hf; clear ha
  refine st_move hf rfl rfl (by decide) ?_
  clear hf; intro a ha hf; clear ha
  refine st_nil hf ?_
  refine th_n ?_
  refine wp_block ?_
  obtain ⟨q13, hl, h⟩ := bnd h
  refine wp_loop_pure (f := (f_plane_Gauss_Class.s1 depth1)) (s := (g0_Re, g0_Im, (0 : Int), (0 : Int))) (fun s a w => Fr 36 a [(2, optr v1 0), (6, .int .u32 s.2.2.1), (20, .int .i64 depth1), (21, .int .i64 s.2.2.2)] ∧ Hp S w0 w (Res.obj 56 v1 [.int .i64 s.1, .int .i64 s.2.1] :: ow)) (fun q e a w => e = .exit 0 ∧ Fr 36 a [(6, .int .u32 q)] ∧ Hp S w0 w (ow)) ?_ hl ⟨hf.sub ⟨rfl, rfl, rfl, rfl, trivial⟩, hp⟩ ?_
  · clear hl hf hp
    intro s x a w h hI
    obtain ⟨g2c_0, g2c_1, class6, t21⟩ := s
    obtain ⟨hf, hp⟩ : Fr 36 a [(2, optr v1 0), (6, .int .u32 class6), (20, .int .i64 depth1), (21, .int .i64 t21)] ∧ Hp S w0 w (Res.obj 56 v1 [.int .i64 g2c_0, .int .i64 g2c_1] :: ow) := hI
    replace h : f_plane_Gauss_Class.s1c depth1 g2c_0 g2c_1 class6 t21 = some x := h
    unfold f_plane_Gauss_Class.s1c at h
    refine wp_seq ?_
    refine wp_reg ?_
    refine st_ilss hf (by decide) rfl rfl rfl ?_
    clear hf; intro a ha hf; clear ha
    refine st_nil hf ?_
    refine th_n ?_
    refine wp_seq ?_
    refine wp_if hf rfl (fun hb => ?_) (fun hb => ?_)
    · replace h := ifT h hb
      refine wp_skip ?_
      refine th_n ?_
      refine wp_seq ?_
      refine wp_block ?_
      refine wp_seq ?_
      refine wp_reg ?_
      refine st_move hf rfl rfl (by decide) ?_
      clear hf; intro a ha hf; clear ha
      refine st_assign hf rfl rfl (by decide) ?_
      clear hf; intro a ha hf; clear ha
      refine st_nil hf ?_
      refine th_n ?_
      refine wp_seq ?_
      refine wp_reg ?_
      refine st_assign hf rfl rfl (by decide) ?_
      clear hf; intro a ha hf; clear ha
      refine st_nil hf ?_
      refine th_n ?_
      refine wp_seq ?_
      refine wp_reg ?_
      refine st_ldOA (m := 2) (us := [.int .i64 g2c_0, .int .i64 g2c_1]) hf (by decide) (by kernel_rfl) rfl rfl (hp.ob (i := 0) rfl) rfl rfl ?_
      clear hf; intro a ha hf; clear ha
      obtain ⟨q10, hcall11, h⟩ := bnd h
      refine st_call hf (by decide) Try.func59 rfl rfl rfl rfl rfl (f_plane_Gauss_half_c hp _ _ hcall11) ?_
      rintro _ w ⟨rfl, hp0⟩
      clear hp; have hp := hp0; clear hp0
      replace hp : Hp _ _ _ (Res.obj 56 v1 [.int .i64 g2c_0, .int .i64 g2c_1] :: ow) := hp
      refine ⟨_, rfl, ?_⟩
      clear hf; intro a hf
      refine st_move hf rfl rfl (by decide) ?_
      clear hf; intro a ha hf; clear ha
      refine st_extract hf (by decide) rfl rfl rfl ?_
      clear hf; intro a ha hf; clear ha
      refine st_extract hf (by decide) rfl rfl rfl ?_
      clear hf; intro a ha hf; clear ha
      refine st_stO (us := [.int .i64 q10.1.1, .int .i64 q10.1.2]) hf hp (i := 0) rfl rfl rfl rfl rfl (by rfl) (by kernel_rfl) (Nat.le_of_ble_eq_true rfl) ?_
      clear hf; intro a w hf hp0; clear hp; have hp := hp0; clear hp0
      replace hp : Hp _ _ _ (Res.obj 56 v1 [.int .i64 q10.1.1, .int .i64 q10.1.2] :: ow) := hp
      refine st_assign hf rfl rfl (by decide) ?_
      clear hf; intro a ha hf; clear ha
      refine st_nil hf ?_
      refine th_n ?_
      refine wp_reg ?_
      refine st_move hf rfl rfl (by decide) ?_
      clear hf; intro a ha hf; clear ha
      refine st_move hf rfl rfl (by decide) ?_
      clear hf; intro a ha hf; clear ha
      refine st_move hf rfl rfl (by decide) ?_
      clear hf; intro a ha hf; clear ha
      obtain ⟨hc12, h⟩ := chk h
      refine st_ishl hf (by decide) rfl rfl rfl hc12 ?_
      clear hf; intro a ha hf; clear ha
      refine st_ior hf (by decide) rfl rfl rfl ?_
      clear hf; intro a ha hf; clear ha
      refine st_assign hf rfl rfl (by decide) ?_
      clear hf; intro a ha hf; clear ha
      refine st_nil hf ?_
      refine ib_n ?_
      refine th_n ?_
      refine wp_reg ?_
      refine st_iadd hf (by decide) rfl rfl rfl ?_
      clear hf; intro a ha hf; clear ha
      refine st_move hf rfl rfl (by decide) ?_
      clear hf; intro a ha hf; clear ha
      refine st_nil hf ?_
      obtain rfl := Option.some.inj h
      exact rnd_l ⟨hf.sub ⟨rfl, rfl, rfl, rfl, trivial⟩, hp⟩
    replace h := ifF h hb
    refine wp_exit ?_
    refine th_e ?_
    obtain rfl := Option.some.inj h
    have hp : Hp _ _ _ (ow) := Hp.sel (pre := [Res.obj 56 v1 [.int .i64 g2c_0, .int .i64 g2c_1]]) (tail := ow) (rs' := []) hp [] (by decide) (by simp) rfl
    exact rnd_r (by simp) ⟨rfl, hf.sub ⟨rfl, trivial⟩, hp⟩
  clear hl hf hp
  intro e a w hne hO
  obtain ⟨rfl, hf, hp⟩ := hO
  refine ib_same ?_
  refine th_n ?_
  refine wp_seq ?_
  refine wp_reg ?_
  refine st_move hf rfl rfl (by decide) ?_
  clear hf; intro a ha hf; clear ha
  refine st_assign hf rfl rfl (by decide) ?_
  clear hf; intro a ha hf; clear ha
  refine st_assign hf rfl rfl (by decide) ?_
  clear hf; intro a ha hf; clear ha
  refine st_nil hf ?_
  refine th_n ?_
  refine wp_ret ?_
  obtain rfl := Option.some.inj h
  exact ⟨rfl, ⟨hf.sub ⟨rfl, rfl, trivial⟩, hp⟩⟩

noncomputable def f_plane_Mul (ax0 : (Fl × Fl)) (bx1 : (Fl × Fl)) : Option (Fl × Fl) := (some ((fsub (fmul ax0.1 bx1.1) (fmul ax0.2 bx1.2)), (fadd (fmul ax0.1 bx1.2) (fmul ax0.2 bx1.1))))
theorem f_plane_Mul_c {S : Nat → Prop} {w0 w : World} {ow : List Res} (hp : Hp S w0 w ow) (bax0 cax0 : Nat) (ax0 : Fl × Fl) (hax0 : ax0.1.rep bax0) (kax0 : ax0.2.rep cax0) (bbx1 cbx1 : Nat) (bx1 : Fl × Fl) (hbx1 : bx1.1.rep bbx1) (kbx1 : bx1.2.rep cbx1) {r : (Fl × Fl)} (h : f_plane_Mul ax0 bx1 = some r) :
    Calls Try.prog 13 #[.complex .f64 bax0 cax0, .complex .f64 bbx1 cbx1] w (fun e w' => ∃ (b0 : Nat) (b1 : Nat), e = .returned (.complex .f64 b0 b1) ∧ Fl.rep b0 r.1 ∧ Fl.rep b1 r.2 ∧ Hp S w0 w' (ow)) := by
  unfold f_plane_Mul at h
  refine enter (n := 32) (args := [.complex .f64 bax0 cax0, .complex .f64 bbx1 cbx1]) Try.func13 rfl rfl (Nat.le_of_ble_eq_true rfl) fun a hf => ?_
  replace hf : Fr 32 a [(0, .complex .f64 bax0 cax0), (1, .complex .f64 bbx1 cbx1)] := hf
  refine wp_mono (Q := fun e a w => e = .ret ∧ ∃ (b0 : Nat) (b1 : Nat), Fr 32 a [(4, .complex .f64 b0 b1)] ∧ Fl.rep b0 r.1 ∧ Fl.rep b1 r.2 ∧ Hp S w0 w (ow)) ?_ ?_
  rotate_left
  · rintro e a w ⟨rfl, x0, x1, hf, y0, y1, hp⟩
    exact ret1 hf rfl rfl ⟨x0, x1, rfl, y0, y1, hp⟩
  refine wp_seq ?_
  refine wp_reg ?_
  refine st_assign hf rfl rfl (by decide) ?_
  clear hf; intro a ha hf; clear ha
  refine st_nil hf ?_
  refine th_n ?_
  refine wp_seq ?_
  refine wp_reg ?_
  refine st_move hf rfl rfl (by decide) ?_
  clear hf; intro a ha hf; clear ha
  refine st_real hf (by decide) rfl rfl ?_
  clear hf; intro a ha hf; clear ha
  refine st_move hf rfl rfl (by decide) ?_
  clear hf; intro a ha hf; clear ha
  refine st_real hf (by decide) rfl rfl ?_
  clear hf; intro a ha hf; clear ha
  refine st_farith (op := .mul) rfl hf (by decide) hp rfl rfl rfl (show Fl.rep bax0 ax0.1 from hax0) (show Fl.rep bbx1 bx1.1 from hbx1) ?_
  clear hf; intro a w bb1 y2 hf hp0; clear hp; have hp := hp0; clear hp0
  replace hp : Hp _ _ _ (ow) := hp
  refine st_move hf rfl rfl (by decide) ?_
  clear hf; intro a ha hf; clear ha
  refine st_imag hf (by decide) rfl rfl ?_
  clear hf; intro a ha hf; clear ha
  refine st_move hf rfl rfl (by decide) ?_
  clear hf; intro a ha hf; clear ha
  refine st_imag hf (by decide) rfl rfl ?_
  clear hf; intro a ha hf; clear ha
  refine st_farith (op := .mul) rfl hf (by decide) hp rfl rfl rfl (show Fl.rep cax0 ax0.2 from kax0) (show Fl.rep cbx1 bx1.2 from kbx1) ?_
  clear hf; intro a w bb3 y4 hf hp0; clear hp; have hp := hp0; clear hp0
  replace hp : Hp _ _ _ (ow) := hp
  refine st_farith (op := .sub) rfl hf (by decide) hp rfl rfl rfl (show Fl.rep bb1 (fmul ax0.1 bx1.1) from y2) (show Fl.rep bb3 (fmul ax0.2 bx1.2) from y4) ?_
  clear hf; intro a w bb5 y6 hf hp0; clear hp; have hp := hp0; clear hp0
  replace hp : Hp _ _ _ (ow) := hp
  refine st_assign hf rfl rfl (by decide) ?_
  clear hf; intro a ha hf; clear ha
  refine st_nil hf ?_
  refine th_n ?_
  refine wp_seq ?_
  refine wp_reg ?_
  refine st_move hf rfl rfl (by decide) ?_
  clear hf; intro a ha hf; clear ha
  refine st_real hf (by decide) rfl rfl ?_
  clear hf; intro a ha hf; clear ha
  refine st_move hf rfl rfl (by decide) ?_
  clear hf; intro a ha hf; clear ha
  refine st_imag hf (by decide) rfl rfl ?_
  clear hf; intro a ha hf; clear ha
  refine st_farith (op := .mul) rfl hf (by decide) hp rfl rfl rfl (show Fl.rep bax0 ax0.1 from hax0) (show Fl.rep cbx1 bx1.2 from kbx1) ?_
  clear hf; intro a w bb7 y8 hf hp0; clear hp; have hp := hp0; clear hp0
  replace hp : Hp _ _ _ (ow) := hp
  refine st_move hf rfl rfl (by decide) ?_
  clear hf; intro a ha hf; clear ha
  refine st_imag hf (by decide) rfl rfl ?_
  clear hf; intro a ha hf; clear ha
  refine st_move hf rfl rfl (by decide) ?_
  clear hf; intro a ha hf; clear ha
  refine st_real hf (by decide) rfl rfl ?_
  clear hf; intro a ha hf; clear ha
  refine st_farith (op := .mul) rfl hf (by decide) hp rfl rfl rfl (show Fl.rep cax0 ax0.2 from kax0) (show Fl.rep bbx1 bx1.1 from hbx1) ?_
  clear hf; intro a w bb9 y10 hf hp0; clear hp; have hp := hp0; clear hp0
  replace hp : Hp _ _ _ (ow) := hp
  refine st_farith (op := .add) rfl hf (by decide) hp rfl rfl rfl (show Fl.rep bb7 (fmul ax0.1 bx1.2) from y8) (show Fl.rep bb9 (fmul ax0.2 bx1.1) from y10) ?_
  clear hf; intro a w bb11 y12 hf hp0; clear hp; have hp := hp0; clear hp0
  replace hp : Hp _ _ _ (ow) := hp
  refine st_assign hf rfl rfl (by decide) ?_
  clear hf; intro a ha hf; clear ha
  refine st_nil hf ?_
  refine th_n ?_
  refine wp_seq ?_
  refine wp_reg ?_
  refine st_move hf rfl rfl (by decide) ?_
  clear hf; intro a ha hf; clear ha
  refine st_move hf rfl rfl (by decide) ?_
  clear hf; intro a ha hf; clear ha
  refine st_complex hf (by decide) rfl rfl rfl ?_
  clear hf; intro a ha hf; clear ha
  refine st_assign hf rfl rfl (by decide) ?_
  clear hf; intro a ha hf; clear ha
  refine st_nil hf ?_
  refine th_n ?_
  refine wp_ret ?_
  obtain rfl := Option.some.inj h
  exact ⟨rfl, ⟨_, _, hf.sub ⟨rfl, trivial⟩, y6, y12, hp⟩⟩

noncomputable def f_plane_Turn (zx0 : (Fl × Fl)) (quarters1 : Int) : Option (Fl × Fl) := (if ((iand .i64 quarters1 (3 : Int)) == (1 : Int)) = true then (some ((fneg zx0.2), zx0.1)) else (if ((iand .i64 quarters1 (3 : Int)) == (2 : Int)) = true then (some ((fneg zx0.1), (fneg zx0.2))) else (if ((iand .i64 quarters1 (3 : Int)) == (3 : Int)) = true then (some (zx0.2, (fneg zx0.1))) else (some zx0))))
theorem f_plane_Turn_c {S : Nat → Prop} {w0 w : World} {ow : List Res} (hp : Hp S w0 w ow) (bzx0 czx0 : Nat) (zx0 : Fl × Fl) (hzx0 : zx0.1.rep bzx0) (kzx0 : zx0.2.rep czx0) (quarters1 : Int) {r : (Fl × Fl)} (h : f_plane_Turn zx0 quarters1 = some r) :
    Calls Try.prog 15 #[.complex .f64 bzx0 czx0, .int .i64 quarters1] w (fun e w' => ∃ (b0 : Nat) (b1 : Nat), e = .returned (.complex .f64 b0 b1) ∧ Fl.rep b0 r.1 ∧ Fl.rep b1 r.2 ∧ Hp S w0 w' (ow)) := by
  unfold f_plane_Turn at h
  refine enter (n := 33) (args := [.complex .f64 bzx0 czx0, .int .i64 quarters1]) Try.func15 rfl rfl (Nat.le_of_ble_eq_true rfl) fun a hf => ?_
  replace hf : Fr 33 a [(0, .complex .f64 bzx0 czx0), (1, .int .i64 quarters1)] := hf
  refine wp_mono (Q := fun e a w => e = .ret ∧ ∃ (b0 : Nat) (b1 : Nat), Fr 33 a [(4, .complex .f64 b0 b1)] ∧ Fl.rep b0 r.1 ∧ Fl.rep b1 r.2 ∧ Hp S w0 w (ow)) ?_ ?_
  rotate_left
  · rintro e a w ⟨rfl, x0, x1, hf, y0, y1, hp⟩
    exact ret1 hf rfl rfl ⟨x0, x1, rfl, y0, y1, hp⟩
  refine wp_seq ?_
  refine wp_reg ?_
  refine st_assign hf rfl rfl (by decide) ?_
  clear hf; intro a ha hf; clear ha
  refine st_nil hf ?_
  refine th_n ?_
  refine wp_seq ?_
  refine wp_seq ?_
  refine wp_reg ?_
  refine st_move hf rfl rfl (by decide) ?_
  clear hf; intro a ha hf; clear ha
  refine st_iand hf (by decide) rfl rfl rfl ?_
  clear hf; intro a ha hf; clear ha
  refine st_nil hf ?_
  refine th_n ?_
  refine wp_block ?_
  refine wp_seq ?_
  refine wp_reg ?_
  refine st_ieql hf (by decide) rfl rfl rfl ?_
  clear hf; intro a ha hf; clear ha
  refine st_assign hf rfl rfl (by decide) ?_
  clear hf; intro a ha hf; clear ha
  refine st_nil hf ?_
  refine th_n ?_
  refine wp_if hf rfl (fun hb => ?_) (fun hb => ?_)
  · replace h := ifT h hb
    refine wp_seq ?_
    refine wp_reg ?_
    refine st_move hf rfl rfl (by decide) ?_
    clear hf; intro a ha hf; clear ha
    refine st_imag hf (by decide) rfl rfl ?_
    clear hf; intro a ha hf; clear ha
    refine st_fneg hf (by decide) rfl rfl ?_
    clear hf; intro a ha hf; clear ha
    refine st_move hf rfl rfl (by decide) ?_
    clear hf; intro a ha hf; clear ha
    refine st_real hf (by decide) rfl rfl ?_
    clear hf; intro a ha hf; clear ha
    refine st_complex hf (by decide) rfl rfl rfl ?_
    clear hf; intro a ha hf; clear ha
    refine st_assign hf rfl rfl (by decide) ?_
    clear hf; intro a ha hf; clear ha
    refine st_nil hf ?_
    refine th_n ?_
    refine wp_ret ?_
    refine ib_r ?_
    refine th_r ?_
    obtain rfl := Option.some.inj h
    exact ⟨rfl, ⟨_, _, hf.sub ⟨rfl, trivial⟩, (fneg_rep kzx0), hzx0, hp⟩⟩
  replace h := ifF h hb
  refine wp_seq ?_
  refine wp_reg ?_
  refine st_ieql hf (by decide) rfl rfl rfl ?_
  clear hf; intro a ha hf; clear ha
  refine st_assign hf rfl rfl (by decide) ?_
  clear hf; intro a ha hf; clear ha
  refine st_nil hf ?_
  refine th_n ?_
  refine wp_if hf rfl (fun hb => ?_) (fun hb => ?_)
  · replace h := ifT h hb
    refine wp_seq ?_
    refine wp_reg ?_
    refine st_move hf rfl rfl (by decide) ?_
    clear hf; intro a ha hf; clear ha
    refine st_real hf (by decide) rfl rfl ?_
    clear hf; intro a ha hf; clear ha
    refine st_fneg hf (by decide) rfl rfl ?_
    clear hf; intro a ha hf; clear ha
    refine st_move hf rfl rfl (by decide) ?_
    clear hf; intro a ha hf; clear ha
    refine st_imag hf (by decide) rfl rfl ?_
    clear hf; intro a ha hf; clear ha
    refine st_fneg hf (by decide) rfl rfl ?_
    clear hf; intro a ha hf; clear ha
    refine st_complex hf (by decide) rfl rfl rfl ?_
    clear hf; intro a ha hf; clear ha
    refine st_assign hf rfl rfl (by decide) ?_
    clear hf; intro a ha hf; clear ha
    refine st_nil hf ?_
    refine th_n ?_
    refine wp_ret ?_
    refine ib_r ?_
    refine th_r ?_
    obtain rfl := Option.some.inj h
    exact ⟨rfl, ⟨_, _, hf.sub ⟨rfl, trivial⟩, (fneg_rep hzx0), (fneg_rep kzx0), hp⟩⟩
  replace h := ifF h hb
  refine wp_seq ?_
  refine wp_reg ?_
  refine st_ieql hf (by decide) rfl rfl rfl ?_
  clear hf; intro a ha hf; clear ha
  refine st_assign hf rfl rfl (by decide) ?_
  clear hf; intro a ha hf; clear ha
  refine st_nil hf ?_
  refine th_n ?_
  refine wp_if hf rfl (fun hb => ?_) (fun hb => ?_)
  · replace h := ifT h hb
    refine wp_seq ?_
    refine wp_reg ?_
    refine st_move hf rfl rfl (by decide) ?_
    clear hf; intro a ha hf; clear ha
    refine st_imag hf (by decide) rfl rfl ?_
    clear hf; intro a ha hf; clear ha
    refine st_move hf rfl rfl (by decide) ?_
    clear hf; intro a ha hf; clear ha
    refine st_real hf (by decide) rfl rfl ?_
    clear hf; intro a ha hf; clear ha
    refine st_fneg hf (by decide) rfl rfl ?_
    clear hf; intro a ha hf; clear ha
    refine st_complex hf (by decide) rfl rfl rfl ?_
    clear hf; intro a ha hf; clear ha
    refine st_assign hf rfl rfl (by decide) ?_
    clear hf; intro a ha hf; clear ha
    refine st_nil hf ?_
    refine th_n ?_
    refine wp_ret ?_
    refine ib_r ?_
    refine th_r ?_
    obtain rfl := Option.some.inj h
    exact ⟨rfl, ⟨_, _, hf.sub ⟨rfl, trivial⟩, kzx0, (fneg_rep hzx0), hp⟩⟩
  replace h := ifF h hb
  refine wp_skip ?_
  refine ib_n ?_
  refine th_n ?_
  refine wp_seq ?_
  refine wp_reg ?_
  refine st_move hf rfl rfl (by decide) ?_
  clear hf; intro a ha hf; clear ha
  refine st_assign hf rfl rfl (by decide) ?_
  clear hf; intro a ha hf; clear ha
  refine st_nil hf ?_
  refine th_n ?_
  refine wp_ret ?_
  obtain rfl := Option.some.inj h
  exact ⟨rfl, ⟨_, _, hf.sub ⟨rfl, trivial⟩, hzx0, kzx0, hp⟩⟩

noncomputable def f_foghornlaw03_awake  : Option Bool := ((f_plane_Gauss_Class (3 : Int) (2 : Int) (3 : Int)).bind fun q1 => ((f_plane_Mul (Fl.bits 4607182418800017408, Fl.bits 4611686018427387904) (Fl.bits 4613937818241073152, Fl.bits 13830554455654793216)).bind fun q3 => ((if (ceq q3 (Fl.bits 4617315517961601024, Fl.bits 4617315517961601024)) = true then ((f_plane_Turn (Fl.bits 4607182418800017408, Fl.bits 4611686018427387904) (1 : Int)).bind fun q12 => (some (ceq q12 (Fl.bits 13835058055282163712, Fl.bits 4607182418800017408)))) else (some false)).bind fun z11 => (some ((z11 && (q1.2 == (0 : Int))) && (q1.1 == (1 : Int)))))))
theorem f_foghornlaw03_awake_c {S : Nat → Prop} {w0 w : World} {ow : List Res} (hp : Hp S w0 w ow) {r : Bool} (h : f_foghornlaw03_awake = some r) :
    Calls Try.prog 24 #[] w (fun e w' => e = .returned (.bool r) ∧ Hp S w0 w' (ow)) := by
  unfold f_foghornlaw03_awake at h
  refine enter (n := 22) (args := []) Try.func24 rfl rfl (Nat.le_of_ble_eq_true rfl) fun a hf => ?_
  replace hf : Fr 22 a [] := hf
  refine wp_mono (Q := fun e a w => e = .ret ∧ Fr 22 a [(0, .bool r)] ∧ Hp S w0 w (ow)) ?_ ?_
  rotate_left
  · rintro e a w ⟨rfl, hf, hp⟩
    exact ret1 hf rfl rfl ⟨rfl, hp⟩
  refine wp_seq ?_
  refine wp_reg ?_
  refine st_assign hf rfl rfl (by decide) ?_
  clear hf; intro a ha hf; clear ha
  refine st_nil hf ?_
  refine th_n ?_
  refine wp_seq ?_
  refine wp_reg ?_
  refine st_buildA (vals := [(0, .int .i64 (3 : Int)), (1, .int .i64 (2 : Int))]) (cells := [.int .i64 (3 : Int), .int .i64 (2 : Int)]) hf (by decide) rfl (by simp [hf.ev (x := (Operand.const (.int .i64 (3 : Int)))) rfl, hf.ev (x := (Operand.const (.int .i64 (2 : Int)))) rfl]) (fun w => by kernel_rfl) ?_
  clear hf; intro a ha hf; clear ha
  obtain ⟨q1, hcall2, h⟩ := bnd h
  refine st_call hf (by decide) Try.func36 rfl rfl rfl rfl rfl (f_plane_Gauss_Class_c hp _ _ _ hcall2) ?_
  rintro _ w ⟨rfl, hp0⟩
  clear hp; have hp := hp0; clear hp0
  replace hp : Hp _ _ _ (ow) := hp
  refine ⟨_, rfl, ?_⟩
  clear hf; intro a hf
  refine st_move hf rfl rfl (by decide) ?_
  clear hf; intro a ha hf; clear ha
  refine st_extract hf (by decide) rfl rfl rfl ?_
  clear hf; intro a ha hf; clear ha
  refine st_extract hf (by decide) rfl rfl rfl ?_
  clear hf; intro a ha hf; clear ha
  refine st_assign hf rfl rfl (by decide) ?_
  clear hf; intro a ha hf; clear ha
  refine st_assign hf rfl rfl (by decide) ?_
  clear hf; intro a ha hf; clear ha
  refine st_nil hf ?_
  refine th_n ?_
  refine wp_seq ?_
  refine wp_reg ?_
  obtain ⟨q3, hcall4, h⟩ := bnd h
  refine st_call hf (by decide) Try.func13 rfl rfl rfl rfl rfl (f_plane_Mul_c hp _ _ _ (show Fl.rep 4607182418800017408 ((Fl.bits 4607182418800017408, Fl.bits 4611686018427387904)).1 from rfl) (show Fl.rep 4611686018427387904 ((Fl.bits 4607182418800017408, Fl.bits 4611686018427387904)).2 from rfl) _ _ _ (show Fl.rep 4613937818241073152 ((Fl.bits 4613937818241073152, Fl.bits 13830554455654793216)).1 from rfl) (show Fl.rep 13830554455654793216 ((Fl.bits 4613937818241073152, Fl.bits 13830554455654793216)).2 from rfl) hcall4) ?_
  rintro _ w ⟨v5, v6, rfl, y7, y8, hp0⟩
  clear hp; have hp := hp0; clear hp0
  replace hp : Hp _ _ _ (ow) := hp
  refine ⟨_, rfl, ?_⟩
  clear hf; intro a hf
  refine st_ccmp (r_ceq (x := q3) (y := (Fl.bits 4617315517961601024, Fl.bits 4617315517961601024)) y7 y8 rfl rfl) hf (by decide) rfl rfl rfl ?_
  clear hf; intro a ha hf; clear ha
  refine st_move hf rfl rfl (by decide) ?_
  clear hf; intro a ha hf; clear ha
  obtain ⟨z11, hz9, h⟩ := bnd h
  refine wpList_cut 3 (fun a w => Fr 22 a [(1, .int .u32 q1.1), (2, .int .i64 q1.2), (13, .bool z11)] ∧ Hp S w0 w (ow)) ?_ ?_
  · rcases Bool.eq_false_or_eq_true (ceq q3 (Fl.bits 4617315517961601024, Fl.bits 4617315517961601024)) with hb10 | hb10
    · skip
      replace hz9 := ifT hz9 hb10
      obtain ⟨q12, hcall13, hz9⟩ := bnd hz9
      refine st_call hf (by decide) Try.func15 rfl rfl (wantY hf rfl rfl hb10) rfl rfl (f_plane_Turn_c hp _ _ _ (show Fl.rep 4607182418800017408 ((Fl.bits 4607182418800017408, Fl.bits 4611686018427387904)).1 from rfl) (show Fl.rep 4611686018427387904 ((Fl.bits 4607182418800017408, Fl.bits 4611686018427387904)).2 from rfl) _ hcall13) ?_
      rintro _ w ⟨v14, v15, rfl, y16, y17, hp0⟩
      clear hp; have hp := hp0; clear hp0
      replace hp : Hp _ _ _ (ow) := hp
      refine ⟨_, rfl, ?_⟩
      clear hf; intro a hf
      refine st_ccmp (r_ceq (x := q12) (y := (Fl.bits 13835058055282163712, Fl.bits 4607182418800017408)) y16 y17 rfl rfl) hf (by decide) (wantY hf rfl rfl hb10) rfl rfl ?_
      clear hf; intro a ha hf; clear ha
      obtain rfl := Option.some.inj hz9
      refine st_pick (v := .bool (ceq q12 (Fl.bits 13835058055282163712, Fl.bits 4607182418800017408))) hf rfl rfl (fun hb' => ?_) (fun hb' => ?_) (by decide) ?_
      · rfl
      · exact absurd (hb10.symm.trans hb') (by decide)
      clear hf; intro a ha hf; clear ha
      refine st_nil hf (th_n ?_)
      exact ⟨hf.sub ⟨rfl, rfl, rfl, trivial⟩, hp⟩
    replace hz9 := ifF hz9 hb10
    refine st_skip hf (wantN hf rfl rfl hb10) rfl (by decide) ?_ rfl
    clear hf; intro a hf
    refine st_skip hf (wantN hf rfl rfl hb10) rfl (by decide) ?_ rfl
    clear hf; intro a hf
    obtain rfl := Option.some.inj hz9
    refine st_pick (v := .bool false) hf rfl rfl (fun hb' => ?_) (fun hb' => ?_) (by decide) ?_
    · exact absurd (hb10.symm.trans hb') (by decide)
    · rfl
    clear hf; intro a ha hf; clear ha
    refine st_nil hf (th_n ?_)
    exact ⟨hf.sub ⟨rfl, rfl, rfl, trivial⟩, hp⟩
  rintro a w ⟨hf, hp⟩
  refine st_move hf rfl rfl (by decide) ?_
  clear hf; intro a ha hf; clear ha
  refine wpList_cut 3 (fun a w => Fr 22 a [(1, .int .u32 q1.1), (17, .bool (z11 && (q1.2 == (0 : Int))))] ∧ Hp S w0 w (ow)) ?_ ?_
  · rcases Bool.eq_false_or_eq_true z11 with hb19 | hb19
    · skip
      refine st_move hf (wantY hf rfl rfl hb19) rfl (by decide) ?_
      clear hf; intro a ha hf; clear ha
      refine st_ieql hf (by decide) (wantY hf rfl rfl hb19) rfl rfl ?_
      clear hf; intro a ha hf; clear ha
      refine st_pick (v := .bool (q1.2 == (0 : Int))) hf rfl rfl (fun hb' => ?_) (fun hb' => ?_) (by decide) ?_
      · rfl
      · exact absurd (hb19.symm.trans hb') (by decide)
      clear hf; intro a ha hf; clear ha
      refine st_nil hf (th_n ?_)
      exact ⟨hf.sub ⟨rfl, (by rw [hb19]; rfl), trivial⟩, hp⟩
    refine st_skip hf (wantN hf rfl rfl hb19) rfl (by decide) ?_ rfl
    clear hf; intro a hf
    refine st_skip hf (wantN hf rfl rfl hb19) rfl (by decide) ?_ rfl
    clear hf; intro a hf
    refine st_pick (v := .bool false) hf rfl rfl (fun hb' => ?_) (fun hb' => ?_) (by decide) ?_
    · exact absurd (hb19.symm.trans hb') (by decide)
    · rfl
    clear hf; intro a ha hf; clear ha
    refine st_nil hf (th_n ?_)
    exact ⟨hf.sub ⟨rfl, (by rw [hb19]; rfl), trivial⟩, hp⟩
  rintro a w ⟨hf, hp⟩
  refine st_move hf rfl rfl (by decide) ?_
  clear hf; intro a ha hf; clear ha
  refine wpList_cut 3 (fun a w => Fr 22 a [(21, .bool ((z11 && (q1.2 == (0 : Int))) && (q1.1 == (1 : Int))))] ∧ Hp S w0 w (ow)) ?_ ?_
  · rcases Bool.eq_false_or_eq_true (z11 && (q1.2 == (0 : Int))) with hb21 | hb21
    · skip
      refine st_move hf (wantY hf rfl rfl hb21) rfl (by decide) ?_
      clear hf; intro a ha hf; clear ha
      refine st_ieql hf (by decide) (wantY hf rfl rfl hb21) rfl rfl ?_
      clear hf; intro a ha hf; clear ha
      refine st_pick (v := .bool (q1.1 == (1 : Int))) hf rfl rfl (fun hb' => ?_) (fun hb' => ?_) (by decide) ?_
      · rfl
      · exact absurd (hb21.symm.trans hb') (by decide)
      clear hf; intro a ha hf; clear ha
      refine st_nil hf (th_n ?_)
      exact ⟨hf.sub ⟨(by rw [hb21]; rfl), trivial⟩, hp⟩
    refine st_skip hf (wantN hf rfl rfl hb21) rfl (by decide) ?_ rfl
    clear hf; intro a hf
    refine st_skip hf (wantN hf rfl rfl hb21) rfl (by decide) ?_ rfl
    clear hf; intro a hf
    refine st_pick (v := .bool false) hf rfl rfl (fun hb' => ?_) (fun hb' => ?_) (by decide) ?_
    · exact absurd (hb21.symm.trans hb') (by decide)
    · rfl
    clear hf; intro a ha hf; clear ha
    refine st_nil hf (th_n ?_)
    exact ⟨hf.sub ⟨(by rw [hb21]; rfl), trivial⟩, hp⟩
  rintro a w ⟨hf, hp⟩
  refine st_assign hf rfl rfl (by decide) ?_
  clear hf; intro a ha hf; clear ha
  refine st_nil hf ?_
  refine th_n ?_
  refine wp_ret ?_
  obtain rfl := Option.some.inj h
  exact ⟨rfl, ⟨hf.sub ⟨rfl, trivial⟩, hp⟩⟩

noncomputable def f_plane_Filter.s2c (hx0 : (List (Fl × Fl))) (row1 : (List (Fl × Fl))) (t27 : Int) (out6 : (List (Fl × Fl))) (t35 : Int) : Option (((List (Fl × Fl)) × Int) ⊕ (List (Fl × Fl))) := (if (decide (t35 < (imin (hx0.length : Int) (IntKind.i64.wrap (t27 + (1 : Int)))))) = true then (if 0 ≤ t27 ∧ t27 < (out6.length : Int) then (if 0 ≤ t35 ∧ t35 < (hx0.length : Int) then (if 0 ≤ (IntKind.i64.wrap (t27 - t35)) ∧ (IntKind.i64.wrap (t27 - t35)) < (row1.length : Int) then ((f_plane_Mul (gt hx0 t35) (gt row1 (IntKind.i64.wrap (t27 - t35)))).bind fun q43 => (if 0 ≤ t27 ∧ t27 < (out6.length : Int) then (some (Sum.inl ((out6.set (t27).toNat (cadd (gt out6 t27) q43)), (IntKind.i64.wrap (t35 + (1 : Int)))))) else none)) else none) else none) else none) else (some (Sum.inr out6)))
noncomputable def f_plane_Filter.s2 (hx0 : (List (Fl × Fl))) (row1 : (List (Fl × Fl))) (t27 : Int) (s : ((List (Fl × Fl)) × Int)) : Option (((List (Fl × Fl)) × Int) ⊕ (List (Fl × Fl))) := f_plane_Filter.s2c hx0 row1 t27 s.1 s.2
noncomputable def f_plane_Filter.s1c (hx0 : (List (Fl × Fl))) (row1 : (List (Fl × Fl))) (out6 : (List (Fl × Fl))) (t27 : Int) : Option (((List (Fl × Fl)) × Int) ⊕ (List (Fl × Fl))) := (if (decide (t27 < (row1.length : Int))) = true then ((loop (f_plane_Filter.s2 hx0 row1 t27) (out6, (0 : Int))).bind (fun q54 => (some (Sum.inl (q54, (IntKind.i64.wrap (t27 + (1 : Int)))))))) else (some (Sum.inr out6)))
noncomputable def f_plane_Filter.s1 (hx0 : (List (Fl × Fl))) (row1 : (List (Fl × Fl))) (s : ((List (Fl × Fl)) × Int)) : Option (((List (Fl × Fl)) × Int) ⊕ (List (Fl × Fl))) := f_plane_Filter.s1c hx0 row1 s.1 s.2
noncomputable def f_plane_Filter (hx0 : (List (Fl × Fl))) (row1 : (List (Fl × Fl))) : Option ((List (Fl × Fl)) × Int) := (if ((((hx0.length : Int) == (0 : Int)) || (decide ((64 : Int) < (hx0.length : Int)))) || (decide ((65536 : Int) < (row1.length : Int)))) = true then (some ([], (1 : Int))) else (if 0 ≤ (row1.length : Int) ∧ (row1.length : Int) ≤ (row1.length : Int) ∧ (row1.length : Int) * 16 ≤ 281474976710656 then ((loop (f_plane_Filter.s1 hx0 row1) ((List.replicate ((row1.length : Int)).toNat (Fl.bits 0, Fl.bits 0)), (0 : Int))).bind (fun q55 => (some (q55, (0 : Int))))) else none))
theorem f_plane_Filter_c {S : Nat → Prop} {w0 w : World} {ow : List Res} (hp : Hp S w0 w ow) (vhx0 : Value) (hx0 : (List (Fl × Fl))) (hhx0 : RdS Ek.c128 S w0 vhx0 hx0) (vrow1 : Value) (row1 : (List (Fl × Fl))) (hrow1 : RdS Ek.c128 S w0 vrow1 row1) {r : ((List (Fl × Fl)) × Int)} (h : f_plane_Filter hx0 row1 = some r) :
    Calls Try.prog 28 #[vhx0, vrow1] w (fun e w' => ∃ (u0 : Value), e = .returned (.tuple #[u0, .int .i64 r.2]) ∧ Hp S w0 w' (Res.sl Ek.c128 24 u0 r.1 :: ow)) := by
  unfold f_plane_Filter at h
  refine enter (n := 58) (args := [vhx0, vrow1]) Try.func28 rfl rfl (Nat.le_of_ble_eq_true rfl) fun a hf => ?_
  replace hf : Fr 58 a [(0, vhx0), (1, vrow1)] := hf
  refine wp_mono (Q := fun e a w => e = .ret ∧ ∃ (u0 : Value), Fr 58 a [(4, u0), (5, .int .i64 r.2)] ∧ Hp S w0 w (Res.sl Ek.c128 24 u0 r.1 :: ow)) ?_ ?_
  rotate_left
  · rintro e a w ⟨rfl, x0, hf, hp⟩
    exact ret2 hf rfl rfl rfl ⟨x0, rfl, hp⟩
  refine wp_seq ?_
  refine wp_reg ?_
  refine st_assign hf rfl rfl (by decide) ?_
  clear hf; intro a ha hf; clear ha
  refine st_assign hf rfl rfl (by decide) ?_
  clear hf; intro a ha hf; clear ha
  refine st_nil hf ?_
  refine th_n ?_
  refine wp_seq ?_
  refine wp_seq ?_
  refine wp_reg ?_
  refine st_move hf rfl rfl (by decide) ?_
  clear hf; intro a ha hf; clear ha
  refine st_len (E := Ek.c128) hf (by decide) Try.underlying41 rfl rfl (hhx0.sl hp) ?_
  clear hf; intro a ha hf; clear ha
  refine st_ieql hf (by decide) rfl rfl rfl ?_
  clear hf; intro a ha hf; clear ha
  refine st_move hf rfl rfl (by decide) ?_
  clear hf; intro a ha hf; clear ha
  refine wpList_cut 4 (fun a w => Fr 58 a [(0, vhx0), (1, vrow1), (16, .bool (((hx0.length : Int) == (0 : Int)) || (decide ((64 : Int) < (hx0.length : Int)))))] ∧ Hp S w0 w (ow)) ?_ ?_
  · rcases Bool.eq_false_or_eq_true ((hx0.length : Int) == (0 : Int)) with hb2 | hb2
    · skip
      refine st_skip hf (wantN hf rfl rfl hb2) rfl (by decide) ?_ rfl
      clear hf; intro a hf
      refine st_skip hf (wantN hf rfl rfl hb2) rfl (by decide) ?_ rfl
      clear hf; intro a hf
      refine st_skip hf (wantN hf rfl rfl hb2) rfl (by decide) ?_ rfl
      clear hf; intro a hf
      refine st_pick (v := .bool true) hf rfl rfl (fun hb' => ?_) (fun hb' => ?_) (by decide) ?_
      · rfl
      · exact absurd (hb2.symm.trans hb') (by decide)
      clear hf; intro a ha hf; clear ha
      refine st_nil hf (th_n ?_)
      exact ⟨hf.sub ⟨rfl, rfl, (by rw [hb2]; rfl), trivial⟩, hp⟩
    refine st_move hf (wantY hf rfl rfl hb2) rfl (by decide) ?_
    clear hf; intro a ha hf; clear ha
    refine st_len (E := Ek.c128) hf (by decide) Try.underlying41 (wantY hf rfl rfl hb2) rfl (hhx0.sl hp) ?_
    clear hf; intro a ha hf; clear ha
    refine st_igtr hf (by decide) (wantY hf rfl rfl hb2) rfl rfl ?_
    clear hf; intro a ha hf; clear ha
    refine st_pick (v := .bool (decide ((64 : Int) < (hx0.length : Int)))) hf rfl rfl (fun hb' => ?_) (fun hb' => ?_) (by decide) ?_
    · exact absurd (hb2.symm.trans hb') (by decide)
    · rfl
    clear hf; intro a ha hf; clear ha
    refine st_nil hf (th_n ?_)
    exact ⟨hf.sub ⟨rfl, rfl, (by rw [hb2]; rfl), trivial⟩, hp⟩
  rintro a w ⟨hf, hp⟩
  refine st_move hf rfl rfl (by decide) ?_
  clear hf; intro a ha hf; clear ha
  refine wpList_cut 4 (fun a w => Fr 58 a [(0, vhx0), (1, vrow1), (21, .bool ((((hx0.length : Int) == (0 : Int)) || (decide ((64 : Int) < (hx0.length : Int)))) || (decide ((65536 : Int) < (row1.length : Int)))))] ∧ Hp S w0 w (ow)) ?_ ?_
  · rcases Bool.eq_false_or_eq_true (((hx0.length : Int) == (0 : Int)) || (decide ((64 : Int) < (hx0.length : Int)))) with hb4 | hb4
    · skip
      refine st_skip hf (wantN hf rfl rfl hb4) rfl (by decide) ?_ rfl
      clear hf; intro a hf
      refine st_skip hf (wantN hf rfl rfl hb4) rfl (by decide) ?_ rfl
      clear hf; intro a hf
      refine st_skip hf (wantN hf rfl rfl hb4) rfl (by decide) ?_ rfl
      clear hf; intro a hf
      refine st_pick (v := .bool true) hf rfl rfl (fun hb' => ?_) (fun hb' => ?_) (by decide) ?_
      · rfl
      · exact absurd (hb4.symm.trans hb') (by decide)
      clear hf; intro a ha hf; clear ha
      refine st_nil hf (th_n ?_)
      exact ⟨hf.sub ⟨rfl, rfl, (by rw [hb4]; rfl), trivial⟩, hp⟩
    refine st_move hf (wantY hf rfl rfl hb4) rfl (by decide) ?_
    clear hf; intro a ha hf; clear ha
    refine st_len (E := Ek.c128) hf (by decide) Try.underlying41 (wantY hf rfl rfl hb4) rfl (hrow1.sl hp) ?_
    clear hf; intro a ha hf; clear ha
    refine st_igtr hf (by decide) (wantY hf rfl rfl hb4) rfl rfl ?_
    clear hf; intro a ha hf; clear ha
    refine st_pick (v := .bool (decide ((65536 : Int) < (row1.length : Int)))) hf rfl rfl (fun hb' => ?_) (fun hb' => ?_) (by decide) ?_
    · exact absurd (hb4.symm.trans hb') (by decide)
    · rfl
    clear hf; intro a ha hf; clear ha
    refine st_nil hf (th_n ?_)
    exact ⟨hf.sub ⟨rfl, rfl, (by rw [hb4]; rfl), trivial⟩, hp⟩
  rintro a w ⟨hf, hp⟩
  refine st_nil hf ?_
  refine th_n ?_
  refine wp_if hf rfl (fun hb => ?_) (fun hb => ?_)
  · replace h := ifT h hb
    refine wp_seq ?_
    refine wp_reg ?_
    refine st_assign hf rfl rfl (by decide) ?_
    clear hf; intro a ha hf; clear ha
    refine st_assign hf rfl rfl (by decide) ?_
    clear hf; intro a ha hf; clear ha
    refine st_nil hf ?_
    refine th_n ?_
    refine wp_ret ?_
    refine th_r ?_
    obtain rfl := Option.some.inj h
    have hp := hp.nil Ek.c128 24
    exact ⟨rfl, ⟨_, hf.sub ⟨rfl, rfl, trivial⟩, hp⟩⟩
  replace h := ifF h hb
  refine wp_skip ?_
  refine th_n ?_
  refine wp_seq ?_
  refine wp_reg ?_
  refine st_move hf rfl rfl (by decide) ?_
  clear hf; intro a ha hf; clear ha
  refine st_len (E := Ek.c128) hf (by decide) Try.underlying41 rfl rfl (hrow1.sl hp) ?_
  clear hf; intro a ha hf; clear ha
  obtain ⟨hc6, h⟩ := chk h
  refine st_make (E := Ek.c128) hf (by decide) elt24 Try.underlying41 (by decide) hp rfl rfl rfl hc6.1 hc6.2.1 hc6.2.2 ?_
  clear hf; intro a w v7 hf hp0; clear hp; have hp := hp0; clear hp0
  replace hp : Hp _ _ _ (Res.sl Ek.c128 24 v7 (List.replicate ((row1.length : Int)).toNat (Fl.bits 0, Fl.bits 0)) :: ow) := hp
  refine st_assign hf rfl rfl (by decide) ?_
  clear hf; intro a ha hf; clear ha
  refine st_nil hf ?_
  refine th_n ?_
  refine wp_seq ?_
  refine wp_seq ?_
  refine wp_reg ?_
  refine st_move hf rfl rfl (by decide) ?_
  clear hf; intro a ha hf; clear ha
  refine st_len (E := Ek.c128) hf (by decide) Try.underlying41 rfl rfl (hrow1.sl hp) ?_
  clear hf; intro a ha hf; clear ha
  refine st_move hf rfl rfl (by decide) ?_
  clear hf; intro a ha hf; clear ha
  refine st_nil hf ?_
  refine th_n ?_
  refine wp_block ?_
  obtain ⟨q55, hl, h⟩ := bnd h
  refine wp_loop_pure (f := (f_plane_Filter.s1 hx0 row1)) (s := ((List.replicate ((row1.length : Int)).toNat (Fl.bits 0, Fl.bits 0)), (0 : Int))) (fun s a w => ∃ (v9 : Value), Fr 58 a [(0, vhx0), (1, vrow1), (6, v9), (26, .int .i64 (row1.length : Int)), (27, .int .i64 s.2)] ∧ Hp S w0 w (Res.sl Ek.c128 24 v9 s.1 :: ow)) (fun q e a w => e = .exit 0 ∧ ∃ (v11 : Value), Fr 58 a [(6, v11)] ∧ Hp S w0 w (Res.sl Ek.c128 24 v11 q :: ow)) ?_ hl ⟨_, hf.sub ⟨rfl, rfl, rfl, rfl, rfl, trivial⟩, hp⟩ ?_
  · clear hl hf hp
    intro s x a w h hI
    obtain ⟨out6, t27⟩ := s
    obtain ⟨v9, hf, hp⟩ : ∃ (v9 : Value), Fr 58 a [(0, vhx0), (1, vrow1), (6, v9), (26, .int .i64 (row1.length : Int)), (27, .int .i64 t27)] ∧ Hp S w0 w (Res.sl Ek.c128 24 v9 out6 :: ow) := hI
    replace h : f_plane_Filter.s1c hx0 row1 out6 t27 = some x := h
    unfold f_plane_Filter.s1c at h
    refine wp_seq ?_
    refine wp_reg ?_
    refine st_ilss hf (by decide) rfl rfl rfl ?_
    clear hf; intro a ha hf; clear ha
    refine st_nil hf ?_
    refine th_n ?_
    refine wp_seq ?_
    refine wp_if hf rfl (fun hb => ?_) (fun hb => ?_)
    · replace h := ifT h hb
      refine wp_skip ?_
      refine th_n ?_
      refine wp_seq ?_
      refine wp_block ?_
      refine wp_seq ?_
      refine wp_reg ?_
      refine st_move hf rfl rfl (by decide) ?_
      clear hf; intro a ha hf; clear ha
      refine st_assign hf rfl rfl (by decide) ?_
      clear hf; intro a ha hf; clear ha
      refine st_nil hf ?_
      refine th_n ?_
      refine wp_seq ?_
      refine wp_reg ?_
      refine st_move hf rfl rfl (by decide) ?_
      clear hf; intro a ha hf; clear ha
      refine st_len (E := Ek.c128) hf (by decide) Try.underlying41 rfl rfl (hhx0.sl hp) ?_
      clear hf; intro a ha hf; clear ha
      refine st_move hf rfl rfl (by decide) ?_
      clear hf; intro a ha hf; clear ha
      refine st_iadd hf (by decide) rfl rfl rfl ?_
      clear hf; intro a ha hf; clear ha
      refine st_imin hf (by decide) rfl rfl rfl ?_
      clear hf; intro a ha hf; clear ha
      refine st_move hf rfl rfl (by decide) ?_
      clear hf; intro a ha hf; clear ha
      refine st_nil hf ?_
      refine th_n ?_
      refine wp_block ?_
      obtain ⟨q54, hl, h⟩ := bnd h
      refine wp_loop_pure (f := (f_plane_Filter.s2 hx0 row1 t27)) (s := (out6, (0 : Int))) (fun s a w => ∃ (v13 : Value), Fr 58 a [(0, vhx0), (1, vrow1), (6, v13), (7, .int .i64 t27), (26, .int .i64 (row1.length : Int)), (27, .int .i64 t27), (34, .int .i64 (imin (hx0.length : Int) (IntKind.i64.wrap (t27 + (1 : Int))))), (35, .int .i64 s.2)] ∧ Hp S w0 w (Res.sl Ek.c128 24 v13 s.1 :: ow)) (fun q e a w => e = .exit 2 ∧ ∃ (v15 : Value), Fr 58 a [(0, vhx0), (1, vrow1), (6, v15), (26, .int .i64 (row1.length : Int)), (27, .int .i64 t27)] ∧ Hp S w0 w (Res.sl Ek.c128 24 v15 q :: ow)) ?_ hl ⟨_, hf.sub ⟨rfl, rfl, rfl, rfl, rfl, rfl, rfl, rfl, trivial⟩, hp⟩ ?_
      · clear hl hf hp
        intro s x a w h hI
        obtain ⟨out6, t35⟩ := s
        obtain ⟨v13, hf, hp⟩ : ∃ (v13 : Value), Fr 58 a [(0, vhx0), (1, vrow1), (6, v13), (7, .int .i64 t27), (26, .int .i64 (row1.length : Int)), (27, .int .i64 t27), (34, .int .i64 (imin (hx0.length : Int) (IntKind.i64.wrap (t27 + (1 : Int))))), (35, .int .i64 t35)] ∧ Hp S w0 w (Res.sl Ek.c128 24 v13 out6 :: ow) := hI
        replace h : f_plane_Filter.s2c hx0 row1 t27 out6 t35 = some x := h
        unfold f_plane_Filter.s2c at h
        refine wp_seq ?_
        refine wp_reg ?_
        refine st_ilss hf (by decide) rfl rfl rfl ?_
        clear hf; intro a ha hf; clear ha
        refine st_nil hf ?_
        refine th_n ?_
        refine wp_seq ?_
        refine wp_if hf rfl (fun hb => ?_) (fun hb => ?_)
        · replace h := ifT h hb
          refine wp_skip ?_
          refine th_n ?_
          refine wp_seq ?_
          refine wp_block ?_
          refine wp_seq ?_
          refine wp_reg ?_
          refine st_move hf rfl rfl (by decide) ?_
          clear hf; intro a ha hf; clear ha
          refine st_assign hf rfl rfl (by decide) ?_
          clear hf; intro a ha hf; clear ha
          refine st_nil hf ?_
          refine th_n ?_
          obtain ⟨S17, hp18, rd19, up20, bk21⟩ := Hp.lendS hp (i := 0) rfl
          have rl22 := ((hhx0.now hp).mono up20)
          have rl23 := ((hrow1.now hp).mono up20)
          have rl24 := rd19
          obtain ⟨hc25, h⟩ := chk h
          obtain ⟨bb27, bb28, y29, y30, hl26⟩ := RdS.pinC (p := t27) rl24 hc25.1 hc25.2
          obtain ⟨hc31, h⟩ := chk h
          obtain ⟨bb33, bb34, y35, y36, hl32⟩ := RdS.pinC (p := t35) rl22 hc31.1 hc31.2
          obtain ⟨hc37, h⟩ := chk h
          obtain ⟨bb39, bb40, y41, y42, hl38⟩ := RdS.pinC (p := (IntKind.i64.wrap (t27 - t35))) rl23 hc37.1 hc37.2
          obtain ⟨q43, hcall44, h⟩ := bnd h
          obtain ⟨hc53, h⟩ := chk h
          refine wp_cutN (fun a w => Fr 58 a [(0, vhx0), (1, vrow1), (6, v13), (7, .int .i64 t27), (26, .int .i64 (row1.length : Int)), (27, .int .i64 t27), (34, .int .i64 (imin (hx0.length : Int) (IntKind.i64.wrap (t27 + (1 : Int))))), (35, .int .i64 t35)] ∧ Hp S w0 w (Res.sl Ek.c128 24 v13 (out6.set (t27).toNat (cadd (gt out6 t27) q43)) :: ow)) ?_ ?_
          · have hp := hp18.same (Same.drew w)
            refine dr_begin' (fun a w => Fr 58 a [(0, vhx0), (1, vrow1), (6, v13), (7, .int .i64 t27), (26, .int .i64 (row1.length : Int)), (27, .int .i64 t27), (34, .int .i64 (imin (hx0.length : Int) (IntKind.i64.wrap (t27 + (1 : Int))))), (35, .int .i64 t35)] ∧ Hp S w0 w (Res.sl Ek.c128 24 v13 (out6.set (t27).toNat (cadd (gt out6 t27) q43)) :: ow)) (fun w' => ∃ l, Hp S17 w w' l) [17] (by kernel_rfl) ?_
            refine dr_takeP 0 (v13) rfl (by kernel_rfl) (by kernel_rfl) (by kernel_rfl) rfl rfl hf (by decide) rfl (fun w => ?_) ?_
            · skip
              refine st_move hf rfl rfl (by decide) ?_
              clear hf; intro a ha hf
              exact st_nil hf (th_n ⟨ha, rfl⟩)
            clear hf; intro a hf
            refine dr_takeP 1 (.int .i64 t27) rfl (by kernel_rfl) (by kernel_rfl) (by kernel_rfl) rfl rfl hf (by decide) rfl (fun w => ?_) ?_
            · skip
              refine st_move hf rfl rfl (by decide) ?_
              clear hf; intro a ha hf
              exact st_nil hf (th_n ⟨ha, rfl⟩)
            clear hf; intro a hf
            refine dr_takeP 2 (eptr v13 t27 1) rfl (by kernel_rfl) (by kernel_rfl) (by kernel_rfl) rfl rfl hf (by decide) rfl (fun w => ?_) ?_
            · skip
              refine st_index (E := Ek.c128) hf (by decide) Try.underlying41 elt24 rfl rfl rfl rl24.any hc25.1 hc25.2 ?_
              clear hf; intro a ha hf
              exact st_nil hf (th_n ⟨ha, rfl⟩)
            clear hf; intro a hf
            refine dr_take2 3 (.complex .f64 bb27 bb28) rfl (by kernel_rfl) (by kernel_rfl) (by kernel_rfl) (by kernel_rfl) (by kernel_rfl) rfl rfl hf (by decide) rfl (fun w hp => ?_) ⟨_, hp⟩ ?_
            · obtain ⟨_, hp⟩ := hp
              refine st_ldP hf (by decide) pl24 rfl rfl (hl26 _ _ hp) ?_
              clear hf; intro a ha hf
              exact st_nil hf (th_n ⟨ha, rfl⟩)
            clear hf; intro a hf
            refine dr_takeP 4 (vhx0) rfl (by kernel_rfl) (by kernel_rfl) (by kernel_rfl) rfl rfl hf (by decide) rfl (fun w => ?_) ?_
            · skip
              refine st_move hf rfl rfl (by decide) ?_
              clear hf; intro a ha hf
              exact st_nil hf (th_n ⟨ha, rfl⟩)
            clear hf; intro a hf
            refine dr_takeP 5 (.int .i64 t35) rfl (by kernel_rfl) (by kernel_rfl) (by kernel_rfl) rfl rfl hf (by decide) rfl (fun w => ?_) ?_
            · skip
              refine st_move hf rfl rfl (by decide) ?_
              clear hf; intro a ha hf
              exact st_nil hf (th_n ⟨ha, rfl⟩)
            clear hf; intro a hf
            refine dr_takeP 6 (eptr vhx0 t35 1) rfl (by kernel_rfl) (by kernel_rfl) (by kernel_rfl) rfl rfl hf (by decide) rfl (fun w => ?_) ?_
            · skip
              refine st_index (E := Ek.c128) hf (by decide) Try.underlying41 elt24 rfl rfl rfl rl22.any hc31.1 hc31.2 ?_
              clear hf; intro a ha hf
              exact st_nil hf (th_n ⟨ha, rfl⟩)
            clear hf; intro a hf
            refine dr_take2 7 (.complex .f64 bb33 bb34) rfl (by kernel_rfl) (by kernel_rfl) (by kernel_rfl) (by kernel_rfl) (by kernel_rfl) rfl rfl hf (by decide) rfl (fun w hp => ?_) ⟨_, hp⟩ ?_
            · obtain ⟨_, hp⟩ := hp
              refine st_ldP hf (by decide) pl24 rfl rfl (hl32 _ _ hp) ?_
              clear hf; intro a ha hf
              exact st_nil hf (th_n ⟨ha, rfl⟩)
            clear hf; intro a hf
            refine dr_takeP 8 (vrow1) rfl (by kernel_rfl) (by kernel_rfl) (by kernel_rfl) rfl rfl hf (by decide) rfl (fun w => ?_) ?_
            · skip
              refine st_move hf rfl rfl (by decide) ?_
              clear hf; intro a ha hf
              exact st_nil hf (th_n ⟨ha, rfl⟩)
            clear hf; intro a hf
            refine dr_takeP 9 (.int .i64 t27) rfl (by kernel_rfl) (by kernel_rfl) (by kernel_rfl) rfl rfl hf (by decide) rfl (fun w => ?_) ?_
            · skip
              refine st_move hf rfl rfl (by decide) ?_
              clear hf; intro a ha hf
              exact st_nil hf (th_n ⟨ha, rfl⟩)
            clear hf; intro a hf
            refine dr_takeP 10 (.int .i64 t35) rfl (by kernel_rfl) (by kernel_rfl) (by kernel_rfl) rfl rfl hf (by decide) rfl (fun w => ?_) ?_
            · skip
              refine st_move hf rfl rfl (by decide) ?_
              clear hf; intro a ha hf
              exact st_nil hf (th_n ⟨ha, rfl⟩)
            clear hf; intro a hf
            refine dr_takeP 11 (.int .i64 (IntKind.i64.wrap (t27 - t35))) rfl (by kernel_rfl) (by kernel_rfl) (by kernel_rfl) rfl rfl hf (by decide) rfl (fun w => ?_) ?_
            · skip
              refine st_isub hf (by decide) rfl rfl rfl ?_
              clear hf; intro a ha hf
              exact st_nil hf (th_n ⟨ha, rfl⟩)
            clear hf; intro a hf
            refine dr_takeP 12 (eptr vrow1 (IntKind.i64.wrap (t27 - t35)) 1) rfl (by kernel_rfl) (by kernel_rfl) (by kernel_rfl) rfl rfl hf (by decide) rfl (fun w => ?_) ?_
            · skip
              refine st_index (E := Ek.c128) hf (by decide) Try.underlying41 elt24 rfl rfl rfl rl23.any hc37.1 hc37.2 ?_
              clear hf; intro a ha hf
              exact st_nil hf (th_n ⟨ha, rfl⟩)
            clear hf; intro a hf
            refine dr_take2 13 (.complex .f64 bb39 bb40) rfl (by kernel_rfl) (by kernel_rfl) (by kernel_rfl) (by kernel_rfl) (by kernel_rfl) rfl rfl hf (by decide) rfl (fun w hp => ?_) ⟨_, hp⟩ ?_
            · obtain ⟨_, hp⟩ := hp
              refine st_ldP hf (by decide) pl24 rfl rfl (hl38 _ _ hp) ?_
              clear hf; intro a ha hf
              exact st_nil hf (th_n ⟨ha, rfl⟩)
            clear hf; intro a hf
            refine dr_one 14 rfl (by kernel_rfl) ?_
            refine st_call hf (by decide) Try.func13 rfl rfl rfl rfl rfl (f_plane_Mul_c hp _ _ _ (show Fl.rep bb33 ((gt hx0 t35)).1 from y35) (show Fl.rep bb34 ((gt hx0 t35)).2 from y36) _ _ _ (show Fl.rep bb39 ((gt row1 (IntKind.i64.wrap (t27 - t35)))).1 from y41) (show Fl.rep bb40 ((gt row1 (IntKind.i64.wrap (t27 - t35)))).2 from y42) hcall44) ?_
            rintro _ w ⟨v45, v46, rfl, y47, y48, hp0⟩
            clear hp; have hp := hp0; clear hp0
            replace hp : Hp _ _ _ (ow) := hp
            refine ⟨_, rfl, ?_⟩
            clear hf; intro a hf
            refine st_nil hf (th_n ⟨fun _ _ => ⟨_, hp⟩, ?_⟩)
            refine dr_one 15 rfl (by kernel_rfl) ?_
            refine st_carith (op := .add) (zx := (gt out6 t27)) (zy := q43) rfl hf (by decide) hp rfl rfl rfl y29 y30 y47 y48 ?_
            clear hf; intro a w bb49 bb50 y51 y52 hf hp0; clear hp; have hp := hp0; clear hp0
            replace hp : Hp _ _ _ (ow) := hp
            refine st_nil hf (th_n ⟨fun _ _ => ⟨_, hp⟩, ?_⟩)
            refine dr_takeP 16 (eptr v13 t27 1) rfl (by kernel_rfl) (by kernel_rfl) (by kernel_rfl) rfl rfl hf (by decide) rfl (fun w => ?_) ?_
            · skip
              refine st_index (E := Ek.c128) hf (by decide) Try.underlying41 elt24 rfl rfl rfl rl24.any hc53.1 hc53.2 ?_
              clear hf; intro a ha hf
              exact st_nil hf (th_n ⟨ha, rfl⟩)
            clear hf; intro a hf
            have hp := bk21 _ _ hp
            refine dr_one 17 rfl (by kernel_rfl) ?_
            refine st_store (E := Ek.c128) hf elt24 hp (i := 0) rfl rfl rfl rfl (show Ek.c128.rep [.complex .f64 bb49 bb50] (cadd (gt out6 t27) q43) from ⟨_, _, rfl, y51, y52⟩) hc53.1 hc53.2 ?_
            clear hf; intro a w hf hp0; clear hp; have hp := hp0; clear hp0
            replace hp : Hp _ _ _ (Res.sl Ek.c128 24 v13 (out6.set (t27).toNat (cadd (gt out6 t27) q43)) :: ow) := hp
            refine st_nil hf (th_n ⟨fun hn => absurd hn (by decide), ?_⟩)
            refine dr_end (by kernel_rfl) ?_ _
            exact ⟨hf.sub ⟨rfl, rfl, rfl, rfl, rfl, rfl, rfl, rfl, trivial⟩, hp⟩
          rintro a w ⟨hf, hp⟩
          refine ib_n ?_
          refine th_n ?_
          refine wp_reg ?_
          refine st_iadd hf (by decide) rfl rfl rfl ?_
          clear hf; intro a ha hf; clear ha
          refine st_move hf rfl rfl (by decide) ?_
          clear hf; intro a ha hf; clear ha
          refine st_nil hf ?_
          obtain rfl := Option.some.inj h
          exact rnd_l ⟨_, hf.sub ⟨rfl, rfl, rfl, rfl, rfl, rfl, rfl, rfl, trivial⟩, hp⟩
        replace h := ifF h hb
        refine wp_exit ?_
        refine th_e ?_
        obtain rfl := Option.some.inj h
        exact rnd_r (by simp) ⟨rfl, _, hf.sub ⟨rfl, rfl, rfl, rfl, rfl, trivial⟩, hp⟩
      clear hl hf hp
      intro e a w hne hO
      obtain ⟨rfl, v15, hf, hp⟩ := hO
      refine ib_same ?_
      refine ib_n ?_
      refine th_n ?_
      refine wp_reg ?_
      refine st_iadd hf (by decide) rfl rfl rfl ?_
      clear hf; intro a ha hf; clear ha
      refine st_move hf rfl rfl (by decide) ?_
      clear hf; intro a ha hf; clear ha
      refine st_nil hf ?_
      obtain rfl := Option.some.inj h
      exact rnd_l ⟨_, hf.sub ⟨rfl, rfl, rfl, rfl, rfl, trivial⟩, hp⟩
    replace h := ifF h hb
    refine wp_exit ?_
    refine th_e ?_
    obtain rfl := Option.some.inj h
    exact rnd_r (by simp) ⟨rfl, _, hf.sub ⟨rfl, trivial⟩, hp⟩
  clear hl hf hp
  intro e a w hne hO
  obtain ⟨rfl, v11, hf, hp⟩ := hO
  refine ib_same ?_
  refine th_n ?_
  refine wp_seq ?_
  refine wp_reg ?_
  refine st_move hf rfl rfl (by decide) ?_
  clear hf; intro a ha hf; clear ha
  refine st_assign hf rfl rfl (by decide) ?_
  clear hf; intro a ha hf; clear ha
  refine st_assign hf rfl rfl (by decide) ?_
  clear hf; intro a ha hf; clear ha
  refine st_nil hf ?_
  refine th_n ?_
  refine wp_ret ?_
  obtain rfl := Option.some.inj h
  exact ⟨rfl, ⟨_, hf.sub ⟨rfl, rfl, trivial⟩, hp⟩⟩

noncomputable def f_foghornlaw03_PlaneFilters.s1c (q11 : (List (Fl × Fl))) (sx7 : (List (Fl × Fl))) : Option ((List (Fl × Fl)) ⊕ (List (Fl × Fl))) := (if (decide ((sx7.length : Int) < (q11.length : Int))) = true then (if (sx7.length + ([(Fl.bits 0, Fl.bits 0)]).length) * 16 ≤ 140737488355328 then (some (Sum.inl (sx7 ++ [(Fl.bits 0, Fl.bits 0)]))) else none) else (some (Sum.inr sx7)))
noncomputable def f_foghornlaw03_PlaneFilters.s1 (q11 : (List (Fl × Fl))) (s : (List (Fl × Fl))) : Option ((List (Fl × Fl)) ⊕ (List (Fl × Fl))) := f_foghornlaw03_PlaneFilters.s1c q11 s
noncomputable def f_foghornlaw03_PlaneFilters.s2c (xx0_N : Int) (q11 : (List (Fl × Fl))) (q31 : (List (Fl × Fl))) (both8 : (List (Fl × Fl))) (turned9 : (List (Fl × Fl))) (i10 : Int) : Option (((List (Fl × Fl)) × (List (Fl × Fl)) × Int) ⊕ ((List (Fl × Fl)) × (List (Fl × Fl)))) := (if (decide (i10 < (q11.length : Int))) = true then (if 0 ≤ i10 ∧ i10 < (q11.length : Int) then (if 0 ≤ i10 ∧ i10 < (((q31 ++ ([] : List (Fl × Fl))).take (((q11.length : Int)).toNat)).length : Int) then (if (both8.length + ([(cadd (gt q11 i10) (gt ((q31 ++ ([] : List (Fl × Fl))).take (((q11.length : Int)).toNat)) i10))]).length) * 16 ≤ 140737488355328 then (if 0 ≤ i10 ∧ i10 < (q11.length : Int) then ((f_plane_Turn (gt q11 i10) xx0_N).bind fun q80 => (if (turned9.length + ([q80]).length) * 16 ≤ 140737488355328 then (some (Sum.inl ((both8 ++ [(cadd (gt q11 i10) (gt ((q31 ++ ([] : List (Fl × Fl))).take (((q11.length : Int)).toNat)) i10))]), (turned9 ++ [q80]), (IntKind.i64.wrap (i10 + (1 : Int)))))) else none)) else none) else none) else none) else none) else (some (Sum.inr (both8, turned9))))
noncomputable def f_foghornlaw03_PlaneFilters.s2 (xx0_N : Int) (q11 : (List (Fl × Fl))) (q31 : (List (Fl × Fl))) (s : ((List (Fl × Fl)) × (List (Fl × Fl)) × Int)) : Option (((List (Fl × Fl)) × (List (Fl × Fl)) × Int) ⊕ ((List (Fl × Fl)) × (List (Fl × Fl)))) := f_foghornlaw03_PlaneFilters.s2c xx0_N q11 q31 s.1 s.2.1 s.2.2
noncomputable def f_foghornlaw03_PlaneFilters.s3c (xx0_N : Int) (q11 : (List (Fl × Fl))) (q93 : ((List (Fl × Fl)) × Int)) (q107 : ((List (Fl × Fl)) × Int)) (q121 : ((List (Fl × Fl)) × Int)) (q135 : ((List (Fl × Fl)) × Int)) (q163 : ((List (Fl × Fl)) × Int)) (q191 : ((List (Fl × Fl)) × Int)) (p25 : Int) : Option (Int ⊕ (Unit ⊕ Bool)) := (if (decide (p25 < (q11.length : Int))) = true then (if 0 ≤ p25 ∧ p25 < (q121.1.length : Int) then (if 0 ≤ p25 ∧ p25 < (q93.1.length : Int) then (if 0 ≤ p25 ∧ p25 < (q107.1.length : Int) then ((if (!ceq (gt q121.1 p25) (cadd (gt q93.1 p25) (gt q107.1 p25))) = true then (some true) else (if 0 ≤ p25 ∧ p25 < (q135.1.length : Int) then (if 0 ≤ p25 ∧ p25 < (q93.1.length : Int) then ((f_plane_Turn (gt q93.1 p25) xx0_N).bind fun q285 => (some (!ceq (gt q135.1 p25) q285))) else none) else none)).bind fun z291 => ((if z291 = true then (some true) else (if 0 ≤ p25 ∧ p25 < (q163.1.length : Int) then (if 0 ≤ p25 ∧ p25 < (q191.1.length : Int) then (some (!ceq (gt q163.1 p25) (gt q191.1 p25))) else none) else none)).bind fun z306 => (if z306 = true then (some (Sum.inr (Sum.inr false))) else (some (Sum.inl (IntKind.i64.wrap (p25 + (1 : Int)))))))) else none) else none) else none) else (some (Sum.inr (Sum.inl ()))))
noncomputable def f_foghornlaw03_PlaneFilters.s3 (xx0_N : Int) (q11 : (List (Fl × Fl))) (q93 : ((List (Fl × Fl)) × Int)) (q107 : ((List (Fl × Fl)) × Int)) (q121 : ((List (Fl × Fl)) × Int)) (q135 : ((List (Fl × Fl)) × Int)) (q163 : ((List (Fl × Fl)) × Int)) (q191 : ((List (Fl × Fl)) × Int)) (s : Int) : Option (Int ⊕ (Unit ⊕ Bool)) := f_foghornlaw03_PlaneFilters.s3c xx0_N q11 q93 q107 q121 q135 q163 q191 s
noncomputable def f_foghornlaw03_PlaneFilters (xx0_H : (List (Int × Int))) (xx0_G : (List (Int × Int))) (xx0_Row : (List (Int × Int))) (xx0_More : (List (Int × Int))) (xx0_N : Int) : Option Bool := ((f_foghornlaw03_numbers xx0_H (8 : Int) (Fl.bits 4634204016564240384)).bind fun q3 => ((f_foghornlaw03_numbers xx0_G (8 : Int) (Fl.bits 4634204016564240384)).bind fun q7 => ((f_foghornlaw03_numbers xx0_Row (40 : Int) (Fl.bits 4607182418800017408)).bind fun q11 => ((f_foghornlaw03_numbers xx0_More (40 : Int) (Fl.bits 4607182418800017408)).bind fun q15 => (if (((q3.length : Int) == (0 : Int)) || ((q7.length : Int) == (0 : Int))) = true then ((f_foghornlaw03_awake).bind fun q21 => (some q21)) else ((loop (f_foghornlaw03_PlaneFilters.s1 q11) q15).bind (fun q31 => (if 0 ≤ (q11.length : Int) ∧ (q11.length : Int) ≤ ((q31 ++ ([] : List (Fl × Fl))).length : Int) then ((loop (f_foghornlaw03_PlaneFilters.s2 xx0_N q11 q31) ([], [], (0 : Int))).bind (fun q90 => ((f_plane_Filter q3 q11).bind fun q93 => ((f_plane_Filter q3 ((q31 ++ ([] : List (Fl × Fl))).take (((q11.length : Int)).toNat))).bind fun q107 => ((f_plane_Filter q3 q90.1).bind fun q121 => ((f_plane_Filter q3 q90.2).bind fun q135 => (if ((((((((q93.2 != (0 : Int)) || (q107.2 != (0 : Int))) || (q121.2 != (0 : Int))) || (q135.2 != (0 : Int))) || ((q93.1.length : Int) != (q11.length : Int))) || ((q107.1.length : Int) != (q11.length : Int))) || ((q121.1.length : Int) != (q11.length : Int))) || ((q135.1.length : Int) != (q11.length : Int))) = true then (some false) else ((f_plane_Filter q7 q93.1).bind fun q163 => ((f_plane_Filter q7 q11).bind fun q177 => ((f_plane_Filter q3 q177.1).bind fun q191 => (if (((((q163.2 != (0 : Int)) || (q177.2 != (0 : Int))) || (q191.2 != (0 : Int))) || ((q163.1.length : Int) != (q11.length : Int))) || ((q191.1.length : Int) != (q11.length : Int))) = true then (some false) else ((loop (f_foghornlaw03_PlaneFilters.s3 xx0_N q11 q93 q107 q121 q135 q163 q191) (0 : Int)).bind (fun q307 => sm q307 (fun q308 => ((f_foghornlaw03_awake).bind fun q310 => (some q310))) (fun q309 => (some q309))))))))))))))) else none))))))))
theorem f_foghornlaw03_PlaneFilters_c {S : Nat → Prop} {w0 w : World} {ow : List Res} (hp : Hp S w0 w ow) (vxx0_H : Value) (xx0_H : (List (Int × Int))) (hxx0_H : RdS (Ek.pair (Ek.int .i8) (Ek.int .i8)) S w0 vxx0_H xx0_H) (vxx0_G : Value) (xx0_G : (List (Int × Int))) (hxx0_G : RdS (Ek.pair (Ek.int .i8) (Ek.int .i8)) S w0 vxx0_G xx0_G) (vxx0_Row : Value) (xx0_Row : (List (Int × Int))) (hxx0_Row : RdS (Ek.pair (Ek.int .i8) (Ek.int .i8)) S w0 vxx0_Row xx0_Row) (vxx0_More : Value) (xx0_More : (List (Int × Int))) (hxx0_More : RdS (Ek.pair (Ek.int .i8) (Ek.int .i8)) S w0 vxx0_More xx0_More) (xx0_N : Int) {r : Bool} (h : f_foghornlaw03_PlaneFilters xx0_H xx0_G xx0_Row xx0_More xx0_N = some r) :
    Calls Try.prog 5 #[.agg #[vxx0_H, vxx0_G, vxx0_Row, vxx0_More, .int .i64 xx0_N]] w (fun e w' => e = .returned (.bool r) ∧ Hp S w0 w' (ow)) := by
  unfold f_foghornlaw03_PlaneFilters at h
  refine enter (n := 241) (args := [.agg #[vxx0_H, vxx0_G, vxx0_Row, vxx0_More, .int .i64 xx0_N]]) Try.func5 rfl rfl (Nat.le_of_ble_eq_true rfl) fun a hf => ?_
  replace hf : Fr 241 a [(0, .agg #[vxx0_H, vxx0_G, vxx0_Row, vxx0_More, .int .i64 xx0_N])] := hf
  refine wp_mono (Q := fun e a w => e = .ret ∧ Fr 241 a [(2, .bool r)] ∧ Hp S w0 w (ow)) ?_ ?_
  rotate_left
  · rintro e a w ⟨rfl, hf, hp⟩
    exact ret1 hf rfl rfl ⟨rfl, hp⟩
  refine wp_seq ?_
  refine wp_reg ?_
  refine st_boxO (cs := [vxx0_H, vxx0_G, vxx0_Row, vxx0_More, .int .i64 xx0_N]) hf (by decide) hp rfl rfl rfl ?_
  clear hf; intro a w v1 hf hp0; clear hp; have hp := hp0; clear hp0
  replace hp : Hp _ _ _ (Res.obj 45 v1 [vxx0_H, vxx0_G, vxx0_Row, vxx0_More, .int .i64 xx0_N] :: ow) := hp
  refine st_assign hf rfl rfl (by decide) ?_
  clear hf; intro a ha hf; clear ha
  refine st_nil hf ?_
  refine th_n ?_
  refine wp_seq ?_
  refine wp_reg ?_
  refine st_fa (o' := 4) hf (by decide) (off := 4) (sz := 1) (by kernel_rfl) (by decide) rfl rfl (hp.ob (i := 0) rfl) rfl ?_
  clear hf; intro a ha hf; clear ha
  refine st_ldO (u := .int .i64 xx0_N) hf (by decide) pl3 rfl rfl (hp.ob (i := 0) rfl) rfl ?_
  clear hf; intro a ha hf; clear ha
  refine st_assign hf rfl rfl (by decide) ?_
  clear hf; intro a ha hf; clear ha
  refine st_nil hf ?_
  refine th_n ?_
  refine wp_seq ?_
  refine wp_reg ?_
  refine st_fa (o' := 0) hf (by decide) (off := 0) (sz := 1) (by kernel_rfl) (by decide) rfl rfl (hp.ob (i := 0) rfl) rfl ?_
  clear hf; intro a ha hf; clear ha
  refine st_ldO (u := vxx0_H) hf (by decide) pl43 rfl rfl (hp.ob (i := 0) rfl) rfl ?_
  clear hf; intro a ha hf; clear ha
  obtain ⟨q3, hcall4, h⟩ := bnd h
  refine st_call hf (by decide) Try.func27 rfl rfl rfl rfl rfl (f_foghornlaw03_numbers_c hp _ _ hxx0_H _ _ _ (show Fl.rep 4634204016564240384 (Fl.bits 4634204016564240384) from rfl) hcall4) ?_
  rintro _ w ⟨v5, rfl, hp0⟩
  clear hp; have hp := hp0; clear hp0
  replace hp : Hp _ _ _ (Res.sl Ek.c128 24 v5 q3 :: Res.obj 45 v1 [vxx0_H, vxx0_G, vxx0_Row, vxx0_More, .int .i64 xx0_N] :: ow) := hp
  refine ⟨_, rfl, ?_⟩
  clear hf; intro a hf
  refine st_assign hf rfl rfl (by decide) ?_
  clear hf; intro a ha hf; clear ha
  refine st_nil hf ?_
  refine th_n ?_
  refine wp_seq ?_
  refine wp_reg ?_
  refine st_fa (o' := 1) hf (by decide) (off := 1) (sz := 1) (by kernel_rfl) (by decide) rfl rfl (hp.ob (i := 1) rfl) rfl ?_
  clear hf; intro a ha hf; clear ha
  refine st_ldO (u := vxx0_G) hf (by decide) pl43 rfl rfl (hp.ob (i := 1) rfl) rfl ?_
  clear hf; intro a ha hf; clear ha
  obtain ⟨q7, hcall8, h⟩ := bnd h
  refine st_call hf (by decide) Try.func27 rfl rfl rfl rfl rfl (f_foghornlaw03_numbers_c hp _ _ hxx0_G _ _ _ (show Fl.rep 4634204016564240384 (Fl.bits 4634204016564240384) from rfl) hcall8) ?_
  rintro _ w ⟨v9, rfl, hp0⟩
  clear hp; have hp := hp0; clear hp0
  replace hp : Hp _ _ _ (Res.sl Ek.c128 24 v9 q7 :: Res.sl Ek.c128 24 v5 q3 :: Res.obj 45 v1 [vxx0_H, vxx0_G, vxx0_Row, vxx0_More, .int .i64 xx0_N] :: ow) := hp
  refine ⟨_, rfl, ?_⟩
  clear hf; intro a hf
  refine st_assign hf rfl rfl (by decide) ?_
  clear hf; intro a ha hf; clear ha
  refine st_nil hf ?_
  refine th_n ?_
  refine wp_seq ?_
  refine wp_reg ?_
  refine st_fa (o' := 2) hf (by decide) (off := 2) (sz := 1) (by kernel_rfl) (by decide) rfl rfl (hp.ob (i := 2) rfl) rfl ?_
  clear hf; intro a ha hf; clear ha
  refine st_ldO (u := vxx0_Row) hf (by decide) pl43 rfl rfl (hp.ob (i := 2) rfl) rfl ?_
  clear hf; intro a ha hf; clear ha
  obtain ⟨q11, hcall12, h⟩ := bnd h
  refine st_call hf (by decide) Try.func27 rfl rfl rfl rfl rfl (f_foghornlaw03_numbers_c hp _ _ hxx0_Row _ _ _ (show Fl.rep 4607182418800017408 (Fl.bits 4607182418800017408) from rfl) hcall12) ?_
  rintro _ w ⟨v13, rfl, hp0⟩
  clear hp; have hp := hp0; clear hp0
  replace hp : Hp _ _ _ (Res.sl Ek.c128 24 v13 q11 :: Res.sl Ek.c128 24 v9 q7 :: Res.sl Ek.c128 24 v5 q3 :: Res.obj 45 v1 [vxx0_H, vxx0_G, vxx0_Row, vxx0_More, .int .i64 xx0_N] :: ow) := hp
  refine ⟨_, rfl, ?_⟩
  clear hf; intro a hf
  refine st_assign hf rfl rfl (by decide) ?_
  clear hf; intro a ha hf; clear ha
  refine st_nil hf ?_
  refine th_n ?_
  refine wp_seq ?_
  refine wp_reg ?_
  refine st_fa (o' := 3) hf (by decide) (off := 3) (sz := 1) (by kernel_rfl) (by decide) rfl rfl (hp.ob (i := 3) rfl) rfl ?_
  clear hf; intro a ha hf; clear ha
  refine st_ldO (u := vxx0_More) hf (by decide) pl43 rfl rfl (hp.ob (i := 3) rfl) rfl ?_
  clear hf; intro a ha hf; clear ha
  obtain ⟨q15, hcall16, h⟩ := bnd h
  refine st_call hf (by decide) Try.func27 rfl rfl rfl rfl rfl (f_foghornlaw03_numbers_c hp _ _ hxx0_More _ _ _ (show Fl.rep 4607182418800017408 (Fl.bits 4607182418800017408) from rfl) hcall16) ?_
  rintro _ w ⟨v17, rfl, hp0⟩
  clear hp; have hp := hp0; clear hp0
  replace hp : Hp _ _ _ (Res.sl Ek.c128 24 v17 q15 :: Res.sl Ek.c128 24 v13 q11 :: Res.sl Ek.c128 24 v9 q7 :: Res.sl Ek.c128 24 v5 q3 :: Res.obj 45 v1 [vxx0_H, vxx0_G, vxx0_Row, vxx0_More, .int .i64 xx0_N] :: ow) := hp
  refine ⟨_, rfl, ?_⟩
  clear hf; intro a hf
  refine st_assign hf rfl rfl (by decide) ?_
  clear hf; intro a ha hf; clear ha
  refine st_nil hf ?_
  refine th_n ?_
  refine wp_seq ?_
  refine wp_seq ?_
  refine wp_reg ?_
  refine st_move hf rfl rfl (by decide) ?_
  clear hf; intro a ha hf; clear ha
  refine st_len (E := Ek.c128) hf (by decide) Try.underlying41 rfl rfl (hp.sl (i := 3) rfl) ?_
  clear hf; intro a ha hf; clear ha
  refine st_ieql hf (by decide) rfl rfl rfl ?_
  clear hf; intro a ha hf; clear ha
  refine st_move hf rfl rfl (by decide) ?_
  clear hf; intro a ha hf; clear ha
  refine wpList_cut 4 (fun a w => Fr 241 a [(3, .int .i64 xx0_N), (4, v5), (5, v9), (6, v13), (7, v17), (47, .bool (((q3.length : Int) == (0 : Int)) || ((q7.length : Int) == (0 : Int))))] ∧ Hp S w0 w (Res.sl Ek.c128 24 v17 q15 :: Res.sl Ek.c128 24 v13 q11 :: Res.sl Ek.c128 24 v9 q7 :: Res.sl Ek.c128 24 v5 q3 :: Res.obj 45 v1 [vxx0_H, vxx0_G, vxx0_Row, vxx0_More, .int .i64 xx0_N] :: ow)) ?_ ?_
  · rcases Bool.eq_false_or_eq_true ((q3.length : Int) == (0 : Int)) with hb20 | hb20
    · skip
      refine st_skip hf (wantN hf rfl rfl hb20) rfl (by decide) ?_ rfl
      clear hf; intro a hf
      refine st_skip hf (wantN hf rfl rfl hb20) rfl (by decide) ?_ rfl
      clear hf; intro a hf
      refine st_skip hf (wantN hf rfl rfl hb20) rfl (by decide) ?_ rfl
      clear hf; intro a hf
      refine st_pick (v := .bool true) hf rfl rfl (fun hb' => ?_) (fun hb' => ?_) (by decide) ?_
      · rfl
      · exact absurd (hb20.symm.trans hb') (by decide)
      clear hf; intro a ha hf; clear ha
      refine st_nil hf (th_n ?_)
      exact ⟨hf.sub ⟨rfl, rfl, rfl, rfl, rfl, (by rw [hb20]; rfl), trivial⟩, hp⟩
    refine st_move hf (wantY hf rfl rfl hb20) rfl (by decide) ?_
    clear hf; intro a ha hf; clear ha
    refine st_len (E := Ek.c128) hf (by decide) Try.underlying41 (wantY hf rfl rfl hb20) rfl (hp.sl (i := 2) rfl) ?_
    clear hf; intro a ha hf; clear ha
    refine st_ieql hf (by decide) (wantY hf rfl rfl hb20) rfl rfl ?_
    clear hf; intro a ha hf; clear ha
    refine st_pick (v := .bool ((q7.length : Int) == (0 : Int))) hf rfl rfl (fun hb' => ?_) (fun hb' => ?_) (by decide) ?_
    · exact absurd (hb20.symm.trans hb') (by decide)
    · rfl
    clear hf; intro a ha hf; clear ha
    refine st_nil hf (th_n ?_)
    exact ⟨hf.sub ⟨rfl, rfl, rfl, rfl, rfl, (by rw [hb20]; rfl), trivial⟩, hp⟩
  rintro a w ⟨hf, hp⟩
  refine st_nil hf ?_
  refine th_n ?_
  refine wp_if hf rfl (fun hb => ?_) (fun hb => ?_)
  · replace h := ifT h hb
    refine wp_seq ?_
    refine wp_reg ?_
    obtain ⟨q21, hcall22, h⟩ := bnd h
    refine st_call hf (by decide) Try.func24 rfl rfl rfl rfl rfl (f_foghornlaw03_awake_c hp  hcall22) ?_
    rintro _ w ⟨rfl, hp0⟩
    clear hp; have hp := hp0; clear hp0
    replace hp : Hp _ _ _ (Res.sl Ek.c128 24 v17 q15 :: Res.sl Ek.c128 24 v13 q11 :: Res.sl Ek.c128 24 v9 q7 :: Res.sl Ek.c128 24 v5 q3 :: Res.obj 45 v1 [vxx0_H, vxx0_G, vxx0_Row, vxx0_More, .int .i64 xx0_N] :: ow) := hp
    refine ⟨_, rfl, ?_⟩
    clear hf; intro a hf
    refine st_assign hf rfl rfl (by decide) ?_
    clear hf; intro a ha hf; clear ha
    refine st_nil hf ?_
    refine th_n ?_
    refine wp_ret ?_
    refine th_r ?_
    obtain rfl := Option.some.inj h
    have hp : Hp _ _ _ (ow) := Hp.sel (pre := [Res.sl Ek.c128 24 v17 q15, Res.sl Ek.c128 24 v13 q11, Res.sl Ek.c128 24 v9 q7, Res.sl Ek.c128 24 v5 q3, Res.obj 45 v1 [vxx0_H, vxx0_G, vxx0_Row, vxx0_More, .int .i64 xx0_N]]) (tail := ow) (rs' := []) hp [] (by decide) (by simp) rfl
    exact ⟨rfl, ⟨hf.sub ⟨rfl, trivial⟩, hp⟩⟩
  replace h := ifF h hb
  refine wp_skip ?_
  refine th_n ?_
  refine wp_seq ?_
  refine wp_block ?_
  obtain ⟨q31, hl, h⟩ := bnd h
  have hp : Hp _ _ _ (Res.sl Ek.c128 24 v17 q15 :: Res.sl Ek.c128 24 v5 q3 :: Res.sl Ek.c128 24 v9 q7 :: Res.sl Ek.c128 24 v13 q11 :: ow) := Hp.sel (pre := [Res.sl Ek.c128 24 v17 q15, Res.sl Ek.c128 24 v13 q11, Res.sl Ek.c128 24 v9 q7, Res.sl Ek.c128 24 v5 q3, Res.obj 45 v1 [vxx0_H, vxx0_G, vxx0_Row, vxx0_More, .int .i64 xx0_N]]) (tail := ow) (rs' := [Res.sl Ek.c128 24 v17 q15, Res.sl Ek.c128 24 v5 q3, Res.sl Ek.c128 24 v9 q7, Res.sl Ek.c128 24 v13 q11]) hp [0, 3, 2, 1] (by decide) (by simp) rfl
  refine wp_loop_pure (f := (f_foghornlaw03_PlaneFilters.s1 q11)) (s := q15) (fun s a w => ∃ (v23 : Value), Fr 241 a [(3, .int .i64 xx0_N), (4, v5), (5, v9), (6, v13), (7, v23)] ∧ Hp S w0 w (Res.sl Ek.c128 24 v23 s :: Res.sl Ek.c128 24 v5 q3 :: Res.sl Ek.c128 24 v9 q7 :: Res.sl Ek.c128 24 v13 q11 :: ow)) (fun q e a w => e = .exit 0 ∧ ∃ (v25 : Value), Fr 241 a [(3, .int .i64 xx0_N), (4, v5), (5, v9), (6, v13), (7, v25)] ∧ Hp S w0 w (Res.sl Ek.c128 24 v25 q :: Res.sl Ek.c128 24 v5 q3 :: Res.sl Ek.c128 24 v9 q7 :: Res.sl Ek.c128 24 v13 q11 :: ow)) ?_ hl ⟨_, hf.sub ⟨rfl, rfl, rfl, rfl, rfl, trivial⟩, hp⟩ ?_
  · clear hl hf hp
    intro s x a w h hI
    obtain ⟨sx7, hs⟩ : ∃ z, z = s := ⟨s, rfl⟩; subst hs
    obtain ⟨v23, hf, hp⟩ : ∃ (v23 : Value), Fr 241 a [(3, .int .i64 xx0_N), (4, v5), (5, v9), (6, v13), (7, v23)] ∧ Hp S w0 w (Res.sl Ek.c128 24 v23 sx7 :: Res.sl Ek.c128 24 v5 q3 :: Res.sl Ek.c128 24 v9 q7 :: Res.sl Ek.c128 24 v13 q11 :: ow) := hI
    replace h : f_foghornlaw03_PlaneFilters.s1c q11 sx7 = some x := h
    unfold f_foghornlaw03_PlaneFilters.s1c at h
    refine wp_seq ?_
    refine wp_seq ?_
    refine wp_reg ?_
    refine st_move hf rfl rfl (by decide) ?_
    clear hf; intro a ha hf; clear ha
    refine st_len (E := Ek.c128) hf (by decide) Try.underlying41 rfl rfl (hp.sl (i := 0) rfl) ?_
    clear hf; intro a ha hf; clear ha
    refine st_move hf rfl rfl (by decide) ?_
    clear hf; intro a ha hf; clear ha
    refine st_len (E := Ek.c128) hf (by decide) Try.underlying41 rfl rfl (hp.sl (i := 3) rfl) ?_
    clear hf; intro a ha hf; clear ha
    refine st_ilss hf (by decide) rfl rfl rfl ?_
    clear hf; intro a ha hf; clear ha
    refine st_nil hf ?_
    refine th_n ?_
    refine wp_if hf rfl (fun hb => ?_) (fun hb => ?_)
    · replace h := ifT h hb
      refine wp_skip ?_
      refine th_n ?_
      refine wp_block ?_
      refine wp_reg ?_
      refine st_move hf rfl rfl (by decide) ?_
      clear hf; intro a ha hf; clear ha
      refine st_build (E := Ek.c128) (xs := [(Fl.bits 0, Fl.bits 0)]) hf (by decide) elt24 Try.underlying41 hp (vals := #[(0, .complex .f64 0 0)]) (cells := #[.complex .f64 0 0]) rfl (by simp [hf.ev (x := (Operand.const (.complex .f64 0 0))) rfl]) (by decide) (by decide) (z := .complex .f64 0 0) (by kernel_rfl) (by kernel_rfl) rfl (reps_cons (cs := [.complex .f64 0 0]) (show Ek.c128.rep [.complex .f64 0 0] (Fl.bits 0, Fl.bits 0) from ⟨_, _, rfl, rfl, rfl⟩) (reps_nil _)) ?_
      clear hf; intro a w v27 hf hp0; clear hp; have hp := hp0; clear hp0
      replace hp : Hp _ _ _ (Res.sl Ek.c128 24 v27 ([(Fl.bits 0, Fl.bits 0)]) :: Res.sl Ek.c128 24 v23 sx7 :: Res.sl Ek.c128 24 v5 q3 :: Res.sl Ek.c128 24 v9 q7 :: Res.sl Ek.c128 24 v13 q11 :: ow) := hp
      obtain ⟨hc29, h⟩ := chk h
      refine st_append (E := Ek.c128) hf (by decide) elt24 Try.underlying41 (by decide) hp (i := 1) rfl rfl rfl rfl (hp.sl (i := 0) rfl) hc29 ?_
      clear hf; intro a w v30 hf hp0; clear hp; have hp := hp0; clear hp0
      replace hp : Hp _ _ _ (Res.sl Ek.c128 24 v27 ([(Fl.bits 0, Fl.bits 0)]) :: Res.sl Ek.c128 24 v30 (sx7 ++ [(Fl.bits 0, Fl.bits 0)]) :: Res.sl Ek.c128 24 v5 q3 :: Res.sl Ek.c128 24 v9 q7 :: Res.sl Ek.c128 24 v13 q11 :: ow) := hp
      refine st_assign hf rfl rfl (by decide) ?_
      clear hf; intro a ha hf; clear ha
      refine st_nil hf ?_
      refine ib_n ?_
      obtain rfl := Option.some.inj h
      have hp : Hp _ _ _ (Res.sl Ek.c128 24 v30 (sx7 ++ [(Fl.bits 0, Fl.bits 0)]) :: Res.sl Ek.c128 24 v5 q3 :: Res.sl Ek.c128 24 v9 q7 :: Res.sl Ek.c128 24 v13 q11 :: ow) := Hp.sel (pre := [Res.sl Ek.c128 24 v27 ([(Fl.bits 0, Fl.bits 0)]), Res.sl Ek.c128 24 v30 (sx7 ++ [(Fl.bits 0, Fl.bits 0)]), Res.sl Ek.c128 24 v5 q3, Res.sl Ek.c128 24 v9 q7, Res.sl Ek.c128 24 v13 q11]) (tail := ow) (rs' := [Res.sl Ek.c128 24 v30 (sx7 ++ [(Fl.bits 0, Fl.bits 0)]), Res.sl Ek.c128 24 v5 q3, Res.sl Ek.c128 24 v9 q7, Res.sl Ek.c128 24 v13 q11]) hp [1, 2, 3, 4] (by decide) (by simp) rfl
      exact rnd_l ⟨_, hf.sub ⟨rfl, rfl, rfl, rfl, rfl, trivial⟩, hp⟩
    replace h := ifF h hb
    refine wp_exit ?_
    refine th_e ?_
    obtain rfl := Option.some.inj h
    exact rnd_r (by simp) ⟨rfl, _, hf.sub ⟨rfl, rfl, rfl, rfl, rfl, trivial⟩, hp⟩
  clear hl hf hp
  intro e a w hne hO
  obtain ⟨rfl, v25, hf, hp⟩ := hO
  refine ib_same ?_
  refine th_n ?_
  refine wp_seq ?_
  refine wp_reg ?_
  refine st_move hf rfl rfl (by decide) ?_
  clear hf; intro a ha hf; clear ha
  refine st_move hf rfl rfl (by decide) ?_
  clear hf; intro a ha hf; clear ha
  refine st_len (E := Ek.c128) hf (by decide) Try.underlying41 rfl rfl (hp.sl (i := 3) rfl) ?_
  clear hf; intro a ha hf; clear ha
  obtain ⟨hc32, h⟩ := chk h
  have hc33 : 0 ≤ ((q11.length : Int)).toNat := by omega
  have hc34 : ((q11.length : Int)).toNat ≤ (q31 ++ ([] : List (Fl × Fl))).length := by omega
  refine st_cutX (E := Ek.c128) hf (by decide) Try.underlying41 elt24 hp (i := 0) rfl rfl rfl (.inl ⟨rfl, rfl⟩) (.inr ⟨_, _, rfl, evI rfl (by omega)⟩) hc33 hc34 ?_
  clear hf; intro a ha hf; clear ha
  replace hp : Hp _ _ _ (Res.slx Ek.c128 24 (GL.cut v25 0 (((q11.length : Int)).toNat) 1) ((q31 ++ ([] : List (Fl × Fl))).take (((q11.length : Int)).toNat)) ((q31 ++ ([] : List (Fl × Fl))).drop (((q11.length : Int)).toNat)) :: Res.sl Ek.c128 24 v5 q3 :: Res.sl Ek.c128 24 v9 q7 :: Res.sl Ek.c128 24 v13 q11 :: ow) := hp.cutOwn (i := 0) rfl hc34
  refine st_assign hf rfl rfl (by decide) ?_
  clear hf; intro a ha hf; clear ha
  refine st_nil hf ?_
  refine th_n ?_
  refine wp_seq ?_
  refine wp_reg ?_
  refine st_assign hf rfl rfl (by decide) ?_
  clear hf; intro a ha hf; clear ha
  refine st_assign hf rfl rfl (by decide) ?_
  clear hf; intro a ha hf; clear ha
  refine st_nil hf ?_
  refine th_n ?_
  refine wp_seq ?_
  refine wp_seq ?_
  refine wp_reg ?_
  refine st_assign hf rfl rfl (by decide) ?_
  clear hf; intro a ha hf; clear ha
  refine st_nil hf ?_
  refine th_n ?_
  refine wp_block ?_
  obtain ⟨q90, hl, h⟩ := bnd h
  have hp := hp.nil Ek.c128 24
  have hp := hp.nil Ek.c128 24
  have hp : Hp _ _ _ (Res.sl Ek.c128 24 (.slice none 0 0) ([]) :: Res.sl Ek.c128 24 (.slice none 0 0) ([]) :: Res.sl Ek.c128 24 v5 q3 :: Res.sl Ek.c128 24 v9 q7 :: Res.sl Ek.c128 24 v13 q11 :: Res.slx Ek.c128 24 (GL.cut v25 0 (((q11.length : Int)).toNat) 1) ((q31 ++ ([] : List (Fl × Fl))).take (((q11.length : Int)).toNat)) ((q31 ++ ([] : List (Fl × Fl))).drop (((q11.length : Int)).toNat)) :: ow) := Hp.sel (pre := [Res.sl Ek.c128 24 (.slice none 0 0) ([]), Res.sl Ek.c128 24 (.slice none 0 0) ([]), Res.slx Ek.c128 24 (GL.cut v25 0 (((q11.length : Int)).toNat) 1) ((q31 ++ ([] : List (Fl × Fl))).take (((q11.length : Int)).toNat)) ((q31 ++ ([] : List (Fl × Fl))).drop (((q11.length : Int)).toNat)), Res.sl Ek.c128 24 v5 q3, Res.sl Ek.c128 24 v9 q7, Res.sl Ek.c128 24 v13 q11]) (tail := ow) (rs' := [Res.sl Ek.c128 24 (.slice none 0 0) ([]), Res.sl Ek.c128 24 (.slice none 0 0) ([]), Res.sl Ek.c128 24 v5 q3, Res.sl Ek.c128 24 v9 q7, Res.sl Ek.c128 24 v13 q11, Res.slx Ek.c128 24 (GL.cut v25 0 (((q11.length : Int)).toNat) 1) ((q31 ++ ([] : List (Fl × Fl))).take (((q11.length : Int)).toNat)) ((q31 ++ ([] : List (Fl × Fl))).drop (((q11.length : Int)).toNat))]) hp [1, 0, 3, 4, 5, 2] (by decide) (by simp) rfl
  refine wp_loop_pure (f := (f_foghornlaw03_PlaneFilters.s2 xx0_N q11 q31)) (s := ([], [], (0 : Int))) (fun s a w => ∃ (v35 : Value) (v37 : Value), Fr 241 a [(3, .int .i64 xx0_N), (4, v5), (5, v9), (6, v13), (7, (GL.cut v25 0 (((q11.length : Int)).toNat) 1)), (8, v35), (9, v37), (10, .int .i64 s.2.2)] ∧ Hp S w0 w (Res.sl Ek.c128 24 v35 s.1 :: Res.sl Ek.c128 24 v37 s.2.1 :: Res.sl Ek.c128 24 v5 q3 :: Res.sl Ek.c128 24 v9 q7 :: Res.sl Ek.c128 24 v13 q11 :: Res.slx Ek.c128 24 (GL.cut v25 0 (((q11.length : Int)).toNat) 1) ((q31 ++ ([] : List (Fl × Fl))).take (((q11.length : Int)).toNat)) ((q31 ++ ([] : List (Fl × Fl))).drop (((q11.length : Int)).toNat)) :: ow)) (fun q e a w => e = .exit 2 ∧ ∃ (v39 : Value) (v41 : Value), Fr 241 a [(3, .int .i64 xx0_N), (4, v5), (5, v9), (6, v13), (7, (GL.cut v25 0 (((q11.length : Int)).toNat) 1)), (8, v39), (9, v41)] ∧ Hp S w0 w (Res.sl Ek.c128 24 v39 q.1 :: Res.sl Ek.c128 24 v41 q.2 :: Res.sl Ek.c128 24 v5 q3 :: Res.sl Ek.c128 24 v9 q7 :: Res.sl Ek.c128 24 v13 q11 :: Res.slx Ek.c128 24 (GL.cut v25 0 (((q11.length : Int)).toNat) 1) ((q31 ++ ([] : List (Fl × Fl))).take (((q11.length : Int)).toNat)) ((q31 ++ ([] : List (Fl × Fl))).drop (((q11.length : Int)).toNat)) :: ow)) ?_ hl ⟨_, _, hf.sub ⟨rfl, rfl, rfl, rfl, rfl, rfl, rfl, rfl, trivial⟩, hp⟩ ?_
  · clear hl hf hp
    intro s x a w h hI
    obtain ⟨both8, turned9, i10⟩ := s
    obtain ⟨v35, v37, hf, hp⟩ : ∃ (v35 : Value) (v37 : Value), Fr 241 a [(3, .int .i64 xx0_N), (4, v5), (5, v9), (6, v13), (7, (GL.cut v25 0 (((q11.length : Int)).toNat) 1)), (8, v35), (9, v37), (10, .int .i64 i10)] ∧ Hp S w0 w (Res.sl Ek.c128 24 v35 both8 :: Res.sl Ek.c128 24 v37 turned9 :: Res.sl Ek.c128 24 v5 q3 :: Res.sl Ek.c128 24 v9 q7 :: Res.sl Ek.c128 24 v13 q11 :: Res.slx Ek.c128 24 (GL.cut v25 0 (((q11.length : Int)).toNat) 1) ((q31 ++ ([] : List (Fl × Fl))).take (((q11.length : Int)).toNat)) ((q31 ++ ([] : List (Fl × Fl))).drop (((q11.length : Int)).toNat)) :: ow) := hI
    replace h : f_foghornlaw03_PlaneFilters.s2c xx0_N q11 q31 both8 turned9 i10 = some x := h
    unfold f_foghornlaw03_PlaneFilters.s2c at h
    refine wp_seq ?_
    refine wp_seq ?_
    refine wp_reg ?_
    refine st_move hf rfl rfl (by decide) ?_
    clear hf; intro a ha hf; clear ha
    refine st_move hf rfl rfl (by decide) ?_
    clear hf; intro a ha hf; clear ha
    refine st_len (E := Ek.c128) hf (by decide) Try.underlying41 rfl rfl (hp.sl (i := 4) rfl) ?_
    clear hf; intro a ha hf; clear ha
    refine st_ilss hf (by decide) rfl rfl rfl ?_
    clear hf; intro a ha hf; clear ha
    refine st_nil hf ?_
    refine th_n ?_
    refine wp_if hf rfl (fun hb => ?_) (fun hb => ?_)
    · replace h := ifT h hb
      refine wp_skip ?_
      refine th_n ?_
      refine wp_seq ?_
      refine wp_block ?_
      refine wp_seq ?_
      obtain ⟨S43, hp44, rd45, up46, bk47⟩ := Hp.lendS hp (i := 4) rfl
      obtain ⟨S48, hp49, rd50, up51, bk52⟩ := Hp.lendS hp44 (i := 4) rfl
      have rl53 := ((rd45.now hp44).mono up51)
      have rl54 := rd50
      obtain ⟨hc55, h⟩ := chk h
      obtain ⟨bb57, bb58, y59, y60, hl56⟩ := RdS.pinC (p := i10) rl53 hc55.1 hc55.2
      obtain ⟨hc61, h⟩ := chk h
      obtain ⟨bb63, bb64, y65, y66, hl62⟩ := RdS.pinC (p := i10) rl54 hc61.1 hc61.2
      obtain ⟨hc73, h⟩ := chk h
      refine wp_cutN (fun a w => ∃ (v71 : Value) (v74 : Value), Fr 241 a [(3, .int .i64 xx0_N), (4, v5), (5, v9), (6, v13), (7, (GL.cut v25 0 (((q11.length : Int)).toNat) 1)), (8, v74), (9, v37), (10, .int .i64 i10)] ∧ Hp S w0 w (Res.sl Ek.c128 24 v13 q11 :: Res.slx Ek.c128 24 (GL.cut v25 0 (((q11.length : Int)).toNat) 1) ((q31 ++ ([] : List (Fl × Fl))).take (((q11.length : Int)).toNat)) ((q31 ++ ([] : List (Fl × Fl))).drop (((q11.length : Int)).toNat)) :: Res.sl Ek.c128 24 v71 ([(cadd (gt q11 i10) (gt ((q31 ++ ([] : List (Fl × Fl))).take (((q11.length : Int)).toNat)) i10))]) :: Res.sl Ek.c128 24 v74 (both8 ++ [(cadd (gt q11 i10) (gt ((q31 ++ ([] : List (Fl × Fl))).take (((q11.length : Int)).toNat)) i10))]) :: Res.sl Ek.c128 24 v37 turned9 :: Res.sl Ek.c128 24 v5 q3 :: Res.sl Ek.c128 24 v9 q7 :: ow)) ?_ ?_
      · have hp := hp49.same (Same.drew w)
        refine dr_begin' (fun a w => ∃ (v71 : Value) (v74 : Value), Fr 241 a [(3, .int .i64 xx0_N), (4, v5), (5, v9), (6, v13), (7, (GL.cut v25 0 (((q11.length : Int)).toNat) 1)), (8, v74), (9, v37), (10, .int .i64 i10)] ∧ Hp S w0 w (Res.sl Ek.c128 24 v13 q11 :: Res.slx Ek.c128 24 (GL.cut v25 0 (((q11.length : Int)).toNat) 1) ((q31 ++ ([] : List (Fl × Fl))).take (((q11.length : Int)).toNat)) ((q31 ++ ([] : List (Fl × Fl))).drop (((q11.length : Int)).toNat)) :: Res.sl Ek.c128 24 v71 ([(cadd (gt q11 i10) (gt ((q31 ++ ([] : List (Fl × Fl))).take (((q11.length : Int)).toNat)) i10))]) :: Res.sl Ek.c128 24 v74 (both8 ++ [(cadd (gt q11 i10) (gt ((q31 ++ ([] : List (Fl × Fl))).take (((q11.length : Int)).toNat)) i10))]) :: Res.sl Ek.c128 24 v37 turned9 :: Res.sl Ek.c128 24 v5 q3 :: Res.sl Ek.c128 24 v9 q7 :: ow)) (fun w' => ∃ l, Hp S48 w w' l) [] (by kernel_rfl) ?_
        refine dr_take 0 (v35) rfl (by kernel_rfl) (by kernel_rfl) (by kernel_rfl) (by kernel_rfl) rfl rfl hf (by decide) rfl (fun w hp => ?_) ⟨_, hp⟩ ?_
        · obtain ⟨_, hp⟩ := hp
          refine st_move hf rfl rfl (by decide) ?_
          clear hf; intro a ha hf
          exact st_nil hf (th_n ⟨ha, rfl⟩)
        clear hf; intro a hf
        refine dr_take 1 (v13) rfl (by kernel_rfl) (by kernel_rfl) (by kernel_rfl) (by kernel_rfl) rfl rfl hf (by decide) rfl (fun w hp => ?_) ⟨_, hp⟩ ?_
        · obtain ⟨_, hp⟩ := hp
          refine st_move hf rfl rfl (by decide) ?_
          clear hf; intro a ha hf
          exact st_nil hf (th_n ⟨ha, rfl⟩)
        clear hf; intro a hf
        refine dr_take 2 (.int .i64 i10) rfl (by kernel_rfl) (by kernel_rfl) (by kernel_rfl) (by kernel_rfl) rfl rfl hf (by decide) rfl (fun w hp => ?_) ⟨_, hp⟩ ?_
        · obtain ⟨_, hp⟩ := hp
          refine st_move hf rfl rfl (by decide) ?_
          clear hf; intro a ha hf
          exact st_nil hf (th_n ⟨ha, rfl⟩)
        clear hf; intro a hf
        refine dr_take 3 (eptr v13 i10 1) rfl (by kernel_rfl) (by kernel_rfl) (by kernel_rfl) (by kernel_rfl) rfl rfl hf (by decide) rfl (fun w hp => ?_) ⟨_, hp⟩ ?_
        · obtain ⟨_, hp⟩ := hp
          refine st_index (E := Ek.c128) hf (by decide) Try.underlying41 elt24 rfl rfl rfl (rl53.sl hp) hc55.1 hc55.2 ?_
          clear hf; intro a ha hf
          exact st_nil hf (th_n ⟨ha, rfl⟩)
        clear hf; intro a hf
        refine dr_take 4 (.complex .f64 bb57 bb58) rfl (by kernel_rfl) (by kernel_rfl) (by kernel_rfl) (by kernel_rfl) rfl rfl hf (by decide) rfl (fun w hp => ?_) ⟨_, hp⟩ ?_
        · obtain ⟨_, hp⟩ := hp
          refine st_ldP hf (by decide) pl24 rfl rfl (hl56 _ _ hp) ?_
          clear hf; intro a ha hf
          exact st_nil hf (th_n ⟨ha, rfl⟩)
        clear hf; intro a hf
        refine dr_take 5 ((GL.cut v25 0 (((q11.length : Int)).toNat) 1)) rfl (by kernel_rfl) (by kernel_rfl) (by kernel_rfl) (by kernel_rfl) rfl rfl hf (by decide) rfl (fun w hp => ?_) ⟨_, hp⟩ ?_
        · obtain ⟨_, hp⟩ := hp
          refine st_move hf rfl rfl (by decide) ?_
          clear hf; intro a ha hf
          exact st_nil hf (th_n ⟨ha, rfl⟩)
        clear hf; intro a hf
        refine dr_take 6 (.int .i64 i10) rfl (by kernel_rfl) (by kernel_rfl) (by kernel_rfl) (by kernel_rfl) rfl rfl hf (by decide) rfl (fun w hp => ?_) ⟨_, hp⟩ ?_
        · obtain ⟨_, hp⟩ := hp
          refine st_move hf rfl rfl (by decide) ?_
          clear hf; intro a ha hf
          exact st_nil hf (th_n ⟨ha, rfl⟩)
        clear hf; intro a hf
        refine dr_take 7 (eptr (GL.cut v25 0 (((q11.length : Int)).toNat) 1) i10 1) rfl (by kernel_rfl) (by kernel_rfl) (by kernel_rfl) (by kernel_rfl) rfl rfl hf (by decide) rfl (fun w hp => ?_) ⟨_, hp⟩ ?_
        · obtain ⟨_, hp⟩ := hp
          refine st_index (E := Ek.c128) hf (by decide) Try.underlying41 elt24 rfl rfl rfl (rl54.sl hp) hc61.1 hc61.2 ?_
          clear hf; intro a ha hf
          exact st_nil hf (th_n ⟨ha, rfl⟩)
        clear hf; intro a hf
        refine dr_take 8 (.complex .f64 bb63 bb64) rfl (by kernel_rfl) (by kernel_rfl) (by kernel_rfl) (by kernel_rfl) rfl rfl hf (by decide) rfl (fun w hp => ?_) ⟨_, hp⟩ ?_
        · obtain ⟨_, hp⟩ := hp
          refine st_ldP hf (by decide) pl24 rfl rfl (hl62 _ _ hp) ?_
          clear hf; intro a ha hf
          exact st_nil hf (th_n ⟨ha, rfl⟩)
        clear hf; intro a hf
        refine dr_one 9 rfl (by kernel_rfl) ?_
        refine st_carith (op := .add) (zx := (gt q11 i10)) (zy := (gt ((q31 ++ ([] : List (Fl × Fl))).take (((q11.length : Int)).toNat)) i10)) rfl hf (by decide) hp rfl rfl rfl y59 y60 y65 y66 ?_
        clear hf; intro a w bb67 bb68 y69 y70 hf hp0; clear hp; have hp := hp0; clear hp0
        replace hp : Hp _ _ _ (Res.sl Ek.c128 24 v35 both8 :: Res.sl Ek.c128 24 v37 turned9 :: Res.sl Ek.c128 24 v5 q3 :: Res.sl Ek.c128 24 v9 q7 :: ow) := hp
        refine st_nil hf (th_n ⟨fun _ _ => ⟨_, hp⟩, ?_⟩)
        refine dr_one 10 rfl (by kernel_rfl) ?_
        refine st_build (E := Ek.c128) (xs := [(cadd (gt q11 i10) (gt ((q31 ++ ([] : List (Fl × Fl))).take (((q11.length : Int)).toNat)) i10))]) hf (by decide) elt24 Try.underlying41 hp (vals := #[(0, .complex .f64 bb67 bb68)]) (cells := #[.complex .f64 bb67 bb68]) rfl (by simp [hf.ev (x := (Operand.tmp 76)) rfl]) (by decide) (by decide) (z := .complex .f64 0 0) (by kernel_rfl) (by kernel_rfl) rfl (reps_cons (cs := [.complex .f64 bb67 bb68]) (show Ek.c128.rep [.complex .f64 bb67 bb68] (cadd (gt q11 i10) (gt ((q31 ++ ([] : List (Fl × Fl))).take (((q11.length : Int)).toNat)) i10)) from ⟨_, _, rfl, y69, y70⟩) (reps_nil _)) ?_
        clear hf; intro a w v71 hf hp0; clear hp; have hp := hp0; clear hp0
        replace hp : Hp _ _ _ (Res.sl Ek.c128 24 v71 ([(cadd (gt q11 i10) (gt ((q31 ++ ([] : List (Fl × Fl))).take (((q11.length : Int)).toNat)) i10))]) :: Res.sl Ek.c128 24 v35 both8 :: Res.sl Ek.c128 24 v37 turned9 :: Res.sl Ek.c128 24 v5 q3 :: Res.sl Ek.c128 24 v9 q7 :: ow) := hp
        refine st_nil hf (th_n ⟨fun _ _ => ⟨_, hp⟩, ?_⟩)
        refine dr_one 11 rfl (by kernel_rfl) ?_
        refine st_append (E := Ek.c128) hf (by decide) elt24 Try.underlying41 (by decide) hp (i := 1) rfl rfl rfl rfl (hp.sl (i := 0) rfl) hc73 ?_
        clear hf; intro a w v74 hf hp0; clear hp; have hp := hp0; clear hp0
        replace hp : Hp _ _ _ (Res.sl Ek.c128 24 v71 ([(cadd (gt q11 i10) (gt ((q31 ++ ([] : List (Fl × Fl))).take (((q11.length : Int)).toNat)) i10))]) :: Res.sl Ek.c128 24 v74 (both8 ++ [(cadd (gt q11 i10) (gt ((q31 ++ ([] : List (Fl × Fl))).take (((q11.length : Int)).toNat)) i10))]) :: Res.sl Ek.c128 24 v37 turned9 :: Res.sl Ek.c128 24 v5 q3 :: Res.sl Ek.c128 24 v9 q7 :: ow) := hp
        refine st_nil hf (th_n ⟨fun _ _ => ⟨_, hp⟩, ?_⟩)
        refine dr_take 12 (v74) rfl (by kernel_rfl) (by kernel_rfl) (by kernel_rfl) (by kernel_rfl) rfl rfl hf (by decide) rfl (fun w hp => ?_) ⟨_, hp⟩ ?_
        · obtain ⟨_, hp⟩ := hp
          refine st_assign hf rfl rfl (by decide) ?_
          clear hf; intro a ha hf
          exact st_nil hf (th_n ⟨ha, rfl⟩)
        clear hf; intro a hf
        refine dr_end (by kernel_rfl) ?_ _
        have hp := bk52 _ _ hp
        have hp := bk47 _ _ hp
        exact ⟨v71, v74, hf.sub ⟨rfl, rfl, rfl, rfl, rfl, rfl, rfl, rfl, trivial⟩, hp⟩
      rintro a w ⟨v71, v74, hf, hp⟩
      refine th_n ?_
      refine wp_reg ?_
      refine st_move hf rfl rfl (by decide) ?_
      clear hf; intro a ha hf; clear ha
      refine st_move hf rfl rfl (by decide) ?_
      clear hf; intro a ha hf; clear ha
      refine st_move hf rfl rfl (by decide) ?_
      clear hf; intro a ha hf; clear ha
      obtain ⟨hc75, h⟩ := chk h
      refine st_index (E := Ek.c128) hf (by decide) Try.underlying41 elt24 rfl rfl rfl (hp.sl (i := 0) rfl) hc75.1 hc75.2 ?_
      clear hf; intro a ha hf; clear ha
      refine st_ldC hf (by decide) pl24 rfl rfl (hp.sl (i := 0) rfl) hc75.1 hc75.2 ?_
      clear hf; intro a bb76 bb77 y78 y79 ha hf; clear ha
      refine st_move hf rfl rfl (by decide) ?_
      clear hf; intro a ha hf; clear ha
      obtain ⟨q80, hcall81, h⟩ := bnd h
      refine st_call hf (by decide) Try.func15 rfl rfl rfl rfl rfl (f_plane_Turn_c hp _ _ _ (show Fl.rep bb76 ((gt q11 i10)).1 from y78) (show Fl.rep bb77 ((gt q11 i10)).2 from y79) _ hcall81) ?_
      rintro _ w ⟨v82, v83, rfl, y84, y85, hp0⟩
      clear hp; have hp := hp0; clear hp0
      replace hp : Hp _ _ _ (Res.sl Ek.c128 24 v13 q11 :: Res.slx Ek.c128 24 (GL.cut v25 0 (((q11.length : Int)).toNat) 1) ((q31 ++ ([] : List (Fl × Fl))).take (((q11.length : Int)).toNat)) ((q31 ++ ([] : List (Fl × Fl))).drop (((q11.length : Int)).toNat)) :: Res.sl Ek.c128 24 v71 ([(cadd (gt q11 i10) (gt ((q31 ++ ([] : List (Fl × Fl))).take (((q11.length : Int)).toNat)) i10))]) :: Res.sl Ek.c128 24 v74 (both8 ++ [(cadd (gt q11 i10) (gt ((q31 ++ ([] : List (Fl × Fl))).take (((q11.length : Int)).toNat)) i10))]) :: Res.sl Ek.c128 24 v37 turned9 :: Res.sl Ek.c128 24 v5 q3 :: Res.sl Ek.c128 24 v9 q7 :: ow) := hp
      refine ⟨_, rfl, ?_⟩
      clear hf; intro a hf
      refine st_build (E := Ek.c128) (xs := [q80]) hf (by decide) elt24 Try.underlying41 hp (vals := #[(0, .complex .f64 v82 v83)]) (cells := #[.complex .f64 v82 v83]) rfl (by simp [hf.ev (x := (Operand.tmp 85)) rfl]) (by decide) (by decide) (z := .complex .f64 0 0) (by kernel_rfl) (by kernel_rfl) rfl (reps_cons (cs := [.complex .f64 v82 v83]) (show Ek.c128.rep [.complex .f64 v82 v83] q80 from ⟨_, _, rfl, y84, y85⟩) (reps_nil _)) ?_
      clear hf; intro a w v86 hf hp0; clear hp; have hp := hp0; clear hp0
      replace hp : Hp _ _ _ (Res.sl Ek.c128 24 v86 ([q80]) :: Res.sl Ek.c128 24 v13 q11 :: Res.slx Ek.c128 24 (GL.cut v25 0 (((q11.length : Int)).toNat) 1) ((q31 ++ ([] : List (Fl × Fl))).take (((q11.length : Int)).toNat)) ((q31 ++ ([] : List (Fl × Fl))).drop (((q11.length : Int)).toNat)) :: Res.sl Ek.c128 24 v71 ([(cadd (gt q11 i10) (gt ((q31 ++ ([] : List (Fl × Fl))).take (((q11.length : Int)).toNat)) i10))]) :: Res.sl Ek.c128 24 v74 (both8 ++ [(cadd (gt q11 i10) (gt ((q31 ++ ([] : List (Fl × Fl))).take (((q11.length : Int)).toNat)) i10))]) :: Res.sl Ek.c128 24 v37 turned9 :: Res.sl Ek.c128 24 v5 q3 :: Res.sl Ek.c128 24 v9 q7 :: ow) := hp
      obtain ⟨hc88, h⟩ := chk h
      refine st_append (E := Ek.c128) hf (by decide) elt24 Try.underlying41 (by decide) hp (i := 5) rfl rfl rfl rfl (hp.sl (i := 0) rfl) hc88 ?_
      clear hf; intro a w v89 hf hp0; clear hp; have hp := hp0; clear hp0
      replace hp : Hp _ _ _ (Res.sl Ek.c128 24 v86 ([q80]) :: Res.sl Ek.c128 24 v13 q11 :: Res.slx Ek.c128 24 (GL.cut v25 0 (((q11.length : Int)).toNat) 1) ((q31 ++ ([] : List (Fl × Fl))).take (((q11.length : Int)).toNat)) ((q31 ++ ([] : List (Fl × Fl))).drop (((q11.length : Int)).toNat)) :: Res.sl Ek.c128 24 v71 ([(cadd (gt q11 i10) (gt ((q31 ++ ([] : List (Fl × Fl))).take (((q11.length : Int)).toNat)) i10))]) :: Res.sl Ek.c128 24 v74 (both8 ++ [(cadd (gt q11 i10) (gt ((q31 ++ ([] : List (Fl × Fl))).take (((q11.length : Int)).toNat)) i10))]) :: Res.sl Ek.c128 24 v89 (turned9 ++ [q80]) :: Res.sl Ek.c128 24 v5 q3 :: Res.sl Ek.c128 24 v9 q7 :: ow) := hp
      refine st_assign hf rfl rfl (by decide) ?_
      clear hf; intro a ha hf; clear ha
      refine st_nil hf ?_
      refine ib_n ?_
      refine th_n ?_
      refine wp_reg ?_
      refine st_move hf rfl rfl (by decide) ?_
      clear hf; intro a ha hf; clear ha
      refine st_iadd hf (by decide) rfl rfl rfl ?_
      clear hf; intro a ha hf; clear ha
      refine st_assign hf rfl rfl (by decide) ?_
      clear hf; intro a ha hf; clear ha
      refine st_nil hf ?_
      obtain rfl := Option.some.inj h
      have hp : Hp _ _ _ (Res.sl Ek.c128 24 v74 (both8 ++ [(cadd (gt q11 i10) (gt ((q31 ++ ([] : List (Fl × Fl))).take (((q11.length : Int)).toNat)) i10))]) :: Res.sl Ek.c128 24 v89 (turned9 ++ [q80]) :: Res.sl Ek.c128 24 v5 q3 :: Res.sl Ek.c128 24 v9 q7 :: Res.sl Ek.c128 24 v13 q11 :: Res.slx Ek.c128 24 (GL.cut v25 0 (((q11.length : Int)).toNat) 1) ((q31 ++ ([] : List (Fl × Fl))).take (((q11.length : Int)).toNat)) ((q31 ++ ([] : List (Fl × Fl))).drop (((q11.length : Int)).toNat)) :: ow) := Hp.sel (pre := [Res.sl Ek.c128 24 v86 ([q80]), Res.sl Ek.c128 24 v13 q11, Res.slx Ek.c128 24 (GL.cut v25 0 (((q11.length : Int)).toNat) 1) ((q31 ++ ([] : List (Fl × Fl))).take (((q11.length : Int)).toNat)) ((q31 ++ ([] : List (Fl × Fl))).drop (((q11.length : Int)).toNat)), Res.sl Ek.c128 24 v71 ([(cadd (gt q11 i10) (gt ((q31 ++ ([] : List (Fl × Fl))).take (((q11.length : Int)).toNat)) i10))]), Res.sl Ek.c128 24 v74 (both8 ++ [(cadd (gt q11 i10) (gt ((q31 ++ ([] : List (Fl × Fl))).take (((q11.length : Int)).toNat)) i10))]), Res.sl Ek.c128 24 v89 (turned9 ++ [q80]), Res.sl Ek.c128 24 v5 q3, Res.sl Ek.c128 24 v9 q7]) (tail := ow) (rs' := [Res.sl Ek.c128 24 v74 (both8 ++ [(cadd (gt q11 i10) (gt ((q31 ++ ([] : List (Fl × Fl))).take (((q11.length : Int)).toNat)) i10))]), Res.sl Ek.c128 24 v89 (turned9 ++ [q80]), Res.sl Ek.c128 24 v5 q3, Res.sl Ek.c128 24 v9 q7, Res.sl Ek.c128 24 v13 q11, Res.slx Ek.c128 24 (GL.cut v25 0 (((q11.length : Int)).toNat) 1) ((q31 ++ ([] : List (Fl × Fl))).take (((q11.length : Int)).toNat)) ((q31 ++ ([] : List (Fl × Fl))).drop (((q11.length : Int)).toNat))]) hp [4, 5, 6, 7, 1, 2] (by decide) (by simp) rfl
      exact rnd_l ⟨_, _, hf.sub ⟨rfl, rfl, rfl, rfl, rfl, rfl, rfl, rfl, trivial⟩, hp⟩
    replace h := ifF h hb
    refine wp_exit ?_
    refine th_e ?_
    obtain rfl := Option.some.inj h
    exact rnd_r (by simp) ⟨rfl, _, _, hf.sub ⟨rfl, rfl, rfl, rfl, rfl, rfl, rfl, trivial⟩, hp⟩
  clear hl hf hp
  intro e a w hne hO
  obtain ⟨rfl, v39, v41, hf, hp⟩ := hO
  refine ib_same ?_
  refine th_n ?_
  refine wp_seq ?_
  refine wp_reg ?_
  refine st_move hf rfl rfl (by decide) ?_
  clear hf; intro a ha hf; clear ha
  refine st_move hf rfl rfl (by decide) ?_
  clear hf; intro a ha hf; clear ha
  obtain ⟨q93, hcall94, h⟩ := bnd h
  obtain ⟨S95, hp96, rd97, up98, bk99⟩ := Hp.lendS hp (i := 2) rfl
  obtain ⟨S100, hp101, rd102, up103, bk104⟩ := Hp.lendS hp96 (i := 3) rfl
  refine st_call hf (by decide) Try.func28 rfl rfl rfl rfl rfl (f_plane_Filter_c hp101 _ _ ((rd97.now hp96).mono up103) _ _ rd102 hcall94) ?_
  rintro _ w ⟨v105, rfl, hp0⟩
  have hp0 := bk104 _ _ hp0
  have hp0 := bk99 _ _ hp0
  clear hp; have hp := hp0; clear hp0
  replace hp : Hp _ _ _ (Res.sl Ek.c128 24 v5 q3 :: Res.sl Ek.c128 24 v13 q11 :: Res.sl Ek.c128 24 v105 q93.1 :: Res.sl Ek.c128 24 v39 q90.1 :: Res.sl Ek.c128 24 v41 q90.2 :: Res.sl Ek.c128 24 v9 q7 :: Res.slx Ek.c128 24 (GL.cut v25 0 (((q11.length : Int)).toNat) 1) ((q31 ++ ([] : List (Fl × Fl))).take (((q11.length : Int)).toNat)) ((q31 ++ ([] : List (Fl × Fl))).drop (((q11.length : Int)).toNat)) :: ow) := hp
  refine ⟨_, rfl, ?_⟩
  clear hf; intro a hf
  refine st_move hf rfl rfl (by decide) ?_
  clear hf; intro a ha hf; clear ha
  refine st_extract hf (by decide) rfl rfl rfl ?_
  clear hf; intro a ha hf; clear ha
  refine st_extract hf (by decide) rfl rfl rfl ?_
  clear hf; intro a ha hf; clear ha
  refine st_assign hf rfl rfl (by decide) ?_
  clear hf; intro a ha hf; clear ha
  refine st_assign hf rfl rfl (by decide) ?_
  clear hf; intro a ha hf; clear ha
  refine st_nil hf ?_
  refine th_n ?_
  refine wp_seq ?_
  refine wp_reg ?_
  refine st_move hf rfl rfl (by decide) ?_
  clear hf; intro a ha hf; clear ha
  refine st_move hf rfl rfl (by decide) ?_
  clear hf; intro a ha hf; clear ha
  obtain ⟨q107, hcall108, h⟩ := bnd h
  obtain ⟨S109, hp110, rd111, up112, bk113⟩ := Hp.lendS hp (i := 0) rfl
  obtain ⟨S114, hp115, rd116, up117, bk118⟩ := Hp.lendS hp110 (i := 5) rfl
  refine st_call hf (by decide) Try.func28 rfl rfl rfl rfl rfl (f_plane_Filter_c hp115 _ _ ((rd111.now hp110).mono up117) _ _ rd116 hcall108) ?_
  rintro _ w ⟨v119, rfl, hp0⟩
  have hp0 := bk118 _ _ hp0
  have hp0 := bk113 _ _ hp0
  clear hp; have hp := hp0; clear hp0
  replace hp : Hp _ _ _ (Res.sl Ek.c128 24 v5 q3 :: Res.slx Ek.c128 24 (GL.cut v25 0 (((q11.length : Int)).toNat) 1) ((q31 ++ ([] : List (Fl × Fl))).take (((q11.length : Int)).toNat)) ((q31 ++ ([] : List (Fl × Fl))).drop (((q11.length : Int)).toNat)) :: Res.sl Ek.c128 24 v119 q107.1 :: Res.sl Ek.c128 24 v13 q11 :: Res.sl Ek.c128 24 v105 q93.1 :: Res.sl Ek.c128 24 v39 q90.1 :: Res.sl Ek.c128 24 v41 q90.2 :: Res.sl Ek.c128 24 v9 q7 :: ow) := hp
  refine ⟨_, rfl, ?_⟩
  clear hf; intro a hf
  refine st_move hf rfl rfl (by decide) ?_
  clear hf; intro a ha hf; clear ha
  refine st_extract hf (by decide) rfl rfl rfl ?_
  clear hf; intro a ha hf; clear ha
  refine st_extract hf (by decide) rfl rfl rfl ?_
  clear hf; intro a ha hf; clear ha
  refine st_assign hf rfl rfl (by decide) ?_
  clear hf; intro a ha hf; clear ha
  refine st_assign hf rfl rfl (by decide) ?_
  clear hf; intro a ha hf; clear ha
  refine st_nil hf ?_
  refine th_n ?_
  refine wp_seq ?_
  refine wp_reg ?_
  refine st_move hf rfl rfl (by decide) ?_
  clear hf; intro a ha hf; clear ha
  refine st_move hf rfl rfl (by decide) ?_
  clear hf; intro a ha hf; clear ha
  obtain ⟨q121, hcall122, h⟩ := bnd h
  obtain ⟨S123, hp124, rd125, up126, bk127⟩ := Hp.lendS hp (i := 0) rfl
  obtain ⟨S128, hp129, rd130, up131, bk132⟩ := Hp.lendS hp124 (i := 4) rfl
  refine st_call hf (by decide) Try.func28 rfl rfl rfl rfl rfl (f_plane_Filter_c hp129 _ _ ((rd125.now hp124).mono up131) _ _ rd130 hcall122) ?_
  rintro _ w ⟨v133, rfl, hp0⟩
  have hp0 := bk132 _ _ hp0
  have hp0 := bk127 _ _ hp0
  clear hp; have hp := hp0; clear hp0
  replace hp : Hp _ _ _ (Res.sl Ek.c128 24 v5 q3 :: Res.sl Ek.c128 24 v39 q90.1 :: Res.sl Ek.c128 24 v133 q121.1 :: Res.slx Ek.c128 24 (GL.cut v25 0 (((q11.length : Int)).toNat) 1) ((q31 ++ ([] : List (Fl × Fl))).take (((q11.length : Int)).toNat)) ((q31 ++ ([] : List (Fl × Fl))).drop (((q11.length : Int)).toNat)) :: Res.sl Ek.c128 24 v119 q107.1 :: Res.sl Ek.c128 24 v13 q11 :: Res.sl Ek.c128 24 v105 q93.1 :: Res.sl Ek.c128 24 v41 q90.2 :: Res.sl Ek.c128 24 v9 q7 :: ow) := hp
  refine ⟨_, rfl, ?_⟩
  clear hf; intro a hf
  refine st_move hf rfl rfl (by decide) ?_
  clear hf; intro a ha hf; clear ha
  refine st_extract hf (by decide) rfl rfl rfl ?_
  clear hf; intro a ha hf; clear ha
  refine st_extract hf (by decide) rfl rfl rfl ?_
  clear hf; intro a ha hf; clear ha
  refine st_assign hf rfl rfl (by decide) ?_
  clear hf; intro a ha hf; clear ha
  refine st_assign hf rfl rfl (by decide) ?_
  clear hf; intro a ha hf; clear ha
  refine st_nil hf ?_
  refine th_n ?_
  refine wp_seq ?_
  refine wp_reg ?_
  refine st_move hf rfl rfl (by decide) ?_
  clear hf; intro a ha hf; clear ha
  refine st_move hf rfl rfl (by decide) ?_
  clear hf; intro a ha hf; clear ha
  obtain ⟨q135, hcall136, h⟩ := bnd h
  obtain ⟨S137, hp138, rd139, up140, bk141⟩ := Hp.lendS hp (i := 0) rfl
  obtain ⟨S142, hp143, rd144, up145, bk146⟩ := Hp.lendS hp138 (i := 6) rfl
  refine st_call hf (by decide) Try.func28 rfl rfl rfl rfl rfl (f_plane_Filter_c hp143 _ _ ((rd139.now hp138).mono up145) _ _ rd144 hcall136) ?_
  rintro _ w ⟨v147, rfl, hp0⟩
  have hp0 := bk146 _ _ hp0
  have hp0 := bk141 _ _ hp0
  clear hp; have hp := hp0; clear hp0
  replace hp : Hp _ _ _ (Res.sl Ek.c128 24 v5 q3 :: Res.sl Ek.c128 24 v41 q90.2 :: Res.sl Ek.c128 24 v147 q135.1 :: Res.sl Ek.c128 24 v39 q90.1 :: Res.sl Ek.c128 24 v133 q121.1 :: Res.slx Ek.c128 24 (GL.cut v25 0 (((q11.length : Int)).toNat) 1) ((q31 ++ ([] : List (Fl × Fl))).take (((q11.length : Int)).toNat)) ((q31 ++ ([] : List (Fl × Fl))).drop (((q11.length : Int)).toNat)) :: Res.sl Ek.c128 24 v119 q107.1 :: Res.sl Ek.c128 24 v13 q11 :: Res.sl Ek.c128 24 v105 q93.1 :: Res.sl Ek.c128 24 v9 q7 :: ow) := hp
  refine ⟨_, rfl, ?_⟩
  clear hf; intro a hf
  refine st_move hf rfl rfl (by decide) ?_
  clear hf; intro a ha hf; clear ha
  refine st_extract hf (by decide) rfl rfl rfl ?_
  clear hf; intro a ha hf; clear ha
  refine st_extract hf (by decide) rfl rfl rfl ?_
  clear hf; intro a ha hf; clear ha
  refine st_assign hf rfl rfl (by decide) ?_
  clear hf; intro a ha hf; clear ha
  refine st_assign hf rfl rfl (by decide) ?_
  clear hf; intro a ha hf; clear ha
  refine st_nil hf ?_
  refine th_n ?_
  refine wp_seq ?_
  refine wp_seq ?_
  refine wp_reg ?_
  refine st_move hf rfl rfl (by decide) ?_
  clear hf; intro a ha hf; clear ha
  refine st_ineq hf (by decide) rfl rfl rfl ?_
  clear hf; intro a ha hf; clear ha
  refine st_move hf rfl rfl (by decide) ?_
  clear hf; intro a ha hf; clear ha
  refine wpList_cut 3 (fun a w => Fr 241 a [(3, .int .i64 xx0_N), (4, v5), (5, v9), (6, v13), (11, v105), (13, v119), (15, v133), (16, .int .i64 q121.2), (17, v147), (18, .int .i64 q135.2), (117, .bool ((q93.2 != (0 : Int)) || (q107.2 != (0 : Int))))] ∧ Hp S w0 w (Res.sl Ek.c128 24 v5 q3 :: Res.sl Ek.c128 24 v41 q90.2 :: Res.sl Ek.c128 24 v147 q135.1 :: Res.sl Ek.c128 24 v39 q90.1 :: Res.sl Ek.c128 24 v133 q121.1 :: Res.slx Ek.c128 24 (GL.cut v25 0 (((q11.length : Int)).toNat) 1) ((q31 ++ ([] : List (Fl × Fl))).take (((q11.length : Int)).toNat)) ((q31 ++ ([] : List (Fl × Fl))).drop (((q11.length : Int)).toNat)) :: Res.sl Ek.c128 24 v119 q107.1 :: Res.sl Ek.c128 24 v13 q11 :: Res.sl Ek.c128 24 v105 q93.1 :: Res.sl Ek.c128 24 v9 q7 :: ow)) ?_ ?_
  · rcases Bool.eq_false_or_eq_true (q93.2 != (0 : Int)) with hb150 | hb150
    · skip
      refine st_skip hf (wantN hf rfl rfl hb150) rfl (by decide) ?_ rfl
      clear hf; intro a hf
      refine st_skip hf (wantN hf rfl rfl hb150) rfl (by decide) ?_ rfl
      clear hf; intro a hf
      refine st_pick (v := .bool true) hf rfl rfl (fun hb' => ?_) (fun hb' => ?_) (by decide) ?_
      · rfl
      · exact absurd (hb150.symm.trans hb') (by decide)
      clear hf; intro a ha hf; clear ha
      refine st_nil hf (th_n ?_)
      exact ⟨hf.sub ⟨rfl, rfl, rfl, rfl, rfl, rfl, rfl, rfl, rfl, rfl, (by rw [hb150]; rfl), trivial⟩, hp⟩
    refine st_move hf (wantY hf rfl rfl hb150) rfl (by decide) ?_
    clear hf; intro a ha hf; clear ha
    refine st_ineq hf (by decide) (wantY hf rfl rfl hb150) rfl rfl ?_
    clear hf; intro a ha hf; clear ha
    refine st_pick (v := .bool (q107.2 != (0 : Int))) hf rfl rfl (fun hb' => ?_) (fun hb' => ?_) (by decide) ?_
    · exact absurd (hb150.symm.trans hb') (by decide)
    · rfl
    clear hf; intro a ha hf; clear ha
    refine st_nil hf (th_n ?_)
    exact ⟨hf.sub ⟨rfl, rfl, rfl, rfl, rfl, rfl, rfl, rfl, rfl, rfl, (by rw [hb150]; rfl), trivial⟩, hp⟩
  rintro a w ⟨hf, hp⟩
  refine st_move hf rfl rfl (by decide) ?_
  clear hf; intro a ha hf; clear ha
  refine wpList_cut 3 (fun a w => Fr 241 a [(3, .int .i64 xx0_N), (4, v5), (5, v9), (6, v13), (11, v105), (13, v119), (15, v133), (17, v147), (18, .int .i64 q135.2), (121, .bool (((q93.2 != (0 : Int)) || (q107.2 != (0 : Int))) || (q121.2 != (0 : Int))))] ∧ Hp S w0 w (Res.sl Ek.c128 24 v5 q3 :: Res.sl Ek.c128 24 v41 q90.2 :: Res.sl Ek.c128 24 v147 q135.1 :: Res.sl Ek.c128 24 v39 q90.1 :: Res.sl Ek.c128 24 v133 q121.1 :: Res.slx Ek.c128 24 (GL.cut v25 0 (((q11.length : Int)).toNat) 1) ((q31 ++ ([] : List (Fl × Fl))).take (((q11.length : Int)).toNat)) ((q31 ++ ([] : List (Fl × Fl))).drop (((q11.length : Int)).toNat)) :: Res.sl Ek.c128 24 v119 q107.1 :: Res.sl Ek.c128 24 v13 q11 :: Res.sl Ek.c128 24 v105 q93.1 :: Res.sl Ek.c128 24 v9 q7 :: ow)) ?_ ?_
  · rcases Bool.eq_false_or_eq_true ((q93.2 != (0 : Int)) || (q107.2 != (0 : Int))) with hb152 | hb152
    · skip
      refine st_skip hf (wantN hf rfl rfl hb152) rfl (by decide) ?_ rfl
      clear hf; intro a hf
      refine st_skip hf (wantN hf rfl rfl hb152) rfl (by decide) ?_ rfl
      clear hf; intro a hf
      refine st_pick (v := .bool true) hf rfl rfl (fun hb' => ?_) (fun hb' => ?_) (by decide) ?_
      · rfl
      · exact absurd (hb152.symm.trans hb') (by decide)
      clear hf; intro a ha hf; clear ha
      refine st_nil hf (th_n ?_)
      exact ⟨hf.sub ⟨rfl, rfl, rfl, rfl, rfl, rfl, rfl, rfl, rfl, (by rw [hb152]; rfl), trivial⟩, hp⟩
    refine st_move hf (wantY hf rfl rfl hb152) rfl (by decide) ?_
    clear hf; intro a ha hf; clear ha
    refine st_ineq hf (by decide) (wantY hf rfl rfl hb152) rfl rfl ?_
    clear hf; intro a ha hf; clear ha
    refine st_pick (v := .bool (q121.2 != (0 : Int))) hf rfl rfl (fun hb' => ?_) (fun hb' => ?_) (by decide) ?_
    · exact absurd (hb152.symm.trans hb') (by decide)
    · rfl
    clear hf; intro a ha hf; clear ha
    refine st_nil hf (th_n ?_)
    exact ⟨hf.sub ⟨rfl, rfl, rfl, rfl, rfl, rfl, rfl, rfl, rfl, (by rw [hb152]; rfl), trivial⟩, hp⟩
  rintro a w ⟨hf, hp⟩
  refine st_move hf rfl rfl (by decide) ?_
  clear hf; intro a ha hf; clear ha
  refine wpList_cut 3 (fun a w => Fr 241 a [(3, .int .i64 xx0_N), (4, v5), (5, v9), (6, v13), (11, v105), (13, v119), (15, v133), (17, v147), (125, .bool ((((q93.2 != (0 : Int)) || (q107.2 != (0 : Int))) || (q121.2 != (0 : Int))) || (q135.2 != (0 : Int))))] ∧ Hp S w0 w (Res.sl Ek.c128 24 v5 q3 :: Res.sl Ek.c128 24 v41 q90.2 :: Res.sl Ek.c128 24 v147 q135.1 :: Res.sl Ek.c128 24 v39 q90.1 :: Res.sl Ek.c128 24 v133 q121.1 :: Res.slx Ek.c128 24 (GL.cut v25 0 (((q11.length : Int)).toNat) 1) ((q31 ++ ([] : List (Fl × Fl))).take (((q11.length : Int)).toNat)) ((q31 ++ ([] : List (Fl × Fl))).drop (((q11.length : Int)).toNat)) :: Res.sl Ek.c128 24 v119 q107.1 :: Res.sl Ek.c128 24 v13 q11 :: Res.sl Ek.c128 24 v105 q93.1 :: Res.sl Ek.c128 24 v9 q7 :: ow)) ?_ ?_
  · rcases Bool.eq_false_or_eq_true (((q93.2 != (0 : Int)) || (q107.2 != (0 : Int))) || (q121.2 != (0 : Int))) with hb154 | hb154
    · skip
      refine st_skip hf (wantN hf rfl rfl hb154) rfl (by decide) ?_ rfl
      clear hf; intro a hf
      refine st_skip hf (wantN hf rfl rfl hb154) rfl (by decide) ?_ rfl
      clear hf; intro a hf
      refine st_pick (v := .bool true) hf rfl rfl (fun hb' => ?_) (fun hb' => ?_) (by decide) ?_
      · rfl
      · exact absurd (hb154.symm.trans hb') (by decide)
      clear hf; intro a ha hf; clear ha
      refine st_nil hf (th_n ?_)
      exact ⟨hf.sub ⟨rfl, rfl, rfl, rfl, rfl, rfl, rfl, rfl, (by rw [hb154]; rfl), trivial⟩, hp⟩
    refine st_move hf (wantY hf rfl rfl hb154) rfl (by decide) ?_
    clear hf; intro a ha hf; clear ha
    refine st_ineq hf (by decide) (wantY hf rfl rfl hb154) rfl rfl ?_
    clear hf; intro a ha hf; clear ha
    refine st_pick (v := .bool (q135.2 != (0 : Int))) hf rfl rfl (fun hb' => ?_) (fun hb' => ?_) (by decide) ?_
    · exact absurd (hb154.symm.trans hb') (by decide)
    · rfl
    clear hf; intro a ha hf; clear ha
    refine st_nil hf (th_n ?_)
    exact ⟨hf.sub ⟨rfl, rfl, rfl, rfl, rfl, rfl, rfl, rfl, (by rw [hb154]; rfl), trivial⟩, hp⟩
  rintro a w ⟨hf, hp⟩
  refine st_move hf rfl rfl (by decide) ?_
  clear hf; intro a ha hf; clear ha
  refine wpList_cut 6 (fun a w => Fr 241 a [(3, .int .i64 xx0_N), (4, v5), (5, v9), (6, v13), (11, v105), (13, v119), (15, v133), (17, v147), (132, .bool (((((q93.2 != (0 : Int)) || (q107.2 != (0 : Int))) || (q121.2 != (0 : Int))) || (q135.2 != (0 : Int))) || ((q93.1.length : Int) != (q11.length : Int))))] ∧ Hp S w0 w (Res.sl Ek.c128 24 v5 q3 :: Res.sl Ek.c128 24 v41 q90.2 :: Res.sl Ek.c128 24 v147 q135.1 :: Res.sl Ek.c128 24 v39 q90.1 :: Res.sl Ek.c128 24 v133 q121.1 :: Res.slx Ek.c128 24 (GL.cut v25 0 (((q11.length : Int)).toNat) 1) ((q31 ++ ([] : List (Fl × Fl))).take (((q11.length : Int)).toNat)) ((q31 ++ ([] : List (Fl × Fl))).drop (((q11.length : Int)).toNat)) :: Res.sl Ek.c128 24 v119 q107.1 :: Res.sl Ek.c128 24 v13 q11 :: Res.sl Ek.c128 24 v105 q93.1 :: Res.sl Ek.c128 24 v9 q7 :: ow)) ?_ ?_
  · rcases Bool.eq_false_or_eq_true ((((q93.2 != (0 : Int)) || (q107.2 != (0 : Int))) || (q121.2 != (0 : Int))) || (q135.2 != (0 : Int))) with hb156 | hb156
    · skip
      refine st_skip hf (wantN hf rfl rfl hb156) rfl (by decide) ?_ rfl
      clear hf; intro a hf
      refine st_skip hf (wantN hf rfl rfl hb156) rfl (by decide) ?_ rfl
      clear hf; intro a hf
      refine st_skip hf (wantN hf rfl rfl hb156) rfl (by decide) ?_ rfl
      clear hf; intro a hf
      refine st_skip hf (wantN hf rfl rfl hb156) rfl (by decide) ?_ rfl
      clear hf; intro a hf
      refine st_skip hf (wantN hf rfl rfl hb156) rfl (by decide) ?_ rfl
      clear hf; intro a hf
      refine st_pick (v := .bool true) hf rfl rfl (fun hb' => ?_) (fun hb' => ?_) (by decide) ?_
      · rfl
      · exact absurd (hb156.symm.trans hb') (by decide)
      clear hf; intro a ha hf; clear ha
      refine st_nil hf (th_n ?_)
      exact ⟨hf.sub ⟨rfl, rfl, rfl, rfl, rfl, rfl, rfl, rfl, (by rw [hb156]; rfl), trivial⟩, hp⟩
    refine st_move hf (wantY hf rfl rfl hb156) rfl (by decide) ?_
    clear hf; intro a ha hf; clear ha
    refine st_len (E := Ek.c128) hf (by decide) Try.underlying41 (wantY hf rfl rfl hb156) rfl (hp.sl (i := 8) rfl) ?_
    clear hf; intro a ha hf; clear ha
    refine st_move hf (wantY hf rfl rfl hb156) rfl (by decide) ?_
    clear hf; intro a ha hf; clear ha
    refine st_len (E := Ek.c128) hf (by decide) Try.underlying41 (wantY hf rfl rfl hb156) rfl (hp.sl (i := 7) rfl) ?_
    clear hf; intro a ha hf; clear ha
    refine st_ineq hf (by decide) (wantY hf rfl rfl hb156) rfl rfl ?_
    clear hf; intro a ha hf; clear ha
    refine st_pick (v := .bool ((q93.1.length : Int) != (q11.length : Int))) hf rfl rfl (fun hb' => ?_) (fun hb' => ?_) (by decide) ?_
    · exact absurd (hb156.symm.trans hb') (by decide)
    · rfl
    clear hf; intro a ha hf; clear ha
    refine st_nil hf (th_n ?_)
    exact ⟨hf.sub ⟨rfl, rfl, rfl, rfl, rfl, rfl, rfl, rfl, (by rw [hb156]; rfl), trivial⟩, hp⟩
  rintro a w ⟨hf, hp⟩
  refine st_move hf rfl rfl (by decide) ?_
  clear hf; intro a ha hf; clear ha
  refine wpList_cut 6 (fun a w => Fr 241 a [(3, .int .i64 xx0_N), (4, v5), (5, v9), (6, v13), (11, v105), (13, v119), (15, v133), (17, v147), (139, .bool ((((((q93.2 != (0 : Int)) || (q107.2 != (0 : Int))) || (q121.2 != (0 : Int))) || (q135.2 != (0 : Int))) || ((q93.1.length : Int) != (q11.length : Int))) || ((q107.1.length : Int) != (q11.length : Int))))] ∧ Hp S w0 w (Res.sl Ek.c128 24 v5 q3 :: Res.sl Ek.c128 24 v41 q90.2 :: Res.sl Ek.c128 24 v147 q135.1 :: Res.sl Ek.c128 24 v39 q90.1 :: Res.sl Ek.c128 24 v133 q121.1 :: Res.slx Ek.c128 24 (GL.cut v25 0 (((q11.length : Int)).toNat) 1) ((q31 ++ ([] : List (Fl × Fl))).take (((q11.length : Int)).toNat)) ((q31 ++ ([] : List (Fl × Fl))).drop (((q11.length : Int)).toNat)) :: Res.sl Ek.c128 24 v119 q107.1 :: Res.sl Ek.c128 24 v13 q11 :: Res.sl Ek.c128 24 v105 q93.1 :: Res.sl Ek.c128 24 v9 q7 :: ow)) ?_ ?_
  · rcases Bool.eq_false_or_eq_true (((((q93.2 != (0 : Int)) || (q107.2 != (0 : Int))) || (q121.2 != (0 : Int))) || (q135.2 != (0 : Int))) || ((q93.1.length : Int) != (q11.length : Int))) with hb158 | hb158
    · skip
      refine st_skip hf (wantN hf rfl rfl hb158) rfl (by decide) ?_ rfl
      clear hf; intro a hf
      refine st_skip hf (wantN hf rfl rfl hb158) rfl (by decide) ?_ rfl
      clear hf; intro a hf
      refine st_skip hf (wantN hf rfl rfl hb158) rfl (by decide) ?_ rfl
      clear hf; intro a hf
      refine st_skip hf (wantN hf rfl rfl hb158) rfl (by decide) ?_ rfl
      clear hf; intro a hf
      refine st_skip hf (wantN hf rfl rfl hb158) rfl (by decide) ?_ rfl
      clear hf; intro a hf
      refine st_pick (v := .bool true) hf rfl rfl (fun hb' => ?_) (fun hb' => ?_) (by decide) ?_
      · rfl
      · exact absurd (hb158.symm.trans hb') (by decide)
      clear hf; intro a ha hf; clear ha
      refine st_nil hf (th_n ?_)
      exact ⟨hf.sub ⟨rfl, rfl, rfl, rfl, rfl, rfl, rfl, rfl, (by rw [hb158]; rfl), trivial⟩, hp⟩
    refine st_move hf (wantY hf rfl rfl hb158) rfl (by decide) ?_
    clear hf; intro a ha hf; clear ha
    refine st_len (E := Ek.c128) hf (by decide) Try.underlying41 (wantY hf rfl rfl hb158) rfl (hp.sl (i := 6) rfl) ?_
    clear hf; intro a ha hf; clear ha
    refine st_move hf (wantY hf rfl rfl hb158) rfl (by decide) ?_
    clear hf; intro a ha hf; clear ha
    refine st_len (E := Ek.c128) hf (by decide) Try.underlying41 (wantY hf rfl rfl hb158) rfl (hp.sl (i := 7) rfl) ?_
    clear hf; intro a ha hf; clear ha
    refine st_ineq hf (by decide) (wantY hf rfl rfl hb158) rfl rfl ?_
    clear hf; intro a ha hf; clear ha
    refine st_pick (v := .bool ((q107.1.length : Int) != (q11.length : Int))) hf rfl rfl (fun hb' => ?_) (fun hb' => ?_) (by decide) ?_
    · exact absurd (hb158.symm.trans hb') (by decide)
    · rfl
    clear hf; intro a ha hf; clear ha
    refine st_nil hf (th_n ?_)
    exact ⟨hf.sub ⟨rfl, rfl, rfl, rfl, rfl, rfl, rfl, rfl, (by rw [hb158]; rfl), trivial⟩, hp⟩
  rintro a w ⟨hf, hp⟩
  refine st_move hf rfl rfl (by decide) ?_
  clear hf; intro a ha hf; clear ha
  refine wpList_cut 6 (fun a w => Fr 241 a [(3, .int .i64 xx0_N), (4, v5), (5, v9), (6, v13), (11, v105), (13, v119), (15, v133), (17, v147), (146, .bool (((((((q93.2 != (0 : Int)) || (q107.2 != (0 : Int))) || (q121.2 != (0 : Int))) || (q135.2 != (0 : Int))) || ((q93.1.length : Int) != (q11.length : Int))) || ((q107.1.length : Int) != (q11.length : Int))) || ((q121.1.length : Int) != (q11.length : Int))))] ∧ Hp S w0 w (Res.sl Ek.c128 24 v5 q3 :: Res.sl Ek.c128 24 v41 q90.2 :: Res.sl Ek.c128 24 v147 q135.1 :: Res.sl Ek.c128 24 v39 q90.1 :: Res.sl Ek.c128 24 v133 q121.1 :: Res.slx Ek.c128 24 (GL.cut v25 0 (((q11.length : Int)).toNat) 1) ((q31 ++ ([] : List (Fl × Fl))).take (((q11.length : Int)).toNat)) ((q31 ++ ([] : List (Fl × Fl))).drop (((q11.length : Int)).toNat)) :: Res.sl Ek.c128 24 v119 q107.1 :: Res.sl Ek.c128 24 v13 q11 :: Res.sl Ek.c128 24 v105 q93.1 :: Res.sl Ek.c128 24 v9 q7 :: ow)) ?_ ?_
  · rcases Bool.eq_false_or_eq_true ((((((q93.2 != (0 : Int)) || (q107.2 != (0 : Int))) || (q121.2 != (0 : Int))) || (q135.2 != (0 : Int))) || ((q93.1.length : Int) != (q11.length : Int))) || ((q107.1.length : Int) != (q11.length : Int))) with hb160 | hb160
    · skip
      refine st_skip hf (wantN hf rfl rfl hb160) rfl (by decide) ?_ rfl
      clear hf; intro a hf
      refine st_skip hf (wantN hf rfl rfl hb160) rfl (by decide) ?_ rfl
      clear hf; intro a hf
      refine st_skip hf (wantN hf rfl rfl hb160) rfl (by decide) ?_ rfl
      clear hf; intro a hf
      refine st_skip hf (wantN hf rfl rfl hb160) rfl (by decide) ?_ rfl
      clear hf; intro a hf
      refine st_skip hf (wantN hf rfl rfl hb160) rfl (by decide) ?_ rfl
      clear hf; intro a hf
      refine st_pick (v := .bool true) hf rfl rfl (fun hb' => ?_) (fun hb' => ?_) (by decide) ?_
      · rfl
      · exact absurd (hb160.symm.trans hb') (by decide)
      clear hf; intro a ha hf; clear ha
      refine st_nil hf (th_n ?_)
      exact ⟨hf.sub ⟨rfl, rfl, rfl, rfl, rfl, rfl, rfl, rfl, (by rw [hb160]; rfl), trivial⟩, hp⟩
    refine st_move hf (wantY hf rfl rfl hb160) rfl (by decide) ?_
    clear hf; intro a ha hf; clear ha
    refine st_len (E := Ek.c128) hf (by decide) Try.underlying41 (wantY hf rfl rfl hb160) rfl (hp.sl (i := 4) rfl) ?_
    clear hf; intro a ha hf; clear ha
    refine st_move hf (wantY hf rfl rfl hb160) rfl (by decide) ?_
    clear hf; intro a ha hf; clear ha
    refine st_len (E := Ek.c128) hf (by decide) Try.underlying41 (wantY hf rfl rfl hb160) rfl (hp.sl (i := 7) rfl) ?_
    clear hf; intro a ha hf; clear ha
    refine st_ineq hf (by decide) (wantY hf rfl rfl hb160) rfl rfl ?_
    clear hf; intro a ha hf; clear ha
    refine st_pick (v := .bool ((q121.1.length : Int) != (q11.length : Int))) hf rfl rfl (fun hb' => ?_) (fun hb' => ?_) (by decide) ?_
    · exact absurd (hb160.symm.trans hb') (by decide)
    · rfl
    clear hf; intro a ha hf; clear ha
    refine st_nil hf (th_n ?_)
    exact ⟨hf.sub ⟨rfl, rfl, rfl, rfl, rfl, rfl, rfl, rfl, (by rw [hb160]; rfl), trivial⟩, hp⟩
  rintro a w ⟨hf, hp⟩
  refine st_move hf rfl rfl (by decide) ?_
  clear hf; intro a ha hf; clear ha
  refine wpList_cut 6 (fun a w => Fr 241 a [(3, .int .i64 xx0_N), (4, v5), (5, v9), (6, v13), (11, v105), (13, v119), (15, v133), (17, v147), (153, .bool ((((((((q93.2 != (0 : Int)) || (q107.2 != (0 : Int))) || (q121.2 != (0 : Int))) || (q135.2 != (0 : Int))) || ((q93.1.length : Int) != (q11.length : Int))) || ((q107.1.length : Int) != (q11.length : Int))) || ((q121.1.length : Int) != (q11.length : Int))) || ((q135.1.length : Int) != (q11.length : Int))))] ∧ Hp S w0 w (Res.sl Ek.c128 24 v5 q3 :: Res.sl Ek.c128 24 v41 q90.2 :: Res.sl Ek.c128 24 v147 q135.1 :: Res.sl Ek.c128 24 v39 q90.1 :: Res.sl Ek.c128 24 v133 q121.1 :: Res.slx Ek.c128 24 (GL.cut v25 0 (((q11.length : Int)).toNat) 1) ((q31 ++ ([] : List (Fl × Fl))).take (((q11.length : Int)).toNat)) ((q31 ++ ([] : List (Fl × Fl))).drop (((q11.length : Int)).toNat)) :: Res.sl Ek.c128 24 v119 q107.1 :: Res.sl Ek.c128 24 v13 q11 :: Res.sl Ek.c128 24 v105 q93.1 :: Res.sl Ek.c128 24 v9 q7 :: ow)) ?_ ?_
  · rcases Bool.eq_false_or_eq_true (((((((q93.2 != (0 : Int)) || (q107.2 != (0 : Int))) || (q121.2 != (0 : Int))) || (q135.2 != (0 : Int))) || ((q93.1.length : Int) != (q11.length : Int))) || ((q107.1.length : Int) != (q11.length : Int))) || ((q121.1.length : Int) != (q11.length : Int))) with hb162 | hb162
    · skip
      refine st_skip hf (wantN hf rfl rfl hb162) rfl (by decide) ?_ rfl
      clear hf; intro a hf
      refine st_skip hf (wantN hf rfl rfl hb162) rfl (by decide) ?_ rfl
      clear hf; intro a hf
      refine st_skip hf (wantN hf rfl rfl hb162) rfl (by decide) ?_ rfl
      clear hf; intro a hf
      refine st_skip hf (wantN hf rfl rfl hb162) rfl (by decide) ?_ rfl
      clear hf; intro a hf
      refine st_skip hf (wantN hf rfl rfl hb162) rfl (by decide) ?_ rfl
      clear hf; intro a hf
      refine st_pick (v := .bool true) hf rfl rfl (fun hb' => ?_) (fun hb' => ?_) (by decide) ?_
      · rfl
      · exact absurd (hb162.symm.trans hb') (by decide)
      clear hf; intro a ha hf; clear ha
      refine st_nil hf (th_n ?_)
      exact ⟨hf.sub ⟨rfl, rfl, rfl, rfl, rfl, rfl, rfl, rfl, (by rw [hb162]; rfl), trivial⟩, hp⟩
    refine st_move hf (wantY hf rfl rfl hb162) rfl (by decide) ?_
    clear hf; intro a ha hf; clear ha
    refine st_len (E := Ek.c128) hf (by decide) Try.underlying41 (wantY hf rfl rfl hb162) rfl (hp.sl (i := 2) rfl) ?_
    clear hf; intro a ha hf; clear ha
    refine st_move hf (wantY hf rfl rfl hb162) rfl (by decide) ?_
    clear hf; intro a ha hf; clear ha
    refine st_len (E := Ek.c128) hf (by decide) Try.underlying41 (wantY hf rfl rfl hb162) rfl (hp.sl (i := 7) rfl) ?_
    clear hf; intro a ha hf; clear ha
    refine st_ineq hf (by decide) (wantY hf rfl rfl hb162) rfl rfl ?_
    clear hf; intro a ha hf; clear ha
    refine st_pick (v := .bool ((q135.1.length : Int) != (q11.length : Int))) hf rfl rfl (fun hb' => ?_) (fun hb' => ?_) (by decide) ?_
    · exact absurd (hb162.symm.trans hb') (by decide)
    · rfl
    clear hf; intro a ha hf; clear ha
    refine st_nil hf (th_n ?_)
    exact ⟨hf.sub ⟨rfl, rfl, rfl, rfl, rfl, rfl, rfl, rfl, (by rw [hb162]; rfl), trivial⟩, hp⟩
  rintro a w ⟨hf, hp⟩
  refine st_nil hf ?_
  refine th_n ?_
  refine wp_if hf rfl (fun hb => ?_) (fun hb => ?_)
  · replace h := ifT h hb
    refine wp_seq ?_
    refine wp_reg ?_
    refine st_assign hf rfl rfl (by decide) ?_
    clear hf; intro a ha hf; clear ha
    refine st_nil hf ?_
    refine th_n ?_
    refine wp_ret ?_
    refine th_r ?_
    obtain rfl := Option.some.inj h
    have hp : Hp _ _ _ (ow) := Hp.sel (pre := [Res.sl Ek.c128 24 v5 q3, Res.sl Ek.c128 24 v41 q90.2, Res.sl Ek.c128 24 v147 q135.1, Res.sl Ek.c128 24 v39 q90.1, Res.sl Ek.c128 24 v133 q121.1, Res.slx Ek.c128 24 (GL.cut v25 0 (((q11.length : Int)).toNat) 1) ((q31 ++ ([] : List (Fl × Fl))).take (((q11.length : Int)).toNat)) ((q31 ++ ([] : List (Fl × Fl))).drop (((q11.length : Int)).toNat)), Res.sl Ek.c128 24 v119 q107.1, Res.sl Ek.c128 24 v13 q11, Res.sl Ek.c128 24 v105 q93.1, Res.sl Ek.c128 24 v9 q7]) (tail := ow) (rs' := []) hp [] (by decide) (by simp) rfl
    exact ⟨rfl, ⟨hf.sub ⟨rfl, trivial⟩, hp⟩⟩
  replace h := ifF h hb
  refine wp_skip ?_
  refine th_n ?_
  refine wp_seq ?_
  refine wp_reg ?_
  refine st_move hf rfl rfl (by decide) ?_
  clear hf; intro a ha hf; clear ha
  refine st_move hf rfl rfl (by decide) ?_
  clear hf; intro a ha hf; clear ha
  obtain ⟨q163, hcall164, h⟩ := bnd h
  obtain ⟨S165, hp166, rd167, up168, bk169⟩ := Hp.lendS hp (i := 9) rfl
  obtain ⟨S170, hp171, rd172, up173, bk174⟩ := Hp.lendS hp166 (i := 8) rfl
  refine st_call hf (by decide) Try.func28 rfl rfl rfl rfl rfl (f_plane_Filter_c hp171 _ _ ((rd167.now hp166).mono up173) _ _ rd172 hcall164) ?_
  rintro _ w ⟨v175, rfl, hp0⟩
  have hp0 := bk174 _ _ hp0
  have hp0 := bk169 _ _ hp0
  clear hp; have hp := hp0; clear hp0
  replace hp : Hp _ _ _ (Res.sl Ek.c128 24 v9 q7 :: Res.sl Ek.c128 24 v105 q93.1 :: Res.sl Ek.c128 24 v175 q163.1 :: Res.sl Ek.c128 24 v5 q3 :: Res.sl Ek.c128 24 v41 q90.2 :: Res.sl Ek.c128 24 v147 q135.1 :: Res.sl Ek.c128 24 v39 q90.1 :: Res.sl Ek.c128 24 v133 q121.1 :: Res.slx Ek.c128 24 (GL.cut v25 0 (((q11.length : Int)).toNat) 1) ((q31 ++ ([] : List (Fl × Fl))).take (((q11.length : Int)).toNat)) ((q31 ++ ([] : List (Fl × Fl))).drop (((q11.length : Int)).toNat)) :: Res.sl Ek.c128 24 v119 q107.1 :: Res.sl Ek.c128 24 v13 q11 :: ow) := hp
  refine ⟨_, rfl, ?_⟩
  clear hf; intro a hf
  refine st_move hf rfl rfl (by decide) ?_
  clear hf; intro a ha hf; clear ha
  refine st_extract hf (by decide) rfl rfl rfl ?_
  clear hf; intro a ha hf; clear ha
  refine st_extract hf (by decide) rfl rfl rfl ?_
  clear hf; intro a ha hf; clear ha
  refine st_assign hf rfl rfl (by decide) ?_
  clear hf; intro a ha hf; clear ha
  refine st_assign hf rfl rfl (by decide) ?_
  clear hf; intro a ha hf; clear ha
  refine st_nil hf ?_
  refine th_n ?_
  refine wp_seq ?_
  refine wp_reg ?_
  refine st_move hf rfl rfl (by decide) ?_
  clear hf; intro a ha hf; clear ha
  refine st_move hf rfl rfl (by decide) ?_
  clear hf; intro a ha hf; clear ha
  obtain ⟨q177, hcall178, h⟩ := bnd h
  obtain ⟨S179, hp180, rd181, up182, bk183⟩ := Hp.lendS hp (i := 0) rfl
  obtain ⟨S184, hp185, rd186, up187, bk188⟩ := Hp.lendS hp180 (i := 9) rfl
  refine st_call hf (by decide) Try.func28 rfl rfl rfl rfl rfl (f_plane_Filter_c hp185 _ _ ((rd181.now hp180).mono up187) _ _ rd186 hcall178) ?_
  rintro _ w ⟨v189, rfl, hp0⟩
  have hp0 := bk188 _ _ hp0
  have hp0 := bk183 _ _ hp0
  clear hp; have hp := hp0; clear hp0
  replace hp : Hp _ _ _ (Res.sl Ek.c128 24 v9 q7 :: Res.sl Ek.c128 24 v13 q11 :: Res.sl Ek.c128 24 v189 q177.1 :: Res.sl Ek.c128 24 v105 q93.1 :: Res.sl Ek.c128 24 v175 q163.1 :: Res.sl Ek.c128 24 v5 q3 :: Res.sl Ek.c128 24 v41 q90.2 :: Res.sl Ek.c128 24 v147 q135.1 :: Res.sl Ek.c128 24 v39 q90.1 :: Res.sl Ek.c128 24 v133 q121.1 :: Res.slx Ek.c128 24 (GL.cut v25 0 (((q11.length : Int)).toNat) 1) ((q31 ++ ([] : List (Fl × Fl))).take (((q11.length : Int)).toNat)) ((q31 ++ ([] : List (Fl × Fl))).drop (((q11.length : Int)).toNat)) :: Res.sl Ek.c128 24 v119 q107.1 :: ow) := hp
  refine ⟨_, rfl, ?_⟩
  clear hf; intro a hf
  refine st_move hf rfl rfl (by decide) ?_
  clear hf; intro a ha hf; clear ha
  refine st_extract hf (by decide) rfl rfl rfl ?_
  clear hf; intro a ha hf; clear ha
  refine st_extract hf (by decide) rfl rfl rfl ?_
  clear hf; intro a ha hf; clear ha
  refine st_assign hf rfl rfl (by decide) ?_
  clear hf; intro a ha hf; clear ha
  refine st_assign hf rfl rfl (by decide) ?_
  clear hf; intro a ha hf; clear ha
  refine st_nil hf ?_
  refine th_n ?_
  refine wp_seq ?_
  refine wp_reg ?_
  refine st_move hf rfl rfl (by decide) ?_
  clear hf; intro a ha hf; clear ha
  refine st_move hf rfl rfl (by decide) ?_
  clear hf; intro a ha hf; clear ha
  obtain ⟨q191, hcall192, h⟩ := bnd h
  obtain ⟨S193, hp194, rd195, up196, bk197⟩ := Hp.lendS hp (i := 5) rfl
  obtain ⟨S198, hp199, rd200, up201, bk202⟩ := Hp.lendS hp194 (i := 2) rfl
  refine st_call hf (by decide) Try.func28 rfl rfl rfl rfl rfl (f_plane_Filter_c hp199 _ _ ((rd195.now hp194).mono up201) _ _ rd200 hcall192) ?_
  rintro _ w ⟨v203, rfl, hp0⟩
  have hp0 := bk202 _ _ hp0
  have hp0 := bk197 _ _ hp0
  clear hp; have hp := hp0; clear hp0
  replace hp : Hp _ _ _ (Res.sl Ek.c128 24 v5 q3 :: Res.sl Ek.c128 24 v189 q177.1 :: Res.sl Ek.c128 24 v203 q191.1 :: Res.sl Ek.c128 24 v9 q7 :: Res.sl Ek.c128 24 v13 q11 :: Res.sl Ek.c128 24 v105 q93.1 :: Res.sl Ek.c128 24 v175 q163.1 :: Res.sl Ek.c128 24 v41 q90.2 :: Res.sl Ek.c128 24 v147 q135.1 :: Res.sl Ek.c128 24 v39 q90.1 :: Res.sl Ek.c128 24 v133 q121.1 :: Res.slx Ek.c128 24 (GL.cut v25 0 (((q11.length : Int)).toNat) 1) ((q31 ++ ([] : List (Fl × Fl))).take (((q11.length : Int)).toNat)) ((q31 ++ ([] : List (Fl × Fl))).drop (((q11.length : Int)).toNat)) :: Res.sl Ek.c128 24 v119 q107.1 :: ow) := hp
  refine ⟨_, rfl, ?_⟩
  clear hf; intro a hf
  refine st_move hf rfl rfl (by decide) ?_
  clear hf; intro a ha hf; clear ha
  refine st_extract hf (by decide) rfl rfl rfl ?_
  clear hf; intro a ha hf; clear ha
  refine st_extract hf (by decide) rfl rfl rfl ?_
  clear hf; intro a ha hf; clear ha
  refine st_assign hf rfl rfl (by decide) ?_
  clear hf; intro a ha hf; clear ha
  refine st_assign hf rfl rfl (by decide) ?_
  clear hf; intro a ha hf; clear ha
  refine st_nil hf ?_
  refine th_n ?_
  refine wp_seq ?_
  refine wp_seq ?_
  refine wp_reg ?_
  refine st_move hf rfl rfl (by decide) ?_
  clear hf; intro a ha hf; clear ha
  refine st_ineq hf (by decide) rfl rfl rfl ?_
  clear hf; intro a ha hf; clear ha
  refine st_move hf rfl rfl (by decide) ?_
  clear hf; intro a ha hf; clear ha
  refine wpList_cut 3 (fun a w => Fr 241 a [(3, .int .i64 xx0_N), (6, v13), (11, v105), (13, v119), (15, v133), (17, v147), (19, v175), (23, v203), (24, .int .i64 q191.2), (177, .bool ((q163.2 != (0 : Int)) || (q177.2 != (0 : Int))))] ∧ Hp S w0 w (Res.sl Ek.c128 24 v5 q3 :: Res.sl Ek.c128 24 v189 q177.1 :: Res.sl Ek.c128 24 v203 q191.1 :: Res.sl Ek.c128 24 v9 q7 :: Res.sl Ek.c128 24 v13 q11 :: Res.sl Ek.c128 24 v105 q93.1 :: Res.sl Ek.c128 24 v175 q163.1 :: Res.sl Ek.c128 24 v41 q90.2 :: Res.sl Ek.c128 24 v147 q135.1 :: Res.sl Ek.c128 24 v39 q90.1 :: Res.sl Ek.c128 24 v133 q121.1 :: Res.slx Ek.c128 24 (GL.cut v25 0 (((q11.length : Int)).toNat) 1) ((q31 ++ ([] : List (Fl × Fl))).take (((q11.length : Int)).toNat)) ((q31 ++ ([] : List (Fl × Fl))).drop (((q11.length : Int)).toNat)) :: Res.sl Ek.c128 24 v119 q107.1 :: ow)) ?_ ?_
  · rcases Bool.eq_false_or_eq_true (q163.2 != (0 : Int)) with hb206 | hb206
    · skip
      refine st_skip hf (wantN hf rfl rfl hb206) rfl (by decide) ?_ rfl
      clear hf; intro a hf
      refine st_skip hf (wantN hf rfl rfl hb206) rfl (by decide) ?_ rfl
      clear hf; intro a hf
      refine st_pick (v := .bool true) hf rfl rfl (fun hb' => ?_) (fun hb' => ?_) (by decide) ?_
      · rfl
      · exact absurd (hb206.symm.trans hb') (by decide)
      clear hf; intro a ha hf; clear ha
      refine st_nil hf (th_n ?_)
      exact ⟨hf.sub ⟨rfl, rfl, rfl, rfl, rfl, rfl, rfl, rfl, rfl, (by rw [hb206]; rfl), trivial⟩, hp⟩
    refine st_move hf (wantY hf rfl rfl hb206) rfl (by decide) ?_
    clear hf; intro a ha hf; clear ha
    refine st_ineq hf (by decide) (wantY hf rfl rfl hb206) rfl rfl ?_
    clear hf; intro a ha hf; clear ha
    refine st_pick (v := .bool (q177.2 != (0 : Int))) hf rfl rfl (fun hb' => ?_) (fun hb' => ?_) (by decide) ?_
    · exact absurd (hb206.symm.trans hb') (by decide)
    · rfl
    clear hf; intro a ha hf; clear ha
    refine st_nil hf (th_n ?_)
    exact ⟨hf.sub ⟨rfl, rfl, rfl, rfl, rfl, rfl, rfl, rfl, rfl, (by rw [hb206]; rfl), trivial⟩, hp⟩
  rintro a w ⟨hf, hp⟩
  refine st_move hf rfl rfl (by decide) ?_
  clear hf; intro a ha hf; clear ha
  refine wpList_cut 3 (fun a w => Fr 241 a [(3, .int .i64 xx0_N), (6, v13), (11, v105), (13, v119), (15, v133), (17, v147), (19, v175), (23, v203), (181, .bool (((q163.2 != (0 : Int)) || (q177.2 != (0 : Int))) || (q191.2 != (0 : Int))))] ∧ Hp S w0 w (Res.sl Ek.c128 24 v5 q3 :: Res.sl Ek.c128 24 v189 q177.1 :: Res.sl Ek.c128 24 v203 q191.1 :: Res.sl Ek.c128 24 v9 q7 :: Res.sl Ek.c128 24 v13 q11 :: Res.sl Ek.c128 24 v105 q93.1 :: Res.sl Ek.c128 24 v175 q163.1 :: Res.sl Ek.c128 24 v41 q90.2 :: Res.sl Ek.c128 24 v147 q135.1 :: Res.sl Ek.c128 24 v39 q90.1 :: Res.sl Ek.c128 24 v133 q121.1 :: Res.slx Ek.c128 24 (GL.cut v25 0 (((q11.length : Int)).toNat) 1) ((q31 ++ ([] : List (Fl × Fl))).take (((q11.length : Int)).toNat)) ((q31 ++ ([] : List (Fl × Fl))).drop (((q11.length : Int)).toNat)) :: Res.sl Ek.c128 24 v119 q107.1 :: ow)) ?_ ?_
  · rcases Bool.eq_false_or_eq_true ((q163.2 != (0 : Int)) || (q177.2 != (0 : Int))) with hb208 | hb208
    · skip
      refine st_skip hf (wantN hf rfl rfl hb208) rfl (by decide) ?_ rfl
      clear hf; intro a hf
      refine st_skip hf (wantN hf rfl rfl hb208) rfl (by decide) ?_ rfl
      clear hf; intro a hf
      refine st_pick (v := .bool true) hf rfl rfl (fun hb' => ?_) (fun hb' => ?_) (by decide) ?_
      · rfl
      · exact absurd (hb208.symm.trans hb') (by decide)
      clear hf; intro a ha hf; clear ha
      refine st_nil hf (th_n ?_)
      exact ⟨hf.sub ⟨rfl, rfl, rfl, rfl, rfl, rfl, rfl, rfl, (by rw [hb208]; rfl), trivial⟩, hp⟩
    refine st_move hf (wantY hf rfl rfl hb208) rfl (by decide) ?_
    clear hf; intro a ha hf; clear ha
    refine st_ineq hf (by decide) (wantY hf rfl rfl hb208) rfl rfl ?_
    clear hf; intro a ha hf; clear ha
    refine st_pick (v := .bool (q191.2 != (0 : Int))) hf rfl rfl (fun hb' => ?_) (fun hb' => ?_) (by decide) ?_
    · exact absurd (hb208.symm.trans hb') (by decide)
    · rfl
    clear hf; intro a ha hf; clear ha
    refine st_nil hf (th_n ?_)
    exact ⟨hf.sub ⟨rfl, rfl, rfl, rfl, rfl, rfl, rfl, rfl, (by rw [hb208]; rfl), trivial⟩, hp⟩
  rintro a w ⟨hf, hp⟩
  refine st_move hf rfl rfl (by decide) ?_
  clear hf; intro a ha hf; clear ha
  refine wpList_cut 6 (fun a w => Fr 241 a [(3, .int .i64 xx0_N), (6, v13), (11, v105), (13, v119), (15, v133), (17, v147), (19, v175), (23, v203), (188, .bool ((((q163.2 != (0 : Int)) || (q177.2 != (0 : Int))) || (q191.2 != (0 : Int))) || ((q163.1.length : Int) != (q11.length : Int))))] ∧ Hp S w0 w (Res.sl Ek.c128 24 v5 q3 :: Res.sl Ek.c128 24 v189 q177.1 :: Res.sl Ek.c128 24 v203 q191.1 :: Res.sl Ek.c128 24 v9 q7 :: Res.sl Ek.c128 24 v13 q11 :: Res.sl Ek.c128 24 v105 q93.1 :: Res.sl Ek.c128 24 v175 q163.1 :: Res.sl Ek.c128 24 v41 q90.2 :: Res.sl Ek.c128 24 v147 q135.1 :: Res.sl Ek.c128 24 v39 q90.1 :: Res.sl Ek.c128 24 v133 q121.1 :: Res.slx Ek.c128 24 (GL.cut v25 0 (((q11.length : Int)).toNat) 1) ((q31 ++ ([] : List (Fl × Fl))).take (((q11.length : Int)).toNat)) ((q31 ++ ([] : List (Fl × Fl))).drop (((q11.length : Int)).toNat)) :: Res.sl Ek.c128 24 v119 q107.1 :: ow)) ?_ ?_
  · rcases Bool.eq_false_or_eq_true (((q163.2 != (0 : Int)) || (q177.2 != (0 : Int))) || (q191.2 != (0 : Int))) with hb210 | hb210
    · skip
      refine st_skip hf (wantN hf rfl rfl hb210) rfl (by decide) ?_ rfl
      clear hf; intro a hf
      refine st_skip hf (wantN hf rfl rfl hb210) rfl (by decide) ?_ rfl
      clear hf; intro a hf
      refine st_skip hf (wantN hf rfl rfl hb210) rfl (by decide) ?_ rfl
      clear hf; intro a hf
      refine st_skip hf (wantN hf rfl rfl hb210) rfl (by decide) ?_ rfl
      clear hf; intro a hf
      refine st_skip hf (wantN hf rfl rfl hb210) rfl (by decide) ?_ rfl
      clear hf; intro a hf
      refine st_pick (v := .bool true) hf rfl rfl (fun hb' => ?_) (fun hb' => ?_) (by decide) ?_
      · rfl
      · exact absurd (hb210.symm.trans hb') (by decide)
      clear hf; intro a ha hf; clear ha
      refine st_nil hf (th_n ?_)
      exact ⟨hf.sub ⟨rfl, rfl, rfl, rfl, rfl, rfl, rfl, rfl, (by rw [hb210]; rfl), trivial⟩, hp⟩
    refine st_move hf (wantY hf rfl rfl hb210) rfl (by decide) ?_
    clear hf; intro a ha hf; clear ha
    refine st_len (E := Ek.c128) hf (by decide) Try.underlying41 (wantY hf rfl rfl hb210) rfl (hp.sl (i := 6) rfl) ?_
    clear hf; intro a ha hf; clear ha
    refine st_move hf (wantY hf rfl rfl hb210) rfl (by decide) ?_
    clear hf; intro a ha hf; clear ha
    refine st_len (E := Ek.c128) hf (by decide) Try.underlying41 (wantY hf rfl rfl hb210) rfl (hp.sl (i := 4) rfl) ?_
    clear hf; intro a ha hf; clear ha
    refine st_ineq hf (by decide) (wantY hf rfl rfl hb210) rfl rfl ?_
    clear hf; intro a ha hf; clear ha
    refine st_pick (v := .bool ((q163.1.length : Int) != (q11.length : Int))) hf rfl rfl (fun hb' => ?_) (fun hb' => ?_) (by decide) ?_
    · exact absurd (hb210.symm.trans hb') (by decide)
    · rfl
    clear hf; intro a ha hf; clear ha
    refine st_nil hf (th_n ?_)
    exact ⟨hf.sub ⟨rfl, rfl, rfl, rfl, rfl, rfl, rfl, rfl, (by rw [hb210]; rfl), trivial⟩, hp⟩
  rintro a w ⟨hf, hp⟩
  refine st_move hf rfl rfl (by decide) ?_
  clear hf; intro a ha hf; clear ha
  refine wpList_cut 6 (fun a w => Fr 241 a [(3, .int .i64 xx0_N), (6, v13), (11, v105), (13, v119), (15, v133), (17, v147), (19, v175), (23, v203), (195, .bool (((((q163.2 != (0 : Int)) || (q177.2 != (0 : Int))) || (q191.2 != (0 : Int))) || ((q163.1.length : Int) != (q11.length : Int))) || ((q191.1.length : Int) != (q11.length : Int))))] ∧ Hp S w0 w (Res.sl Ek.c128 24 v5 q3 :: Res.sl Ek.c128 24 v189 q177.1 :: Res.sl Ek.c128 24 v203 q191.1 :: Res.sl Ek.c128 24 v9 q7 :: Res.sl Ek.c128 24 v13 q11 :: Res.sl Ek.c128 24 v105 q93.1 :: Res.sl Ek.c128 24 v175 q163.1 :: Res.sl Ek.c128 24 v41 q90.2 :: Res.sl Ek.c128 24 v147 q135.1 :: Res.sl Ek.c128 24 v39 q90.1 :: Res.sl Ek.c128 24 v133 q121.1 :: Res.slx Ek.c128 24 (GL.cut v25 0 (((q11.length : Int)).toNat) 1) ((q31 ++ ([] : List (Fl × Fl))).take (((q11.length : Int)).toNat)) ((q31 ++ ([] : List (Fl × Fl))).drop (((q11.length : Int)).toNat)) :: Res.sl Ek.c128 24 v119 q107.1 :: ow)) ?_ ?_
  · rcases Bool.eq_false_or_eq_true ((((q163.2 != (0 : Int)) || (q177.2 != (0 : Int))) || (q191.2 != (0 : Int))) || ((q163.1.length : Int) != (q11.length : Int))) with hb212 | hb212
    · skip
      refine st_skip hf (wantN hf rfl rfl hb212) rfl (by decide) ?_ rfl
      clear hf; intro a hf
      refine st_skip hf (wantN hf rfl rfl hb212) rfl (by decide) ?_ rfl
      clear hf; intro a hf
      refine st_skip hf (wantN hf rfl rfl hb212) rfl (by decide) ?_ rfl
      clear hf; intro a hf
      refine st_skip hf (wantN hf rfl rfl hb212) rfl (by decide) ?_ rfl
      clear hf; intro a hf
      refine st_skip hf (wantN hf rfl rfl hb212) rfl (by decide) ?_ rfl
      clear hf; intro a hf
      refine st_pick (v := .bool true) hf rfl rfl (fun hb' => ?_) (fun hb' => ?_) (by decide) ?_
      · rfl
      · exact absurd (hb212.symm.trans hb') (by decide)
      clear hf; intro a ha hf; clear ha
      refine st_nil hf (th_n ?_)
      exact ⟨hf.sub ⟨rfl, rfl, rfl, rfl, rfl, rfl, rfl, rfl, (by rw [hb212]; rfl), trivial⟩, hp⟩
    refine st_move hf (wantY hf rfl rfl hb212) rfl (by decide) ?_
    clear hf; intro a ha hf; clear ha
    refine st_len (E := Ek.c128) hf (by decide) Try.underlying41 (wantY hf rfl rfl hb212) rfl (hp.sl (i := 2) rfl) ?_
    clear hf; intro a ha hf; clear ha
    refine st_move hf (wantY hf rfl rfl hb212) rfl (by decide) ?_
    clear hf; intro a ha hf; clear ha
    refine st_len (E := Ek.c128) hf (by decide) Try.underlying41 (wantY hf rfl rfl hb212) rfl (hp.sl (i := 4) rfl) ?_
    clear hf; intro a ha hf; clear ha
    refine st_ineq hf (by decide) (wantY hf rfl rfl hb212) rfl rfl ?_
    clear hf; intro a ha hf; clear ha
    refine st_pick (v := .bool ((q191.1.length : Int) != (q11.length : Int))) hf rfl rfl (fun hb' => ?_) (fun hb' => ?_) (by decide) ?_
    · exact absurd (hb212.symm.trans hb') (by decide)
    · rfl
    clear hf; intro a ha hf; clear ha
    refine st_nil hf (th_n ?_)
    exact ⟨hf.sub ⟨rfl, rfl, rfl, rfl, rfl, rfl, rfl, rfl, (by rw [hb212]; rfl), trivial⟩, hp⟩
  rintro a w ⟨hf, hp⟩
  refine st_nil hf ?_
  refine th_n ?_
  refine wp_if hf rfl (fun hb => ?_) (fun hb => ?_)
  · replace h := ifT h hb
    refine wp_seq ?_
    refine wp_reg ?_
    refine st_assign hf rfl rfl (by decide) ?_
    clear hf; intro a ha hf; clear ha
    refine st_nil hf ?_
    refine th_n ?_
    refine wp_ret ?_
    refine th_r ?_
    obtain rfl := Option.some.inj h
    have hp : Hp _ _ _ (ow) := Hp.sel (pre := [Res.sl Ek.c128 24 v5 q3, Res.sl Ek.c128 24 v189 q177.1, Res.sl Ek.c128 24 v203 q191.1, Res.sl Ek.c128 24 v9 q7, Res.sl Ek.c128 24 v13 q11, Res.sl Ek.c128 24 v105 q93.1, Res.sl Ek.c128 24 v175 q163.1, Res.sl Ek.c128 24 v41 q90.2, Res.sl Ek.c128 24 v147 q135.1, Res.sl Ek.c128 24 v39 q90.1, Res.sl Ek.c128 24 v133 q121.1, Res.slx Ek.c128 24 (GL.cut v25 0 (((q11.length : Int)).toNat) 1) ((q31 ++ ([] : List (Fl × Fl))).take (((q11.length : Int)).toNat)) ((q31 ++ ([] : List (Fl × Fl))).drop (((q11.length : Int)).toNat)), Res.sl Ek.c128 24 v119 q107.1]) (tail := ow) (rs' := []) hp [] (by decide) (by simp) rfl
    exact ⟨rfl, ⟨hf.sub ⟨rfl, trivial⟩, hp⟩⟩
  replace h := ifF h hb
  refine wp_skip ?_
  refine th_n ?_
  refine wp_seq ?_
  refine wp_seq ?_
  refine wp_reg ?_
  refine st_assign hf rfl rfl (by decide) ?_
  clear hf; intro a ha hf; clear ha
  refine st_nil hf ?_
  refine th_n ?_
  refine wp_block ?_
  obtain ⟨q307, hl, h⟩ := bnd h
  have hp : Hp _ _ _ (Res.sl Ek.c128 24 v13 q11 :: Res.sl Ek.c128 24 v105 q93.1 :: Res.sl Ek.c128 24 v119 q107.1 :: Res.sl Ek.c128 24 v133 q121.1 :: Res.sl Ek.c128 24 v147 q135.1 :: Res.sl Ek.c128 24 v175 q163.1 :: Res.sl Ek.c128 24 v203 q191.1 :: ow) := Hp.sel (pre := [Res.sl Ek.c128 24 v5 q3, Res.sl Ek.c128 24 v189 q177.1, Res.sl Ek.c128 24 v203 q191.1, Res.sl Ek.c128 24 v9 q7, Res.sl Ek.c128 24 v13 q11, Res.sl Ek.c128 24 v105 q93.1, Res.sl Ek.c128 24 v175 q163.1, Res.sl Ek.c128 24 v41 q90.2, Res.sl Ek.c128 24 v147 q135.1, Res.sl Ek.c128 24 v39 q90.1, Res.sl Ek.c128 24 v133 q121.1, Res.slx Ek.c128 24 (GL.cut v25 0 (((q11.length : Int)).toNat) 1) ((q31 ++ ([] : List (Fl × Fl))).take (((q11.length : Int)).toNat)) ((q31 ++ ([] : List (Fl × Fl))).drop (((q11.length : Int)).toNat)), Res.sl Ek.c128 24 v119 q107.1]) (tail := ow) (rs' := [Res.sl Ek.c128 24 v13 q11, Res.sl Ek.c128 24 v105 q93.1, Res.sl Ek.c128 24 v119 q107.1, Res.sl Ek.c128 24 v133 q121.1, Res.sl Ek.c128 24 v147 q135.1, Res.sl Ek.c128 24 v175 q163.1, Res.sl Ek.c128 24 v203 q191.1]) hp [4, 5, 12, 10, 8, 6, 2] (by decide) (by simp) rfl
  refine wp_loop_pure (f := (f_foghornlaw03_PlaneFilters.s3 xx0_N q11 q93 q107 q121 q135 q163 q191)) (s := (0 : Int)) (fun s a w => Fr 241 a [(3, .int .i64 xx0_N), (6, v13), (11, v105), (13, v119), (15, v133), (17, v147), (19, v175), (23, v203), (25, .int .i64 s)] ∧ Hp S w0 w (Res.sl Ek.c128 24 v13 q11 :: Res.sl Ek.c128 24 v105 q93.1 :: Res.sl Ek.c128 24 v119 q107.1 :: Res.sl Ek.c128 24 v133 q121.1 :: Res.sl Ek.c128 24 v147 q135.1 :: Res.sl Ek.c128 24 v175 q163.1 :: Res.sl Ek.c128 24 v203 q191.1 :: ow)) (fun q e a w => match q with | (Sum.inl q) => e = .exit 4 ∧ Fr 241 a [] ∧ Hp S w0 w (ow) | (Sum.inr q) => e = .ret ∧ Fr 241 a [(2, .bool q)] ∧ Hp S w0 w (ow)) ?_ hl ⟨hf.sub ⟨rfl, rfl, rfl, rfl, rfl, rfl, rfl, rfl, rfl, trivial⟩, hp⟩ ?_
  · clear hl hf hp
    intro s x a w h hI
    obtain ⟨p25, hs⟩ : ∃ z, z = s := ⟨s, rfl⟩; subst hs
    obtain ⟨hf, hp⟩ : Fr 241 a [(3, .int .i64 xx0_N), (6, v13), (11, v105), (13, v119), (15, v133), (17, v147), (19, v175), (23, v203), (25, .int .i64 p25)] ∧ Hp S w0 w (Res.sl Ek.c128 24 v13 q11 :: Res.sl Ek.c128 24 v105 q93.1 :: Res.sl Ek.c128 24 v119 q107.1 :: Res.sl Ek.c128 24 v133 q121.1 :: Res.sl Ek.c128 24 v147 q135.1 :: Res.sl Ek.c128 24 v175 q163.1 :: Res.sl Ek.c128 24 v203 q191.1 :: ow) := hI
    replace h : f_foghornlaw03_PlaneFilters.s3c xx0_N q11 q93 q107 q121 q135 q163 q191 p25 = some x := h
    unfold f_foghornlaw03_PlaneFilters.s3c at h
    refine wp_seq ?_
    refine wp_seq ?_
    refine wp_reg ?_
    refine st_move hf rfl rfl (by decide) ?_
    clear hf; intro a ha hf; clear ha
    refine st_move hf rfl rfl (by decide) ?_
    clear hf; intro a ha hf; clear ha
    refine st_len (E := Ek.c128) hf (by decide) Try.underlying41 rfl rfl (hp.sl (i := 0) rfl) ?_
    clear hf; intro a ha hf; clear ha
    refine st_ilss hf (by decide) rfl rfl rfl ?_
    clear hf; intro a ha hf; clear ha
    refine st_nil hf ?_
    refine th_n ?_
    refine wp_if hf rfl (fun hb => ?_) (fun hb => ?_)
    · replace h := ifT h hb
      refine wp_skip ?_
      refine th_n ?_
      refine wp_seq ?_
      refine wp_block ?_
      refine wp_seq ?_
      obtain ⟨S213, hp214, rd215, up216, bk217⟩ := Hp.lendS hp (i := 3) rfl
      obtain ⟨S218, hp219, rd220, up221, bk222⟩ := Hp.lendS hp214 (i := 1) rfl
      obtain ⟨S223, hp224, rd225, up226, bk227⟩ := Hp.lendS hp219 (i := 1) rfl
      obtain ⟨S228, hp229, rd230, up231, bk232⟩ := Hp.lendS hp224 (i := 1) rfl
      obtain ⟨S233, hp234, rd235, up236, bk237⟩ := Hp.lendS hp229 (i := 1) rfl
      obtain ⟨S238, hp239, rd240, up241, bk242⟩ := Hp.lendS hp234 (i := 1) rfl
      have rl243 := ((((((((rd220.now hp219).mono up226).now hp224).mono up231).now hp229).mono up236).now hp234).mono up241)
      have rl244 := ((((((rd225.now hp224).mono up231).now hp229).mono up236).now hp234).mono up241)
      have rl245 := ((((((((((rd215.now hp214).mono up221).now hp219).mono up226).now hp224).mono up231).now hp229).mono up236).now hp234).mono up241)
      have rl246 := ((((rd230.now hp229).mono up236).now hp234).mono up241)
      have rl247 := ((rd235.now hp234).mono up241)
      have rl248 := rd240
      obtain ⟨hc249, h⟩ := chk h
      obtain ⟨bb251, bb252, y253, y254, hl250⟩ := RdS.pinC (p := p25) rl245 hc249.1 hc249.2
      obtain ⟨hc255, h⟩ := chk h
      obtain ⟨bb257, bb258, y259, y260, hl256⟩ := RdS.pinC (p := p25) rl243 hc255.1 hc255.2
      obtain ⟨hc261, h⟩ := chk h
      obtain ⟨bb263, bb264, y265, y266, hl262⟩ := RdS.pinC (p := p25) rl244 hc261.1 hc261.2
      obtain ⟨z291, hz271, h⟩ := bnd h
      obtain ⟨z306, hz292, h⟩ := bnd h
      refine wp_cutN (fun a w => Fr 241 a [(3, .int .i64 xx0_N), (6, v13), (11, v105), (13, v119), (15, v133), (17, v147), (19, v175), (23, v203), (25, .int .i64 p25), (239, .bool z306)] ∧ Hp S w0 w (Res.sl Ek.c128 24 v133 q121.1 :: Res.sl Ek.c128 24 v105 q93.1 :: Res.sl Ek.c128 24 v119 q107.1 :: Res.sl Ek.c128 24 v147 q135.1 :: Res.sl Ek.c128 24 v175 q163.1 :: Res.sl Ek.c128 24 v203 q191.1 :: Res.sl Ek.c128 24 v13 q11 :: ow)) ?_ ?_
      · have hp := hp239.same (Same.drew w)
        rcases Bool.eq_false_or_eq_true (!ceq (gt q121.1 p25) (cadd (gt q93.1 p25) (gt q107.1 p25))) with hb272 | hb272
        · skip
          replace hz271 := ifT hz271 hb272
          replace hz271 := Option.some.inj hz271
          have hb293 : z291 = true := hz271.symm
          skip
          replace hz292 := ifT hz292 hb293
          replace hz292 := Option.some.inj hz292
          refine dr_begin' (fun a w => Fr 241 a [(3, .int .i64 xx0_N), (6, v13), (11, v105), (13, v119), (15, v133), (17, v147), (19, v175), (23, v203), (25, .int .i64 p25), (239, .bool z306)] ∧ Hp S w0 w (Res.sl Ek.c128 24 v133 q121.1 :: Res.sl Ek.c128 24 v105 q93.1 :: Res.sl Ek.c128 24 v119 q107.1 :: Res.sl Ek.c128 24 v147 q135.1 :: Res.sl Ek.c128 24 v175 q163.1 :: Res.sl Ek.c128 24 v203 q191.1 :: Res.sl Ek.c128 24 v13 q11 :: ow)) (fun w' => ∃ l, Hp S238 w w' l) [] (by kernel_rfl) ?_
          refine dr_take 0 (v133) rfl (by kernel_rfl) (by kernel_rfl) (by kernel_rfl) (by kernel_rfl) rfl rfl hf (by decide) rfl (fun w hp => ?_) ⟨_, hp⟩ ?_
          · obtain ⟨_, hp⟩ := hp
            refine st_move hf rfl rfl (by decide) ?_
            clear hf; intro a ha hf
            exact st_nil hf (th_n ⟨ha, rfl⟩)
          clear hf; intro a hf
          refine dr_take 1 (.int .i64 p25) rfl (by kernel_rfl) (by kernel_rfl) (by kernel_rfl) (by kernel_rfl) rfl rfl hf (by decide) rfl (fun w hp => ?_) ⟨_, hp⟩ ?_
          · obtain ⟨_, hp⟩ := hp
            refine st_move hf rfl rfl (by decide) ?_
            clear hf; intro a ha hf
            exact st_nil hf (th_n ⟨ha, rfl⟩)
          clear hf; intro a hf
          refine dr_take 2 (eptr v133 p25 1) rfl (by kernel_rfl) (by kernel_rfl) (by kernel_rfl) (by kernel_rfl) rfl rfl hf (by decide) rfl (fun w hp => ?_) ⟨_, hp⟩ ?_
          · obtain ⟨_, hp⟩ := hp
            refine st_index (E := Ek.c128) hf (by decide) Try.underlying41 elt24 rfl rfl rfl (rl245.sl hp) hc249.1 hc249.2 ?_
            clear hf; intro a ha hf
            exact st_nil hf (th_n ⟨ha, rfl⟩)
          clear hf; intro a hf
          refine dr_take 3 (.complex .f64 bb251 bb252) rfl (by kernel_rfl) (by kernel_rfl) (by kernel_rfl) (by kernel_rfl) rfl rfl hf (by decide) rfl (fun w hp => ?_) ⟨_, hp⟩ ?_
          · obtain ⟨_, hp⟩ := hp
            refine st_ldP hf (by decide) pl24 rfl rfl (hl250 _ _ hp) ?_
            clear hf; intro a ha hf
            exact st_nil hf (th_n ⟨ha, rfl⟩)
          clear hf; intro a hf
          refine dr_take 4 (v105) rfl (by kernel_rfl) (by kernel_rfl) (by kernel_rfl) (by kernel_rfl) rfl rfl hf (by decide) rfl (fun w hp => ?_) ⟨_, hp⟩ ?_
          · obtain ⟨_, hp⟩ := hp
            refine st_move hf rfl rfl (by decide) ?_
            clear hf; intro a ha hf
            exact st_nil hf (th_n ⟨ha, rfl⟩)
          clear hf; intro a hf
          refine dr_take 5 (.int .i64 p25) rfl (by kernel_rfl) (by kernel_rfl) (by kernel_rfl) (by kernel_rfl) rfl rfl hf (by decide) rfl (fun w hp => ?_) ⟨_, hp⟩ ?_
          · obtain ⟨_, hp⟩ := hp
            refine st_move hf rfl rfl (by decide) ?_
            clear hf; intro a ha hf
            exact st_nil hf (th_n ⟨ha, rfl⟩)
          clear hf; intro a hf
          refine dr_take 6 (eptr v105 p25 1) rfl (by kernel_rfl) (by kernel_rfl) (by kernel_rfl) (by kernel_rfl) rfl rfl hf (by decide) rfl (fun w hp => ?_) ⟨_, hp⟩ ?_
          · obtain ⟨_, hp⟩ := hp
            refine st_index (E := Ek.c128) hf (by decide) Try.underlying41 elt24 rfl rfl rfl (rl243.sl hp) hc255.1 hc255.2 ?_
            clear hf; intro a ha hf
            exact st_nil hf (th_n ⟨ha, rfl⟩)
          clear hf; intro a hf
          refine dr_take 7 (.complex .f64 bb257 bb258) rfl (by kernel_rfl) (by kernel_rfl) (by kernel_rfl) (by kernel_rfl) rfl rfl hf (by decide) rfl (fun w hp => ?_) ⟨_, hp⟩ ?_
          · obtain ⟨_, hp⟩ := hp
            refine st_ldP hf (by decide) pl24 rfl rfl (hl256 _ _ hp) ?_
            clear hf; intro a ha hf
            exact st_nil hf (th_n ⟨ha, rfl⟩)
          clear hf; intro a hf
          refine dr_take 8 (v119) rfl (by kernel_rfl) (by kernel_rfl) (by kernel_rfl) (by kernel_rfl) rfl rfl hf (by decide) rfl (fun w hp => ?_) ⟨_, hp⟩ ?_
          · obtain ⟨_, hp⟩ := hp
            refine st_move hf rfl rfl (by decide) ?_
            clear hf; intro a ha hf
            exact st_nil hf (th_n ⟨ha, rfl⟩)
          clear hf; intro a hf
          refine dr_take 9 (.int .i64 p25) rfl (by kernel_rfl) (by kernel_rfl) (by kernel_rfl) (by kernel_rfl) rfl rfl hf (by decide) rfl (fun w hp => ?_) ⟨_, hp⟩ ?_
          · obtain ⟨_, hp⟩ := hp
            refine st_move hf rfl rfl (by decide) ?_
            clear hf; intro a ha hf
            exact st_nil hf (th_n ⟨ha, rfl⟩)
          clear hf; intro a hf
          refine dr_take 10 (eptr v119 p25 1) rfl (by kernel_rfl) (by kernel_rfl) (by kernel_rfl) (by kernel_rfl) rfl rfl hf (by decide) rfl (fun w hp => ?_) ⟨_, hp⟩ ?_
          · obtain ⟨_, hp⟩ := hp
            refine st_index (E := Ek.c128) hf (by decide) Try.underlying41 elt24 rfl rfl rfl (rl244.sl hp) hc261.1 hc261.2 ?_
            clear hf; intro a ha hf
            exact st_nil hf (th_n ⟨ha, rfl⟩)
          clear hf; intro a hf
          refine dr_take 11 (.complex .f64 bb263 bb264) rfl (by kernel_rfl) (by kernel_rfl) (by kernel_rfl) (by kernel_rfl) rfl rfl hf (by decide) rfl (fun w hp => ?_) ⟨_, hp⟩ ?_
          · obtain ⟨_, hp⟩ := hp
            refine st_ldP hf (by decide) pl24 rfl rfl (hl262 _ _ hp) ?_
            clear hf; intro a ha hf
            exact st_nil hf (th_n ⟨ha, rfl⟩)
          clear hf; intro a hf
          refine dr_one 12 rfl (by kernel_rfl) ?_
          refine st_carith (op := .add) (zx := (gt q93.1 p25)) (zy := (gt q107.1 p25)) rfl hf (by decide) hp rfl rfl rfl y259 y260 y265 y266 ?_
          clear hf; intro a w bb267 bb268 y269 y270 hf hp0; clear hp; have hp := hp0; clear hp0
          replace hp : Hp _ _ _ (Res.sl Ek.c128 24 v13 q11 :: ow) := hp
          refine st_nil hf (th_n ⟨fun _ _ => ⟨_, hp⟩, ?_⟩)
          refine dr_take 13 (.bool (!ceq (gt q121.1 p25) (cadd (gt q93.1 p25) (gt q107.1 p25)))) rfl (by kernel_rfl) (by kernel_rfl) (by kernel_rfl) (by kernel_rfl) rfl rfl hf (by decide) rfl (fun w hp => ?_) ⟨_, hp⟩ ?_
          · obtain ⟨_, hp⟩ := hp
            refine st_ccmp (r_cne (x := (gt q121.1 p25)) (y := (cadd (gt q93.1 p25) (gt q107.1 p25))) y253 y254 y269 y270) hf (by decide) rfl rfl rfl ?_
            clear hf; intro a ha hf
            exact st_nil hf (th_n ⟨ha, rfl⟩)
          clear hf; intro a hf
          refine dr_take 14 (.bool (!ceq (gt q121.1 p25) (cadd (gt q93.1 p25) (gt q107.1 p25)))) rfl (by kernel_rfl) (by kernel_rfl) (by kernel_rfl) (by kernel_rfl) rfl rfl hf (by decide) rfl (fun w hp => ?_) ⟨_, hp⟩ ?_
          · obtain ⟨_, hp⟩ := hp
            refine st_move hf rfl rfl (by decide) ?_
            clear hf; intro a ha hf
            exact st_nil hf (th_n ⟨ha, rfl⟩)
          clear hf; intro a hf
          refine dr_out 15 rfl (by kernel_rfl) (by kernel_rfl) (by kernel_rfl) (by kernel_rfl) rfl hf (by decide) rfl (wantN hf rfl rfl hb272) ⟨_, hp⟩ ?_
          clear hf; intro a hf
          refine dr_out 16 rfl (by kernel_rfl) (by kernel_rfl) (by kernel_rfl) (by kernel_rfl) rfl hf (by decide) rfl (wantN hf rfl rfl hb272) ⟨_, hp⟩ ?_
          clear hf; intro a hf
          refine dr_out 17 rfl (by kernel_rfl) (by kernel_rfl) (by kernel_rfl) (by kernel_rfl) rfl hf (by decide) rfl (wantN hf rfl rfl hb272) ⟨_, hp⟩ ?_
          clear hf; intro a hf
          refine dr_out 18 rfl (by kernel_rfl) (by kernel_rfl) (by kernel_rfl) (by kernel_rfl) rfl hf (by decide) rfl (wantN hf rfl rfl hb272) ⟨_, hp⟩ ?_
          clear hf; intro a hf
          refine dr_out 19 rfl (by kernel_rfl) (by kernel_rfl) (by kernel_rfl) (by kernel_rfl) rfl hf (by decide) rfl (wantN hf rfl rfl hb272) ⟨_, hp⟩ ?_
          clear hf; intro a hf
          refine dr_out 20 rfl (by kernel_rfl) (by kernel_rfl) (by kernel_rfl) (by kernel_rfl) rfl hf (by decide) rfl (wantN hf rfl rfl hb272) ⟨_, hp⟩ ?_
          clear hf; intro a hf
          refine dr_out 21 rfl (by kernel_rfl) (by kernel_rfl) (by kernel_rfl) (by kernel_rfl) rfl hf (by decide) rfl (wantN hf rfl rfl hb272) ⟨_, hp⟩ ?_
          clear hf; intro a hf
          refine dr_out 22 rfl (by kernel_rfl) (by kernel_rfl) (by kernel_rfl) (by kernel_rfl) rfl hf (by decide) rfl (wantN hf rfl rfl hb272) ⟨_, hp⟩ ?_
          clear hf; intro a hf
          refine dr_out 23 rfl (by kernel_rfl) (by kernel_rfl) (by kernel_rfl) (by kernel_rfl) rfl hf (by decide) rfl (wantN hf rfl rfl hb272) ⟨_, hp⟩ ?_
          clear hf; intro a hf
          refine dr_out 24 rfl (by kernel_rfl) (by kernel_rfl) (by kernel_rfl) (by kernel_rfl) rfl hf (by decide) rfl (wantN hf rfl rfl hb272) ⟨_, hp⟩ ?_
          clear hf; intro a hf
          refine dr_out 25 rfl (by kernel_rfl) (by kernel_rfl) (by kernel_rfl) (by kernel_rfl) rfl hf (by decide) rfl (wantN hf rfl rfl hb272) ⟨_, hp⟩ ?_
          clear hf; intro a hf
          refine dr_take 26 (.bool z291) rfl (by kernel_rfl) (by kernel_rfl) (by kernel_rfl) (by kernel_rfl) rfl rfl hf (by decide) rfl (fun w hp => ?_) ⟨_, hp⟩ ?_
          · obtain ⟨_, hp⟩ := hp
            refine st_pick (v := .bool z291) hf rfl rfl (fun _ => by rw [← hz271]; rfl) (fun hb' => absurd (hb272.symm.trans hb') (by decide)) (by decide) ?_
            clear hf; intro a ha hf
            exact st_nil hf (th_n ⟨ha, rfl⟩)
          clear hf; intro a hf
          refine dr_take 27 (.bool z291) rfl (by kernel_rfl) (by kernel_rfl) (by kernel_rfl) (by kernel_rfl) rfl rfl hf (by decide) rfl (fun w hp => ?_) ⟨_, hp⟩ ?_
          · obtain ⟨_, hp⟩ := hp
            refine st_move hf rfl rfl (by decide) ?_
            clear hf; intro a ha hf
            exact st_nil hf (th_n ⟨ha, rfl⟩)
          clear hf; intro a hf
          refine dr_out 28 rfl (by kernel_rfl) (by kernel_rfl) (by kernel_rfl) (by kernel_rfl) rfl hf (by decide) rfl (wantN hf rfl rfl hb293) ⟨_, hp⟩ ?_
          clear hf; intro a hf
          refine dr_out 29 rfl (by kernel_rfl) (by kernel_rfl) (by kernel_rfl) (by kernel_rfl) rfl hf (by decide) rfl (wantN hf rfl rfl hb293) ⟨_, hp⟩ ?_
          clear hf; intro a hf
          refine dr_out 30 rfl (by kernel_rfl) (by kernel_rfl) (by kernel_rfl) (by kernel_rfl) rfl hf (by decide) rfl (wantN hf rfl rfl hb293) ⟨_, hp⟩ ?_
          clear hf; intro a hf
          refine dr_out 31 rfl (by kernel_rfl) (by kernel_rfl) (by kernel_rfl) (by kernel_rfl) rfl hf (by decide) rfl (wantN hf rfl rfl hb293) ⟨_, hp⟩ ?_
          clear hf; intro a hf
          refine dr_out 32 rfl (by kernel_rfl) (by kernel_rfl) (by kernel_rfl) (by kernel_rfl) rfl hf (by decide) rfl (wantN hf rfl rfl hb293) ⟨_, hp⟩ ?_
          clear hf; intro a hf
          refine dr_out 33 rfl (by kernel_rfl) (by kernel_rfl) (by kernel_rfl) (by kernel_rfl) rfl hf (by decide) rfl (wantN hf rfl rfl hb293) ⟨_, hp⟩ ?_
          clear hf; intro a hf
          refine dr_out 34 rfl (by kernel_rfl) (by kernel_rfl) (by kernel_rfl) (by kernel_rfl) rfl hf (by decide) rfl (wantN hf rfl rfl hb293) ⟨_, hp⟩ ?_
          clear hf; intro a hf
          refine dr_out 35 rfl (by kernel_rfl) (by kernel_rfl) (by kernel_rfl) (by kernel_rfl) rfl hf (by decide) rfl (wantN hf rfl rfl hb293) ⟨_, hp⟩ ?_
          clear hf; intro a hf
          refine dr_out 36 rfl (by kernel_rfl) (by kernel_rfl) (by kernel_rfl) (by kernel_rfl) rfl hf (by decide) rfl (wantN hf rfl rfl hb293) ⟨_, hp⟩ ?_
          clear hf; intro a hf
          refine dr_take 37 (.bool z306) rfl (by kernel_rfl) (by kernel_rfl) (by kernel_rfl) (by kernel_rfl) rfl rfl hf (by decide) rfl (fun w hp => ?_) ⟨_, hp⟩ ?_
          · obtain ⟨_, hp⟩ := hp
            refine st_pick (v := .bool z306) hf rfl rfl (fun _ => by rw [← hz292]; rfl) (fun hb' => absurd (hb293.symm.trans hb') (by decide)) (by decide) ?_
            clear hf; intro a ha hf
            exact st_nil hf (th_n ⟨ha, rfl⟩)
          clear hf; intro a hf
          refine dr_end (by kernel_rfl) ?_ _
          have hp := bk242 _ _ hp
          have hp := bk237 _ _ hp
          have hp := bk232 _ _ hp
          have hp := bk227 _ _ hp
          have hp := bk222 _ _ hp
          have hp := bk217 _ _ hp
          exact ⟨hf.sub ⟨rfl, rfl, rfl, rfl, rfl, rfl, rfl, rfl, rfl, rfl, trivial⟩, hp⟩
        skip
        replace hz271 := ifF hz271 hb272
        obtain ⟨hc273, hz271⟩ := chk hz271
        obtain ⟨bb275, bb276, y277, y278, hl274⟩ := RdS.pinC (p := p25) rl246 hc273.1 hc273.2
        obtain ⟨hc279, hz271⟩ := chk hz271
        obtain ⟨bb281, bb282, y283, y284, hl280⟩ := RdS.pinC (p := p25) rl243 hc279.1 hc279.2
        obtain ⟨q285, hcall286, hz271⟩ := bnd hz271
        replace hz271 := Option.some.inj hz271
        rcases Bool.eq_false_or_eq_true z291 with hb293 | hb293
        · skip
          replace hz292 := ifT hz292 hb293
          replace hz292 := Option.some.inj hz292
          refine dr_begin' (fun a w => Fr 241 a [(3, .int .i64 xx0_N), (6, v13), (11, v105), (13, v119), (15, v133), (17, v147), (19, v175), (23, v203), (25, .int .i64 p25), (239, .bool z306)] ∧ Hp S w0 w (Res.sl Ek.c128 24 v133 q121.1 :: Res.sl Ek.c128 24 v105 q93.1 :: Res.sl Ek.c128 24 v119 q107.1 :: Res.sl Ek.c128 24 v147 q135.1 :: Res.sl Ek.c128 24 v175 q163.1 :: Res.sl Ek.c128 24 v203 q191.1 :: Res.sl Ek.c128 24 v13 q11 :: ow)) (fun w' => ∃ l, Hp S238 w w' l) [] (by kernel_rfl) ?_
          refine dr_take 0 (v133) rfl (by kernel_rfl) (by kernel_rfl) (by kernel_rfl) (by kernel_rfl) rfl rfl hf (by decide) rfl (fun w hp => ?_) ⟨_, hp⟩ ?_
          · obtain ⟨_, hp⟩ := hp
            refine st_move hf rfl rfl (by decide) ?_
            clear hf; intro a ha hf
            exact st_nil hf (th_n ⟨ha, rfl⟩)
          clear hf; intro a hf
          refine dr_take 1 (.int .i64 p25) rfl (by kernel_rfl) (by kernel_rfl) (by kernel_rfl) (by kernel_rfl) rfl rfl hf (by decide) rfl (fun w hp => ?_) ⟨_, hp⟩ ?_
          · obtain ⟨_, hp⟩ := hp
            refine st_move hf rfl rfl (by decide) ?_
            clear hf; intro a ha hf
            exact st_nil hf (th_n ⟨ha, rfl⟩)
          clear hf; intro a hf
          refine dr_take 2 (eptr v133 p25 1) rfl (by kernel_rfl) (by kernel_rfl) (by kernel_rfl) (by kernel_rfl) rfl rfl hf (by decide) rfl (fun w hp => ?_) ⟨_, hp⟩ ?_
          · obtain ⟨_, hp⟩ := hp
            refine st_index (E := Ek.c128) hf (by decide) Try.underlying41 elt24 rfl rfl rfl (rl245.sl hp) hc249.1 hc249.2 ?_
            clear hf; intro a ha hf
            exact st_nil hf (th_n ⟨ha, rfl⟩)
          clear hf; intro a hf
          refine dr_take 3 (.complex .f64 bb251 bb252) rfl (by kernel_rfl) (by kernel_rfl) (by kernel_rfl) (by kernel_rfl) rfl rfl hf (by decide) rfl (fun w hp => ?_) ⟨_, hp⟩ ?_
          · obtain ⟨_, hp⟩ := hp
            refine st_ldP hf (by decide) pl24 rfl rfl (hl250 _ _ hp) ?_
            clear hf; intro a ha hf
            exact st_nil hf (th_n ⟨ha, rfl⟩)
          clear hf; intro a hf
          refine dr_take 4 (v105) rfl (by kernel_rfl) (by kernel_rfl) (by kernel_rfl) (by kernel_rfl) rfl rfl hf (by decide) rfl (fun w hp => ?_) ⟨_, hp⟩ ?_
          · obtain ⟨_, hp⟩ := hp
            refine st_move hf rfl rfl (by decide) ?_
            clear hf; intro a ha hf
            exact st_nil hf (th_n ⟨ha, rfl⟩)
          clear hf; intro a hf
          refine dr_take 5 (.int .i64 p25) rfl (by kernel_rfl) (by kernel_rfl) (by kernel_rfl) (by kernel_rfl) rfl rfl hf (by decide) rfl (fun w hp => ?_) ⟨_, hp⟩ ?_
          · obtain ⟨_, hp⟩ := hp
            refine st_move hf rfl rfl (by decide) ?_
            clear hf; intro a ha hf
            exact st_nil hf (th_n ⟨ha, rfl⟩)
          clear hf; intro a hf
          refine dr_take 6 (eptr v105 p25 1) rfl (by kernel_rfl) (by kernel_rfl) (by kernel_rfl) (by kernel_rfl) rfl rfl hf (by decide) rfl (fun w hp => ?_) ⟨_, hp⟩ ?_
          · obtain ⟨_, hp⟩ := hp
            refine st_index (E := Ek.c128) hf (by decide) Try.underlying41 elt24 rfl rfl rfl (rl243.sl hp) hc255.1 hc255.2 ?_
            clear hf; intro a ha hf
            exact st_nil hf (th_n ⟨ha, rfl⟩)
          clear hf; intro a hf
          refine dr_take 7 (.complex .f64 bb257 bb258) rfl (by kernel_rfl) (by kernel_rfl) (by kernel_rfl) (by kernel_rfl) rfl rfl hf (by decide) rfl (fun w hp => ?_) ⟨_, hp⟩ ?_
          · obtain ⟨_, hp⟩ := hp
            refine st_ldP hf (by decide) pl24 rfl rfl (hl256 _ _ hp) ?_
            clear hf; intro a ha hf
            exact st_nil hf (th_n ⟨ha, rfl⟩)
          clear hf; intro a hf
          refine dr_take 8 (v119) rfl (by kernel_rfl) (by kernel_rfl) (by kernel_rfl) (by kernel_rfl) rfl rfl hf (by decide) rfl (fun w hp => ?_) ⟨_, hp⟩ ?_
          · obtain ⟨_, hp⟩ := hp
            refine st_move hf rfl rfl (by decide) ?_
            clear hf; intro a ha hf
            exact st_nil hf (th_n ⟨ha, rfl⟩)
          clear hf; intro a hf
          refine dr_take 9 (.int .i64 p25) rfl (by kernel_rfl) (by kernel_rfl) (by kernel_rfl) (by kernel_rfl) rfl rfl hf (by decide) rfl (fun w hp => ?_) ⟨_, hp⟩ ?_
          · obtain ⟨_, hp⟩ := hp
            refine st_move hf rfl rfl (by decide) ?_
            clear hf; intro a ha hf
            exact st_nil hf (th_n ⟨ha, rfl⟩)
          clear hf; intro a hf
          refine dr_take 10 (eptr v119 p25 1) rfl (by kernel_rfl) (by kernel_rfl) (by kernel_rfl) (by kernel_rfl) rfl rfl hf (by decide) rfl (fun w hp => ?_) ⟨_, hp⟩ ?_
          · obtain ⟨_, hp⟩ := hp
            refine st_index (E := Ek.c128) hf (by decide) Try.underlying41 elt24 rfl rfl rfl (rl244.sl hp) hc261.1 hc261.2 ?_
            clear hf; intro a ha hf
            exact st_nil hf (th_n ⟨ha, rfl⟩)
          clear hf; intro a hf
          refine dr_take 11 (.complex .f64 bb263 bb264) rfl (by kernel_rfl) (by kernel_rfl) (by kernel_rfl) (by kernel_rfl) rfl rfl hf (by decide) rfl (fun w hp => ?_) ⟨_, hp⟩ ?_
          · obtain ⟨_, hp⟩ := hp
            refine st_ldP hf (by decide) pl24 rfl rfl (hl262 _ _ hp) ?_
            clear hf; intro a ha hf
            exact st_nil hf (th_n ⟨ha, rfl⟩)
          clear hf; intro a hf
          refine dr_one 12 rfl (by kernel_rfl) ?_
          refine st_carith (op := .add) (zx := (gt q93.1 p25)) (zy := (gt q107.1 p25)) rfl hf (by decide) hp rfl rfl rfl y259 y260 y265 y266 ?_
          clear hf; intro a w bb267 bb268 y269 y270 hf hp0; clear hp; have hp := hp0; clear hp0
          replace hp : Hp _ _ _ (Res.sl Ek.c128 24 v13 q11 :: ow) := hp
          refine st_nil hf (th_n ⟨fun _ _ => ⟨_, hp⟩, ?_⟩)
          refine dr_take 13 (.bool (!ceq (gt q121.1 p25) (cadd (gt q93.1 p25) (gt q107.1 p25)))) rfl (by kernel_rfl) (by kernel_rfl) (by kernel_rfl) (by kernel_rfl) rfl rfl hf (by decide) rfl (fun w hp => ?_) ⟨_, hp⟩ ?_
          · obtain ⟨_, hp⟩ := hp
            refine st_ccmp (r_cne (x := (gt q121.1 p25)) (y := (cadd (gt q93.1 p25) (gt q107.1 p25))) y253 y254 y269 y270) hf (by decide) rfl rfl rfl ?_
            clear hf; intro a ha hf
            exact st_nil hf (th_n ⟨ha, rfl⟩)
          clear hf; intro a hf
          refine dr_take 14 (.bool (!ceq (gt q121.1 p25) (cadd (gt q93.1 p25) (gt q107.1 p25)))) rfl (by kernel_rfl) (by kernel_rfl) (by kernel_rfl) (by kernel_rfl) rfl rfl hf (by decide) rfl (fun w hp => ?_) ⟨_, hp⟩ ?_
          · obtain ⟨_, hp⟩ := hp
            refine st_move hf rfl rfl (by decide) ?_
            clear hf; intro a ha hf
            exact st_nil hf (th_n ⟨ha, rfl⟩)
          clear hf; intro a hf
          refine dr_take 15 (v147) rfl (by kernel_rfl) (by kernel_rfl) (by kernel_rfl) (by kernel_rfl) rfl rfl hf (by decide) (wantY hf rfl rfl hb272) (fun w hp => ?_) ⟨_, hp⟩ ?_
          · obtain ⟨_, hp⟩ := hp
            refine st_move hf (wantY hf rfl rfl hb272) rfl (by decide) ?_
            clear hf; intro a ha hf
            exact st_nil hf (th_n ⟨ha, rfl⟩)
          clear hf; intro a hf
          refine dr_take 16 (.int .i64 p25) rfl (by kernel_rfl) (by kernel_rfl) (by kernel_rfl) (by kernel_rfl) rfl rfl hf (by decide) (wantY hf rfl rfl hb272) (fun w hp => ?_) ⟨_, hp⟩ ?_
          · obtain ⟨_, hp⟩ := hp
            refine st_move hf (wantY hf rfl rfl hb272) rfl (by decide) ?_
            clear hf; intro a ha hf
            exact st_nil hf (th_n ⟨ha, rfl⟩)
          clear hf; intro a hf
          refine dr_take 17 (eptr v147 p25 1) rfl (by kernel_rfl) (by kernel_rfl) (by kernel_rfl) (by kernel_rfl) rfl rfl hf (by decide) (wantY hf rfl rfl hb272) (fun w hp => ?_) ⟨_, hp⟩ ?_
          · obtain ⟨_, hp⟩ := hp
            refine st_index (E := Ek.c128) hf (by decide) Try.underlying41 elt24 (wantY hf rfl rfl hb272) rfl rfl (rl246.sl hp) hc273.1 hc273.2 ?_
            clear hf; intro a ha hf
            exact st_nil hf (th_n ⟨ha, rfl⟩)
          clear hf; intro a hf
          refine dr_take 18 (.complex .f64 bb275 bb276) rfl (by kernel_rfl) (by kernel_rfl) (by kernel_rfl) (by kernel_rfl) rfl rfl hf (by decide) (wantY hf rfl rfl hb272) (fun w hp => ?_) ⟨_, hp⟩ ?_
          · obtain ⟨_, hp⟩ := hp
            refine st_ldP hf (by decide) pl24 (wantY hf rfl rfl hb272) rfl (hl274 _ _ hp) ?_
            clear hf; intro a ha hf
            exact st_nil hf (th_n ⟨ha, rfl⟩)
          clear hf; intro a hf
          refine dr_take 19 (v105) rfl (by kernel_rfl) (by kernel_rfl) (by kernel_rfl) (by kernel_rfl) rfl rfl hf (by decide) (wantY hf rfl rfl hb272) (fun w hp => ?_) ⟨_, hp⟩ ?_
          · obtain ⟨_, hp⟩ := hp
            refine st_move hf (wantY hf rfl rfl hb272) rfl (by decide) ?_
            clear hf; intro a ha hf
            exact st_nil hf (th_n ⟨ha, rfl⟩)
          clear hf; intro a hf
          refine dr_take 20 (.int .i64 p25) rfl (by kernel_rfl) (by kernel_rfl) (by kernel_rfl) (by kernel_rfl) rfl rfl hf (by decide) (wantY hf rfl rfl hb272) (fun w hp => ?_) ⟨_, hp⟩ ?_
          · obtain ⟨_, hp⟩ := hp
            refine st_move hf (wantY hf rfl rfl hb272) rfl (by decide) ?_
            clear hf; intro a ha hf
            exact st_nil hf (th_n ⟨ha, rfl⟩)
          clear hf; intro a hf
          refine dr_take 21 (eptr v105 p25 1) rfl (by kernel_rfl) (by kernel_rfl) (by kernel_rfl) (by kernel_rfl) rfl rfl hf (by decide) (wantY hf rfl rfl hb272) (fun w hp => ?_) ⟨_, hp⟩ ?_
          · obtain ⟨_, hp⟩ := hp
            refine st_index (E := Ek.c128) hf (by decide) Try.underlying41 elt24 (wantY hf rfl rfl hb272) rfl rfl (rl243.sl hp) hc279.1 hc279.2 ?_
            clear hf; intro a ha hf
            exact st_nil hf (th_n ⟨ha, rfl⟩)
          clear hf; intro a hf
          refine dr_take 22 (.complex .f64 bb281 bb282) rfl (by kernel_rfl) (by kernel_rfl) (by kernel_rfl) (by kernel_rfl) rfl rfl hf (by decide) (wantY hf rfl rfl hb272) (fun w hp => ?_) ⟨_, hp⟩ ?_
          · obtain ⟨_, hp⟩ := hp
            refine st_ldP hf (by decide) pl24 (wantY hf rfl rfl hb272) rfl (hl280 _ _ hp) ?_
            clear hf; intro a ha hf
            exact st_nil hf (th_n ⟨ha, rfl⟩)
          clear hf; intro a hf
          refine dr_take 23 (.int .i64 xx0_N) rfl (by kernel_rfl) (by kernel_rfl) (by kernel_rfl) (by kernel_rfl) rfl rfl hf (by decide) (wantY hf rfl rfl hb272) (fun w hp => ?_) ⟨_, hp⟩ ?_
          · obtain ⟨_, hp⟩ := hp
            refine st_move hf (wantY hf rfl rfl hb272) rfl (by decide) ?_
            clear hf; intro a ha hf
            exact st_nil hf (th_n ⟨ha, rfl⟩)
          clear hf; intro a hf
          refine dr_one 24 rfl (by kernel_rfl) ?_
          refine st_call hf (by decide) Try.func15 rfl rfl (wantY hf rfl rfl hb272) rfl rfl (f_plane_Turn_c hp _ _ _ (show Fl.rep bb281 ((gt q93.1 p25)).1 from y283) (show Fl.rep bb282 ((gt q93.1 p25)).2 from y284) _ hcall286) ?_
          rintro _ w ⟨v287, v288, rfl, y289, y290, hp0⟩
          clear hp; have hp := hp0; clear hp0
          replace hp : Hp _ _ _ (Res.sl Ek.c128 24 v13 q11 :: ow) := hp
          refine ⟨_, rfl, ?_⟩
          clear hf; intro a hf
          refine st_nil hf (th_n ⟨fun _ _ => ⟨_, hp⟩, ?_⟩)
          refine dr_take 25 (.bool (!ceq (gt q135.1 p25) q285)) rfl (by kernel_rfl) (by kernel_rfl) (by kernel_rfl) (by kernel_rfl) rfl rfl hf (by decide) (wantY hf rfl rfl hb272) (fun w hp => ?_) ⟨_, hp⟩ ?_
          · obtain ⟨_, hp⟩ := hp
            refine st_ccmp (r_cne (x := (gt q135.1 p25)) (y := q285) y277 y278 y289 y290) hf (by decide) (wantY hf rfl rfl hb272) rfl rfl ?_
            clear hf; intro a ha hf
            exact st_nil hf (th_n ⟨ha, rfl⟩)
          clear hf; intro a hf
          refine dr_take 26 (.bool z291) rfl (by kernel_rfl) (by kernel_rfl) (by kernel_rfl) (by kernel_rfl) rfl rfl hf (by decide) rfl (fun w hp => ?_) ⟨_, hp⟩ ?_
          · obtain ⟨_, hp⟩ := hp
            refine st_pick (v := .bool z291) hf rfl rfl (fun hb' => absurd (hb272.symm.trans hb') (by decide)) (fun _ => by rw [← hz271]; rfl) (by decide) ?_
            clear hf; intro a ha hf
            exact st_nil hf (th_n ⟨ha, rfl⟩)
          clear hf; intro a hf
          refine dr_take 27 (.bool z291) rfl (by kernel_rfl) (by kernel_rfl) (by kernel_rfl) (by kernel_rfl) rfl rfl hf (by decide) rfl (fun w hp => ?_) ⟨_, hp⟩ ?_
          · obtain ⟨_, hp⟩ := hp
            refine st_move hf rfl rfl (by decide) ?_
            clear hf; intro a ha hf
            exact st_nil hf (th_n ⟨ha, rfl⟩)
          clear hf; intro a hf
          refine dr_out 28 rfl (by kernel_rfl) (by kernel_rfl) (by kernel_rfl) (by kernel_rfl) rfl hf (by decide) rfl (wantN hf rfl rfl hb293) ⟨_, hp⟩ ?_
          clear hf; intro a hf
          refine dr_out 29 rfl (by kernel_rfl) (by kernel_rfl) (by kernel_rfl) (by kernel_rfl) rfl hf (by decide) rfl (wantN hf rfl rfl hb293) ⟨_, hp⟩ ?_
          clear hf; intro a hf
          refine dr_out 30 rfl (by kernel_rfl) (by kernel_rfl) (by kernel_rfl) (by kernel_rfl) rfl hf (by decide) rfl (wantN hf rfl rfl hb293) ⟨_, hp⟩ ?_
          clear hf; intro a hf
          refine dr_out 31 rfl (by kernel_rfl) (by kernel_rfl) (by kernel_rfl) (by kernel_rfl) rfl hf (by decide) rfl (wantN hf rfl rfl hb293) ⟨_, hp⟩ ?_
          clear hf; intro a hf
          refine dr_out 32 rfl (by kernel_rfl) (by kernel_rfl) (by kernel_rfl) (by kernel_rfl) rfl hf (by decide) rfl (wantN hf rfl rfl hb293) ⟨_, hp⟩ ?_
          clear hf; intro a hf
          refine dr_out 33 rfl (by kernel_rfl) (by kernel_rfl) (by kernel_rfl) (by kernel_rfl) rfl hf (by decide) rfl (wantN hf rfl rfl hb293) ⟨_, hp⟩ ?_
          clear hf; intro a hf
          refine dr_out 34 rfl (by kernel_rfl) (by kernel_rfl) (by kernel_rfl) (by kernel_rfl) rfl hf (by decide) rfl (wantN hf rfl rfl hb293) ⟨_, hp⟩ ?_
          clear hf; intro a hf
          refine dr_out 35 rfl (by kernel_rfl) (by kernel_rfl) (by kernel_rfl) (by kernel_rfl) rfl hf (by decide) rfl (wantN hf rfl rfl hb293) ⟨_, hp⟩ ?_
          clear hf; intro a hf
          refine dr_out 36 rfl (by kernel_rfl) (by kernel_rfl) (by kernel_rfl) (by kernel_rfl) rfl hf (by decide) rfl (wantN hf rfl rfl hb293) ⟨_, hp⟩ ?_
          clear hf; intro a hf
          refine dr_take 37 (.bool z306) rfl (by kernel_rfl) (by kernel_rfl) (by kernel_rfl) (by kernel_rfl) rfl rfl hf (by decide) rfl (fun w hp => ?_) ⟨_, hp⟩ ?_
          · obtain ⟨_, hp⟩ := hp
            refine st_pick (v := .bool z306) hf rfl rfl (fun _ => by rw [← hz292]; rfl) (fun hb' => absurd (hb293.symm.trans hb') (by decide)) (by decide) ?_
            clear hf; intro a ha hf
            exact st_nil hf (th_n ⟨ha, rfl⟩)
          clear hf; intro a hf
          refine dr_end (by kernel_rfl) ?_ _
          have hp := bk242 _ _ hp
          have hp := bk237 _ _ hp
          have hp := bk232 _ _ hp
          have hp := bk227 _ _ hp
          have hp := bk222 _ _ hp
          have hp := bk217 _ _ hp
          exact ⟨hf.sub ⟨rfl, rfl, rfl, rfl, rfl, rfl, rfl, rfl, rfl, rfl, trivial⟩, hp⟩
        skip
        replace hz292 := ifF hz292 hb293
        obtain ⟨hc294, hz292⟩ := chk hz292
        obtain ⟨bb296, bb297, y298, y299, hl295⟩ := RdS.pinC (p := p25) rl247 hc294.1 hc294.2
        obtain ⟨hc300, hz292⟩ := chk hz292
        obtain ⟨bb302, bb303, y304, y305, hl301⟩ := RdS.pinC (p := p25) rl248 hc300.1 hc300.2
        replace hz292 := Option.some.inj hz292
        refine dr_begin' (fun a w => Fr 241 a [(3, .int .i64 xx0_N), (6, v13), (11, v105), (13, v119), (15, v133), (17, v147), (19, v175), (23, v203), (25, .int .i64 p25), (239, .bool z306)] ∧ Hp S w0 w (Res.sl Ek.c128 24 v133 q121.1 :: Res.sl Ek.c128 24 v105 q93.1 :: Res.sl Ek.c128 24 v119 q107.1 :: Res.sl Ek.c128 24 v147 q135.1 :: Res.sl Ek.c128 24 v175 q163.1 :: Res.sl Ek.c128 24 v203 q191.1 :: Res.sl Ek.c128 24 v13 q11 :: ow)) (fun w' => ∃ l, Hp S238 w w' l) [] (by kernel_rfl) ?_
        refine dr_take 0 (v133) rfl (by kernel_rfl) (by kernel_rfl) (by kernel_rfl) (by kernel_rfl) rfl rfl hf (by decide) rfl (fun w hp => ?_) ⟨_, hp⟩ ?_
        · obtain ⟨_, hp⟩ := hp
          refine st_move hf rfl rfl (by decide) ?_
          clear hf; intro a ha hf
          exact st_nil hf (th_n ⟨ha, rfl⟩)
        clear hf; intro a hf
        refine dr_take 1 (.int .i64 p25) rfl (by kernel_rfl) (by kernel_rfl) (by kernel_rfl) (by kernel_rfl) rfl rfl hf (by decide) rfl (fun w hp => ?_) ⟨_, hp⟩ ?_
        · obtain ⟨_, hp⟩ := hp
          refine st_move hf rfl rfl (by decide) ?_
          clear hf; intro a ha hf
          exact st_nil hf (th_n ⟨ha, rfl⟩)
        clear hf; intro a hf
        refine dr_take 2 (eptr v133 p25 1) rfl (by kernel_rfl) (by kernel_rfl) (by kernel_rfl) (by kernel_rfl) rfl rfl hf (by decide) rfl (fun w hp => ?_) ⟨_, hp⟩ ?_
        · obtain ⟨_, hp⟩ := hp
          refine st_index (E := Ek.c128) hf (by decide) Try.underlying41 elt24 rfl rfl rfl (rl245.sl hp) hc249.1 hc249.2 ?_
          clear hf; intro a ha hf
          exact st_nil hf (th_n ⟨ha, rfl⟩)
        clear hf; intro a hf
        refine dr_take 3 (.complex .f64 bb251 bb252) rfl (by kernel_rfl) (by kernel_rfl) (by kernel_rfl) (by kernel_rfl) rfl rfl hf (by decide) rfl (fun w hp => ?_) ⟨_, hp⟩ ?_
        · obtain ⟨_, hp⟩ := hp
          refine st_ldP hf (by decide) pl24 rfl rfl (hl250 _ _ hp) ?_
          clear hf; intro a ha hf
          exact st_nil hf (th_n ⟨ha, rfl⟩)
        clear hf; intro a hf
        refine dr_take 4 (v105) rfl (by kernel_rfl) (by kernel_rfl) (by kernel_rfl) (by kernel_rfl) rfl rfl hf (by decide) rfl (fun w hp => ?_) ⟨_, hp⟩ ?_
        · obtain ⟨_, hp⟩ := hp
          refine st_move hf rfl rfl (by decide) ?_
          clear hf; intro a ha hf
          exact st_nil hf (th_n ⟨ha, rfl⟩)
        clear hf; intro a hf
        refine dr_take 5 (.int .i64 p25) rfl (by kernel_rfl) (by kernel_rfl) (by kernel_rfl) (by kernel_rfl) rfl rfl hf (by decide) rfl (fun w hp => ?_) ⟨_, hp⟩ ?_
        · obtain ⟨_, hp⟩ := hp
          refine st_move hf rfl rfl (by decide) ?_
          clear hf; intro a ha hf
          exact st_nil hf (th_n ⟨ha, rfl⟩)
        clear hf; intro a hf
        refine dr_take 6 (eptr v105 p25 1) rfl (by kernel_rfl) (by kernel_rfl) (by kernel_rfl) (by kernel_rfl) rfl rfl hf (by decide) rfl (fun w hp => ?_) ⟨_, hp⟩ ?_
        · obtain ⟨_, hp⟩ := hp
          refine st_index (E := Ek.c128) hf (by decide) Try.underlying41 elt24 rfl rfl rfl (rl243.sl hp) hc255.1 hc255.2 ?_
          clear hf; intro a ha hf
          exact st_nil hf (th_n ⟨ha, rfl⟩)
        clear hf; intro a hf
        refine dr_take 7 (.complex .f64 bb257 bb258) rfl (by kernel_rfl) (by kernel_rfl) (by kernel_rfl) (by kernel_rfl) rfl rfl hf (by decide) rfl (fun w hp => ?_) ⟨_, hp⟩ ?_
        · obtain ⟨_, hp⟩ := hp
          refine st_ldP hf (by decide) pl24 rfl rfl (hl256 _ _ hp) ?_
          clear hf; intro a ha hf
          exact st_nil hf (th_n ⟨ha, rfl⟩)
        clear hf; intro a hf
        refine dr_take 8 (v119) rfl (by kernel_rfl) (by kernel_rfl) (by kernel_rfl) (by kernel_rfl) rfl rfl hf (by decide) rfl (fun w hp => ?_) ⟨_, hp⟩ ?_
        · obtain ⟨_, hp⟩ := hp
          refine st_move hf rfl rfl (by decide) ?_
          clear hf; intro a ha hf
          exact st_nil hf (th_n ⟨ha, rfl⟩)
        clear hf; intro a hf
        refine dr_take 9 (.int .i64 p25) rfl (by kernel_rfl) (by kernel_rfl) (by kernel_rfl) (by kernel_rfl) rfl rfl hf (by decide) rfl (fun w hp => ?_) ⟨_, hp⟩ ?_
        · obtain ⟨_, hp⟩ := hp
          refine st_move hf rfl rfl (by decide) ?_
          clear hf; intro a ha hf
          exact st_nil hf (th_n ⟨ha, rfl⟩)
        clear hf; intro a hf
        refine dr_take 10 (eptr v119 p25 1) rfl (by kernel_rfl) (by kernel_rfl) (by kernel_rfl) (by kernel_rfl) rfl rfl hf (by decide) rfl (fun w hp => ?_) ⟨_, hp⟩ ?_
        · obtain ⟨_, hp⟩ := hp
          refine st_index (E := Ek.c128) hf (by decide) Try.underlying41 elt24 rfl rfl rfl (rl244.sl hp) hc261.1 hc261.2 ?_
          clear hf; intro a ha hf
          exact st_nil hf (th_n ⟨ha, rfl⟩)
        clear hf; intro a hf
        refine dr_take 11 (.complex .f64 bb263 bb264) rfl (by kernel_rfl) (by kernel_rfl) (by kernel_rfl) (by kernel_rfl) rfl rfl hf (by decide) rfl (fun w hp => ?_) ⟨_, hp⟩ ?_
        · obtain ⟨_, hp⟩ := hp
          refine st_ldP hf (by decide) pl24 rfl rfl (hl262 _ _ hp) ?_
          clear hf; intro a ha hf
          exact st_nil hf (th_n ⟨ha, rfl⟩)
        clear hf; intro a hf
        refine dr_one 12 rfl (by kernel_rfl) ?_
        refine st_carith (op := .add) (zx := (gt q93.1 p25)) (zy := (gt q107.1 p25)) rfl hf (by decide) hp rfl rfl rfl y259 y260 y265 y266 ?_
        clear hf; intro a w bb267 bb268 y269 y270 hf hp0; clear hp; have hp := hp0; clear hp0
        replace hp : Hp _ _ _ (Res.sl Ek.c128 24 v13 q11 :: ow) := hp
        refine st_nil hf (th_n ⟨fun _ _ => ⟨_, hp⟩, ?_⟩)
        refine dr_take 13 (.bool (!ceq (gt q121.1 p25) (cadd (gt q93.1 p25) (gt q107.1 p25)))) rfl (by kernel_rfl) (by kernel_rfl) (by kernel_rfl) (by kernel_rfl) rfl rfl hf (by decide) rfl (fun w hp => ?_) ⟨_, hp⟩ ?_
        · obtain ⟨_, hp⟩ := hp
          refine st_ccmp (r_cne (x := (gt q121.1 p25)) (y := (cadd (gt q93.1 p25) (gt q107.1 p25))) y253 y254 y269 y270) hf (by decide) rfl rfl rfl ?_
          clear hf; intro a ha hf
          exact st_nil hf (th_n ⟨ha, rfl⟩)
        clear hf; intro a hf
        refine dr_take 14 (.bool (!ceq (gt q121.1 p25) (cadd (gt q93.1 p25) (gt q107.1 p25)))) rfl (by kernel_rfl) (by kernel_rfl) (by kernel_rfl) (by kernel_rfl) rfl rfl hf (by decide) rfl (fun w hp => ?_) ⟨_, hp⟩ ?_
        · obtain ⟨_, hp⟩ := hp
          refine st_move hf rfl rfl (by decide) ?_
          clear hf; intro a ha hf
          exact st_nil hf (th_n ⟨ha, rfl⟩)
        clear hf; intro a hf
        refine dr_take 15 (v147) rfl (by kernel_rfl) (by kernel_rfl) (by kernel_rfl) (by kernel_rfl) rfl rfl hf (by decide) (wantY hf rfl rfl hb272) (fun w hp => ?_) ⟨_, hp⟩ ?_
        · obtain ⟨_, hp⟩ := hp
          refine st_move hf (wantY hf rfl rfl hb272) rfl (by decide) ?_
          clear hf; intro a ha hf
          exact st_nil hf (th_n ⟨ha, rfl⟩)
        clear hf; intro a hf
        refine dr_take 16 (.int .i64 p25) rfl (by kernel_rfl) (by kernel_rfl) (by kernel_rfl) (by kernel_rfl) rfl rfl hf (by decide) (wantY hf rfl rfl hb272) (fun w hp => ?_) ⟨_, hp⟩ ?_
        · obtain ⟨_, hp⟩ := hp
          refine st_move hf (wantY hf rfl rfl hb272) rfl (by decide) ?_
          clear hf; intro a ha hf
          exact st_nil hf (th_n ⟨ha, rfl⟩)
        clear hf; intro a hf
        refine dr_take 17 (eptr v147 p25 1) rfl (by kernel_rfl) (by kernel_rfl) (by kernel_rfl) (by kernel_rfl) rfl rfl hf (by decide) (wantY hf rfl rfl hb272) (fun w hp => ?_) ⟨_, hp⟩ ?_
        · obtain ⟨_, hp⟩ := hp
          refine st_index (E := Ek.c128) hf (by decide) Try.underlying41 elt24 (wantY hf rfl rfl hb272) rfl rfl (rl246.sl hp) hc273.1 hc273.2 ?_
          clear hf; intro a ha hf
          exact st_nil hf (th_n ⟨ha, rfl⟩)
        clear hf; intro a hf
        refine dr_take 18 (.complex .f64 bb275 bb276) rfl (by kernel_rfl) (by kernel_rfl) (by kernel_rfl) (by kernel_rfl) rfl rfl hf (by decide) (wantY hf rfl rfl hb272) (fun w hp => ?_) ⟨_, hp⟩ ?_
        · obtain ⟨_, hp⟩ := hp
          refine st_ldP hf (by decide) pl24 (wantY hf rfl rfl hb272) rfl (hl274 _ _ hp) ?_
          clear hf; intro a ha hf
          exact st_nil hf (th_n ⟨ha, rfl⟩)
        clear hf; intro a hf
        refine dr_take 19 (v105) rfl (by kernel_rfl) (by kernel_rfl) (by kernel_rfl) (by kernel_rfl) rfl rfl hf (by decide) (wantY hf rfl rfl hb272) (fun w hp => ?_) ⟨_, hp⟩ ?_
        · obtain ⟨_, hp⟩ := hp
          refine st_move hf (wantY hf rfl rfl hb272) rfl (by decide) ?_
          clear hf; intro a ha hf
          exact st_nil hf (th_n ⟨ha, rfl⟩)
        clear hf; intro a hf
        refine dr_take 20 (.int .i64 p25) rfl (by kernel_rfl) (by kernel_rfl) (by kernel_rfl) (by kernel_rfl) rfl rfl hf (by decide) (wantY hf rfl rfl hb272) (fun w hp => ?_) ⟨_, hp⟩ ?_
        · obtain ⟨_, hp⟩ := hp
          refine st_move hf (wantY hf rfl rfl hb272) rfl (by decide) ?_
          clear hf; intro a ha hf
          exact st_nil hf (th_n ⟨ha, rfl⟩)
        clear hf; intro a hf
        refine dr_take 21 (eptr v105 p25 1) rfl (by kernel_rfl) (by kernel_rfl) (by kernel_rfl) (by kernel_rfl) rfl rfl hf (by decide) (wantY hf rfl rfl hb272) (fun w hp => ?_) ⟨_, hp⟩ ?_
        · obtain ⟨_, hp⟩ := hp
          refine st_index (E := Ek.c128) hf (by decide) Try.underlying41 elt24 (wantY hf rfl rfl hb272) rfl rfl (rl243.sl hp) hc279.1 hc279.2 ?_
          clear hf; intro a ha hf
          exact st_nil hf (th_n ⟨ha, rfl⟩)
        clear hf; intro a hf
        refine dr_take 22 (.complex .f64 bb281 bb282) rfl (by kernel_rfl) (by kernel_rfl) (by kernel_rfl) (by kernel_rfl) rfl rfl hf (by decide) (wantY hf rfl rfl hb272) (fun w hp => ?_) ⟨_, hp⟩ ?_
        · obtain ⟨_, hp⟩ := hp
          refine st_ldP hf (by decide) pl24 (wantY hf rfl rfl hb272) rfl (hl280 _ _ hp) ?_
          clear hf; intro a ha hf
          exact st_nil hf (th_n ⟨ha, rfl⟩)
        clear hf; intro a hf
        refine dr_take 23 (.int .i64 xx0_N) rfl (by kernel_rfl) (by kernel_rfl) (by kernel_rfl) (by kernel_rfl) rfl rfl hf (by decide) (wantY hf rfl rfl hb272) (fun w hp => ?_) ⟨_, hp⟩ ?_
        · obtain ⟨_, hp⟩ := hp
          refine st_move hf (wantY hf rfl rfl hb272) rfl (by decide) ?_
          clear hf; intro a ha hf
          exact st_nil hf (th_n ⟨ha, rfl⟩)
        clear hf; intro a hf
        refine dr_one 24 rfl (by kernel_rfl) ?_
        refine st_call hf (by decide) Try.func15 rfl rfl (wantY hf rfl rfl hb272) rfl rfl (f_plane_Turn_c hp _ _ _ (show Fl.rep bb281 ((gt q93.1 p25)).1 from y283) (show Fl.rep bb282 ((gt q93.1 p25)).2 from y284) _ hcall286) ?_
        rintro _ w ⟨v287, v288, rfl, y289, y290, hp0⟩
        clear hp; have hp := hp0; clear hp0
        replace hp : Hp _ _ _ (Res.sl Ek.c128 24 v13 q11 :: ow) := hp
        refine ⟨_, rfl, ?_⟩
        clear hf; intro a hf
        refine st_nil hf (th_n ⟨fun _ _ => ⟨_, hp⟩, ?_⟩)
        refine dr_take 25 (.bool (!ceq (gt q135.1 p25) q285)) rfl (by kernel_rfl) (by kernel_rfl) (by kernel_rfl) (by kernel_rfl) rfl rfl hf (by decide) (wantY hf rfl rfl hb272) (fun w hp => ?_) ⟨_, hp⟩ ?_
        · obtain ⟨_, hp⟩ := hp
          refine st_ccmp (r_cne (x := (gt q135.1 p25)) (y := q285) y277 y278 y289 y290) hf (by decide) (wantY hf rfl rfl hb272) rfl rfl ?_
          clear hf; intro a ha hf
          exact st_nil hf (th_n ⟨ha, rfl⟩)
        clear hf; intro a hf
        refine dr_take 26 (.bool z291) rfl (by kernel_rfl) (by kernel_rfl) (by kernel_rfl) (by kernel_rfl) rfl rfl hf (by decide) rfl (fun w hp => ?_) ⟨_, hp⟩ ?_
        · obtain ⟨_, hp⟩ := hp
          refine st_pick (v := .bool z291) hf rfl rfl (fun hb' => absurd (hb272.symm.trans hb') (by decide)) (fun _ => by rw [← hz271]; rfl) (by decide) ?_
          clear hf; intro a ha hf
          exact st_nil hf (th_n ⟨ha, rfl⟩)
        clear hf; intro a hf
        refine dr_take 27 (.bool z291) rfl (by kernel_rfl) (by kernel_rfl) (by kernel_rfl) (by kernel_rfl) rfl rfl hf (by decide) rfl (fun w hp => ?_) ⟨_, hp⟩ ?_
        · obtain ⟨_, hp⟩ := hp
          refine st_move hf rfl rfl (by decide) ?_
          clear hf; intro a ha hf
          exact st_nil hf (th_n ⟨ha, rfl⟩)
        clear hf; intro a hf
        refine dr_take 28 (v175) rfl (by kernel_rfl) (by kernel_rfl) (by kernel_rfl) (by kernel_rfl) rfl rfl hf (by decide) (wantY hf rfl rfl hb293) (fun w hp => ?_) ⟨_, hp⟩ ?_
        · obtain ⟨_, hp⟩ := hp
          refine st_move hf (wantY hf rfl rfl hb293) rfl (by decide) ?_
          clear hf; intro a ha hf
          exact st_nil hf (th_n ⟨ha, rfl⟩)
        clear hf; intro a hf
        refine dr_take 29 (.int .i64 p25) rfl (by kernel_rfl) (by kernel_rfl) (by kernel_rfl) (by kernel_rfl) rfl rfl hf (by decide) (wantY hf rfl rfl hb293) (fun w hp => ?_) ⟨_, hp⟩ ?_
        · obtain ⟨_, hp⟩ := hp
          refine st_move hf (wantY hf rfl rfl hb293) rfl (by decide) ?_
          clear hf; intro a ha hf
          exact st_nil hf (th_n ⟨ha, rfl⟩)
        clear hf; intro a hf
        refine dr_take 30 (eptr v175 p25 1) rfl (by kernel_rfl) (by kernel_rfl) (by kernel_rfl) (by kernel_rfl) rfl rfl hf (by decide) (wantY hf rfl rfl hb293) (fun w hp => ?_) ⟨_, hp⟩ ?_
        · obtain ⟨_, hp⟩ := hp
          refine st_index (E := Ek.c128) hf (by decide) Try.underlying41 elt24 (wantY hf rfl rfl hb293) rfl rfl (rl247.sl hp) hc294.1 hc294.2 ?_
          clear hf; intro a ha hf
          exact st_nil hf (th_n ⟨ha, rfl⟩)
        clear hf; intro a hf
        refine dr_take 31 (.complex .f64 bb296 bb297) rfl (by kernel_rfl) (by kernel_rfl) (by kernel_rfl) (by kernel_rfl) rfl rfl hf (by decide) (wantY hf rfl rfl hb293) (fun w hp => ?_) ⟨_, hp⟩ ?_
        · obtain ⟨_, hp⟩ := hp
          refine st_ldP hf (by decide) pl24 (wantY hf rfl rfl hb293) rfl (hl295 _ _ hp) ?_
          clear hf; intro a ha hf
          exact st_nil hf (th_n ⟨ha, rfl⟩)
        clear hf; intro a hf
        refine dr_take 32 (v203) rfl (by kernel_rfl) (by kernel_rfl) (by kernel_rfl) (by kernel_rfl) rfl rfl hf (by decide) (wantY hf rfl rfl hb293) (fun w hp => ?_) ⟨_, hp⟩ ?_
        · obtain ⟨_, hp⟩ := hp
          refine st_move hf (wantY hf rfl rfl hb293) rfl (by decide) ?_
          clear hf; intro a ha hf
          exact st_nil hf (th_n ⟨ha, rfl⟩)
        clear hf; intro a hf
        refine dr_take 33 (.int .i64 p25) rfl (by kernel_rfl) (by kernel_rfl) (by kernel_rfl) (by kernel_rfl) rfl rfl hf (by decide) (wantY hf rfl rfl hb293) (fun w hp => ?_) ⟨_, hp⟩ ?_
        · obtain ⟨_, hp⟩ := hp
          refine st_move hf (wantY hf rfl rfl hb293) rfl (by decide) ?_
          clear hf; intro a ha hf
          exact st_nil hf (th_n ⟨ha, rfl⟩)
        clear hf; intro a hf
        refine dr_take 34 (eptr v203 p25 1) rfl (by kernel_rfl) (by kernel_rfl) (by kernel_rfl) (by kernel_rfl) rfl rfl hf (by decide) (wantY hf rfl rfl hb293) (fun w hp => ?_) ⟨_, hp⟩ ?_
        · obtain ⟨_, hp⟩ := hp
          refine st_index (E := Ek.c128) hf (by decide) Try.underlying41 elt24 (wantY hf rfl rfl hb293) rfl rfl (rl248.sl hp) hc300.1 hc300.2 ?_
          clear hf; intro a ha hf
          exact st_nil hf (th_n ⟨ha, rfl⟩)
        clear hf; intro a hf
        refine dr_take 35 (.complex .f64 bb302 bb303) rfl (by kernel_rfl) (by kernel_rfl) (by kernel_rfl) (by kernel_rfl) rfl rfl hf (by decide) (wantY hf rfl rfl hb293) (fun w hp => ?_) ⟨_, hp⟩ ?_
        · obtain ⟨_, hp⟩ := hp
          refine st_ldP hf (by decide) pl24 (wantY hf rfl rfl hb293) rfl (hl301 _ _ hp) ?_
          clear hf; intro a ha hf
          exact st_nil hf (th_n ⟨ha, rfl⟩)
        clear hf; intro a hf
        refine dr_take 36 (.bool (!ceq (gt q163.1 p25) (gt q191.1 p25))) rfl (by kernel_rfl) (by kernel_rfl) (by kernel_rfl) (by kernel_rfl) rfl rfl hf (by decide) (wantY hf rfl rfl hb293) (fun w hp => ?_) ⟨_, hp⟩ ?_
        · obtain ⟨_, hp⟩ := hp
          refine st_ccmp (r_cne (x := (gt q163.1 p25)) (y := (gt q191.1 p25)) y298 y299 y304 y305) hf (by decide) (wantY hf rfl rfl hb293) rfl rfl ?_
          clear hf; intro a ha hf
          exact st_nil hf (th_n ⟨ha, rfl⟩)
        clear hf; intro a hf
        refine dr_take 37 (.bool z306) rfl (by kernel_rfl) (by kernel_rfl) (by kernel_rfl) (by kernel_rfl) rfl rfl hf (by decide) rfl (fun w hp => ?_) ⟨_, hp⟩ ?_
        · obtain ⟨_, hp⟩ := hp
          refine st_pick (v := .bool z306) hf rfl rfl (fun hb' => absurd (hb293.symm.trans hb') (by decide)) (fun _ => by rw [← hz292]; rfl) (by decide) ?_
          clear hf; intro a ha hf
          exact st_nil hf (th_n ⟨ha, rfl⟩)
        clear hf; intro a hf
        refine dr_end (by kernel_rfl) ?_ _
        have hp := bk242 _ _ hp
        have hp := bk237 _ _ hp
        have hp := bk232 _ _ hp
        have hp := bk227 _ _ hp
        have hp := bk222 _ _ hp
        have hp := bk217 _ _ hp
        exact ⟨hf.sub ⟨rfl, rfl, rfl, rfl, rfl, rfl, rfl, rfl, rfl, rfl, trivial⟩, hp⟩
      rintro a w ⟨hf, hp⟩
      refine th_n ?_
      refine wp_if hf rfl (fun hb => ?_) (fun hb => ?_)
      · replace h := ifT h hb
        refine wp_seq ?_
        refine wp_reg ?_
        refine st_assign hf rfl rfl (by decide) ?_
        clear hf; intro a ha hf; clear ha
        refine st_nil hf ?_
        refine th_n ?_
        refine wp_ret ?_
        refine ib_r ?_
        refine th_r ?_
        obtain rfl := Option.some.inj h
        have hp : Hp _ _ _ (ow) := Hp.sel (pre := [Res.sl Ek.c128 24 v133 q121.1, Res.sl Ek.c128 24 v105 q93.1, Res.sl Ek.c128 24 v119 q107.1, Res.sl Ek.c128 24 v147 q135.1, Res.sl Ek.c128 24 v175 q163.1, Res.sl Ek.c128 24 v203 q191.1, Res.sl Ek.c128 24 v13 q11]) (tail := ow) (rs' := []) hp [] (by decide) (by simp) rfl
        exact rnd_r (by simp) ⟨rfl, ⟨hf.sub ⟨rfl, trivial⟩, hp⟩⟩
      replace h := ifF h hb
      refine wp_skip ?_
      refine ib_n ?_
      refine th_n ?_
      refine wp_reg ?_
      refine st_move hf rfl rfl (by decide) ?_
      clear hf; intro a ha hf; clear ha
      refine st_iadd hf (by decide) rfl rfl rfl ?_
      clear hf; intro a ha hf; clear ha
      refine st_assign hf rfl rfl (by decide) ?_
      clear hf; intro a ha hf; clear ha
      refine st_nil hf ?_
      obtain rfl := Option.some.inj h
      have hp : Hp _ _ _ (Res.sl Ek.c128 24 v13 q11 :: Res.sl Ek.c128 24 v105 q93.1 :: Res.sl Ek.c128 24 v119 q107.1 :: Res.sl Ek.c128 24 v133 q121.1 :: Res.sl Ek.c128 24 v147 q135.1 :: Res.sl Ek.c128 24 v175 q163.1 :: Res.sl Ek.c128 24 v203 q191.1 :: ow) := Hp.sel (pre := [Res.sl Ek.c128 24 v133 q121.1, Res.sl Ek.c128 24 v105 q93.1, Res.sl Ek.c128 24 v119 q107.1, Res.sl Ek.c128 24 v147 q135.1, Res.sl Ek.c128 24 v175 q163.1, Res.sl Ek.c128 24 v203 q191.1, Res.sl Ek.c128 24 v13 q11]) (tail := ow) (rs' := [Res.sl Ek.c128 24 v13 q11, Res.sl Ek.c128 24 v105 q93.1, Res.sl Ek.c128 24 v119 q107.1, Res.sl Ek.c128 24 v133 q121.1, Res.sl Ek.c128 24 v147 q135.1, Res.sl Ek.c128 24 v175 q163.1, Res.sl Ek.c128 24 v203 q191.1]) hp [6, 1, 2, 0, 3, 4, 5] (by decide) (by simp) rfl
      exact rnd_l ⟨hf.sub ⟨rfl, rfl, rfl, rfl, rfl, rfl, rfl, rfl, rfl, trivial⟩, hp⟩
    replace h := ifF h hb
    refine wp_exit ?_
    refine th_e ?_
    obtain rfl := Option.some.inj h
    have hp : Hp _ _ _ (ow) := Hp.sel (pre := [Res.sl Ek.c128 24 v13 q11, Res.sl Ek.c128 24 v105 q93.1, Res.sl Ek.c128 24 v119 q107.1, Res.sl Ek.c128 24 v133 q121.1, Res.sl Ek.c128 24 v147 q135.1, Res.sl Ek.c128 24 v175 q163.1, Res.sl Ek.c128 24 v203 q191.1]) (tail := ow) (rs' := []) hp [] (by decide) (by simp) rfl
    exact rnd_r (by simp) ⟨rfl, hf.sub trivial, hp⟩
  clear hl hf hp
  intro e a w hne hO
  rcases q307 with q308 | q309
  · replace h := smL h
    obtain ⟨rfl, hf, hp⟩ := hO
    refine ib_same ?_
    refine th_n ?_
    refine wp_seq ?_
    refine wp_reg ?_
    obtain ⟨q310, hcall311, h⟩ := bnd h
    refine st_call hf (by decide) Try.func24 rfl rfl rfl rfl rfl (f_foghornlaw03_awake_c hp  hcall311) ?_
    rintro _ w ⟨rfl, hp0⟩
    clear hp; have hp := hp0; clear hp0
    replace hp : Hp _ _ _ (ow) := hp
    refine ⟨_, rfl, ?_⟩
    clear hf; intro a hf
    refine st_assign hf rfl rfl (by decide) ?_
    clear hf; intro a ha hf; clear ha
    refine st_nil hf ?_
    refine th_n ?_
    refine wp_ret ?_
    obtain rfl := Option.some.inj h
    exact ⟨rfl, ⟨hf.sub ⟨rfl, trivial⟩, hp⟩⟩
  replace h := smR h
  obtain ⟨rfl, hf, hp⟩ := hO
  refine ib_r ?_
  refine th_r ?_
  obtain rfl := Option.some.inj h
  exact ⟨rfl, ⟨hf.sub ⟨rfl, trivial⟩, hp⟩⟩

end Go.Proofs.Yteifkccomfdciaa
