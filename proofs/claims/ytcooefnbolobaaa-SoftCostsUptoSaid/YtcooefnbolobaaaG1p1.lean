/- The functions foghorn foghornlaw23.SoftCosts: what each answers, as a plain function, and that its call answers it; printed by gen.py. -/
import Derived.Test.YtcooefnbolobaaaProg
import Derived.Test.YtcooefnbolobaaaGlU
import Derived.KernelRfl
set_option linter.unusedVariables false
set_option linter.unusedSimpArgs false
set_option maxRecDepth 100000
set_option maxHeartbeats 4000000
namespace Go.Proofs.Ytcooefnbolobaaa
open GL
theorem elt4 : ElT Try.prog Ek.bool 4 1 false := ElT.of (z := .bool false) (by kernel_rfl) rfl
theorem elt33 : ElT Try.prog Ek.c128 33 16 (Fl.bits 0, Fl.bits 0) := ElT.of (z := .complex .f64 0 0) (by kernel_rfl) ⟨_, _, rfl, rfl, rfl⟩
theorem elt35 : ElT Try.prog (Ek.pair Ek.c128 Ek.bool) 35 24 ((Fl.bits 0, Fl.bits 0), false) := ElT.of (z := .agg #[.complex .f64 0 0, .bool false]) (by kernel_rfl) ⟨[.complex .f64 0 0], [.bool false], rfl, ⟨_, _, rfl, rfl, rfl⟩, rfl⟩
theorem elt62 : ElT Try.prog (Ek.pair (Ek.int .i32) (Ek.pair (Ek.int .i32) Ek.bool)) 62 12 ((0 : Int), (0 : Int), false) := ElT.of (z := .agg #[.int .i32 0, .int .i32 0, .bool false]) (by kernel_rfl) ⟨[.int .i32 0], [.int .i32 0, .bool false], rfl, rfl, ⟨[.int .i32 0], [.bool false], rfl, rfl, rfl⟩⟩
theorem pl3 : Plain Try.prog 3 := ⟨⟨_, Try.underlying3, trivial⟩⟩
theorem pl4 : Plain Try.prog 4 := ⟨⟨_, Try.underlying4, trivial⟩⟩
theorem pl21 : Plain Try.prog 21 := ⟨⟨_, Try.underlying21, trivial⟩⟩
theorem pl22 : Plain Try.prog 22 := ⟨⟨_, Try.underlying22, trivial⟩⟩
theorem pl25 : Plain Try.prog 25 := ⟨⟨_, Try.underlying25, trivial⟩⟩
theorem pl33 : Plain Try.prog 33 := ⟨⟨_, Try.underlying33, trivial⟩⟩
noncomputable def f_foghornlaw23_samples.s1c (l0 : (List (Int × Int × Bool))) (out3 : (List ((Fl × Fl) × Bool))) (i4 : Int) : Option (((List ((Fl × Fl) × Bool)) × Int) ⊕ (List ((Fl × Fl) × Bool))) := (if (decide (i4 < (l0.length : Int))) = true then (if 0 ≤ i4 ∧ i4 < (l0.length : Int) then ((farithS .quo (fofi ((gt l0 i4).1)) (Fl.bits 4661225614328463360)).bind fun q6 => (if 0 ≤ i4 ∧ i4 < (l0.length : Int) then ((farithS .quo (fofi ((gt l0 i4).2.1)) (Fl.bits 4661225614328463360)).bind fun q9 => (if 0 ≤ i4 ∧ i4 < (l0.length : Int) then (if (out3.length + ([((q6, q9), (gt l0 i4).2.2)]).length) * 24 ≤ 140737488355328 then (some (Sum.inl ((out3 ++ [((q6, q9), (gt l0 i4).2.2)]), (IntKind.i64.wrap (i4 + (1 : Int)))))) else none) else none)) else none)) else none) else (some (Sum.inr out3)))
noncomputable def f_foghornlaw23_samples.s1 (l0 : (List (Int × Int × Bool))) (s : ((List ((Fl × Fl) × Bool)) × Int)) : Option (((List ((Fl × Fl) × Bool)) × Int) ⊕ (List ((Fl × Fl) × Bool))) := f_foghornlaw23_samples.s1c l0 s.1 s.2
noncomputable def f_foghornlaw23_samples (l0 : (List (Int × Int × Bool))) : Option ((List ((Fl × Fl) × Bool)) × (List ((Fl × Fl) × Bool))) := ((loop (f_foghornlaw23_samples.s1 l0) ([], (0 : Int))).bind (fun q16 => (if (q16.length + ([((Fl.bits 4651892959631900672, Fl.bits 0), false)]).length) * 24 ≤ 140737488355328 then (if 0 ≤ (q16.length : Int) ∧ (q16.length : Int) ≤ (((q16 ++ [((Fl.bits 4651892959631900672, Fl.bits 0), false)]) ++ ([] : List ((Fl × Fl) × Bool))).length : Int) then (some ((((q16 ++ [((Fl.bits 4651892959631900672, Fl.bits 0), false)]) ++ ([] : List ((Fl × Fl) × Bool))).take (((q16.length : Int)).toNat)), (((q16 ++ [((Fl.bits 4651892959631900672, Fl.bits 0), false)]) ++ ([] : List ((Fl × Fl) × Bool))).drop (((q16.length : Int)).toNat)))) else none) else none)))
theorem f_foghornlaw23_samples_c {S : Nat → Prop} {w0 w : World} {ow : List Res} (hp : Hp S w0 w ow) (vl0 : Value) (l0 : (List (Int × Int × Bool))) (hl0 : RdS (Ek.pair (Ek.int .i32) (Ek.pair (Ek.int .i32) Ek.bool)) S w0 vl0 l0) {r : ((List ((Fl × Fl) × Bool)) × (List ((Fl × Fl) × Bool)))} (h : f_foghornlaw23_samples l0 = some r) :
    Calls Try.prog 9 #[vl0] w (fun e w' => ∃ (u0 : Value), e = .returned (u0) ∧ Hp S w0 w' (Res.slx (Ek.pair Ek.c128 Ek.bool) 35 u0 r.1 r.2 :: ow)) := by
  unfold f_foghornlaw23_samples at h
  refine enter (n := 44) (args := [vl0]) Try.func9 rfl rfl (Nat.le_of_ble_eq_true rfl) fun a hf => ?_
  replace hf : Fr 44 a [(0, vl0)] := hf
  refine wp_mono (Q := fun e a w => e = .ret ∧ ∃ (u0 : Value), Fr 44 a [(2, u0)] ∧ Hp S w0 w (Res.slx (Ek.pair Ek.c128 Ek.bool) 35 u0 r.1 r.2 :: ow)) ?_ ?_
  rotate_left
  · rintro e a w ⟨rfl, x0, hf, hp⟩
    exact ret1 hf rfl rfl ⟨x0, rfl, hp⟩
  refine wp_seq ?_
  refine wp_reg ?_
  refine st_assign hf rfl rfl (by decide) ?_
  clear hf; intro a ha hf; clear ha
  refine st_nil hf ?_
  refine th_n ?_
  refine wp_seq ?_
  refine wp_reg ?_
  refine st_assign hf rfl rfl (by decide) ?_
  clear hf; intro a ha hf; clear ha
  refine st_nil hf ?_
  refine th_n ?_
  refine wp_seq ?_
  refine wp_seq ?_
  refine wp_reg ?_
  refine st_assign hf rfl rfl (by decide) ?_
  clear hf; intro a ha hf; clear ha
  refine st_nil hf ?_
  refine th_n ?_
  refine wp_block ?_
  obtain ⟨q16, hl, h⟩ := bnd h
  have hp := hp.nil (Ek.pair Ek.c128 Ek.bool) 35
  refine wp_loop_pure (f := (f_foghornlaw23_samples.s1 l0)) (s := ([], (0 : Int))) (fun s a w => ∃ (v1 : Value), Fr 44 a [(0, vl0), (3, v1), (4, .int .i64 s.2)] ∧ Hp S w0 w (Res.sl (Ek.pair Ek.c128 Ek.bool) 35 v1 s.1 :: ow)) (fun q e a w => e = .exit 0 ∧ ∃ (v3 : Value), Fr 44 a [(3, v3)] ∧ Hp S w0 w (Res.sl (Ek.pair Ek.c128 Ek.bool) 35 v3 q :: ow)) ?_ hl ⟨_, hf.sub ⟨rfl, rfl, rfl, trivial⟩, hp⟩ ?_
  · clear hl hf hp
    intro s x a w h hI
    obtain ⟨out3, i4⟩ := s
    obtain ⟨v1, hf, hp⟩ : ∃ (v1 : Value), Fr 44 a [(0, vl0), (3, v1), (4, .int .i64 i4)] ∧ Hp S w0 w (Res.sl (Ek.pair Ek.c128 Ek.bool) 35 v1 out3 :: ow) := hI
    replace h : f_foghornlaw23_samples.s1c l0 out3 i4 = some x := h
    unfold f_foghornlaw23_samples.s1c at h
    refine wp_seq ?_
    refine wp_seq ?_
    refine wp_reg ?_
    refine st_move hf rfl rfl (by decide) ?_
    clear hf; intro a ha hf; clear ha
    refine st_move hf rfl rfl (by decide) ?_
    clear hf; intro a ha hf; clear ha
    refine st_len (E := (Ek.pair (Ek.int .i32) (Ek.pair (Ek.int .i32) Ek.bool))) hf (by decide) Try.underlying26 rfl rfl (hl0.sl hp) ?_
    clear hf; intro a ha hf; clear ha
    refine st_ilss hf (by decide) rfl rfl rfl ?_
    clear hf; intro a ha hf; clear ha
    refine st_nil hf ?_
    refine th_n ?_
    refine wp_if hf rfl (fun hb => ?_) (fun hb => ?_)
    · replace h := ifT h hb
      refine wp_skip ?_
      refine th_n ?_
      refine wp_seq ?_
      refine wp_block ?_
      obtain ⟨hc5, h⟩ := chk h
      obtain ⟨q6, hq7, h⟩ := bnd h
      obtain ⟨hc8, h⟩ := chk h
      obtain ⟨q9, hq10, h⟩ := bnd h
      obtain ⟨hc11, h⟩ := chk h
      obtain ⟨hc14, h⟩ := chk h
      refine wp_cutN (fun a w => ∃ (v12 : Value) (v15 : Value), Fr 44 a [(0, vl0), (3, v15), (4, .int .i64 i4)] ∧ Hp S w0 w (Res.sl (Ek.pair Ek.c128 Ek.bool) 35 v12 ([((q6, q9), (gt l0 i4).2.2)]) :: Res.sl (Ek.pair Ek.c128 Ek.bool) 35 v15 (out3 ++ [((q6, q9), (gt l0 i4).2.2)]) :: ow)) ?_ ?_
      · have hp := hp.same (Same.drew w)
        refine dr_begin' (fun a w => ∃ (v12 : Value) (v15 : Value), Fr 44 a [(0, vl0), (3, v15), (4, .int .i64 i4)] ∧ Hp S w0 w (Res.sl (Ek.pair Ek.c128 Ek.bool) 35 v12 ([((q6, q9), (gt l0 i4).2.2)]) :: Res.sl (Ek.pair Ek.c128 Ek.bool) 35 v15 (out3 ++ [((q6, q9), (gt l0 i4).2.2)]) :: ow)) (fun w' => ∃ l, Hp S w0 w' l) [] (by kernel_rfl) ?_
        refine dr_take 0 (v1) rfl (by kernel_rfl) (by kernel_rfl) (by kernel_rfl) (by kernel_rfl) rfl rfl hf (by decide) rfl (fun w hp => ?_) ⟨_, hp⟩ ?_
        · obtain ⟨_, hp⟩ := hp
          refine st_move hf rfl rfl (by decide) ?_
          clear hf; intro a ha hf
          exact st_nil hf (th_n ⟨ha, rfl⟩)
        clear hf; intro a hf
        refine dr_take 1 (vl0) rfl (by kernel_rfl) (by kernel_rfl) (by kernel_rfl) (by kernel_rfl) rfl rfl hf (by decide) rfl (fun w hp => ?_) ⟨_, hp⟩ ?_
        · obtain ⟨_, hp⟩ := hp
          refine st_move hf rfl rfl (by decide) ?_
          clear hf; intro a ha hf
          exact st_nil hf (th_n ⟨ha, rfl⟩)
        clear hf; intro a hf
        refine dr_take 2 (.int .i64 i4) rfl (by kernel_rfl) (by kernel_rfl) (by kernel_rfl) (by kernel_rfl) rfl rfl hf (by decide) rfl (fun w hp => ?_) ⟨_, hp⟩ ?_
        · obtain ⟨_, hp⟩ := hp
          refine st_move hf rfl rfl (by decide) ?_
          clear hf; intro a ha hf
          exact st_nil hf (th_n ⟨ha, rfl⟩)
        clear hf; intro a hf
        refine dr_take 3 (eptr vl0 i4 3) rfl (by kernel_rfl) (by kernel_rfl) (by kernel_rfl) (by kernel_rfl) rfl rfl hf (by decide) rfl (fun w hp => ?_) ⟨_, hp⟩ ?_
        · obtain ⟨_, hp⟩ := hp
          refine st_index (E := (Ek.pair (Ek.int .i32) (Ek.pair (Ek.int .i32) Ek.bool))) hf (by decide) Try.underlying26 elt62 rfl rfl rfl (hl0.sl hp) hc5.1 hc5.2 ?_
          clear hf; intro a ha hf
          exact st_nil hf (th_n ⟨ha, rfl⟩)
        clear hf; intro a hf
        refine dr_take 4 (optr (eptr vl0 i4 3) 0) rfl (by kernel_rfl) (by kernel_rfl) (by kernel_rfl) (by kernel_rfl) rfl rfl hf (by decide) rfl (fun w hp => ?_) ⟨_, hp⟩ ?_
        · obtain ⟨_, hp⟩ := hp
          refine st_faP (off := 0) (sz := 1) hf (by decide) (by kernel_rfl) (by decide) rfl rfl (Sl.isP (hl0.sl hp) hc5.1 hc5.2) ?_
          clear hf; intro a ha hf
          exact st_nil hf (th_n ⟨ha, rfl⟩)
        clear hf; intro a hf
        refine dr_take 5 (.int .i32 ((gt l0 i4).1)) rfl (by kernel_rfl) (by kernel_rfl) (by kernel_rfl) (by kernel_rfl) rfl rfl hf (by decide) rfl (fun w hp => ?_) ⟨_, hp⟩ ?_
        · obtain ⟨_, hp⟩ := hp
          refine st_ldQ (F := (Ek.int .i32)) (yv := (gt l0 i4).1) hf (by decide) pl21 (fun x => .int .i32 x) (fun _ _ h => h) rfl rfl (Sl.part (E := (Ek.pair (Ek.int .i32) (Ek.pair (Ek.int .i32) Ek.bool))) (F := (Ek.int .i32)) (o := 0) (Sub.fst (E := (Ek.int .i32)) (F := (Ek.pair (Ek.int .i32) Ek.bool))) (hl0.sl hp) hc5.1 hc5.2) ?_
          clear hf; intro a ha hf
          exact st_nil hf (th_n ⟨ha, rfl⟩)
        clear hf; intro a hf
        refine dr_take 6 (.float .f64 (FloatKind.f64.nearest ((gt l0 i4).1))) rfl (by kernel_rfl) (by kernel_rfl) (by kernel_rfl) (by kernel_rfl) rfl rfl hf (by decide) rfl (fun w hp => ?_) ⟨_, hp⟩ ?_
        · obtain ⟨_, hp⟩ := hp
          refine st_conv_if Try.underlying21 Try.underlying29 hf (by decide) rfl rfl ?_
          clear hf; intro a ha hf
          exact st_nil hf (th_n ⟨ha, rfl⟩)
        clear hf; intro a hf
        refine dr_take 7 (.float .f64 (flb q6)) rfl (by kernel_rfl) (by kernel_rfl) (by kernel_rfl) (by kernel_rfl) rfl rfl hf (by decide) rfl (fun w hp => ?_) ⟨_, hp⟩ ?_
        · obtain ⟨_, hp⟩ := hp
          refine st_fs (op := .quo) rfl hf (by decide) rfl rfl rfl (show Fl.rep (FloatKind.f64.nearest ((gt l0 i4).1)) (fofi ((gt l0 i4).1)) from rfl) (show Fl.rep 4661225614328463360 (Fl.bits 4661225614328463360) from rfl) hq7 ?_
          clear hf; intro a ha hf
          exact st_nil hf (th_n ⟨ha, rfl⟩)
        clear hf; intro a hf
        refine dr_take 8 (vl0) rfl (by kernel_rfl) (by kernel_rfl) (by kernel_rfl) (by kernel_rfl) rfl rfl hf (by decide) rfl (fun w hp => ?_) ⟨_, hp⟩ ?_
        · obtain ⟨_, hp⟩ := hp
          refine st_move hf rfl rfl (by decide) ?_
          clear hf; intro a ha hf
          exact st_nil hf (th_n ⟨ha, rfl⟩)
        clear hf; intro a hf
        refine dr_take 9 (.int .i64 i4) rfl (by kernel_rfl) (by kernel_rfl) (by kernel_rfl) (by kernel_rfl) rfl rfl hf (by decide) rfl (fun w hp => ?_) ⟨_, hp⟩ ?_
        · obtain ⟨_, hp⟩ := hp
          refine st_move hf rfl rfl (by decide) ?_
          clear hf; intro a ha hf
          exact st_nil hf (th_n ⟨ha, rfl⟩)
        clear hf; intro a hf
        refine dr_take 10 (eptr vl0 i4 3) rfl (by kernel_rfl) (by kernel_rfl) (by kernel_rfl) (by kernel_rfl) rfl rfl hf (by decide) rfl (fun w hp => ?_) ⟨_, hp⟩ ?_
        · obtain ⟨_, hp⟩ := hp
          refine st_index (E := (Ek.pair (Ek.int .i32) (Ek.pair (Ek.int .i32) Ek.bool))) hf (by decide) Try.underlying26 elt62 rfl rfl rfl (hl0.sl hp) hc8.1 hc8.2 ?_
          clear hf; intro a ha hf
          exact st_nil hf (th_n ⟨ha, rfl⟩)
        clear hf; intro a hf
        refine dr_take 11 (optr (eptr vl0 i4 3) 1) rfl (by kernel_rfl) (by kernel_rfl) (by kernel_rfl) (by kernel_rfl) rfl rfl hf (by decide) rfl (fun w hp => ?_) ⟨_, hp⟩ ?_
        · obtain ⟨_, hp⟩ := hp
          refine st_faP (off := 1) (sz := 1) hf (by decide) (by kernel_rfl) (by decide) rfl rfl (Sl.isP (hl0.sl hp) hc8.1 hc8.2) ?_
          clear hf; intro a ha hf
          exact st_nil hf (th_n ⟨ha, rfl⟩)
        clear hf; intro a hf
        refine dr_take 12 (.int .i32 ((gt l0 i4).2.1)) rfl (by kernel_rfl) (by kernel_rfl) (by kernel_rfl) (by kernel_rfl) rfl rfl hf (by decide) rfl (fun w hp => ?_) ⟨_, hp⟩ ?_
        · obtain ⟨_, hp⟩ := hp
          refine st_ldQ (F := (Ek.int .i32)) (yv := (gt l0 i4).2.1) hf (by decide) pl21 (fun x => .int .i32 x) (fun _ _ h => h) rfl rfl (Sl.part (E := (Ek.pair (Ek.int .i32) (Ek.pair (Ek.int .i32) Ek.bool))) (F := (Ek.int .i32)) (o := 1) (Sub.comp (Sub.snd (E := (Ek.int .i32)) (F := (Ek.pair (Ek.int .i32) Ek.bool))) (Sub.fst (E := (Ek.int .i32)) (F := Ek.bool))) (hl0.sl hp) hc8.1 hc8.2) ?_
          clear hf; intro a ha hf
          exact st_nil hf (th_n ⟨ha, rfl⟩)
        clear hf; intro a hf
        refine dr_take 13 (.float .f64 (FloatKind.f64.nearest ((gt l0 i4).2.1))) rfl (by kernel_rfl) (by kernel_rfl) (by kernel_rfl) (by kernel_rfl) rfl rfl hf (by decide) rfl (fun w hp => ?_) ⟨_, hp⟩ ?_
        · obtain ⟨_, hp⟩ := hp
          refine st_conv_if Try.underlying21 Try.underlying29 hf (by decide) rfl rfl ?_
          clear hf; intro a ha hf
          exact st_nil hf (th_n ⟨ha, rfl⟩)
        clear hf; intro a hf
        refine dr_take 14 (.float .f64 (flb q9)) rfl (by kernel_rfl) (by kernel_rfl) (by kernel_rfl) (by kernel_rfl) rfl rfl hf (by decide) rfl (fun w hp => ?_) ⟨_, hp⟩ ?_
        · obtain ⟨_, hp⟩ := hp
          refine st_fs (op := .quo) rfl hf (by decide) rfl rfl rfl (show Fl.rep (FloatKind.f64.nearest ((gt l0 i4).2.1)) (fofi ((gt l0 i4).2.1)) from rfl) (show Fl.rep 4661225614328463360 (Fl.bits 4661225614328463360) from rfl) hq10 ?_
          clear hf; intro a ha hf
          exact st_nil hf (th_n ⟨ha, rfl⟩)
        clear hf; intro a hf
        refine dr_take 15 (.complex .f64 (flb q6) (flb q9)) rfl (by kernel_rfl) (by kernel_rfl) (by kernel_rfl) (by kernel_rfl) rfl rfl hf (by decide) rfl (fun w hp => ?_) ⟨_, hp⟩ ?_
        · obtain ⟨_, hp⟩ := hp
          refine st_complex hf (by decide) rfl rfl rfl ?_
          clear hf; intro a ha hf
          exact st_nil hf (th_n ⟨ha, rfl⟩)
        clear hf; intro a hf
        refine dr_take 16 (vl0) rfl (by kernel_rfl) (by kernel_rfl) (by kernel_rfl) (by kernel_rfl) rfl rfl hf (by decide) rfl (fun w hp => ?_) ⟨_, hp⟩ ?_
        · obtain ⟨_, hp⟩ := hp
          refine st_move hf rfl rfl (by decide) ?_
          clear hf; intro a ha hf
          exact st_nil hf (th_n ⟨ha, rfl⟩)
        clear hf; intro a hf
        refine dr_take 17 (.int .i64 i4) rfl (by kernel_rfl) (by kernel_rfl) (by kernel_rfl) (by kernel_rfl) rfl rfl hf (by decide) rfl (fun w hp => ?_) ⟨_, hp⟩ ?_
        · obtain ⟨_, hp⟩ := hp
          refine st_move hf rfl rfl (by decide) ?_
          clear hf; intro a ha hf
          exact st_nil hf (th_n ⟨ha, rfl⟩)
        clear hf; intro a hf
        refine dr_take 18 (eptr vl0 i4 3) rfl (by kernel_rfl) (by kernel_rfl) (by kernel_rfl) (by kernel_rfl) rfl rfl hf (by decide) rfl (fun w hp => ?_) ⟨_, hp⟩ ?_
        · obtain ⟨_, hp⟩ := hp
          refine st_index (E := (Ek.pair (Ek.int .i32) (Ek.pair (Ek.int .i32) Ek.bool))) hf (by decide) Try.underlying26 elt62 rfl rfl rfl (hl0.sl hp) hc11.1 hc11.2 ?_
          clear hf; intro a ha hf
          exact st_nil hf (th_n ⟨ha, rfl⟩)
        clear hf; intro a hf
        refine dr_take 19 (optr (eptr vl0 i4 3) 2) rfl (by kernel_rfl) (by kernel_rfl) (by kernel_rfl) (by kernel_rfl) rfl rfl hf (by decide) rfl (fun w hp => ?_) ⟨_, hp⟩ ?_
        · obtain ⟨_, hp⟩ := hp
          refine st_faP (off := 2) (sz := 1) hf (by decide) (by kernel_rfl) (by decide) rfl rfl (Sl.isP (hl0.sl hp) hc11.1 hc11.2) ?_
          clear hf; intro a ha hf
          exact st_nil hf (th_n ⟨ha, rfl⟩)
        clear hf; intro a hf
        refine dr_take 20 (.bool ((gt l0 i4).2.2)) rfl (by kernel_rfl) (by kernel_rfl) (by kernel_rfl) (by kernel_rfl) rfl rfl hf (by decide) rfl (fun w hp => ?_) ⟨_, hp⟩ ?_
        · obtain ⟨_, hp⟩ := hp
          refine st_ldQ (F := Ek.bool) (yv := (gt l0 i4).2.2) hf (by decide) pl4 (fun x => .bool x) (fun _ _ h => h) rfl rfl (Sl.part (E := (Ek.pair (Ek.int .i32) (Ek.pair (Ek.int .i32) Ek.bool))) (F := Ek.bool) (o := 2) (Sub.comp (Sub.snd (E := (Ek.int .i32)) (F := (Ek.pair (Ek.int .i32) Ek.bool))) (Sub.snd (E := (Ek.int .i32)) (F := Ek.bool))) (hl0.sl hp) hc11.1 hc11.2) ?_
          clear hf; intro a ha hf
          exact st_nil hf (th_n ⟨ha, rfl⟩)
        clear hf; intro a hf
        refine dr_take 21 (.agg #[.complex .f64 (flb q6) (flb q9), .bool ((gt l0 i4).2.2)]) rfl (by kernel_rfl) (by kernel_rfl) (by kernel_rfl) (by kernel_rfl) rfl rfl hf (by decide) rfl (fun w hp => ?_) ⟨_, hp⟩ ?_
        · obtain ⟨_, hp⟩ := hp
          refine st_buildA (vals := [(0, .complex .f64 (flb q6) (flb q9)), (1, .bool ((gt l0 i4).2.2))]) (cells := [.complex .f64 (flb q6) (flb q9), .bool ((gt l0 i4).2.2)]) hf (by decide) rfl (by simp [hf.ev (x := (Operand.tmp 27)) rfl, hf.ev (x := (Operand.tmp 32)) rfl]) (fun w => by kernel_rfl) ?_
          clear hf; intro a ha hf
          exact st_nil hf (th_n ⟨ha, rfl⟩)
        clear hf; intro a hf
        refine dr_one 22 rfl (by kernel_rfl) ?_
        refine st_build (E := (Ek.pair Ek.c128 Ek.bool)) (xs := [((q6, q9), (gt l0 i4).2.2)]) hf (by decide) elt35 Try.underlying27 hp (vals := #[(0, .agg #[.complex .f64 (flb q6) (flb q9), .bool ((gt l0 i4).2.2)])]) (cells := #[.complex .f64 (flb q6) (flb q9), .bool ((gt l0 i4).2.2)]) rfl (by simp [hf.ev (x := (Operand.tmp 33)) rfl]) (by decide) (by decide) (z := .agg #[.complex .f64 0 0, .bool false]) (by kernel_rfl) (by kernel_rfl) rfl (reps_cons (cs := [.complex .f64 (flb q6) (flb q9), .bool ((gt l0 i4).2.2)]) ⟨[.complex .f64 (flb q6) (flb q9)], [.bool ((gt l0 i4).2.2)], rfl, (show Ek.c128.rep [.complex .f64 (flb q6) (flb q9)] (q6, q9) from ⟨_, _, rfl, (farithS_rep hq7), (farithS_rep hq10)⟩), rfl⟩ (reps_nil _)) ?_
        clear hf; intro a w v12 hf hp0; clear hp; have hp := hp0; clear hp0
        replace hp : Hp _ _ _ (Res.sl (Ek.pair Ek.c128 Ek.bool) 35 v12 ([((q6, q9), (gt l0 i4).2.2)]) :: Res.sl (Ek.pair Ek.c128 Ek.bool) 35 v1 out3 :: ow) := hp
        refine st_nil hf (th_n ⟨fun _ _ => ⟨_, hp⟩, ?_⟩)
        refine dr_one 23 rfl (by kernel_rfl) ?_
        refine st_append (E := (Ek.pair Ek.c128 Ek.bool)) hf (by decide) elt35 Try.underlying27 (by decide) hp (i := 1) rfl rfl rfl rfl (hp.sl (i := 0) rfl) hc14 ?_
        clear hf; intro a w v15 hf hp0; clear hp; have hp := hp0; clear hp0
        replace hp : Hp _ _ _ (Res.sl (Ek.pair Ek.c128 Ek.bool) 35 v12 ([((q6, q9), (gt l0 i4).2.2)]) :: Res.sl (Ek.pair Ek.c128 Ek.bool) 35 v15 (out3 ++ [((q6, q9), (gt l0 i4).2.2)]) :: ow) := hp
        refine st_nil hf (th_n ⟨fun _ _ => ⟨_, hp⟩, ?_⟩)
        refine dr_take 24 (v15) rfl (by kernel_rfl) (by kernel_rfl) (by kernel_rfl) (by kernel_rfl) rfl rfl hf (by decide) rfl (fun w hp => ?_) ⟨_, hp⟩ ?_
        · obtain ⟨_, hp⟩ := hp
          refine st_assign hf rfl rfl (by decide) ?_
          clear hf; intro a ha hf
          exact st_nil hf (th_n ⟨ha, rfl⟩)
        clear hf; intro a hf
        refine dr_end (by kernel_rfl) ?_ _
        exact ⟨v12, v15, hf.sub ⟨rfl, rfl, rfl, trivial⟩, hp⟩
      rintro a w ⟨v12, v15, hf, hp⟩
      refine ib_n ?_
      refine th_n ?_
      refine wp_reg ?_
      refine st_move hf rfl rfl (by decide) ?_
      clear hf; intro a ha hf; clear ha
      refine st_iadd hf (by decide) rfl rfl rfl ?_
      clear hf; intro a ha hf; clear ha
      refine st_assign hf rfl rfl (by decide) ?_
      clear hf; intro a ha hf; clear ha
      refine st_nil hf ?_
      obtain rfl := Option.some.inj h
      have hp : Hp _ _ _ (Res.sl (Ek.pair Ek.c128 Ek.bool) 35 v15 (out3 ++ [((q6, q9), (gt l0 i4).2.2)]) :: ow) := Hp.sel (pre := [Res.sl (Ek.pair Ek.c128 Ek.bool) 35 v12 ([((q6, q9), (gt l0 i4).2.2)]), Res.sl (Ek.pair Ek.c128 Ek.bool) 35 v15 (out3 ++ [((q6, q9), (gt l0 i4).2.2)])]) (tail := ow) (rs' := [Res.sl (Ek.pair Ek.c128 Ek.bool) 35 v15 (out3 ++ [((q6, q9), (gt l0 i4).2.2)])]) hp [1] (by decide) (by simp) rfl
      exact rnd_l ⟨_, hf.sub ⟨rfl, rfl, rfl, trivial⟩, hp⟩
    replace h := ifF h hb
    refine wp_exit ?_
    refine th_e ?_
    obtain rfl := Option.some.inj h
    exact rnd_r (by simp) ⟨rfl, _, hf.sub ⟨rfl, trivial⟩, hp⟩
  clear hl hf hp
  intro e a w hne hO
  obtain ⟨rfl, v3, hf, hp⟩ := hO
  refine ib_same ?_
  refine th_n ?_
  refine wp_seq ?_
  refine wp_reg ?_
  refine st_move hf rfl rfl (by decide) ?_
  clear hf; intro a ha hf; clear ha
  refine st_len (E := (Ek.pair Ek.c128 Ek.bool)) hf (by decide) Try.underlying27 rfl rfl (hp.sl (i := 0) rfl) ?_
  clear hf; intro a ha hf; clear ha
  refine st_assign hf rfl rfl (by decide) ?_
  clear hf; intro a ha hf; clear ha
  refine st_nil hf ?_
  refine th_n ?_
  refine wp_seq ?_
  refine wp_reg ?_
  refine st_move hf rfl rfl (by decide) ?_
  clear hf; intro a ha hf; clear ha
  refine st_buildA (vals := [(0, .complex .f64 4651892959631900672 0)]) (cells := [.complex .f64 4651892959631900672 0, .bool false]) hf (by decide) rfl (by simp [hf.ev (x := (Operand.const (.complex .f64 4651892959631900672 0))) rfl]) (fun w => by kernel_rfl) ?_
  clear hf; intro a ha hf; clear ha
  refine st_build (E := (Ek.pair Ek.c128 Ek.bool)) (xs := [((Fl.bits 4651892959631900672, Fl.bits 0), false)]) hf (by decide) elt35 Try.underlying27 hp (vals := #[(0, .agg #[.complex .f64 4651892959631900672 0, .bool false])]) (cells := #[.complex .f64 4651892959631900672 0, .bool false]) rfl (by simp [hf.ev (x := (Operand.tmp 39)) rfl]) (by decide) (by decide) (z := .agg #[.complex .f64 0 0, .bool false]) (by kernel_rfl) (by kernel_rfl) rfl (reps_cons (cs := [.complex .f64 4651892959631900672 0, .bool false]) ⟨[.complex .f64 4651892959631900672 0], [.bool false], rfl, (show Ek.c128.rep [.complex .f64 4651892959631900672 0] (Fl.bits 4651892959631900672, Fl.bits 0) from ⟨_, _, rfl, rfl, rfl⟩), rfl⟩ (reps_nil _)) ?_
  clear hf; intro a w v18 hf hp0; clear hp; have hp := hp0; clear hp0
  replace hp : Hp _ _ _ (Res.sl (Ek.pair Ek.c128 Ek.bool) 35 v18 ([((Fl.bits 4651892959631900672, Fl.bits 0), false)]) :: Res.sl (Ek.pair Ek.c128 Ek.bool) 35 v3 q16 :: ow) := hp
  obtain ⟨hc20, h⟩ := chk h
  refine st_append (E := (Ek.pair Ek.c128 Ek.bool)) hf (by decide) elt35 Try.underlying27 (by decide) hp (i := 1) rfl rfl rfl rfl (hp.sl (i := 0) rfl) hc20 ?_
  clear hf; intro a w v21 hf hp0; clear hp; have hp := hp0; clear hp0
  replace hp : Hp _ _ _ (Res.sl (Ek.pair Ek.c128 Ek.bool) 35 v18 ([((Fl.bits 4651892959631900672, Fl.bits 0), false)]) :: Res.sl (Ek.pair Ek.c128 Ek.bool) 35 v21 (q16 ++ [((Fl.bits 4651892959631900672, Fl.bits 0), false)]) :: ow) := hp
  refine st_move hf rfl rfl (by decide) ?_
  clear hf; intro a ha hf; clear ha
  obtain ⟨hc22, h⟩ := chk h
  have hc23 : 0 ≤ ((q16.length : Int)).toNat := by omega
  have hc24 : ((q16.length : Int)).toNat ≤ ((q16 ++ [((Fl.bits 4651892959631900672, Fl.bits 0), false)]) ++ ([] : List ((Fl × Fl) × Bool))).length := by omega
  refine st_cutX (E := (Ek.pair Ek.c128 Ek.bool)) hf (by decide) Try.underlying27 elt35 hp (i := 1) rfl rfl rfl (.inl ⟨rfl, rfl⟩) (.inr ⟨_, _, rfl, evI rfl (by omega)⟩) hc23 hc24 ?_
  clear hf; intro a ha hf; clear ha
  replace hp : Hp _ _ _ (Res.sl (Ek.pair Ek.c128 Ek.bool) 35 v18 ([((Fl.bits 4651892959631900672, Fl.bits 0), false)]) :: Res.slx (Ek.pair Ek.c128 Ek.bool) 35 (GL.cut v21 0 (((q16.length : Int)).toNat) 2) (((q16 ++ [((Fl.bits 4651892959631900672, Fl.bits 0), false)]) ++ ([] : List ((Fl × Fl) × Bool))).take (((q16.length : Int)).toNat)) (((q16 ++ [((Fl.bits 4651892959631900672, Fl.bits 0), false)]) ++ ([] : List ((Fl × Fl) × Bool))).drop (((q16.length : Int)).toNat)) :: ow) := hp.cutOwn (i := 1) rfl hc24
  refine st_assign hf rfl rfl (by decide) ?_
  clear hf; intro a ha hf; clear ha
  refine st_nil hf ?_
  refine th_n ?_
  refine wp_ret ?_
  obtain rfl := Option.some.inj h
  have hp : Hp _ _ _ (Res.slx (Ek.pair Ek.c128 Ek.bool) 35 (GL.cut v21 0 (((q16.length : Int)).toNat) 2) (((q16 ++ [((Fl.bits 4651892959631900672, Fl.bits 0), false)]) ++ ([] : List ((Fl × Fl) × Bool))).take (((q16.length : Int)).toNat)) (((q16 ++ [((Fl.bits 4651892959631900672, Fl.bits 0), false)]) ++ ([] : List ((Fl × Fl) × Bool))).drop (((q16.length : Int)).toNat)) :: ow) := Hp.sel (pre := [Res.sl (Ek.pair Ek.c128 Ek.bool) 35 v18 ([((Fl.bits 4651892959631900672, Fl.bits 0), false)]), Res.slx (Ek.pair Ek.c128 Ek.bool) 35 (GL.cut v21 0 (((q16.length : Int)).toNat) 2) (((q16 ++ [((Fl.bits 4651892959631900672, Fl.bits 0), false)]) ++ ([] : List ((Fl × Fl) × Bool))).take (((q16.length : Int)).toNat)) (((q16 ++ [((Fl.bits 4651892959631900672, Fl.bits 0), false)]) ++ ([] : List ((Fl × Fl) × Bool))).drop (((q16.length : Int)).toNat))]) (tail := ow) (rs' := [Res.slx (Ek.pair Ek.c128 Ek.bool) 35 (GL.cut v21 0 (((q16.length : Int)).toNat) 2) (((q16 ++ [((Fl.bits 4651892959631900672, Fl.bits 0), false)]) ++ ([] : List ((Fl × Fl) × Bool))).take (((q16.length : Int)).toNat)) (((q16 ++ [((Fl.bits 4651892959631900672, Fl.bits 0), false)]) ++ ([] : List ((Fl × Fl) × Bool))).drop (((q16.length : Int)).toNat))]) hp [1] (by decide) (by simp) rfl
  exact ⟨rfl, ⟨_, hf.sub ⟨rfl, trivial⟩, hp⟩⟩

noncomputable def f_foghornref02_On (xx0 : Fl) : Option Bool := (if (!((fge xx0 (Fl.bits 13875590451928498176)) && (fle xx0 (Fl.bits 4652218415073722368)))) = true then (some false) else ((ftoi .i64 (fmul xx0 (Fl.bits 4661225614328463360))).bind fun q5 => (some (feq (fofi q5) (fmul xx0 (Fl.bits 4661225614328463360))))))
theorem f_foghornref02_On_c {S : Nat → Prop} {w0 w : World} {ow : List Res} (hp : Hp S w0 w ow) (bxx0 : Nat) (xx0 : Fl) (hxx0 : xx0.rep bxx0) {r : Bool} (h : f_foghornref02_On xx0 = some r) :
    Calls Try.prog 55 #[.float .f64 bxx0] w (fun e w' => e = .returned (.bool r) ∧ Hp S w0 w' (ow)) := by
  unfold f_foghornref02_On at h
  refine enter (n := 18) (args := [.float .f64 bxx0]) Try.func55 rfl rfl (Nat.le_of_ble_eq_true rfl) fun a hf => ?_
  replace hf : Fr 18 a [(0, .float .f64 bxx0)] := hf
  refine wp_mono (Q := fun e a w => e = .ret ∧ Fr 18 a [(2, .bool r)] ∧ Hp S w0 w (ow)) ?_ ?_
  rotate_left
  · rintro e a w ⟨rfl, hf, hp⟩
    exact ret1 hf rfl rfl ⟨rfl, hp⟩
  refine wp_seq ?_
  refine wp_reg ?_
  refine st_assign hf rfl rfl (by decide) ?_
  clear hf; intro a ha hf; clear ha
  refine st_nil hf ?_
  refine th_n ?_
  refine wp_seq ?_
  refine wp_seq ?_
  refine wp_reg ?_
  refine st_move hf rfl rfl (by decide) ?_
  clear hf; intro a ha hf; clear ha
  refine st_fcmp (r_fge (fx := xx0) (fy := (Fl.bits 13875590451928498176)) hxx0 rfl) hf (by decide) rfl rfl rfl ?_
  clear hf; intro a ha hf; clear ha
  refine st_move hf rfl rfl (by decide) ?_
  clear hf; intro a ha hf; clear ha
  refine wpList_cut 3 (fun a w => Fr 18 a [(0, .float .f64 bxx0), (9, .bool ((fge xx0 (Fl.bits 13875590451928498176)) && (fle xx0 (Fl.bits 4652218415073722368))))] ∧ Hp S w0 w (ow)) ?_ ?_
  · rcases Bool.eq_false_or_eq_true (fge xx0 (Fl.bits 13875590451928498176)) with hb2 | hb2
    · skip
      refine st_move hf (wantY hf rfl rfl hb2) rfl (by decide) ?_
      clear hf; intro a ha hf; clear ha
      refine st_fcmp (r_fle (fx := xx0) (fy := (Fl.bits 4652218415073722368)) hxx0 rfl) hf (by decide) (wantY hf rfl rfl hb2) rfl rfl ?_
      clear hf; intro a ha hf; clear ha
      refine st_pick (v := .bool (fle xx0 (Fl.bits 4652218415073722368))) hf rfl rfl (fun hb' => ?_) (fun hb' => ?_) (by decide) ?_
      · rfl
      · exact absurd (hb2.symm.trans hb') (by decide)
      clear hf; intro a ha hf; clear ha
      refine st_nil hf (th_n ?_)
      exact ⟨hf.sub ⟨rfl, (by rw [hb2]; rfl), trivial⟩, hp⟩
    refine st_skip hf (wantN hf rfl rfl hb2) rfl (by decide) ?_ rfl
    clear hf; intro a hf
    refine st_skip hf (wantN hf rfl rfl hb2) rfl (by decide) ?_ rfl
    clear hf; intro a hf
    refine st_pick (v := .bool false) hf rfl rfl (fun hb' => ?_) (fun hb' => ?_) (by decide) ?_
    · exact absurd (hb2.symm.trans hb') (by decide)
    · rfl
    clear hf; intro a ha hf; clear ha
    refine st_nil hf (th_n ?_)
    exact ⟨hf.sub ⟨rfl, (by rw [hb2]; rfl), trivial⟩, hp⟩
  rintro a w ⟨hf, hp⟩
  refine st_not hf (by decide) rfl rfl ?_
  clear hf; intro a ha hf; clear ha
  refine st_nil hf ?_
  refine th_n ?_
  refine wp_if hf rfl (fun hb => ?_) (fun hb => ?_)
  · replace h := ifT h hb
    refine wp_seq ?_
    refine wp_reg ?_
    refine st_assign hf rfl rfl (by decide) ?_
    clear hf; intro a ha hf; clear ha
    refine st_nil hf ?_
    refine th_n ?_
    refine wp_ret ?_
    refine th_r ?_
    obtain rfl := Option.some.inj h
    exact ⟨rfl, ⟨hf.sub ⟨rfl, trivial⟩, hp⟩⟩
  replace h := ifF h hb
  refine wp_skip ?_
  refine th_n ?_
  refine wp_seq ?_
  refine wp_reg ?_
  refine st_move hf rfl rfl (by decide) ?_
  clear hf; intro a ha hf; clear ha
  refine st_farith (op := .mul) rfl hf (by decide) hp rfl rfl rfl (show Fl.rep bxx0 xx0 from hxx0) (show Fl.rep 4661225614328463360 (Fl.bits 4661225614328463360) from rfl) ?_
  clear hf; intro a w bb3 y4 hf hp0; clear hp; have hp := hp0; clear hp0
  replace hp : Hp _ _ _ (ow) := hp
  refine st_assign hf rfl rfl (by decide) ?_
  clear hf; intro a ha hf; clear ha
  refine st_nil hf ?_
  refine th_n ?_
  refine wp_seq ?_
  refine wp_reg ?_
  refine st_move hf rfl rfl (by decide) ?_
  clear hf; intro a ha hf; clear ha
  obtain ⟨q5, hq6, h⟩ := bnd h
  refine st_conv_fi (by rw [Try.underlying29]; rfl) Try.underlying2 hf (by decide) rfl rfl (show Fl.rep bb3 (fmul xx0 (Fl.bits 4661225614328463360)) from y4) hq6 ?_
  clear hf; intro a ha hf; clear ha
  refine st_conv_if Try.underlying2 Try.underlying29 hf (by decide) rfl rfl ?_
  clear hf; intro a ha hf; clear ha
  refine st_move hf rfl rfl (by decide) ?_
  clear hf; intro a ha hf; clear ha
  refine st_fcmp (r_feq (fx := (fofi q5)) (fy := (fmul xx0 (Fl.bits 4661225614328463360))) rfl y4) hf (by decide) rfl rfl rfl ?_
  clear hf; intro a ha hf; clear ha
  refine st_assign hf rfl rfl (by decide) ?_
  clear hf; intro a ha hf; clear ha
  refine st_nil hf ?_
  refine th_n ?_
  refine wp_ret ?_
  obtain rfl := Option.some.inj h
  exact ⟨rfl, ⟨hf.sub ⟨rfl, trivial⟩, hp⟩⟩

noncomputable def f_foghornref02_May (sx0_V : (Fl × Fl)) (sx0_Lost : Bool) : Option Bool := (if sx0_Lost = true then (some ((feq sx0_V.1 (Fl.bits 0)) && (feq sx0_V.2 (Fl.bits 0)))) else ((f_foghornref02_On sx0_V.1).bind fun q5 => ((if q5 = true then ((f_foghornref02_On sx0_V.2).bind fun q10 => (some q10)) else (some false)).bind fun z9 => (some z9))))
theorem f_foghornref02_May_c {S : Nat → Prop} {w0 w : World} {ow : List Res} (hp : Hp S w0 w ow) (bsx0_V csx0_V : Nat) (sx0_V : Fl × Fl) (hsx0_V : sx0_V.1.rep bsx0_V) (ksx0_V : sx0_V.2.rep csx0_V) (sx0_Lost : Bool) {r : Bool} (h : f_foghornref02_May sx0_V sx0_Lost = some r) :
    Calls Try.prog 33 #[.agg #[.complex .f64 bsx0_V csx0_V, .bool sx0_Lost]] w (fun e w' => e = .returned (.bool r) ∧ Hp S w0 w' (ow)) := by
  unfold f_foghornref02_May at h
  refine enter (n := 25) (args := [.agg #[.complex .f64 bsx0_V csx0_V, .bool sx0_Lost]]) Try.func33 rfl rfl (Nat.le_of_ble_eq_true rfl) fun a hf => ?_
  replace hf : Fr 25 a [(0, .agg #[.complex .f64 bsx0_V csx0_V, .bool sx0_Lost])] := hf
  refine wp_mono (Q := fun e a w => e = .ret ∧ Fr 25 a [(2, .bool r)] ∧ Hp S w0 w (ow)) ?_ ?_
  rotate_left
  · rintro e a w ⟨rfl, hf, hp⟩
    exact ret1 hf rfl rfl ⟨rfl, hp⟩
  refine wp_seq ?_
  refine wp_reg ?_
  refine st_boxO (cs := [.complex .f64 bsx0_V csx0_V, .bool sx0_Lost]) hf (by decide) hp rfl rfl rfl ?_
  clear hf; intro a w v1 hf hp0; clear hp; have hp := hp0; clear hp0
  replace hp : Hp _ _ _ (Res.obj 35 v1 [.complex .f64 bsx0_V csx0_V, .bool sx0_Lost] :: ow) := hp
  refine st_assign hf rfl rfl (by decide) ?_
  clear hf; intro a ha hf; clear ha
  refine st_nil hf ?_
  refine th_n ?_
  refine wp_seq ?_
  refine wp_seq ?_
  refine wp_reg ?_
  refine st_fa (o' := 1) hf (by decide) (off := 1) (sz := 1) (by kernel_rfl) (by decide) rfl rfl (hp.ob (i := 0) rfl) rfl ?_
  clear hf; intro a ha hf; clear ha
  refine st_ldO (u := .bool sx0_Lost) hf (by decide) pl4 rfl rfl (hp.ob (i := 0) rfl) rfl ?_
  clear hf; intro a ha hf; clear ha
  refine st_nil hf ?_
  refine th_n ?_
  refine wp_if hf rfl (fun hb => ?_) (fun hb => ?_)
  · replace h := ifT h hb
    refine wp_seq ?_
    refine wp_reg ?_
    refine st_fa (o' := 0) hf (by decide) (off := 0) (sz := 1) (by kernel_rfl) (by decide) rfl rfl (hp.ob (i := 0) rfl) rfl ?_
    clear hf; intro a ha hf; clear ha
    refine st_ldO (u := .complex .f64 bsx0_V csx0_V) hf (by decide) pl33 rfl rfl (hp.ob (i := 0) rfl) rfl ?_
    clear hf; intro a ha hf; clear ha
    refine st_real hf (by decide) rfl rfl ?_
    clear hf; intro a ha hf; clear ha
    refine st_fcmp (r_feq (fx := sx0_V.1) (fy := (Fl.bits 0)) hsx0_V rfl) hf (by decide) rfl rfl rfl ?_
    clear hf; intro a ha hf; clear ha
    refine st_move hf rfl rfl (by decide) ?_
    clear hf; intro a ha hf; clear ha
    refine wpList_cut 5 (fun a w => Fr 25 a [(14, .bool ((feq sx0_V.1 (Fl.bits 0)) && (feq sx0_V.2 (Fl.bits 0))))] ∧ Hp S w0 w (Res.obj 35 v1 [.complex .f64 bsx0_V csx0_V, .bool sx0_Lost] :: ow)) ?_ ?_
    · rcases Bool.eq_false_or_eq_true (feq sx0_V.1 (Fl.bits 0)) with hb4 | hb4
      · skip
        refine st_fa (o' := 0) hf (by decide) (off := 0) (sz := 1) (by kernel_rfl) (by decide) (wantY hf rfl rfl hb4) rfl (hp.ob (i := 0) rfl) rfl ?_
        clear hf; intro a ha hf; clear ha
        refine st_ldO (u := .complex .f64 bsx0_V csx0_V) hf (by decide) pl33 (wantY hf rfl rfl hb4) rfl (hp.ob (i := 0) rfl) rfl ?_
        clear hf; intro a ha hf; clear ha
        refine st_imag hf (by decide) (wantY hf rfl rfl hb4) rfl ?_
        clear hf; intro a ha hf; clear ha
        refine st_fcmp (r_feq (fx := sx0_V.2) (fy := (Fl.bits 0)) ksx0_V rfl) hf (by decide) (wantY hf rfl rfl hb4) rfl rfl ?_
        clear hf; intro a ha hf; clear ha
        refine st_pick (v := .bool (feq sx0_V.2 (Fl.bits 0))) hf rfl rfl (fun hb' => ?_) (fun hb' => ?_) (by decide) ?_
        · rfl
        · exact absurd (hb4.symm.trans hb') (by decide)
        clear hf; intro a ha hf; clear ha
        refine st_nil hf (th_n ?_)
        exact ⟨hf.sub ⟨(by rw [hb4]; rfl), trivial⟩, hp⟩
      refine st_skip hf (wantN hf rfl rfl hb4) rfl (by decide) ?_ rfl
      clear hf; intro a hf
      refine st_skip hf (wantN hf rfl rfl hb4) rfl (by decide) ?_ rfl
      clear hf; intro a hf
      refine st_skip hf (wantN hf rfl rfl hb4) rfl (by decide) ?_ rfl
      clear hf; intro a hf
      refine st_skip hf (wantN hf rfl rfl hb4) rfl (by decide) ?_ rfl
      clear hf; intro a hf
      refine st_pick (v := .bool false) hf rfl rfl (fun hb' => ?_) (fun hb' => ?_) (by decide) ?_
      · exact absurd (hb4.symm.trans hb') (by decide)
      · rfl
      clear hf; intro a ha hf; clear ha
      refine st_nil hf (th_n ?_)
      exact ⟨hf.sub ⟨(by rw [hb4]; rfl), trivial⟩, hp⟩
    rintro a w ⟨hf, hp⟩
    refine st_assign hf rfl rfl (by decide) ?_
    clear hf; intro a ha hf; clear ha
    refine st_nil hf ?_
    refine th_n ?_
    refine wp_ret ?_
    refine th_r ?_
    obtain rfl := Option.some.inj h
    have hp : Hp _ _ _ (ow) := Hp.sel (pre := [Res.obj 35 v1 [.complex .f64 bsx0_V csx0_V, .bool sx0_Lost]]) (tail := ow) (rs' := []) hp [] (by decide) (by simp) rfl
    exact ⟨rfl, ⟨hf.sub ⟨rfl, trivial⟩, hp⟩⟩
  replace h := ifF h hb
  refine wp_skip ?_
  refine th_n ?_
  refine wp_seq ?_
  refine wp_reg ?_
  refine st_fa (o' := 0) hf (by decide) (off := 0) (sz := 1) (by kernel_rfl) (by decide) rfl rfl (hp.ob (i := 0) rfl) rfl ?_
  clear hf; intro a ha hf; clear ha
  refine st_ldO (u := .complex .f64 bsx0_V csx0_V) hf (by decide) pl33 rfl rfl (hp.ob (i := 0) rfl) rfl ?_
  clear hf; intro a ha hf; clear ha
  refine st_real hf (by decide) rfl rfl ?_
  clear hf; intro a ha hf; clear ha
  obtain ⟨q5, hcall6, h⟩ := bnd h
  refine st_call hf (by decide) Try.func55 rfl rfl rfl rfl rfl (f_foghornref02_On_c hp _ _ (show Fl.rep bsx0_V sx0_V.1 from hsx0_V) hcall6) ?_
  rintro _ w ⟨rfl, hp0⟩
  clear hp; have hp := hp0; clear hp0
  replace hp : Hp _ _ _ (Res.obj 35 v1 [.complex .f64 bsx0_V csx0_V, .bool sx0_Lost] :: ow) := hp
  refine ⟨_, rfl, ?_⟩
  clear hf; intro a hf
  refine st_move hf rfl rfl (by decide) ?_
  clear hf; intro a ha hf; clear ha
  obtain ⟨z9, hz7, h⟩ := bnd h
  refine wpList_cut 5 (fun a w => Fr 25 a [(24, .bool z9)] ∧ Hp S w0 w (Res.obj 35 v1 [.complex .f64 bsx0_V csx0_V, .bool sx0_Lost] :: ow)) ?_ ?_
  · rcases Bool.eq_false_or_eq_true q5 with hb8 | hb8
    · skip
      replace hz7 := ifT hz7 hb8
      refine st_fa (o' := 0) hf (by decide) (off := 0) (sz := 1) (by kernel_rfl) (by decide) (wantY hf rfl rfl hb8) rfl (hp.ob (i := 0) rfl) rfl ?_
      clear hf; intro a ha hf; clear ha
      refine st_ldO (u := .complex .f64 bsx0_V csx0_V) hf (by decide) pl33 (wantY hf rfl rfl hb8) rfl (hp.ob (i := 0) rfl) rfl ?_
      clear hf; intro a ha hf; clear ha
      refine st_imag hf (by decide) (wantY hf rfl rfl hb8) rfl ?_
      clear hf; intro a ha hf; clear ha
      obtain ⟨q10, hcall11, hz7⟩ := bnd hz7
      refine st_call hf (by decide) Try.func55 rfl rfl (wantY hf rfl rfl hb8) rfl rfl (f_foghornref02_On_c hp _ _ (show Fl.rep csx0_V sx0_V.2 from ksx0_V) hcall11) ?_
      rintro _ w ⟨rfl, hp0⟩
      clear hp; have hp := hp0; clear hp0
      replace hp : Hp _ _ _ (Res.obj 35 v1 [.complex .f64 bsx0_V csx0_V, .bool sx0_Lost] :: ow) := hp
      refine ⟨_, rfl, ?_⟩
      clear hf; intro a hf
      obtain rfl := Option.some.inj hz7
      refine st_pick (v := .bool q10) hf rfl rfl (fun hb' => ?_) (fun hb' => ?_) (by decide) ?_
      · rfl
      · exact absurd (hb8.symm.trans hb') (by decide)
      clear hf; intro a ha hf; clear ha
      refine st_nil hf (th_n ?_)
      exact ⟨hf.sub ⟨rfl, trivial⟩, hp⟩
    replace hz7 := ifF hz7 hb8
    refine st_skip hf (wantN hf rfl rfl hb8) rfl (by decide) ?_ rfl
    clear hf; intro a hf
    refine st_skip hf (wantN hf rfl rfl hb8) rfl (by decide) ?_ rfl
    clear hf; intro a hf
    refine st_skip hf (wantN hf rfl rfl hb8) rfl (by decide) ?_ rfl
    clear hf; intro a hf
    refine st_skip hf (wantN hf rfl rfl hb8) rfl (by decide) ?_ rfl
    clear hf; intro a hf
    obtain rfl := Option.some.inj hz7
    refine st_pick (v := .bool false) hf rfl rfl (fun hb' => ?_) (fun hb' => ?_) (by decide) ?_
    · exact absurd (hb8.symm.trans hb') (by decide)
    · rfl
    clear hf; intro a ha hf; clear ha
    refine st_nil hf (th_n ?_)
    exact ⟨hf.sub ⟨rfl, trivial⟩, hp⟩
  rintro a w ⟨hf, hp⟩
  refine st_assign hf rfl rfl (by decide) ?_
  clear hf; intro a ha hf; clear ha
  refine st_nil hf ?_
  refine th_n ?_
  refine wp_ret ?_
  obtain rfl := Option.some.inj h
  have hp : Hp _ _ _ (ow) := Hp.sel (pre := [Res.obj 35 v1 [.complex .f64 bsx0_V csx0_V, .bool sx0_Lost]]) (tail := ow) (rs' := []) hp [] (by decide) (by simp) rfl
  exact ⟨rfl, ⟨hf.sub ⟨rfl, trivial⟩, hp⟩⟩

noncomputable def f_foghornref23_sign (bx0 : Bool) : Option Fl := (if bx0 = true then (some (Fl.bits 4607182418800017408)) else (some (Fl.bits 13830554455654793216)))
theorem f_foghornref23_sign_c {S : Nat → Prop} {w0 w : World} {ow : List Res} (hp : Hp S w0 w ow) (bx0 : Bool) {r : Fl} (h : f_foghornref23_sign bx0 = some r) :
    Calls Try.prog 40 #[.bool bx0] w (fun e w' => ∃ (b0 : Nat), e = .returned (.float .f64 b0) ∧ Fl.rep b0 r ∧ Hp S w0 w' (ow)) := by
  unfold f_foghornref23_sign at h
  refine enter (n := 4) (args := [.bool bx0]) Try.func40 rfl rfl (Nat.le_of_ble_eq_true rfl) fun a hf => ?_
  replace hf : Fr 4 a [(0, .bool bx0)] := hf
  refine wp_mono (Q := fun e a w => e = .ret ∧ ∃ (b0 : Nat), Fr 4 a [(2, .float .f64 b0)] ∧ Fl.rep b0 r ∧ Hp S w0 w (ow)) ?_ ?_
  rotate_left
  · rintro e a w ⟨rfl, x0, hf, y0, hp⟩
    exact ret1 hf rfl rfl ⟨x0, rfl, y0, hp⟩
  refine wp_seq ?_
  refine wp_reg ?_
  refine st_assign hf rfl rfl (by decide) ?_
  clear hf; intro a ha hf; clear ha
  refine st_nil hf ?_
  refine th_n ?_
  refine wp_seq ?_
  refine wp_seq ?_
  refine wp_reg ?_
  refine st_move hf rfl rfl (by decide) ?_
  clear hf; intro a ha hf; clear ha
  refine st_nil hf ?_
  refine th_n ?_
  refine wp_if hf rfl (fun hb => ?_) (fun hb => ?_)
  · replace h := ifT h hb
    refine wp_seq ?_
    refine wp_reg ?_
    refine st_assign hf rfl rfl (by decide) ?_
    clear hf; intro a ha hf; clear ha
    refine st_nil hf ?_
    refine th_n ?_
    refine wp_ret ?_
    refine th_r ?_
    obtain rfl := Option.some.inj h
    exact ⟨rfl, ⟨_, hf.sub ⟨rfl, trivial⟩, rfl, hp⟩⟩
  replace h := ifF h hb
  refine wp_skip ?_
  refine th_n ?_
  refine wp_seq ?_
  refine wp_reg ?_
  refine st_assign hf rfl rfl (by decide) ?_
  clear hf; intro a ha hf; clear ha
  refine st_nil hf ?_
  refine th_n ?_
  refine wp_ret ?_
  obtain rfl := Option.some.inj h
  exact ⟨rfl, ⟨_, hf.sub ⟨rfl, trivial⟩, rfl, hp⟩⟩

noncomputable def f_foghornref23_cost (one0 : Bool) (two1 : Bool) (sx2_V : (Fl × Fl)) (sx2_Lost : Bool) : Option Fl := (if sx2_Lost = true then (some (Fl.bits 0)) else ((f_foghornref23_sign one0).bind fun q9 => ((farithS .mul q9 sx2_V.1).bind fun q13 => ((f_foghornref23_sign two1).bind fun q15 => ((farithS .mul q15 sx2_V.2).bind fun q19 => ((farithS .add q13 q19).bind fun q21 => ((farithS .mul (Fl.bits 4611686018427387904) q21).bind fun q23 => ((farithS .sub (Fl.bits 4611686018427387904) q23).bind fun q25 => (some q25)))))))))
theorem f_foghornref23_cost_c {S : Nat → Prop} {w0 w : World} {ow : List Res} (hp : Hp S w0 w ow) (one0 : Bool) (two1 : Bool) (bsx2_V csx2_V : Nat) (sx2_V : Fl × Fl) (hsx2_V : sx2_V.1.rep bsx2_V) (ksx2_V : sx2_V.2.rep csx2_V) (sx2_Lost : Bool) {r : Fl} (h : f_foghornref23_cost one0 two1 sx2_V sx2_Lost = some r) :
    Calls Try.prog 34 #[.bool one0, .bool two1, .agg #[.complex .f64 bsx2_V csx2_V, .bool sx2_Lost]] w (fun e w' => ∃ (b0 : Nat), e = .returned (.float .f64 b0) ∧ Fl.rep b0 r ∧ Hp S w0 w' (ow)) := by
  unfold f_foghornref23_cost at h
  refine enter (n := 24) (args := [.bool one0, .bool two1, .agg #[.complex .f64 bsx2_V csx2_V, .bool sx2_Lost]]) Try.func34 rfl rfl (Nat.le_of_ble_eq_true rfl) fun a hf => ?_
  replace hf : Fr 24 a [(0, .bool one0), (1, .bool two1), (2, .agg #[.complex .f64 bsx2_V csx2_V, .bool sx2_Lost])] := hf
  refine wp_mono (Q := fun e a w => e = .ret ∧ ∃ (b0 : Nat), Fr 24 a [(6, .float .f64 b0)] ∧ Fl.rep b0 r ∧ Hp S w0 w (ow)) ?_ ?_
  rotate_left
  · rintro e a w ⟨rfl, x0, hf, y0, hp⟩
    exact ret1 hf rfl rfl ⟨x0, rfl, y0, hp⟩
  refine wp_seq ?_
  refine wp_reg ?_
  refine st_boxO (cs := [.complex .f64 bsx2_V csx2_V, .bool sx2_Lost]) hf (by decide) hp rfl rfl rfl ?_
  clear hf; intro a w v1 hf hp0; clear hp; have hp := hp0; clear hp0
  replace hp : Hp _ _ _ (Res.obj 35 v1 [.complex .f64 bsx2_V csx2_V, .bool sx2_Lost] :: ow) := hp
  refine st_assign hf rfl rfl (by decide) ?_
  clear hf; intro a ha hf; clear ha
  refine st_nil hf ?_
  refine th_n ?_
  refine wp_seq ?_
  refine wp_seq ?_
  refine wp_reg ?_
  refine st_fa (o' := 1) hf (by decide) (off := 1) (sz := 1) (by kernel_rfl) (by decide) rfl rfl (hp.ob (i := 0) rfl) rfl ?_
  clear hf; intro a ha hf; clear ha
  refine st_ldO (u := .bool sx2_Lost) hf (by decide) pl4 rfl rfl (hp.ob (i := 0) rfl) rfl ?_
  clear hf; intro a ha hf; clear ha
  refine st_nil hf ?_
  refine th_n ?_
  refine wp_if hf rfl (fun hb => ?_) (fun hb => ?_)
  · replace h := ifT h hb
    refine wp_seq ?_
    refine wp_reg ?_
    refine st_assign hf rfl rfl (by decide) ?_
    clear hf; intro a ha hf; clear ha
    refine st_nil hf ?_
    refine th_n ?_
    refine wp_ret ?_
    refine th_r ?_
    obtain rfl := Option.some.inj h
    have hp : Hp _ _ _ (ow) := Hp.sel (pre := [Res.obj 35 v1 [.complex .f64 bsx2_V csx2_V, .bool sx2_Lost]]) (tail := ow) (rs' := []) hp [] (by decide) (by simp) rfl
    exact ⟨rfl, ⟨_, hf.sub ⟨rfl, trivial⟩, rfl, hp⟩⟩
  replace h := ifF h hb
  refine wp_skip ?_
  refine th_n ?_
  refine wp_seq ?_
  obtain ⟨S3, hp4, rd5, up6, bk7⟩ := Hp.lendO hp (i := 0) rfl
  have rl8 := rd5
  obtain ⟨q9, hcall10, h⟩ := bnd h
  obtain ⟨q13, hq14, h⟩ := bnd h
  obtain ⟨q15, hcall16, h⟩ := bnd h
  obtain ⟨q19, hq20, h⟩ := bnd h
  obtain ⟨q21, hq22, h⟩ := bnd h
  obtain ⟨q23, hq24, h⟩ := bnd h
  obtain ⟨q25, hq26, h⟩ := bnd h
  refine wp_cutN (fun a w => Fr 24 a [(6, .float .f64 (flb q25))] ∧ Hp S w0 w (Res.obj 35 v1 [.complex .f64 bsx2_V csx2_V, .bool sx2_Lost] :: ow)) ?_ ?_
  · have hp := hp4.same (Same.drew w)
    refine dr_begin' (fun a w => Fr 24 a [(6, .float .f64 (flb q25))] ∧ Hp S w0 w (Res.obj 35 v1 [.complex .f64 bsx2_V csx2_V, .bool sx2_Lost] :: ow)) (fun w' => ∃ l, Hp S3 w w' l) [] (by kernel_rfl) ?_
    refine dr_take 0 (.bool one0) rfl (by kernel_rfl) (by kernel_rfl) (by kernel_rfl) (by kernel_rfl) rfl rfl hf (by decide) rfl (fun w hp => ?_) ⟨_, hp⟩ ?_
    · obtain ⟨_, hp⟩ := hp
      refine st_move hf rfl rfl (by decide) ?_
      clear hf; intro a ha hf
      exact st_nil hf (th_n ⟨ha, rfl⟩)
    clear hf; intro a hf
    refine dr_take 2 (optr v1 0) rfl (by kernel_rfl) (by kernel_rfl) (by kernel_rfl) (by kernel_rfl) rfl rfl hf (by decide) rfl (fun w hp => ?_) ⟨_, hp⟩ ?_
    · obtain ⟨_, hp⟩ := hp
      refine st_fa (o' := 0) hf (by decide) (off := 0) (sz := 1) (by kernel_rfl) (by decide) rfl rfl (rl8.ob hp) rfl ?_
      clear hf; intro a ha hf
      exact st_nil hf (th_n ⟨ha, rfl⟩)
    clear hf; intro a hf
    refine dr_take 3 (.complex .f64 bsx2_V csx2_V) rfl (by kernel_rfl) (by kernel_rfl) (by kernel_rfl) (by kernel_rfl) rfl rfl hf (by decide) rfl (fun w hp => ?_) ⟨_, hp⟩ ?_
    · obtain ⟨_, hp⟩ := hp
      refine st_ldO (u := .complex .f64 bsx2_V csx2_V) hf (by decide) pl33 rfl rfl (rl8.ob hp) rfl ?_
      clear hf; intro a ha hf
      exact st_nil hf (th_n ⟨ha, rfl⟩)
    clear hf; intro a hf
    refine dr_take 4 (.float .f64 bsx2_V) rfl (by kernel_rfl) (by kernel_rfl) (by kernel_rfl) (by kernel_rfl) rfl rfl hf (by decide) rfl (fun w hp => ?_) ⟨_, hp⟩ ?_
    · obtain ⟨_, hp⟩ := hp
      refine st_real hf (by decide) rfl rfl ?_
      clear hf; intro a ha hf
      exact st_nil hf (th_n ⟨ha, rfl⟩)
    clear hf; intro a hf
    refine dr_take 6 (.bool two1) rfl (by kernel_rfl) (by kernel_rfl) (by kernel_rfl) (by kernel_rfl) rfl rfl hf (by decide) rfl (fun w hp => ?_) ⟨_, hp⟩ ?_
    · obtain ⟨_, hp⟩ := hp
      refine st_move hf rfl rfl (by decide) ?_
      clear hf; intro a ha hf
      exact st_nil hf (th_n ⟨ha, rfl⟩)
    clear hf; intro a hf
    refine dr_take 8 (optr v1 0) rfl (by kernel_rfl) (by kernel_rfl) (by kernel_rfl) (by kernel_rfl) rfl rfl hf (by decide) rfl (fun w hp => ?_) ⟨_, hp⟩ ?_
    · obtain ⟨_, hp⟩ := hp
      refine st_fa (o' := 0) hf (by decide) (off := 0) (sz := 1) (by kernel_rfl) (by decide) rfl rfl (rl8.ob hp) rfl ?_
      clear hf; intro a ha hf
      exact st_nil hf (th_n ⟨ha, rfl⟩)
    clear hf; intro a hf
    refine dr_take 9 (.complex .f64 bsx2_V csx2_V) rfl (by kernel_rfl) (by kernel_rfl) (by kernel_rfl) (by kernel_rfl) rfl rfl hf (by decide) rfl (fun w hp => ?_) ⟨_, hp⟩ ?_
    · obtain ⟨_, hp⟩ := hp
      refine st_ldO (u := .complex .f64 bsx2_V csx2_V) hf (by decide) pl33 rfl rfl (rl8.ob hp) rfl ?_
      clear hf; intro a ha hf
      exact st_nil hf (th_n ⟨ha, rfl⟩)
    clear hf; intro a hf
    refine dr_take 10 (.float .f64 csx2_V) rfl (by kernel_rfl) (by kernel_rfl) (by kernel_rfl) (by kernel_rfl) rfl rfl hf (by decide) rfl (fun w hp => ?_) ⟨_, hp⟩ ?_
    · obtain ⟨_, hp⟩ := hp
      refine st_imag hf (by decide) rfl rfl ?_
      clear hf; intro a ha hf
      exact st_nil hf (th_n ⟨ha, rfl⟩)
    clear hf; intro a hf
    refine dr_one 1 rfl (by kernel_rfl) ?_
    refine st_call hf (by decide) Try.func40 rfl rfl rfl rfl rfl (f_foghornref23_sign_c hp _ hcall10) ?_
    rintro _ w ⟨v11, rfl, y12, hp0⟩
    clear hp; have hp := hp0; clear hp0
    replace hp : Hp _ _ _ (ow) := hp
    refine ⟨_, rfl, ?_⟩
    clear hf; intro a hf
    refine st_nil hf (th_n ⟨fun _ _ => ⟨_, hp⟩, ?_⟩)
    refine dr_take 5 (.float .f64 (flb q13)) rfl (by kernel_rfl) (by kernel_rfl) (by kernel_rfl) (by kernel_rfl) rfl rfl hf (by decide) rfl (fun w hp => ?_) ⟨_, hp⟩ ?_
    · obtain ⟨_, hp⟩ := hp
      refine st_fs (op := .mul) rfl hf (by decide) rfl rfl rfl (show Fl.rep v11 q9 from y12) (show Fl.rep bsx2_V sx2_V.1 from hsx2_V) hq14 ?_
      clear hf; intro a ha hf
      exact st_nil hf (th_n ⟨ha, rfl⟩)
    clear hf; intro a hf
    refine dr_one 7 rfl (by kernel_rfl) ?_
    refine st_call hf (by decide) Try.func40 rfl rfl rfl rfl rfl (f_foghornref23_sign_c hp _ hcall16) ?_
    rintro _ w ⟨v17, rfl, y18, hp0⟩
    clear hp; have hp := hp0; clear hp0
    replace hp : Hp _ _ _ (ow) := hp
    refine ⟨_, rfl, ?_⟩
    clear hf; intro a hf
    refine st_nil hf (th_n ⟨fun _ _ => ⟨_, hp⟩, ?_⟩)
    refine dr_take 11 (.float .f64 (flb q19)) rfl (by kernel_rfl) (by kernel_rfl) (by kernel_rfl) (by kernel_rfl) rfl rfl hf (by decide) rfl (fun w hp => ?_) ⟨_, hp⟩ ?_
    · obtain ⟨_, hp⟩ := hp
      refine st_fs (op := .mul) rfl hf (by decide) rfl rfl rfl (show Fl.rep v17 q15 from y18) (show Fl.rep csx2_V sx2_V.2 from ksx2_V) hq20 ?_
      clear hf; intro a ha hf
      exact st_nil hf (th_n ⟨ha, rfl⟩)
    clear hf; intro a hf
    refine dr_take 12 (.float .f64 (flb q21)) rfl (by kernel_rfl) (by kernel_rfl) (by kernel_rfl) (by kernel_rfl) rfl rfl hf (by decide) rfl (fun w hp => ?_) ⟨_, hp⟩ ?_
    · obtain ⟨_, hp⟩ := hp
      refine st_fs (op := .add) rfl hf (by decide) rfl rfl rfl (show Fl.rep (flb q13) q13 from (farithS_rep hq14)) (show Fl.rep (flb q19) q19 from (farithS_rep hq20)) hq22 ?_
      clear hf; intro a ha hf
      exact st_nil hf (th_n ⟨ha, rfl⟩)
    clear hf; intro a hf
    refine dr_take 13 (.float .f64 (flb q23)) rfl (by kernel_rfl) (by kernel_rfl) (by kernel_rfl) (by kernel_rfl) rfl rfl hf (by decide) rfl (fun w hp => ?_) ⟨_, hp⟩ ?_
    · obtain ⟨_, hp⟩ := hp
      refine st_fs (op := .mul) rfl hf (by decide) rfl rfl rfl (show Fl.rep 4611686018427387904 (Fl.bits 4611686018427387904) from rfl) (show Fl.rep (flb q21) q21 from (farithS_rep hq22)) hq24 ?_
      clear hf; intro a ha hf
      exact st_nil hf (th_n ⟨ha, rfl⟩)
    clear hf; intro a hf
    refine dr_take 14 (.float .f64 (flb q25)) rfl (by kernel_rfl) (by kernel_rfl) (by kernel_rfl) (by kernel_rfl) rfl rfl hf (by decide) rfl (fun w hp => ?_) ⟨_, hp⟩ ?_
    · obtain ⟨_, hp⟩ := hp
      refine st_fs (op := .sub) rfl hf (by decide) rfl rfl rfl (show Fl.rep 4611686018427387904 (Fl.bits 4611686018427387904) from rfl) (show Fl.rep (flb q23) q23 from (farithS_rep hq24)) hq26 ?_
      clear hf; intro a ha hf
      exact st_nil hf (th_n ⟨ha, rfl⟩)
    clear hf; intro a hf
    refine dr_take 15 (.float .f64 (flb q25)) rfl (by kernel_rfl) (by kernel_rfl) (by kernel_rfl) (by kernel_rfl) rfl rfl hf (by decide) rfl (fun w hp => ?_) ⟨_, hp⟩ ?_
    · obtain ⟨_, hp⟩ := hp
      refine st_assign hf rfl rfl (by decide) ?_
      clear hf; intro a ha hf
      exact st_nil hf (th_n ⟨ha, rfl⟩)
    clear hf; intro a hf
    refine dr_end (by kernel_rfl) ?_ _
    have hp := bk7 _ _ hp
    exact ⟨hf.sub ⟨rfl, trivial⟩, hp⟩
  rintro a w ⟨hf, hp⟩
  refine th_n ?_
  refine wp_ret ?_
  obtain rfl := Option.some.inj h
  have hp : Hp _ _ _ (ow) := Hp.sel (pre := [Res.obj 35 v1 [.complex .f64 bsx2_V csx2_V, .bool sx2_Lost]]) (tail := ow) (rs' := []) hp [] (by decide) (by simp) rfl
  exact ⟨rfl, ⟨_, hf.sub ⟨rfl, trivial⟩, (farithS_rep hq26), hp⟩⟩

noncomputable def f_foghornref23_Cost (one0 : Bool) (two1 : Bool) (sx2_V : (Fl × Fl)) (sx2_Lost : Bool) : Option (Fl × Int) := ((f_foghornref02_May sx2_V sx2_Lost).bind fun q3 => (if (!q3) = true then (some ((Fl.bits 0), (7 : Int))) else ((f_foghornref23_cost one0 two1 sx2_V sx2_Lost).bind fun q5 => (some (q5, (0 : Int))))))
theorem f_foghornref23_Cost_c {S : Nat → Prop} {w0 w : World} {ow : List Res} (hp : Hp S w0 w ow) (one0 : Bool) (two1 : Bool) (bsx2_V csx2_V : Nat) (sx2_V : Fl × Fl) (hsx2_V : sx2_V.1.rep bsx2_V) (ksx2_V : sx2_V.2.rep csx2_V) (sx2_Lost : Bool) {r : (Fl × Int)} (h : f_foghornref23_Cost one0 two1 sx2_V sx2_Lost = some r) :
    Calls Try.prog 10 #[.bool one0, .bool two1, .agg #[.complex .f64 bsx2_V csx2_V, .bool sx2_Lost]] w (fun e w' => ∃ (b0 : Nat), e = .returned (.tuple #[.float .f64 b0, .int .i64 r.2]) ∧ Fl.rep b0 r.1 ∧ Hp S w0 w' (ow)) := by
  unfold f_foghornref23_Cost at h
  refine enter (n := 15) (args := [.bool one0, .bool two1, .agg #[.complex .f64 bsx2_V csx2_V, .bool sx2_Lost]]) Try.func10 rfl rfl (Nat.le_of_ble_eq_true rfl) fun a hf => ?_
  replace hf : Fr 15 a [(0, .bool one0), (1, .bool two1), (2, .agg #[.complex .f64 bsx2_V csx2_V, .bool sx2_Lost])] := hf
  refine wp_mono (Q := fun e a w => e = .ret ∧ ∃ (b0 : Nat), Fr 15 a [(6, .float .f64 b0), (7, .int .i64 r.2)] ∧ Fl.rep b0 r.1 ∧ Hp S w0 w (ow)) ?_ ?_
  rotate_left
  · rintro e a w ⟨rfl, x0, hf, y0, hp⟩
    exact ret2 hf rfl rfl rfl ⟨x0, rfl, y0, hp⟩
  refine wp_seq ?_
  refine wp_reg ?_
  refine st_boxO (cs := [.complex .f64 bsx2_V csx2_V, .bool sx2_Lost]) hf (by decide) hp rfl rfl rfl ?_
  clear hf; intro a w v1 hf hp0; clear hp; have hp := hp0; clear hp0
  replace hp : Hp _ _ _ (Res.obj 35 v1 [.complex .f64 bsx2_V csx2_V, .bool sx2_Lost] :: ow) := hp
  refine st_assign hf rfl rfl (by decide) ?_
  clear hf; intro a ha hf; clear ha
  refine st_assign hf rfl rfl (by decide) ?_
  clear hf; intro a ha hf; clear ha
  refine st_nil hf ?_
  refine th_n ?_
  refine wp_seq ?_
  refine wp_seq ?_
  refine wp_reg ?_
  refine st_ldOA (m := 2) (us := [.complex .f64 bsx2_V csx2_V, .bool sx2_Lost]) hf (by decide) (by kernel_rfl) rfl rfl (hp.ob (i := 0) rfl) rfl rfl ?_
  clear hf; intro a ha hf; clear ha
  obtain ⟨q3, hcall4, h⟩ := bnd h
  refine st_call hf (by decide) Try.func33 rfl rfl rfl rfl rfl (f_foghornref02_May_c hp _ _ _ (show Fl.rep bsx2_V (sx2_V).1 from hsx2_V) (show Fl.rep csx2_V (sx2_V).2 from ksx2_V) _ hcall4) ?_
  rintro _ w ⟨rfl, hp0⟩
  clear hp; have hp := hp0; clear hp0
  replace hp : Hp _ _ _ (Res.obj 35 v1 [.complex .f64 bsx2_V csx2_V, .bool sx2_Lost] :: ow) := hp
  refine ⟨_, rfl, ?_⟩
  clear hf; intro a hf
  refine st_not hf (by decide) rfl rfl ?_
  clear hf; intro a ha hf; clear ha
  refine st_nil hf ?_
  refine th_n ?_
  refine wp_if hf rfl (fun hb => ?_) (fun hb => ?_)
  · replace h := ifT h hb
    refine wp_seq ?_
    refine wp_reg ?_
    refine st_assign hf rfl rfl (by decide) ?_
    clear hf; intro a ha hf; clear ha
    refine st_assign hf rfl rfl (by decide) ?_
    clear hf; intro a ha hf; clear ha
    refine st_nil hf ?_
    refine th_n ?_
    refine wp_ret ?_
    refine th_r ?_
    obtain rfl := Option.some.inj h
    have hp : Hp _ _ _ (ow) := Hp.sel (pre := [Res.obj 35 v1 [.complex .f64 bsx2_V csx2_V, .bool sx2_Lost]]) (tail := ow) (rs' := []) hp [] (by decide) (by simp) rfl
    exact ⟨rfl, ⟨_, hf.sub ⟨rfl, rfl, trivial⟩, rfl, hp⟩⟩
  replace h := ifF h hb
  refine wp_skip ?_
  refine th_n ?_
  refine wp_seq ?_
  refine wp_reg ?_
  refine st_move hf rfl rfl (by decide) ?_
  clear hf; intro a ha hf; clear ha
  refine st_move hf rfl rfl (by decide) ?_
  clear hf; intro a ha hf; clear ha
  refine st_ldOA (m := 2) (us := [.complex .f64 bsx2_V csx2_V, .bool sx2_Lost]) hf (by decide) (by kernel_rfl) rfl rfl (hp.ob (i := 0) rfl) rfl rfl ?_
  clear hf; intro a ha hf; clear ha
  obtain ⟨q5, hcall6, h⟩ := bnd h
  refine st_call hf (by decide) Try.func34 rfl rfl rfl rfl rfl (f_foghornref23_cost_c hp _ _ _ _ _ (show Fl.rep bsx2_V (sx2_V).1 from hsx2_V) (show Fl.rep csx2_V (sx2_V).2 from ksx2_V) _ hcall6) ?_
  rintro _ w ⟨v7, rfl, y8, hp0⟩
  clear hp; have hp := hp0; clear hp0
  replace hp : Hp _ _ _ (Res.obj 35 v1 [.complex .f64 bsx2_V csx2_V, .bool sx2_Lost] :: ow) := hp
  refine ⟨_, rfl, ?_⟩
  clear hf; intro a hf
  refine st_assign hf rfl rfl (by decide) ?_
  clear hf; intro a ha hf; clear ha
  refine st_assign hf rfl rfl (by decide) ?_
  clear hf; intro a ha hf; clear ha
  refine st_nil hf ?_
  refine th_n ?_
  refine wp_ret ?_
  obtain rfl := Option.some.inj h
  have hp : Hp _ _ _ (ow) := Hp.sel (pre := [Res.obj 35 v1 [.complex .f64 bsx2_V csx2_V, .bool sx2_Lost]]) (tail := ow) (rs' := []) hp [] (by decide) (by simp) rfl
  exact ⟨rfl, ⟨_, hf.sub ⟨rfl, rfl, trivial⟩, y8, hp⟩⟩

noncomputable def f_grid_within (xx0 : Fl) : Option Bool := (some ((fge xx0 (Fl.bits 13875590451928498176)) && (fle xx0 (Fl.bits 4652218415073722368))))
theorem f_grid_within_c {S : Nat → Prop} {w0 w : World} {ow : List Res} (hp : Hp S w0 w ow) (bxx0 : Nat) (xx0 : Fl) (hxx0 : xx0.rep bxx0) {r : Bool} (h : f_grid_within xx0 = some r) :
    Calls Try.prog 71 #[.float .f64 bxx0] w (fun e w' => e = .returned (.bool r) ∧ Hp S w0 w' (ow)) := by
  unfold f_grid_within at h
  refine enter (n := 9) (args := [.float .f64 bxx0]) Try.func71 rfl rfl (Nat.le_of_ble_eq_true rfl) fun a hf => ?_
  replace hf : Fr 9 a [(0, .float .f64 bxx0)] := hf
  refine wp_mono (Q := fun e a w => e = .ret ∧ Fr 9 a [(2, .bool r)] ∧ Hp S w0 w (ow)) ?_ ?_
  rotate_left
  · rintro e a w ⟨rfl, hf, hp⟩
    exact ret1 hf rfl rfl ⟨rfl, hp⟩
  refine wp_seq ?_
  refine wp_reg ?_
  refine st_assign hf rfl rfl (by decide) ?_
  clear hf; intro a ha hf; clear ha
  refine st_nil hf ?_
  refine th_n ?_
  refine wp_seq ?_
  refine wp_reg ?_
  refine st_move hf rfl rfl (by decide) ?_
  clear hf; intro a ha hf; clear ha
  refine st_fcmp (r_fge (fx := xx0) (fy := (Fl.bits 13875590451928498176)) hxx0 rfl) hf (by decide) rfl rfl rfl ?_
  clear hf; intro a ha hf; clear ha
  refine st_move hf rfl rfl (by decide) ?_
  clear hf; intro a ha hf; clear ha
  refine wpList_cut 3 (fun a w => Fr 9 a [(8, .bool ((fge xx0 (Fl.bits 13875590451928498176)) && (fle xx0 (Fl.bits 4652218415073722368))))] ∧ Hp S w0 w (ow)) ?_ ?_
  · rcases Bool.eq_false_or_eq_true (fge xx0 (Fl.bits 13875590451928498176)) with hb2 | hb2
    · skip
      refine st_move hf (wantY hf rfl rfl hb2) rfl (by decide) ?_
      clear hf; intro a ha hf; clear ha
      refine st_fcmp (r_fle (fx := xx0) (fy := (Fl.bits 4652218415073722368)) hxx0 rfl) hf (by decide) (wantY hf rfl rfl hb2) rfl rfl ?_
      clear hf; intro a ha hf; clear ha
      refine st_pick (v := .bool (fle xx0 (Fl.bits 4652218415073722368))) hf rfl rfl (fun hb' => ?_) (fun hb' => ?_) (by decide) ?_
      · rfl
      · exact absurd (hb2.symm.trans hb') (by decide)
      clear hf; intro a ha hf; clear ha
      refine st_nil hf (th_n ?_)
      exact ⟨hf.sub ⟨(by rw [hb2]; rfl), trivial⟩, hp⟩
    refine st_skip hf (wantN hf rfl rfl hb2) rfl (by decide) ?_ rfl
    clear hf; intro a hf
    refine st_skip hf (wantN hf rfl rfl hb2) rfl (by decide) ?_ rfl
    clear hf; intro a hf
    refine st_pick (v := .bool false) hf rfl rfl (fun hb' => ?_) (fun hb' => ?_) (by decide) ?_
    · exact absurd (hb2.symm.trans hb') (by decide)
    · rfl
    clear hf; intro a ha hf; clear ha
    refine st_nil hf (th_n ?_)
    exact ⟨hf.sub ⟨(by rw [hb2]; rfl), trivial⟩, hp⟩
  rintro a w ⟨hf, hp⟩
  refine st_assign hf rfl rfl (by decide) ?_
  clear hf; intro a ha hf; clear ha
  refine st_nil hf ?_
  refine th_n ?_
  refine wp_ret ?_
  obtain rfl := Option.some.inj h
  exact ⟨rfl, ⟨hf.sub ⟨rfl, trivial⟩, hp⟩⟩

noncomputable def f_math_Floor (xx0 : Fl) : Option Fl := (some (fint Ieee.Toward.down xx0))
theorem f_math_Floor_c {S : Nat → Prop} {w0 w : World} {ow : List Res} (hp : Hp S w0 w ow) (bxx0 : Nat) (xx0 : Fl) (hxx0 : xx0.rep bxx0) {r : Fl} (h : f_math_Floor xx0 = some r) :
    Calls Try.prog 72 #[.float .f64 bxx0] w (fun e w' => ∃ (b0 : Nat), e = .returned (.float .f64 b0) ∧ Fl.rep b0 r ∧ Hp S w0 w' (ow)) := by
  unfold f_math_Floor at h
  refine enter (n := 7) (args := [.float .f64 bxx0]) Try.func72 rfl rfl (Nat.le_of_ble_eq_true rfl) fun a hf => ?_
  replace hf : Fr 7 a [(0, .float .f64 bxx0)] := hf
  refine wp_mono (Q := fun e a w => e = .ret ∧ ∃ (b0 : Nat), Fr 7 a [(2, .float .f64 b0)] ∧ Fl.rep b0 r ∧ Hp S w0 w (ow)) ?_ ?_
  rotate_left
  · rintro e a w ⟨rfl, x0, hf, y0, hp⟩
    exact ret1 hf rfl rfl ⟨x0, rfl, y0, hp⟩
  refine wp_seq ?_
  refine wp_reg ?_
  refine st_assign hf rfl rfl (by decide) ?_
  clear hf; intro a ha hf; clear ha
  refine st_nil hf ?_
  refine th_n ?_
  refine wp_seq ?_
  refine wp_if hf rfl (fun hb => ?_) (fun hb => ?_)
  rotate_left
  · exact absurd hb (by decide)
  refine wp_seq ?_
  refine wp_reg ?_
  refine st_move hf rfl rfl (by decide) ?_
  clear hf; intro a ha hf; clear ha
  refine st_fint (fx := xx0) (nm := "math.archFloor") (way := Ieee.Toward.down) (f := 73) hf (by decide) hp Try.func73 rfl rfl (by kernel_rfl) (by kernel_rfl) rfl rfl rfl hxx0 ?_
  clear hf; intro a w bb1 y2 hf hp0; clear hp; have hp := hp0; clear hp0
  replace hp : Hp _ _ _ (ow) := hp
  refine st_assign hf rfl rfl (by decide) ?_
  clear hf; intro a ha hf; clear ha
  refine st_nil hf ?_
  refine th_n ?_
  refine wp_ret ?_
  refine th_r ?_
  obtain rfl := Option.some.inj h
  exact ⟨rfl, ⟨_, hf.sub ⟨rfl, trivial⟩, y2, hp⟩⟩

noncomputable def f_grid_On (xx0 : Fl) : Option Bool := ((f_grid_within xx0).bind fun q1 => ((if q1 = true then ((f_math_Floor (fmul xx0 (Fl.bits 4661225614328463360))).bind fun q8 => (some (feq q8 (fmul xx0 (Fl.bits 4661225614328463360))))) else (some false)).bind fun z5 => (some z5)))
theorem f_grid_On_c {S : Nat → Prop} {w0 w : World} {ow : List Res} (hp : Hp S w0 w ow) (bxx0 : Nat) (xx0 : Fl) (hxx0 : xx0.rep bxx0) {r : Bool} (h : f_grid_On xx0 = some r) :
    Calls Try.prog 69 #[.float .f64 bxx0] w (fun e w' => e = .returned (.bool r) ∧ Hp S w0 w' (ow)) := by
  unfold f_grid_On at h
  refine enter (n := 13) (args := [.float .f64 bxx0]) Try.func69 rfl rfl (Nat.le_of_ble_eq_true rfl) fun a hf => ?_
  replace hf : Fr 13 a [(0, .float .f64 bxx0)] := hf
  refine wp_mono (Q := fun e a w => e = .ret ∧ Fr 13 a [(2, .bool r)] ∧ Hp S w0 w (ow)) ?_ ?_
  rotate_left
  · rintro e a w ⟨rfl, hf, hp⟩
    exact ret1 hf rfl rfl ⟨rfl, hp⟩
  refine wp_seq ?_
  refine wp_reg ?_
  refine st_assign hf rfl rfl (by decide) ?_
  clear hf; intro a ha hf; clear ha
  refine st_nil hf ?_
  refine th_n ?_
  refine wp_seq ?_
  refine wp_reg ?_
  refine st_move hf rfl rfl (by decide) ?_
  clear hf; intro a ha hf; clear ha
  obtain ⟨q1, hcall2, h⟩ := bnd h
  refine st_call hf (by decide) Try.func71 rfl rfl rfl rfl rfl (f_grid_within_c hp _ _ (show Fl.rep bxx0 xx0 from hxx0) hcall2) ?_
  rintro _ w ⟨rfl, hp0⟩
  clear hp; have hp := hp0; clear hp0
  replace hp : Hp _ _ _ (ow) := hp
  refine ⟨_, rfl, ?_⟩
  clear hf; intro a hf
  refine st_move hf rfl rfl (by decide) ?_
  clear hf; intro a ha hf; clear ha
  obtain ⟨z5, hz3, h⟩ := bnd h
  refine wpList_cut 7 (fun a w => Fr 13 a [(12, .bool z5)] ∧ Hp S w0 w (ow)) ?_ ?_
  · rcases Bool.eq_false_or_eq_true q1 with hb4 | hb4
    · skip
      replace hz3 := ifT hz3 hb4
      refine st_move hf (wantY hf rfl rfl hb4) rfl (by decide) ?_
      clear hf; intro a ha hf; clear ha
      refine st_farith (op := .mul) rfl hf (by decide) hp (wantY hf rfl rfl hb4) rfl rfl (show Fl.rep bxx0 xx0 from hxx0) (show Fl.rep 4661225614328463360 (Fl.bits 4661225614328463360) from rfl) ?_
      clear hf; intro a w bb6 y7 hf hp0; clear hp; have hp := hp0; clear hp0
      replace hp : Hp _ _ _ (ow) := hp
      obtain ⟨q8, hcall9, hz3⟩ := bnd hz3
      refine st_call hf (by decide) Try.func72 rfl rfl (wantY hf rfl rfl hb4) rfl rfl (f_math_Floor_c hp _ _ (show Fl.rep bb6 (fmul xx0 (Fl.bits 4661225614328463360)) from y7) hcall9) ?_
      rintro _ w ⟨v10, rfl, y11, hp0⟩
      clear hp; have hp := hp0; clear hp0
      replace hp : Hp _ _ _ (ow) := hp
      refine ⟨_, rfl, ?_⟩
      clear hf; intro a hf
      refine st_move hf (wantY hf rfl rfl hb4) rfl (by decide) ?_
      clear hf; intro a ha hf; clear ha
      refine st_farith (op := .mul) rfl hf (by decide) hp (wantY hf rfl rfl hb4) rfl rfl (show Fl.rep bxx0 xx0 from hxx0) (show Fl.rep 4661225614328463360 (Fl.bits 4661225614328463360) from rfl) ?_
      clear hf; intro a w bb12 y13 hf hp0; clear hp; have hp := hp0; clear hp0
      replace hp : Hp _ _ _ (ow) := hp
      refine st_fcmp (r_feq (fx := q8) (fy := (fmul xx0 (Fl.bits 4661225614328463360))) y11 y13) hf (by decide) (wantY hf rfl rfl hb4) rfl rfl ?_
      clear hf; intro a ha hf; clear ha
      obtain rfl := Option.some.inj hz3
      refine st_pick (v := .bool (feq q8 (fmul xx0 (Fl.bits 4661225614328463360)))) hf rfl rfl (fun hb' => ?_) (fun hb' => ?_) (by decide) ?_
      · rfl
      · exact absurd (hb4.symm.trans hb') (by decide)
      clear hf; intro a ha hf; clear ha
      refine st_nil hf (th_n ?_)
      exact ⟨hf.sub ⟨rfl, trivial⟩, hp⟩
    replace hz3 := ifF hz3 hb4
    refine st_skip hf (wantN hf rfl rfl hb4) rfl (by decide) ?_ rfl
    clear hf; intro a hf
    refine st_skip hf (wantN hf rfl rfl hb4) rfl (by decide) ?_ rfl
    clear hf; intro a hf
    refine st_skip hf (wantN hf rfl rfl hb4) rfl (by decide) ?_ rfl
    clear hf; intro a hf
    refine st_skip hf (wantN hf rfl rfl hb4) rfl (by decide) ?_ rfl
    clear hf; intro a hf
    refine st_skip hf (wantN hf rfl rfl hb4) rfl (by decide) ?_ rfl
    clear hf; intro a hf
    refine st_skip hf (wantN hf rfl rfl hb4) rfl (by decide) ?_ rfl
    clear hf; intro a hf
    obtain rfl := Option.some.inj hz3
    refine st_pick (v := .bool false) hf rfl rfl (fun hb' => ?_) (fun hb' => ?_) (by decide) ?_
    · exact absurd (hb4.symm.trans hb') (by decide)
    · rfl
    clear hf; intro a ha hf; clear ha
    refine st_nil hf (th_n ?_)
    exact ⟨hf.sub ⟨rfl, trivial⟩, hp⟩
  rintro a w ⟨hf, hp⟩
  refine st_assign hf rfl rfl (by decide) ?_
  clear hf; intro a ha hf; clear ha
  refine st_nil hf ?_
  refine th_n ?_
  refine wp_ret ?_
  obtain rfl := Option.some.inj h
  exact ⟨rfl, ⟨hf.sub ⟨rfl, trivial⟩, hp⟩⟩

noncomputable def f_grid_may (sx0_V : (Fl × Fl)) (sx0_Lost : Bool) : Option Bool := (if sx0_Lost = true then (some (ceq sx0_V (Fl.bits 0, Fl.bits 0))) else ((f_grid_On sx0_V.1).bind fun q3 => ((if q3 = true then ((f_grid_On sx0_V.2).bind fun q8 => (some q8)) else (some false)).bind fun z7 => (some z7))))
theorem f_grid_may_c {S : Nat → Prop} {w0 w : World} {ow : List Res} (hp : Hp S w0 w ow) (bsx0_V csx0_V : Nat) (sx0_V : Fl × Fl) (hsx0_V : sx0_V.1.rep bsx0_V) (ksx0_V : sx0_V.2.rep csx0_V) (sx0_Lost : Bool) {r : Bool} (h : f_grid_may sx0_V sx0_Lost = some r) :
    Calls Try.prog 56 #[.agg #[.complex .f64 bsx0_V csx0_V, .bool sx0_Lost]] w (fun e w' => e = .returned (.bool r) ∧ Hp S w0 w' (ow)) := by
  unfold f_grid_may at h
  refine enter (n := 18) (args := [.agg #[.complex .f64 bsx0_V csx0_V, .bool sx0_Lost]]) Try.func56 rfl rfl (Nat.le_of_ble_eq_true rfl) fun a hf => ?_
  replace hf : Fr 18 a [(0, .agg #[.complex .f64 bsx0_V csx0_V, .bool sx0_Lost])] := hf
  refine wp_mono (Q := fun e a w => e = .ret ∧ Fr 18 a [(2, .bool r)] ∧ Hp S w0 w (ow)) ?_ ?_
  rotate_left
  · rintro e a w ⟨rfl, hf, hp⟩
    exact ret1 hf rfl rfl ⟨rfl, hp⟩
  refine wp_seq ?_
  refine wp_reg ?_
  refine st_boxO (cs := [.complex .f64 bsx0_V csx0_V, .bool sx0_Lost]) hf (by decide) hp rfl rfl rfl ?_
  clear hf; intro a w v1 hf hp0; clear hp; have hp := hp0; clear hp0
  replace hp : Hp _ _ _ (Res.obj 35 v1 [.complex .f64 bsx0_V csx0_V, .bool sx0_Lost] :: ow) := hp
  refine st_assign hf rfl rfl (by decide) ?_
  clear hf; intro a ha hf; clear ha
  refine st_nil hf ?_
  refine th_n ?_
  refine wp_seq ?_
  refine wp_seq ?_
  refine wp_reg ?_
  refine st_fa (o' := 1) hf (by decide) (off := 1) (sz := 1) (by kernel_rfl) (by decide) rfl rfl (hp.ob (i := 0) rfl) rfl ?_
  clear hf; intro a ha hf; clear ha
  refine st_ldO (u := .bool sx0_Lost) hf (by decide) pl4 rfl rfl (hp.ob (i := 0) rfl) rfl ?_
  clear hf; intro a ha hf; clear ha
  refine st_nil hf ?_
  refine th_n ?_
  refine wp_if hf rfl (fun hb => ?_) (fun hb => ?_)
  · replace h := ifT h hb
    refine wp_seq ?_
    refine wp_reg ?_
    refine st_fa (o' := 0) hf (by decide) (off := 0) (sz := 1) (by kernel_rfl) (by decide) rfl rfl (hp.ob (i := 0) rfl) rfl ?_
    clear hf; intro a ha hf; clear ha
    refine st_ldO (u := .complex .f64 bsx0_V csx0_V) hf (by decide) pl33 rfl rfl (hp.ob (i := 0) rfl) rfl ?_
    clear hf; intro a ha hf; clear ha
    refine st_ccmp (r_ceq (x := sx0_V) (y := (Fl.bits 0, Fl.bits 0)) hsx0_V ksx0_V rfl rfl) hf (by decide) rfl rfl rfl ?_
    clear hf; intro a ha hf; clear ha
    refine st_assign hf rfl rfl (by decide) ?_
    clear hf; intro a ha hf; clear ha
    refine st_nil hf ?_
    refine th_n ?_
    refine wp_ret ?_
    refine th_r ?_
    obtain rfl := Option.some.inj h
    have hp : Hp _ _ _ (ow) := Hp.sel (pre := [Res.obj 35 v1 [.complex .f64 bsx0_V csx0_V, .bool sx0_Lost]]) (tail := ow) (rs' := []) hp [] (by decide) (by simp) rfl
    exact ⟨rfl, ⟨hf.sub ⟨rfl, trivial⟩, hp⟩⟩
  replace h := ifF h hb
  refine wp_skip ?_
  refine th_n ?_
  refine wp_seq ?_
  refine wp_reg ?_
  refine st_fa (o' := 0) hf (by decide) (off := 0) (sz := 1) (by kernel_rfl) (by decide) rfl rfl (hp.ob (i := 0) rfl) rfl ?_
  clear hf; intro a ha hf; clear ha
  refine st_ldO (u := .complex .f64 bsx0_V csx0_V) hf (by decide) pl33 rfl rfl (hp.ob (i := 0) rfl) rfl ?_
  clear hf; intro a ha hf; clear ha
  refine st_real hf (by decide) rfl rfl ?_
  clear hf; intro a ha hf; clear ha
  obtain ⟨q3, hcall4, h⟩ := bnd h
  refine st_call hf (by decide) Try.func69 rfl rfl rfl rfl rfl (f_grid_On_c hp _ _ (show Fl.rep bsx0_V sx0_V.1 from hsx0_V) hcall4) ?_
  rintro _ w ⟨rfl, hp0⟩
  clear hp; have hp := hp0; clear hp0
  replace hp : Hp _ _ _ (Res.obj 35 v1 [.complex .f64 bsx0_V csx0_V, .bool sx0_Lost] :: ow) := hp
  refine ⟨_, rfl, ?_⟩
  clear hf; intro a hf
  refine st_move hf rfl rfl (by decide) ?_
  clear hf; intro a ha hf; clear ha
  obtain ⟨z7, hz5, h⟩ := bnd h
  refine wpList_cut 5 (fun a w => Fr 18 a [(17, .bool z7)] ∧ Hp S w0 w (Res.obj 35 v1 [.complex .f64 bsx0_V csx0_V, .bool sx0_Lost] :: ow)) ?_ ?_
  · rcases Bool.eq_false_or_eq_true q3 with hb6 | hb6
    · skip
      replace hz5 := ifT hz5 hb6
      refine st_fa (o' := 0) hf (by decide) (off := 0) (sz := 1) (by kernel_rfl) (by decide) (wantY hf rfl rfl hb6) rfl (hp.ob (i := 0) rfl) rfl ?_
      clear hf; intro a ha hf; clear ha
      refine st_ldO (u := .complex .f64 bsx0_V csx0_V) hf (by decide) pl33 (wantY hf rfl rfl hb6) rfl (hp.ob (i := 0) rfl) rfl ?_
      clear hf; intro a ha hf; clear ha
      refine st_imag hf (by decide) (wantY hf rfl rfl hb6) rfl ?_
      clear hf; intro a ha hf; clear ha
      obtain ⟨q8, hcall9, hz5⟩ := bnd hz5
      refine st_call hf (by decide) Try.func69 rfl rfl (wantY hf rfl rfl hb6) rfl rfl (f_grid_On_c hp _ _ (show Fl.rep csx0_V sx0_V.2 from ksx0_V) hcall9) ?_
      rintro _ w ⟨rfl, hp0⟩
      clear hp; have hp := hp0; clear hp0
      replace hp : Hp _ _ _ (Res.obj 35 v1 [.complex .f64 bsx0_V csx0_V, .bool sx0_Lost] :: ow) := hp
      refine ⟨_, rfl, ?_⟩
      clear hf; intro a hf
      obtain rfl := Option.some.inj hz5
      refine st_pick (v := .bool q8) hf rfl rfl (fun hb' => ?_) (fun hb' => ?_) (by decide) ?_
      · rfl
      · exact absurd (hb6.symm.trans hb') (by decide)
      clear hf; intro a ha hf; clear ha
      refine st_nil hf (th_n ?_)
      exact ⟨hf.sub ⟨rfl, trivial⟩, hp⟩
    replace hz5 := ifF hz5 hb6
    refine st_skip hf (wantN hf rfl rfl hb6) rfl (by decide) ?_ rfl
    clear hf; intro a hf
    refine st_skip hf (wantN hf rfl rfl hb6) rfl (by decide) ?_ rfl
    clear hf; intro a hf
    refine st_skip hf (wantN hf rfl rfl hb6) rfl (by decide) ?_ rfl
    clear hf; intro a hf
    refine st_skip hf (wantN hf rfl rfl hb6) rfl (by decide) ?_ rfl
    clear hf; intro a hf
    obtain rfl := Option.some.inj hz5
    refine st_pick (v := .bool false) hf rfl rfl (fun hb' => ?_) (fun hb' => ?_) (by decide) ?_
    · exact absurd (hb6.symm.trans hb') (by decide)
    · rfl
    clear hf; intro a ha hf; clear ha
    refine st_nil hf (th_n ?_)
    exact ⟨hf.sub ⟨rfl, trivial⟩, hp⟩
  rintro a w ⟨hf, hp⟩
  refine st_assign hf rfl rfl (by decide) ?_
  clear hf; intro a ha hf; clear ha
  refine st_nil hf ?_
  refine th_n ?_
  refine wp_ret ?_
  obtain rfl := Option.some.inj h
  have hp : Hp _ _ _ (ow) := Hp.sel (pre := [Res.obj 35 v1 [.complex .f64 bsx0_V csx0_V, .bool sx0_Lost]]) (tail := ow) (rs' := []) hp [] (by decide) (by simp) rfl
  exact ⟨rfl, ⟨hf.sub ⟨rfl, trivial⟩, hp⟩⟩

noncomputable def f_grid_Check.s1c (l0 : (List ((Fl × Fl) × Bool))) (t11 : Int) : Option (Int ⊕ (Unit ⊕ (Int × Int))) := (if (decide (t11 < (l0.length : Int))) = true then (if 0 ≤ t11 ∧ t11 < (l0.length : Int) then ((f_grid_may ((gt l0 t11).1) ((gt l0 t11).2)).bind fun q10 => (if (!q10) = true then (some (Sum.inr (Sum.inr (t11, (7 : Int))))) else (some (Sum.inl (IntKind.i64.wrap (t11 + (1 : Int))))))) else none) else (some (Sum.inr (Sum.inl ()))))
noncomputable def f_grid_Check.s1 (l0 : (List ((Fl × Fl) × Bool))) (s : Int) : Option (Int ⊕ (Unit ⊕ (Int × Int))) := f_grid_Check.s1c l0 s
noncomputable def f_grid_Check (l0 : (List ((Fl × Fl) × Bool))) : Option (Int × Int) := (if (decide ((65536 : Int) < (l0.length : Int))) = true then (some ((0 : Int), (1 : Int))) else ((loop (f_grid_Check.s1 l0) (0 : Int)).bind (fun q12 => sm q12 (fun q13 => (some ((0 : Int), (0 : Int)))) (fun q14 => (some (q14.1, q14.2))))))
theorem f_grid_Check_c {S : Nat → Prop} {w0 w : World} {ow : List Res} (hp : Hp S w0 w ow) (vl0 : Value) (l0 : (List ((Fl × Fl) × Bool))) (hl0 : RdS (Ek.pair Ek.c128 Ek.bool) S w0 vl0 l0) {r : (Int × Int)} (h : f_grid_Check l0 = some r) :
    Calls Try.prog 35 #[vl0] w (fun e w' => e = .returned (.tuple #[.int .i64 r.1, .int .i64 r.2]) ∧ Hp S w0 w' (ow)) := by
  unfold f_grid_Check at h
  refine enter (n := 21) (args := [vl0]) Try.func35 rfl rfl (Nat.le_of_ble_eq_true rfl) fun a hf => ?_
  replace hf : Fr 21 a [(0, vl0)] := hf
  refine wp_mono (Q := fun e a w => e = .ret ∧ Fr 21 a [(2, .int .i64 r.1), (3, .int .i64 r.2)] ∧ Hp S w0 w (ow)) ?_ ?_
  rotate_left
  · rintro e a w ⟨rfl, hf, hp⟩
    exact ret2 hf rfl rfl rfl ⟨rfl, hp⟩
  refine wp_seq ?_
  refine wp_reg ?_
  refine st_assign hf rfl rfl (by decide) ?_
  clear hf; intro a ha hf; clear ha
  refine st_assign hf rfl rfl (by decide) ?_
  clear hf; intro a ha hf; clear ha
  refine st_nil hf ?_
  refine th_n ?_
  refine wp_seq ?_
  refine wp_seq ?_
  refine wp_reg ?_
  refine st_move hf rfl rfl (by decide) ?_
  clear hf; intro a ha hf; clear ha
  refine st_len (E := (Ek.pair Ek.c128 Ek.bool)) hf (by decide) Try.underlying27 rfl rfl (hl0.sl hp) ?_
  clear hf; intro a ha hf; clear ha
  refine st_igtr hf (by decide) rfl rfl rfl ?_
  clear hf; intro a ha hf; clear ha
  refine st_nil hf ?_
  refine th_n ?_
  refine wp_if hf rfl (fun hb => ?_) (fun hb => ?_)
  · replace h := ifT h hb
    refine wp_seq ?_
    refine wp_reg ?_
    refine st_assign hf rfl rfl (by decide) ?_
    clear hf; intro a ha hf; clear ha
    refine st_assign hf rfl rfl (by decide) ?_
    clear hf; intro a ha hf; clear ha
    refine st_nil hf ?_
    refine th_n ?_
    refine wp_ret ?_
    refine th_r ?_
    obtain rfl := Option.some.inj h
    exact ⟨rfl, ⟨hf.sub ⟨rfl, rfl, trivial⟩, hp⟩⟩
  replace h := ifF h hb
  refine wp_skip ?_
  refine th_n ?_
  refine wp_seq ?_
  refine wp_seq ?_
  refine wp_reg ?_
  refine st_move hf rfl rfl (by decide) ?_
  clear hf; intro a ha hf; clear ha
  refine st_len (E := (Ek.pair Ek.c128 Ek.bool)) hf (by decide) Try.underlying27 rfl rfl (hl0.sl hp) ?_
  clear hf; intro a ha hf; clear ha
  refine st_move hf rfl rfl (by decide) ?_
  clear hf; intro a ha hf; clear ha
  refine st_nil hf ?_
  refine th_n ?_
  refine wp_block ?_
  obtain ⟨q12, hl, h⟩ := bnd h
  refine wp_loop_pure (f := (f_grid_Check.s1 l0)) (s := (0 : Int)) (fun s a w => Fr 21 a [(9, vl0), (10, .int .i64 (l0.length : Int)), (11, .int .i64 s)] ∧ Hp S w0 w (ow)) (fun q e a w => match q with | (Sum.inl q) => e = .exit 0 ∧ Fr 21 a [] ∧ Hp S w0 w (ow) | (Sum.inr q) => e = .ret ∧ Fr 21 a [(2, .int .i64 q.1), (3, .int .i64 q.2)] ∧ Hp S w0 w (ow)) ?_ hl ⟨hf.sub ⟨rfl, rfl, rfl, trivial⟩, hp⟩ ?_
  · clear hl hf hp
    intro s x a w h hI
    obtain ⟨t11, hs⟩ : ∃ z, z = s := ⟨s, rfl⟩; subst hs
    obtain ⟨hf, hp⟩ : Fr 21 a [(9, vl0), (10, .int .i64 (l0.length : Int)), (11, .int .i64 t11)] ∧ Hp S w0 w (ow) := hI
    replace h : f_grid_Check.s1c l0 t11 = some x := h
    unfold f_grid_Check.s1c at h
    refine wp_seq ?_
    refine wp_reg ?_
    refine st_ilss hf (by decide) rfl rfl rfl ?_
    clear hf; intro a ha hf; clear ha
    refine st_nil hf ?_
    refine th_n ?_
    refine wp_seq ?_
    refine wp_if hf rfl (fun hb => ?_) (fun hb => ?_)
    · replace h := ifT h hb
      refine wp_skip ?_
      refine th_n ?_
      refine wp_seq ?_
      refine wp_block ?_
      refine wp_seq ?_
      refine wp_reg ?_
      refine st_move hf rfl rfl (by decide) ?_
      clear hf; intro a ha hf; clear ha
      obtain ⟨hc1, h⟩ := chk h
      refine st_index (E := (Ek.pair Ek.c128 Ek.bool)) hf (by decide) Try.underlying27 elt35 rfl rfl rfl (hl0.sl hp) hc1.1 hc1.2 ?_
      clear hf; intro a ha hf; clear ha
      refine st_ldQA (F := (Ek.pair Ek.c128 Ek.bool)) (yv := (gt l0 t11)) (m := 2) hf (by decide) (by kernel_rfl) rfl rfl rfl (Part.whole (hl0.sl hp) hc1.1 hc1.2) ?_
      clear hf; intro a cs2 hr3 ha hf; clear ha
      obtain ⟨_, _, rfl, ⟨bb4, bb5, rfl, y6, y7⟩, rfl⟩ := hr3
      replace hf : Fr _ _ ((15, .agg #[.complex .f64 bb4 bb5, .bool ((gt l0 t11).2)]) :: _) := hf
      refine st_alloc (cs := [.complex .f64 0 0, .bool false]) (zv := .agg #[.complex .f64 0 0, .bool false]) hf (by decide) (by kernel_rfl) rfl hp rfl ?_
      clear hf; intro a w v8 hf hp0; clear hp; have hp := hp0; clear hp0
      replace hp : Hp _ _ _ (Res.obj 35 v8 [.complex .f64 0 0, .bool false] :: ow) := hp
      refine st_assign hf rfl rfl (by decide) ?_
      clear hf; intro a ha hf; clear ha
      refine st_stO (us := [.complex .f64 bb4 bb5, .bool ((gt l0 t11).2)]) hf hp (i := 0) rfl rfl rfl rfl rfl (by rfl) (by kernel_rfl) (Nat.le_of_ble_eq_true rfl) ?_
      clear hf; intro a w hf hp0; clear hp; have hp := hp0; clear hp0
      replace hp : Hp _ _ _ (Res.obj 35 v8 [.complex .f64 bb4 bb5, .bool ((gt l0 t11).2)] :: ow) := hp
      refine st_nil hf ?_
      refine th_n ?_
      refine wp_seq ?_
      refine wp_reg ?_
      refine st_ldOA (m := 2) (us := [.complex .f64 bb4 bb5, .bool ((gt l0 t11).2)]) hf (by decide) (by kernel_rfl) rfl rfl (hp.ob (i := 0) rfl) rfl rfl ?_
      clear hf; intro a ha hf; clear ha
      obtain ⟨q10, hcall11, h⟩ := bnd h
      refine st_call hf (by decide) Try.func56 rfl rfl rfl rfl rfl (f_grid_may_c hp _ _ _ (show Fl.rep bb4 ((gt l0 t11).1).1 from y6) (show Fl.rep bb5 ((gt l0 t11).1).2 from y7) _ hcall11) ?_
      rintro _ w ⟨rfl, hp0⟩
      clear hp; have hp := hp0; clear hp0
      replace hp : Hp _ _ _ (Res.obj 35 v8 [.complex .f64 bb4 bb5, .bool ((gt l0 t11).2)] :: ow) := hp
      refine ⟨_, rfl, ?_⟩
      clear hf; intro a hf
      refine st_not hf (by decide) rfl rfl ?_
      clear hf; intro a ha hf; clear ha
      refine st_nil hf ?_
      refine th_n ?_
      refine wp_if hf rfl (fun hb => ?_) (fun hb => ?_)
      · replace h := ifT h hb
        refine wp_seq ?_
        refine wp_reg ?_
        refine st_move hf rfl rfl (by decide) ?_
        clear hf; intro a ha hf; clear ha
        refine st_assign hf rfl rfl (by decide) ?_
        clear hf; intro a ha hf; clear ha
        refine st_assign hf rfl rfl (by decide) ?_
        clear hf; intro a ha hf; clear ha
        refine st_nil hf ?_
        refine th_n ?_
        refine wp_ret ?_
        refine ib_r ?_
        refine th_r ?_
        obtain rfl := Option.some.inj h
        have hp : Hp _ _ _ (ow) := Hp.sel (pre := [Res.obj 35 v8 [.complex .f64 bb4 bb5, .bool ((gt l0 t11).2)]]) (tail := ow) (rs' := []) hp [] (by decide) (by simp) rfl
        exact rnd_r (by simp) ⟨rfl, ⟨hf.sub ⟨rfl, rfl, trivial⟩, hp⟩⟩
      replace h := ifF h hb
      refine wp_skip ?_
      refine ib_n ?_
      refine th_n ?_
      refine wp_reg ?_
      refine st_iadd hf (by decide) rfl rfl rfl ?_
      clear hf; intro a ha hf; clear ha
      refine st_move hf rfl rfl (by decide) ?_
      clear hf; intro a ha hf; clear ha
      refine st_nil hf ?_
      obtain rfl := Option.some.inj h
      have hp : Hp _ _ _ (ow) := Hp.sel (pre := [Res.obj 35 v8 [.complex .f64 bb4 bb5, .bool ((gt l0 t11).2)]]) (tail := ow) (rs' := []) hp [] (by decide) (by simp) rfl
      exact rnd_l ⟨hf.sub ⟨rfl, rfl, rfl, trivial⟩, hp⟩
    replace h := ifF h hb
    refine wp_exit ?_
    refine th_e ?_
    obtain rfl := Option.some.inj h
    exact rnd_r (by simp) ⟨rfl, hf.sub trivial, hp⟩
  clear hl hf hp
  intro e a w hne hO
  rcases q12 with q13 | q14
  · replace h := smL h
    obtain ⟨rfl, hf, hp⟩ := hO
    refine ib_same ?_
    refine th_n ?_
    refine wp_seq ?_
    refine wp_reg ?_
    refine st_assign hf rfl rfl (by decide) ?_
    clear hf; intro a ha hf; clear ha
    refine st_assign hf rfl rfl (by decide) ?_
    clear hf; intro a ha hf; clear ha
    refine st_nil hf ?_
    refine th_n ?_
    refine wp_ret ?_
    obtain rfl := Option.some.inj h
    exact ⟨rfl, ⟨hf.sub ⟨rfl, rfl, trivial⟩, hp⟩⟩
  replace h := smR h
  obtain ⟨rfl, hf, hp⟩ := hO
  refine ib_r ?_
  refine th_r ?_
  obtain rfl := Option.some.inj h
  exact ⟨rfl, ⟨hf.sub ⟨rfl, rfl, trivial⟩, hp⟩⟩

noncomputable def f_soft_sign (bx0 : Bool) : Option Fl := (if bx0 = true then (some (Fl.bits 4607182418800017408)) else (some (Fl.bits 13830554455654793216)))
theorem f_soft_sign_c {S : Nat → Prop} {w0 w : World} {ow : List Res} (hp : Hp S w0 w ow) (bx0 : Bool) {r : Fl} (h : f_soft_sign bx0 = some r) :
    Calls Try.prog 39 #[.bool bx0] w (fun e w' => ∃ (b0 : Nat), e = .returned (.float .f64 b0) ∧ Fl.rep b0 r ∧ Hp S w0 w' (ow)) := by
  unfold f_soft_sign at h
  refine enter (n := 4) (args := [.bool bx0]) Try.func39 rfl rfl (Nat.le_of_ble_eq_true rfl) fun a hf => ?_
  replace hf : Fr 4 a [(0, .bool bx0)] := hf
  refine wp_mono (Q := fun e a w => e = .ret ∧ ∃ (b0 : Nat), Fr 4 a [(2, .float .f64 b0)] ∧ Fl.rep b0 r ∧ Hp S w0 w (ow)) ?_ ?_
  rotate_left
  · rintro e a w ⟨rfl, x0, hf, y0, hp⟩
    exact ret1 hf rfl rfl ⟨x0, rfl, y0, hp⟩
  refine wp_seq ?_
  refine wp_reg ?_
  refine st_assign hf rfl rfl (by decide) ?_
  clear hf; intro a ha hf; clear ha
  refine st_nil hf ?_
  refine th_n ?_
  refine wp_seq ?_
  refine wp_seq ?_
  refine wp_reg ?_
  refine st_move hf rfl rfl (by decide) ?_
  clear hf; intro a ha hf; clear ha
  refine st_nil hf ?_
  refine th_n ?_
  refine wp_if hf rfl (fun hb => ?_) (fun hb => ?_)
  · replace h := ifT h hb
    refine wp_seq ?_
    refine wp_reg ?_
    refine st_assign hf rfl rfl (by decide) ?_
    clear hf; intro a ha hf; clear ha
    refine st_nil hf ?_
    refine th_n ?_
    refine wp_ret ?_
    refine th_r ?_
    obtain rfl := Option.some.inj h
    exact ⟨rfl, ⟨_, hf.sub ⟨rfl, trivial⟩, rfl, hp⟩⟩
  replace h := ifF h hb
  refine wp_skip ?_
  refine th_n ?_
  refine wp_seq ?_
  refine wp_reg ?_
  refine st_assign hf rfl rfl (by decide) ?_
  clear hf; intro a ha hf; clear ha
  refine st_nil hf ?_
  refine th_n ?_
  refine wp_ret ?_
  obtain rfl := Option.some.inj h
  exact ⟨rfl, ⟨_, hf.sub ⟨rfl, trivial⟩, rfl, hp⟩⟩

noncomputable def f_soft_cost (one0 : Bool) (two1 : Bool) (sx2_V : (Fl × Fl)) (sx2_Lost : Bool) : Option Fl := (if sx2_Lost = true then (some (Fl.bits 0)) else ((f_soft_sign one0).bind fun q9 => ((farithS .mul q9 sx2_V.1).bind fun q13 => ((f_soft_sign two1).bind fun q15 => ((farithS .mul q15 sx2_V.2).bind fun q19 => ((farithS .add q13 q19).bind fun q21 => ((farithS .mul (Fl.bits 4611686018427387904) q21).bind fun q23 => ((farithS .sub (Fl.bits 4611686018427387904) q23).bind fun q25 => (some q25)))))))))
theorem f_soft_cost_c {S : Nat → Prop} {w0 w : World} {ow : List Res} (hp : Hp S w0 w ow) (one0 : Bool) (two1 : Bool) (bsx2_V csx2_V : Nat) (sx2_V : Fl × Fl) (hsx2_V : sx2_V.1.rep bsx2_V) (ksx2_V : sx2_V.2.rep csx2_V) (sx2_Lost : Bool) {r : Fl} (h : f_soft_cost one0 two1 sx2_V sx2_Lost = some r) :
    Calls Try.prog 36 #[.bool one0, .bool two1, .agg #[.complex .f64 bsx2_V csx2_V, .bool sx2_Lost]] w (fun e w' => ∃ (b0 : Nat), e = .returned (.float .f64 b0) ∧ Fl.rep b0 r ∧ Hp S w0 w' (ow)) := by
  unfold f_soft_cost at h
  refine enter (n := 24) (args := [.bool one0, .bool two1, .agg #[.complex .f64 bsx2_V csx2_V, .bool sx2_Lost]]) Try.func36 rfl rfl (Nat.le_of_ble_eq_true rfl) fun a hf => ?_
  replace hf : Fr 24 a [(0, .bool one0), (1, .bool two1), (2, .agg #[.complex .f64 bsx2_V csx2_V, .bool sx2_Lost])] := hf
  refine wp_mono (Q := fun e a w => e = .ret ∧ ∃ (b0 : Nat), Fr 24 a [(6, .float .f64 b0)] ∧ Fl.rep b0 r ∧ Hp S w0 w (ow)) ?_ ?_
  rotate_left
  · rintro e a w ⟨rfl, x0, hf, y0, hp⟩
    exact ret1 hf rfl rfl ⟨x0, rfl, y0, hp⟩
  refine wp_seq ?_
  refine wp_reg ?_
  refine st_boxO (cs := [.complex .f64 bsx2_V csx2_V, .bool sx2_Lost]) hf (by decide) hp rfl rfl rfl ?_
  clear hf; intro a w v1 hf hp0; clear hp; have hp := hp0; clear hp0
  replace hp : Hp _ _ _ (Res.obj 35 v1 [.complex .f64 bsx2_V csx2_V, .bool sx2_Lost] :: ow) := hp
  refine st_assign hf rfl rfl (by decide) ?_
  clear hf; intro a ha hf; clear ha
  refine st_nil hf ?_
  refine th_n ?_
  refine wp_seq ?_
  refine wp_seq ?_
  refine wp_reg ?_
  refine st_fa (o' := 1) hf (by decide) (off := 1) (sz := 1) (by kernel_rfl) (by decide) rfl rfl (hp.ob (i := 0) rfl) rfl ?_
  clear hf; intro a ha hf; clear ha
  refine st_ldO (u := .bool sx2_Lost) hf (by decide) pl4 rfl rfl (hp.ob (i := 0) rfl) rfl ?_
  clear hf; intro a ha hf; clear ha
  refine st_nil hf ?_
  refine th_n ?_
  refine wp_if hf rfl (fun hb => ?_) (fun hb => ?_)
  · replace h := ifT h hb
    refine wp_seq ?_
    refine wp_reg ?_
    refine st_assign hf rfl rfl (by decide) ?_
    clear hf; intro a ha hf; clear ha
    refine st_nil hf ?_
    refine th_n ?_
    refine wp_ret ?_
    refine th_r ?_
    obtain rfl := Option.some.inj h
    have hp : Hp _ _ _ (ow) := Hp.sel (pre := [Res.obj 35 v1 [.complex .f64 bsx2_V csx2_V, .bool sx2_Lost]]) (tail := ow) (rs' := []) hp [] (by decide) (by simp) rfl
    exact ⟨rfl, ⟨_, hf.sub ⟨rfl, trivial⟩, rfl, hp⟩⟩
  replace h := ifF h hb
  refine wp_skip ?_
  refine th_n ?_
  refine wp_seq ?_
  obtain ⟨S3, hp4, rd5, up6, bk7⟩ := Hp.lendO hp (i := 0) rfl
  have rl8 := rd5
  obtain ⟨q9, hcall10, h⟩ := bnd h
  obtain ⟨q13, hq14, h⟩ := bnd h
  obtain ⟨q15, hcall16, h⟩ := bnd h
  obtain ⟨q19, hq20, h⟩ := bnd h
  obtain ⟨q21, hq22, h⟩ := bnd h
  obtain ⟨q23, hq24, h⟩ := bnd h
  obtain ⟨q25, hq26, h⟩ := bnd h
  refine wp_cutN (fun a w => Fr 24 a [(6, .float .f64 (flb q25))] ∧ Hp S w0 w (Res.obj 35 v1 [.complex .f64 bsx2_V csx2_V, .bool sx2_Lost] :: ow)) ?_ ?_
  · have hp := hp4.same (Same.drew w)
    refine dr_begin' (fun a w => Fr 24 a [(6, .float .f64 (flb q25))] ∧ Hp S w0 w (Res.obj 35 v1 [.complex .f64 bsx2_V csx2_V, .bool sx2_Lost] :: ow)) (fun w' => ∃ l, Hp S3 w w' l) [] (by kernel_rfl) ?_
    refine dr_take 0 (.bool one0) rfl (by kernel_rfl) (by kernel_rfl) (by kernel_rfl) (by kernel_rfl) rfl rfl hf (by decide) rfl (fun w hp => ?_) ⟨_, hp⟩ ?_
    · obtain ⟨_, hp⟩ := hp
      refine st_move hf rfl rfl (by decide) ?_
      clear hf; intro a ha hf
      exact st_nil hf (th_n ⟨ha, rfl⟩)
    clear hf; intro a hf
    refine dr_take 2 (optr v1 0) rfl (by kernel_rfl) (by kernel_rfl) (by kernel_rfl) (by kernel_rfl) rfl rfl hf (by decide) rfl (fun w hp => ?_) ⟨_, hp⟩ ?_
    · obtain ⟨_, hp⟩ := hp
      refine st_fa (o' := 0) hf (by decide) (off := 0) (sz := 1) (by kernel_rfl) (by decide) rfl rfl (rl8.ob hp) rfl ?_
      clear hf; intro a ha hf
      exact st_nil hf (th_n ⟨ha, rfl⟩)
    clear hf; intro a hf
    refine dr_take 3 (.complex .f64 bsx2_V csx2_V) rfl (by kernel_rfl) (by kernel_rfl) (by kernel_rfl) (by kernel_rfl) rfl rfl hf (by decide) rfl (fun w hp => ?_) ⟨_, hp⟩ ?_
    · obtain ⟨_, hp⟩ := hp
      refine st_ldO (u := .complex .f64 bsx2_V csx2_V) hf (by decide) pl33 rfl rfl (rl8.ob hp) rfl ?_
      clear hf; intro a ha hf
      exact st_nil hf (th_n ⟨ha, rfl⟩)
    clear hf; intro a hf
    refine dr_take 4 (.float .f64 bsx2_V) rfl (by kernel_rfl) (by kernel_rfl) (by kernel_rfl) (by kernel_rfl) rfl rfl hf (by decide) rfl (fun w hp => ?_) ⟨_, hp⟩ ?_
    · obtain ⟨_, hp⟩ := hp
      refine st_real hf (by decide) rfl rfl ?_
      clear hf; intro a ha hf
      exact st_nil hf (th_n ⟨ha, rfl⟩)
    clear hf; intro a hf
    refine dr_take 6 (.bool two1) rfl (by kernel_rfl) (by kernel_rfl) (by kernel_rfl) (by kernel_rfl) rfl rfl hf (by decide) rfl (fun w hp => ?_) ⟨_, hp⟩ ?_
    · obtain ⟨_, hp⟩ := hp
      refine st_move hf rfl rfl (by decide) ?_
      clear hf; intro a ha hf
      exact st_nil hf (th_n ⟨ha, rfl⟩)
    clear hf; intro a hf
    refine dr_take 8 (optr v1 0) rfl (by kernel_rfl) (by kernel_rfl) (by kernel_rfl) (by kernel_rfl) rfl rfl hf (by decide) rfl (fun w hp => ?_) ⟨_, hp⟩ ?_
    · obtain ⟨_, hp⟩ := hp
      refine st_fa (o' := 0) hf (by decide) (off := 0) (sz := 1) (by kernel_rfl) (by decide) rfl rfl (rl8.ob hp) rfl ?_
      clear hf; intro a ha hf
      exact st_nil hf (th_n ⟨ha, rfl⟩)
    clear hf; intro a hf
    refine dr_take 9 (.complex .f64 bsx2_V csx2_V) rfl (by kernel_rfl) (by kernel_rfl) (by kernel_rfl) (by kernel_rfl) rfl rfl hf (by decide) rfl (fun w hp => ?_) ⟨_, hp⟩ ?_
    · obtain ⟨_, hp⟩ := hp
      refine st_ldO (u := .complex .f64 bsx2_V csx2_V) hf (by decide) pl33 rfl rfl (rl8.ob hp) rfl ?_
      clear hf; intro a ha hf
      exact st_nil hf (th_n ⟨ha, rfl⟩)
    clear hf; intro a hf
    refine dr_take 10 (.float .f64 csx2_V) rfl (by kernel_rfl) (by kernel_rfl) (by kernel_rfl) (by kernel_rfl) rfl rfl hf (by decide) rfl (fun w hp => ?_) ⟨_, hp⟩ ?_
    · obtain ⟨_, hp⟩ := hp
      refine st_imag hf (by decide) rfl rfl ?_
      clear hf; intro a ha hf
      exact st_nil hf (th_n ⟨ha, rfl⟩)
    clear hf; intro a hf
    refine dr_one 1 rfl (by kernel_rfl) ?_
    refine st_call hf (by decide) Try.func39 rfl rfl rfl rfl rfl (f_soft_sign_c hp _ hcall10) ?_
    rintro _ w ⟨v11, rfl, y12, hp0⟩
    clear hp; have hp := hp0; clear hp0
    replace hp : Hp _ _ _ (ow) := hp
    refine ⟨_, rfl, ?_⟩
    clear hf; intro a hf
    refine st_nil hf (th_n ⟨fun _ _ => ⟨_, hp⟩, ?_⟩)
    refine dr_take 5 (.float .f64 (flb q13)) rfl (by kernel_rfl) (by kernel_rfl) (by kernel_rfl) (by kernel_rfl) rfl rfl hf (by decide) rfl (fun w hp => ?_) ⟨_, hp⟩ ?_
    · obtain ⟨_, hp⟩ := hp
      refine st_fs (op := .mul) rfl hf (by decide) rfl rfl rfl (show Fl.rep v11 q9 from y12) (show Fl.rep bsx2_V sx2_V.1 from hsx2_V) hq14 ?_
      clear hf; intro a ha hf
      exact st_nil hf (th_n ⟨ha, rfl⟩)
    clear hf; intro a hf
    refine dr_one 7 rfl (by kernel_rfl) ?_
    refine st_call hf (by decide) Try.func39 rfl rfl rfl rfl rfl (f_soft_sign_c hp _ hcall16) ?_
    rintro _ w ⟨v17, rfl, y18, hp0⟩
    clear hp; have hp := hp0; clear hp0
    replace hp : Hp _ _ _ (ow) := hp
    refine ⟨_, rfl, ?_⟩
    clear hf; intro a hf
    refine st_nil hf (th_n ⟨fun _ _ => ⟨_, hp⟩, ?_⟩)
    refine dr_take 11 (.float .f64 (flb q19)) rfl (by kernel_rfl) (by kernel_rfl) (by kernel_rfl) (by kernel_rfl) rfl rfl hf (by decide) rfl (fun w hp => ?_) ⟨_, hp⟩ ?_
    · obtain ⟨_, hp⟩ := hp
      refine st_fs (op := .mul) rfl hf (by decide) rfl rfl rfl (show Fl.rep v17 q15 from y18) (show Fl.rep csx2_V sx2_V.2 from ksx2_V) hq20 ?_
      clear hf; intro a ha hf
      exact st_nil hf (th_n ⟨ha, rfl⟩)
    clear hf; intro a hf
    refine dr_take 12 (.float .f64 (flb q21)) rfl (by kernel_rfl) (by kernel_rfl) (by kernel_rfl) (by kernel_rfl) rfl rfl hf (by decide) rfl (fun w hp => ?_) ⟨_, hp⟩ ?_
    · obtain ⟨_, hp⟩ := hp
      refine st_fs (op := .add) rfl hf (by decide) rfl rfl rfl (show Fl.rep (flb q13) q13 from (farithS_rep hq14)) (show Fl.rep (flb q19) q19 from (farithS_rep hq20)) hq22 ?_
      clear hf; intro a ha hf
      exact st_nil hf (th_n ⟨ha, rfl⟩)
    clear hf; intro a hf
    refine dr_take 13 (.float .f64 (flb q23)) rfl (by kernel_rfl) (by kernel_rfl) (by kernel_rfl) (by kernel_rfl) rfl rfl hf (by decide) rfl (fun w hp => ?_) ⟨_, hp⟩ ?_
    · obtain ⟨_, hp⟩ := hp
      refine st_fs (op := .mul) rfl hf (by decide) rfl rfl rfl (show Fl.rep 4611686018427387904 (Fl.bits 4611686018427387904) from rfl) (show Fl.rep (flb q21) q21 from (farithS_rep hq22)) hq24 ?_
      clear hf; intro a ha hf
      exact st_nil hf (th_n ⟨ha, rfl⟩)
    clear hf; intro a hf
    refine dr_take 14 (.float .f64 (flb q25)) rfl (by kernel_rfl) (by kernel_rfl) (by kernel_rfl) (by kernel_rfl) rfl rfl hf (by decide) rfl (fun w hp => ?_) ⟨_, hp⟩ ?_
    · obtain ⟨_, hp⟩ := hp
      refine st_fs (op := .sub) rfl hf (by decide) rfl rfl rfl (show Fl.rep 4611686018427387904 (Fl.bits 4611686018427387904) from rfl) (show Fl.rep (flb q23) q23 from (farithS_rep hq24)) hq26 ?_
      clear hf; intro a ha hf
      exact st_nil hf (th_n ⟨ha, rfl⟩)
    clear hf; intro a hf
    refine dr_take 15 (.float .f64 (flb q25)) rfl (by kernel_rfl) (by kernel_rfl) (by kernel_rfl) (by kernel_rfl) rfl rfl hf (by decide) rfl (fun w hp => ?_) ⟨_, hp⟩ ?_
    · obtain ⟨_, hp⟩ := hp
      refine st_assign hf rfl rfl (by decide) ?_
      clear hf; intro a ha hf
      exact st_nil hf (th_n ⟨ha, rfl⟩)
    clear hf; intro a hf
    refine dr_end (by kernel_rfl) ?_ _
    have hp := bk7 _ _ hp
    exact ⟨hf.sub ⟨rfl, trivial⟩, hp⟩
  rintro a w ⟨hf, hp⟩
  refine th_n ?_
  refine wp_ret ?_
  obtain rfl := Option.some.inj h
  have hp : Hp _ _ _ (ow) := Hp.sel (pre := [Res.obj 35 v1 [.complex .f64 bsx2_V csx2_V, .bool sx2_Lost]]) (tail := ow) (rs' := []) hp [] (by decide) (by simp) rfl
  exact ⟨rfl, ⟨_, hf.sub ⟨rfl, trivial⟩, (farithS_rep hq26), hp⟩⟩

noncomputable def f_soft_Cost (one0 : Bool) (two1 : Bool) (sx2_V : (Fl × Fl)) (sx2_Lost : Bool) : Option (Fl × Int) := ((f_grid_Check ([(sx2_V, sx2_Lost)])).bind fun q5 => (if (q5.2 != (0 : Int)) = true then (some ((Fl.bits 0), q5.2)) else ((f_soft_cost one0 two1 sx2_V sx2_Lost).bind fun q12 => (some (q12, (0 : Int))))))
theorem f_soft_Cost_c {S : Nat → Prop} {w0 w : World} {ow : List Res} (hp : Hp S w0 w ow) (one0 : Bool) (two1 : Bool) (bsx2_V csx2_V : Nat) (sx2_V : Fl × Fl) (hsx2_V : sx2_V.1.rep bsx2_V) (ksx2_V : sx2_V.2.rep csx2_V) (sx2_Lost : Bool) {r : (Fl × Int)} (h : f_soft_Cost one0 two1 sx2_V sx2_Lost = some r) :
    Calls Try.prog 11 #[.bool one0, .bool two1, .agg #[.complex .f64 bsx2_V csx2_V, .bool sx2_Lost]] w (fun e w' => ∃ (b0 : Nat), e = .returned (.tuple #[.float .f64 b0, .int .i64 r.2]) ∧ Fl.rep b0 r.1 ∧ Hp S w0 w' (ow)) := by
  unfold f_soft_Cost at h
  refine enter (n := 23) (args := [.bool one0, .bool two1, .agg #[.complex .f64 bsx2_V csx2_V, .bool sx2_Lost]]) Try.func11 rfl rfl (Nat.le_of_ble_eq_true rfl) fun a hf => ?_
  replace hf : Fr 23 a [(0, .bool one0), (1, .bool two1), (2, .agg #[.complex .f64 bsx2_V csx2_V, .bool sx2_Lost])] := hf
  refine wp_mono (Q := fun e a w => e = .ret ∧ ∃ (b0 : Nat), Fr 23 a [(6, .float .f64 b0), (7, .int .i64 r.2)] ∧ Fl.rep b0 r.1 ∧ Hp S w0 w (ow)) ?_ ?_
  rotate_left
  · rintro e a w ⟨rfl, x0, hf, y0, hp⟩
    exact ret2 hf rfl rfl rfl ⟨x0, rfl, y0, hp⟩
  refine wp_seq ?_
  refine wp_reg ?_
  refine st_boxO (cs := [.complex .f64 bsx2_V csx2_V, .bool sx2_Lost]) hf (by decide) hp rfl rfl rfl ?_
  clear hf; intro a w v1 hf hp0; clear hp; have hp := hp0; clear hp0
  replace hp : Hp _ _ _ (Res.obj 35 v1 [.complex .f64 bsx2_V csx2_V, .bool sx2_Lost] :: ow) := hp
  refine st_assign hf rfl rfl (by decide) ?_
  clear hf; intro a ha hf; clear ha
  refine st_assign hf rfl rfl (by decide) ?_
  clear hf; intro a ha hf; clear ha
  refine st_nil hf ?_
  refine th_n ?_
  refine wp_seq ?_
  refine wp_seq ?_
  refine wp_reg ?_
  refine st_ldOA (m := 2) (us := [.complex .f64 bsx2_V csx2_V, .bool sx2_Lost]) hf (by decide) (by kernel_rfl) rfl rfl (hp.ob (i := 0) rfl) rfl rfl ?_
  clear hf; intro a ha hf; clear ha
  refine st_build (E := (Ek.pair Ek.c128 Ek.bool)) (xs := [(sx2_V, sx2_Lost)]) hf (by decide) elt35 Try.underlying27 hp (vals := #[(0, .agg #[.complex .f64 bsx2_V csx2_V, .bool sx2_Lost])]) (cells := #[.complex .f64 bsx2_V csx2_V, .bool sx2_Lost]) rfl (by simp [hf.ev (x := (Operand.tmp 11)) rfl]) (by decide) (by decide) (z := .agg #[.complex .f64 0 0, .bool false]) (by kernel_rfl) (by kernel_rfl) rfl (reps_cons (cs := [.complex .f64 bsx2_V csx2_V, .bool sx2_Lost]) ⟨[.complex .f64 bsx2_V csx2_V], [.bool sx2_Lost], rfl, (show Ek.c128.rep [.complex .f64 bsx2_V csx2_V] sx2_V from ⟨_, _, rfl, hsx2_V, ksx2_V⟩), rfl⟩ (reps_nil _)) ?_
  clear hf; intro a w v3 hf hp0; clear hp; have hp := hp0; clear hp0
  replace hp : Hp _ _ _ (Res.sl (Ek.pair Ek.c128 Ek.bool) 35 v3 ([(sx2_V, sx2_Lost)]) :: Res.obj 35 v1 [.complex .f64 bsx2_V csx2_V, .bool sx2_Lost] :: ow) := hp
  obtain ⟨q5, hcall6, h⟩ := bnd h
  obtain ⟨S7, hp8, rd9, up10, bk11⟩ := Hp.lendS hp (i := 0) rfl
  refine st_call hf (by decide) Try.func35 rfl rfl rfl rfl rfl (f_grid_Check_c hp8 _ _ rd9 hcall6) ?_
  rintro _ w ⟨rfl, hp0⟩
  have hp0 := bk11 _ _ hp0
  clear hp; have hp := hp0; clear hp0
  replace hp : Hp _ _ _ (Res.sl (Ek.pair Ek.c128 Ek.bool) 35 v3 ([(sx2_V, sx2_Lost)]) :: Res.obj 35 v1 [.complex .f64 bsx2_V csx2_V, .bool sx2_Lost] :: ow) := hp
  refine ⟨_, rfl, ?_⟩
  clear hf; intro a hf
  refine st_move hf rfl rfl (by decide) ?_
  clear hf; intro a ha hf; clear ha
  refine st_extract hf (by decide) rfl rfl rfl ?_
  clear hf; intro a ha hf; clear ha
  refine st_extract hf (by decide) rfl rfl rfl ?_
  clear hf; intro a ha hf; clear ha
  refine st_assign hf rfl rfl (by decide) ?_
  clear hf; intro a ha hf; clear ha
  refine st_assign hf rfl rfl (by decide) ?_
  clear hf; intro a ha hf; clear ha
  refine st_nil hf ?_
  refine th_n ?_
  refine wp_seq ?_
  refine wp_reg ?_
  refine st_move hf rfl rfl (by decide) ?_
  clear hf; intro a ha hf; clear ha
  refine st_ineq hf (by decide) rfl rfl rfl ?_
  clear hf; intro a ha hf; clear ha
  refine st_nil hf ?_
  refine th_n ?_
  refine wp_if hf rfl (fun hb => ?_) (fun hb => ?_)
  · replace h := ifT h hb
    refine wp_seq ?_
    refine wp_reg ?_
    refine st_move hf rfl rfl (by decide) ?_
    clear hf; intro a ha hf; clear ha
    refine st_assign hf rfl rfl (by decide) ?_
    clear hf; intro a ha hf; clear ha
    refine st_assign hf rfl rfl (by decide) ?_
    clear hf; intro a ha hf; clear ha
    refine st_nil hf ?_
    refine th_n ?_
    refine wp_ret ?_
    refine th_r ?_
    obtain rfl := Option.some.inj h
    have hp : Hp _ _ _ (ow) := Hp.sel (pre := [Res.sl (Ek.pair Ek.c128 Ek.bool) 35 v3 ([(sx2_V, sx2_Lost)]), Res.obj 35 v1 [.complex .f64 bsx2_V csx2_V, .bool sx2_Lost]]) (tail := ow) (rs' := []) hp [] (by decide) (by simp) rfl
    exact ⟨rfl, ⟨_, hf.sub ⟨rfl, rfl, trivial⟩, rfl, hp⟩⟩
  replace h := ifF h hb
  refine wp_skip ?_
  refine th_n ?_
  refine wp_seq ?_
  refine wp_reg ?_
  refine st_move hf rfl rfl (by decide) ?_
  clear hf; intro a ha hf; clear ha
  refine st_move hf rfl rfl (by decide) ?_
  clear hf; intro a ha hf; clear ha
  refine st_ldOA (m := 2) (us := [.complex .f64 bsx2_V csx2_V, .bool sx2_Lost]) hf (by decide) (by kernel_rfl) rfl rfl (hp.ob (i := 1) rfl) rfl rfl ?_
  clear hf; intro a ha hf; clear ha
  obtain ⟨q12, hcall13, h⟩ := bnd h
  refine st_call hf (by decide) Try.func36 rfl rfl rfl rfl rfl (f_soft_cost_c hp _ _ _ _ _ (show Fl.rep bsx2_V (sx2_V).1 from hsx2_V) (show Fl.rep csx2_V (sx2_V).2 from ksx2_V) _ hcall13) ?_
  rintro _ w ⟨v14, rfl, y15, hp0⟩
  clear hp; have hp := hp0; clear hp0
  replace hp : Hp _ _ _ (Res.sl (Ek.pair Ek.c128 Ek.bool) 35 v3 ([(sx2_V, sx2_Lost)]) :: Res.obj 35 v1 [.complex .f64 bsx2_V csx2_V, .bool sx2_Lost] :: ow) := hp
  refine ⟨_, rfl, ?_⟩
  clear hf; intro a hf
  refine st_assign hf rfl rfl (by decide) ?_
  clear hf; intro a ha hf; clear ha
  refine st_assign hf rfl rfl (by decide) ?_
  clear hf; intro a ha hf; clear ha
  refine st_nil hf ?_
  refine th_n ?_
  refine wp_ret ?_
  obtain rfl := Option.some.inj h
  have hp : Hp _ _ _ (ow) := Hp.sel (pre := [Res.sl (Ek.pair Ek.c128 Ek.bool) 35 v3 ([(sx2_V, sx2_Lost)]), Res.obj 35 v1 [.complex .f64 bsx2_V csx2_V, .bool sx2_Lost]]) (tail := ow) (rs' := []) hp [] (by decide) (by simp) rfl
  exact ⟨rfl, ⟨_, hf.sub ⟨rfl, rfl, trivial⟩, y15, hp⟩⟩

noncomputable def f_foghornref21_May (cx0_Length : Int) (cx0_One : Int) (cx0_Two : Int) : Option Bool := (if ((decide (cx0_Length < (2 : Int))) || (decide ((7 : Int) < cx0_Length))) = true then (some false) else (if 0 ≤ cx0_Length then (some (((((decide ((1 : Int) ≤ cx0_One)) && (decide (cx0_One < (ishl .u32 (1 : Int) cx0_Length)))) && (decide ((1 : Int) ≤ cx0_Two))) && (decide (cx0_Two < (ishl .u32 (1 : Int) cx0_Length)))) && ((decide ((IntKind.u32.wrap (((ishl .u32 (1 : Int) cx0_Length)).tdiv (2 : Int))) ≤ cx0_One)) || (decide ((IntKind.u32.wrap (((ishl .u32 (1 : Int) cx0_Length)).tdiv (2 : Int))) ≤ cx0_Two))))) else none))
theorem f_foghornref21_May_c {S : Nat → Prop} {w0 w : World} {ow : List Res} (hp : Hp S w0 w ow) (cx0_Length : Int) (cx0_One : Int) (cx0_Two : Int) {r : Bool} (h : f_foghornref21_May cx0_Length cx0_One cx0_Two = some r) :
    Calls Try.prog 41 #[.agg #[.int .i64 cx0_Length, .int .u32 cx0_One, .int .u32 cx0_Two]] w (fun e w' => e = .returned (.bool r) ∧ Hp S w0 w' (ow)) := by
  unfold f_foghornref21_May at h
  refine enter (n := 49) (args := [.agg #[.int .i64 cx0_Length, .int .u32 cx0_One, .int .u32 cx0_Two]]) Try.func41 rfl rfl (Nat.le_of_ble_eq_true rfl) fun a hf => ?_
  replace hf : Fr 49 a [(0, .agg #[.int .i64 cx0_Length, .int .u32 cx0_One, .int .u32 cx0_Two])] := hf
  refine wp_mono (Q := fun e a w => e = .ret ∧ Fr 49 a [(2, .bool r)] ∧ Hp S w0 w (ow)) ?_ ?_
  rotate_left
  · rintro e a w ⟨rfl, hf, hp⟩
    exact ret1 hf rfl rfl ⟨rfl, hp⟩
  refine wp_seq ?_
  refine wp_reg ?_
  refine st_boxO (cs := [.int .i64 cx0_Length, .int .u32 cx0_One, .int .u32 cx0_Two]) hf (by decide) hp rfl rfl rfl ?_
  clear hf; intro a w v1 hf hp0; clear hp; have hp := hp0; clear hp0
  replace hp : Hp _ _ _ (Res.obj 24 v1 [.int .i64 cx0_Length, .int .u32 cx0_One, .int .u32 cx0_Two] :: ow) := hp
  refine st_assign hf rfl rfl (by decide) ?_
  clear hf; intro a ha hf; clear ha
  refine st_nil hf ?_
  refine th_n ?_
  refine wp_seq ?_
  refine wp_seq ?_
  refine wp_reg ?_
  refine st_fa (o' := 0) hf (by decide) (off := 0) (sz := 1) (by kernel_rfl) (by decide) rfl rfl (hp.ob (i := 0) rfl) rfl ?_
  clear hf; intro a ha hf; clear ha
  refine st_ldO (u := .int .i64 cx0_Length) hf (by decide) pl3 rfl rfl (hp.ob (i := 0) rfl) rfl ?_
  clear hf; intro a ha hf; clear ha
  refine st_ilss hf (by decide) rfl rfl rfl ?_
  clear hf; intro a ha hf; clear ha
  refine st_move hf rfl rfl (by decide) ?_
  clear hf; intro a ha hf; clear ha
  refine wpList_cut 4 (fun a w => Fr 49 a [(1, optr v1 0), (11, .bool ((decide (cx0_Length < (2 : Int))) || (decide ((7 : Int) < cx0_Length))))] ∧ Hp S w0 w (Res.obj 24 v1 [.int .i64 cx0_Length, .int .u32 cx0_One, .int .u32 cx0_Two] :: ow)) ?_ ?_
  · rcases Bool.eq_false_or_eq_true (decide (cx0_Length < (2 : Int))) with hb4 | hb4
    · skip
      refine st_skip hf (wantN hf rfl rfl hb4) rfl (by decide) ?_ rfl
      clear hf; intro a hf
      refine st_skip hf (wantN hf rfl rfl hb4) rfl (by decide) ?_ rfl
      clear hf; intro a hf
      refine st_skip hf (wantN hf rfl rfl hb4) rfl (by decide) ?_ rfl
      clear hf; intro a hf
      refine st_pick (v := .bool true) hf rfl rfl (fun hb' => ?_) (fun hb' => ?_) (by decide) ?_
      · rfl
      · exact absurd (hb4.symm.trans hb') (by decide)
      clear hf; intro a ha hf; clear ha
      refine st_nil hf (th_n ?_)
      exact ⟨hf.sub ⟨rfl, (by rw [hb4]; rfl), trivial⟩, hp⟩
    refine st_fa (o' := 0) hf (by decide) (off := 0) (sz := 1) (by kernel_rfl) (by decide) (wantY hf rfl rfl hb4) rfl (hp.ob (i := 0) rfl) rfl ?_
    clear hf; intro a ha hf; clear ha
    refine st_ldO (u := .int .i64 cx0_Length) hf (by decide) pl3 (wantY hf rfl rfl hb4) rfl (hp.ob (i := 0) rfl) rfl ?_
    clear hf; intro a ha hf; clear ha
    refine st_igtr hf (by decide) (wantY hf rfl rfl hb4) rfl rfl ?_
    clear hf; intro a ha hf; clear ha
    refine st_pick (v := .bool (decide ((7 : Int) < cx0_Length))) hf rfl rfl (fun hb' => ?_) (fun hb' => ?_) (by decide) ?_
    · exact absurd (hb4.symm.trans hb') (by decide)
    · rfl
    clear hf; intro a ha hf; clear ha
    refine st_nil hf (th_n ?_)
    exact ⟨hf.sub ⟨rfl, (by rw [hb4]; rfl), trivial⟩, hp⟩
  rintro a w ⟨hf, hp⟩
  refine st_nil hf ?_
  refine th_n ?_
  refine wp_if hf rfl (fun hb => ?_) (fun hb => ?_)
  · replace h := ifT h hb
    refine wp_seq ?_
    refine wp_reg ?_
    refine st_assign hf rfl rfl (by decide) ?_
    clear hf; intro a ha hf; clear ha
    refine st_nil hf ?_
    refine th_n ?_
    refine wp_ret ?_
    refine th_r ?_
    obtain rfl := Option.some.inj h
    have hp : Hp _ _ _ (ow) := Hp.sel (pre := [Res.obj 24 v1 [.int .i64 cx0_Length, .int .u32 cx0_One, .int .u32 cx0_Two]]) (tail := ow) (rs' := []) hp [] (by decide) (by simp) rfl
    exact ⟨rfl, ⟨hf.sub ⟨rfl, trivial⟩, hp⟩⟩
  replace h := ifF h hb
  refine wp_skip ?_
  refine th_n ?_
  refine wp_seq ?_
  refine wp_reg ?_
  refine st_fa (o' := 0) hf (by decide) (off := 0) (sz := 1) (by kernel_rfl) (by decide) rfl rfl (hp.ob (i := 0) rfl) rfl ?_
  clear hf; intro a ha hf; clear ha
  refine st_ldO (u := .int .i64 cx0_Length) hf (by decide) pl3 rfl rfl (hp.ob (i := 0) rfl) rfl ?_
  clear hf; intro a ha hf; clear ha
  obtain ⟨hc5, h⟩ := chk h
  refine st_ishl hf (by decide) rfl rfl rfl hc5 ?_
  clear hf; intro a ha hf; clear ha
  refine st_assign hf rfl rfl (by decide) ?_
  clear hf; intro a ha hf; clear ha
  refine st_nil hf ?_
  refine th_n ?_
  refine wp_seq ?_
  refine wp_reg ?_
  refine st_fa (o' := 1) hf (by decide) (off := 1) (sz := 1) (by kernel_rfl) (by decide) rfl rfl (hp.ob (i := 0) rfl) rfl ?_
  clear hf; intro a ha hf; clear ha
  refine st_ldO (u := .int .u32 cx0_One) hf (by decide) pl22 rfl rfl (hp.ob (i := 0) rfl) rfl ?_
  clear hf; intro a ha hf; clear ha
  refine st_igeq hf (by decide) rfl rfl rfl ?_
  clear hf; intro a ha hf; clear ha
  refine st_move hf rfl rfl (by decide) ?_
  clear hf; intro a ha hf; clear ha
  refine wpList_cut 5 (fun a w => Fr 49 a [(1, optr v1 0), (3, .int .u32 (ishl .u32 (1 : Int) cx0_Length)), (23, .bool ((decide ((1 : Int) ≤ cx0_One)) && (decide (cx0_One < (ishl .u32 (1 : Int) cx0_Length)))))] ∧ Hp S w0 w (Res.obj 24 v1 [.int .i64 cx0_Length, .int .u32 cx0_One, .int .u32 cx0_Two] :: ow)) ?_ ?_
  · rcases Bool.eq_false_or_eq_true (decide ((1 : Int) ≤ cx0_One)) with hb7 | hb7
    · skip
      refine st_fa (o' := 1) hf (by decide) (off := 1) (sz := 1) (by kernel_rfl) (by decide) (wantY hf rfl rfl hb7) rfl (hp.ob (i := 0) rfl) rfl ?_
      clear hf; intro a ha hf; clear ha
      refine st_ldO (u := .int .u32 cx0_One) hf (by decide) pl22 (wantY hf rfl rfl hb7) rfl (hp.ob (i := 0) rfl) rfl ?_
      clear hf; intro a ha hf; clear ha
      refine st_move hf (wantY hf rfl rfl hb7) rfl (by decide) ?_
      clear hf; intro a ha hf; clear ha
      refine st_ilss hf (by decide) (wantY hf rfl rfl hb7) rfl rfl ?_
      clear hf; intro a ha hf; clear ha
      refine st_pick (v := .bool (decide (cx0_One < (ishl .u32 (1 : Int) cx0_Length)))) hf rfl rfl (fun hb' => ?_) (fun hb' => ?_) (by decide) ?_
      · rfl
      · exact absurd (hb7.symm.trans hb') (by decide)
      clear hf; intro a ha hf; clear ha
      refine st_nil hf (th_n ?_)
      exact ⟨hf.sub ⟨rfl, rfl, (by rw [hb7]; rfl), trivial⟩, hp⟩
    refine st_skip hf (wantN hf rfl rfl hb7) rfl (by decide) ?_ rfl
    clear hf; intro a hf
    refine st_skip hf (wantN hf rfl rfl hb7) rfl (by decide) ?_ rfl
    clear hf; intro a hf
    refine st_skip hf (wantN hf rfl rfl hb7) rfl (by decide) ?_ rfl
    clear hf; intro a hf
    refine st_skip hf (wantN hf rfl rfl hb7) rfl (by decide) ?_ rfl
    clear hf; intro a hf
    refine st_pick (v := .bool false) hf rfl rfl (fun hb' => ?_) (fun hb' => ?_) (by decide) ?_
    · exact absurd (hb7.symm.trans hb') (by decide)
    · rfl
    clear hf; intro a ha hf; clear ha
    refine st_nil hf (th_n ?_)
    exact ⟨hf.sub ⟨rfl, rfl, (by rw [hb7]; rfl), trivial⟩, hp⟩
  rintro a w ⟨hf, hp⟩
  refine st_move hf rfl rfl (by decide) ?_
  clear hf; intro a ha hf; clear ha
  refine wpList_cut 4 (fun a w => Fr 49 a [(1, optr v1 0), (3, .int .u32 (ishl .u32 (1 : Int) cx0_Length)), (28, .bool (((decide ((1 : Int) ≤ cx0_One)) && (decide (cx0_One < (ishl .u32 (1 : Int) cx0_Length)))) && (decide ((1 : Int) ≤ cx0_Two))))] ∧ Hp S w0 w (Res.obj 24 v1 [.int .i64 cx0_Length, .int .u32 cx0_One, .int .u32 cx0_Two] :: ow)) ?_ ?_
  · rcases Bool.eq_false_or_eq_true ((decide ((1 : Int) ≤ cx0_One)) && (decide (cx0_One < (ishl .u32 (1 : Int) cx0_Length)))) with hb9 | hb9
    · skip
      refine st_fa (o' := 2) hf (by decide) (off := 2) (sz := 1) (by kernel_rfl) (by decide) (wantY hf rfl rfl hb9) rfl (hp.ob (i := 0) rfl) rfl ?_
      clear hf; intro a ha hf; clear ha
      refine st_ldO (u := .int .u32 cx0_Two) hf (by decide) pl22 (wantY hf rfl rfl hb9) rfl (hp.ob (i := 0) rfl) rfl ?_
      clear hf; intro a ha hf; clear ha
      refine st_igeq hf (by decide) (wantY hf rfl rfl hb9) rfl rfl ?_
      clear hf; intro a ha hf; clear ha
      refine st_pick (v := .bool (decide ((1 : Int) ≤ cx0_Two))) hf rfl rfl (fun hb' => ?_) (fun hb' => ?_) (by decide) ?_
      · rfl
      · exact absurd (hb9.symm.trans hb') (by decide)
      clear hf; intro a ha hf; clear ha
      refine st_nil hf (th_n ?_)
      exact ⟨hf.sub ⟨rfl, rfl, (by rw [hb9]; rfl), trivial⟩, hp⟩
    refine st_skip hf (wantN hf rfl rfl hb9) rfl (by decide) ?_ rfl
    clear hf; intro a hf
    refine st_skip hf (wantN hf rfl rfl hb9) rfl (by decide) ?_ rfl
    clear hf; intro a hf
    refine st_skip hf (wantN hf rfl rfl hb9) rfl (by decide) ?_ rfl
    clear hf; intro a hf
    refine st_pick (v := .bool false) hf rfl rfl (fun hb' => ?_) (fun hb' => ?_) (by decide) ?_
    · exact absurd (hb9.symm.trans hb') (by decide)
    · rfl
    clear hf; intro a ha hf; clear ha
    refine st_nil hf (th_n ?_)
    exact ⟨hf.sub ⟨rfl, rfl, (by rw [hb9]; rfl), trivial⟩, hp⟩
  rintro a w ⟨hf, hp⟩
  refine st_move hf rfl rfl (by decide) ?_
  clear hf; intro a ha hf; clear ha
  refine wpList_cut 5 (fun a w => Fr 49 a [(1, optr v1 0), (3, .int .u32 (ishl .u32 (1 : Int) cx0_Length)), (34, .bool ((((decide ((1 : Int) ≤ cx0_One)) && (decide (cx0_One < (ishl .u32 (1 : Int) cx0_Length)))) && (decide ((1 : Int) ≤ cx0_Two))) && (decide (cx0_Two < (ishl .u32 (1 : Int) cx0_Length)))))] ∧ Hp S w0 w (Res.obj 24 v1 [.int .i64 cx0_Length, .int .u32 cx0_One, .int .u32 cx0_Two] :: ow)) ?_ ?_
  · rcases Bool.eq_false_or_eq_true (((decide ((1 : Int) ≤ cx0_One)) && (decide (cx0_One < (ishl .u32 (1 : Int) cx0_Length)))) && (decide ((1 : Int) ≤ cx0_Two))) with hb11 | hb11
    · skip
      refine st_fa (o' := 2) hf (by decide) (off := 2) (sz := 1) (by kernel_rfl) (by decide) (wantY hf rfl rfl hb11) rfl (hp.ob (i := 0) rfl) rfl ?_
      clear hf; intro a ha hf; clear ha
      refine st_ldO (u := .int .u32 cx0_Two) hf (by decide) pl22 (wantY hf rfl rfl hb11) rfl (hp.ob (i := 0) rfl) rfl ?_
      clear hf; intro a ha hf; clear ha
      refine st_move hf (wantY hf rfl rfl hb11) rfl (by decide) ?_
      clear hf; intro a ha hf; clear ha
      refine st_ilss hf (by decide) (wantY hf rfl rfl hb11) rfl rfl ?_
      clear hf; intro a ha hf; clear ha
      refine st_pick (v := .bool (decide (cx0_Two < (ishl .u32 (1 : Int) cx0_Length)))) hf rfl rfl (fun hb' => ?_) (fun hb' => ?_) (by decide) ?_
      · rfl
      · exact absurd (hb11.symm.trans hb') (by decide)
      clear hf; intro a ha hf; clear ha
      refine st_nil hf (th_n ?_)
      exact ⟨hf.sub ⟨rfl, rfl, (by rw [hb11]; rfl), trivial⟩, hp⟩
    refine st_skip hf (wantN hf rfl rfl hb11) rfl (by decide) ?_ rfl
    clear hf; intro a hf
    refine st_skip hf (wantN hf rfl rfl hb11) rfl (by decide) ?_ rfl
    clear hf; intro a hf
    refine st_skip hf (wantN hf rfl rfl hb11) rfl (by decide) ?_ rfl
    clear hf; intro a hf
    refine st_skip hf (wantN hf rfl rfl hb11) rfl (by decide) ?_ rfl
    clear hf; intro a hf
    refine st_pick (v := .bool false) hf rfl rfl (fun hb' => ?_) (fun hb' => ?_) (by decide) ?_
    · exact absurd (hb11.symm.trans hb') (by decide)
    · rfl
    clear hf; intro a ha hf; clear ha
    refine st_nil hf (th_n ?_)
    exact ⟨hf.sub ⟨rfl, rfl, (by rw [hb11]; rfl), trivial⟩, hp⟩
  rintro a w ⟨hf, hp⟩
  refine st_move hf rfl rfl (by decide) ?_
  clear hf; intro a ha hf; clear ha
  refine wpList_cut 13 (fun a w => Fr 49 a [(48, .bool (((((decide ((1 : Int) ≤ cx0_One)) && (decide (cx0_One < (ishl .u32 (1 : Int) cx0_Length)))) && (decide ((1 : Int) ≤ cx0_Two))) && (decide (cx0_Two < (ishl .u32 (1 : Int) cx0_Length)))) && ((decide ((IntKind.u32.wrap (((ishl .u32 (1 : Int) cx0_Length)).tdiv (2 : Int))) ≤ cx0_One)) || (decide ((IntKind.u32.wrap (((ishl .u32 (1 : Int) cx0_Length)).tdiv (2 : Int))) ≤ cx0_Two)))))] ∧ Hp S w0 w (Res.obj 24 v1 [.int .i64 cx0_Length, .int .u32 cx0_One, .int .u32 cx0_Two] :: ow)) ?_ ?_
  · rcases Bool.eq_false_or_eq_true ((((decide ((1 : Int) ≤ cx0_One)) && (decide (cx0_One < (ishl .u32 (1 : Int) cx0_Length)))) && (decide ((1 : Int) ≤ cx0_Two))) && (decide (cx0_Two < (ishl .u32 (1 : Int) cx0_Length)))) with hb13 | hb13
    · skip
      refine st_fa (o' := 1) hf (by decide) (off := 1) (sz := 1) (by kernel_rfl) (by decide) (wantY hf rfl rfl hb13) rfl (hp.ob (i := 0) rfl) rfl ?_
      clear hf; intro a ha hf; clear ha
      refine st_ldO (u := .int .u32 cx0_One) hf (by decide) pl22 (wantY hf rfl rfl hb13) rfl (hp.ob (i := 0) rfl) rfl ?_
      clear hf; intro a ha hf; clear ha
      refine st_move hf (wantY hf rfl rfl hb13) rfl (by decide) ?_
      clear hf; intro a ha hf; clear ha
      refine st_iquo hf (by decide) (wantY hf rfl rfl hb13) rfl rfl (by decide) ?_
      clear hf; intro a ha hf; clear ha
      refine st_igeq hf (by decide) (wantY hf rfl rfl hb13) rfl rfl ?_
      clear hf; intro a ha hf; clear ha
      refine st_move hf (wantY hf rfl rfl hb13) rfl (by decide) ?_
      clear hf; intro a ha hf; clear ha
      refine wpList_cut 6 (fun a w => Fr 49 a [(35, .bool ((((decide ((1 : Int) ≤ cx0_One)) && (decide (cx0_One < (ishl .u32 (1 : Int) cx0_Length)))) && (decide ((1 : Int) ≤ cx0_Two))) && (decide (cx0_Two < (ishl .u32 (1 : Int) cx0_Length))))), (47, .bool ((decide ((IntKind.u32.wrap (((ishl .u32 (1 : Int) cx0_Length)).tdiv (2 : Int))) ≤ cx0_One)) || (decide ((IntKind.u32.wrap (((ishl .u32 (1 : Int) cx0_Length)).tdiv (2 : Int))) ≤ cx0_Two))))] ∧ Hp S w0 w (Res.obj 24 v1 [.int .i64 cx0_Length, .int .u32 cx0_One, .int .u32 cx0_Two] :: ow)) ?_ ?_
      · rcases Bool.eq_false_or_eq_true (decide ((IntKind.u32.wrap (((ishl .u32 (1 : Int) cx0_Length)).tdiv (2 : Int))) ≤ cx0_One)) with hb15 | hb15
        · skip
          refine st_skip hf (wantN hf rfl rfl hb15) rfl (by decide) ?_ rfl
          clear hf; intro a hf
          refine st_skip hf (wantN hf rfl rfl hb15) rfl (by decide) ?_ rfl
          clear hf; intro a hf
          refine st_skip hf (wantN hf rfl rfl hb15) rfl (by decide) ?_ rfl
          clear hf; intro a hf
          refine st_skip hf (wantN hf rfl rfl hb15) rfl (by decide) ?_ rfl
          clear hf; intro a hf
          refine st_skip hf (wantN hf rfl rfl hb15) rfl (by decide) ?_ rfl
          clear hf; intro a hf
          refine st_pick (v := .bool true) hf (wantY hf rfl rfl hb13) rfl (fun hb' => ?_) (fun hb' => ?_) (by decide) ?_
          · rfl
          · exact absurd (hb15.symm.trans hb') (by decide)
          clear hf; intro a ha hf; clear ha
          refine st_nil hf (th_n ?_)
          exact ⟨hf.sub ⟨rfl, (by rw [hb15]; rfl), trivial⟩, hp⟩
        refine st_fa (o' := 2) hf (by decide) (off := 2) (sz := 1) (by kernel_rfl) (by decide) (wantY hf rfl rfl hb15) rfl (hp.ob (i := 0) rfl) rfl ?_
        clear hf; intro a ha hf; clear ha
        refine st_ldO (u := .int .u32 cx0_Two) hf (by decide) pl22 (wantY hf rfl rfl hb15) rfl (hp.ob (i := 0) rfl) rfl ?_
        clear hf; intro a ha hf; clear ha
        refine st_move hf (wantY hf rfl rfl hb15) rfl (by decide) ?_
        clear hf; intro a ha hf; clear ha
        refine st_iquo hf (by decide) (wantY hf rfl rfl hb15) rfl rfl (by decide) ?_
        clear hf; intro a ha hf; clear ha
        refine st_igeq hf (by decide) (wantY hf rfl rfl hb15) rfl rfl ?_
        clear hf; intro a ha hf; clear ha
        refine st_pick (v := .bool (decide ((IntKind.u32.wrap (((ishl .u32 (1 : Int) cx0_Length)).tdiv (2 : Int))) ≤ cx0_Two))) hf (wantY hf rfl rfl hb13) rfl (fun hb' => ?_) (fun hb' => ?_) (by decide) ?_
        · exact absurd (hb15.symm.trans hb') (by decide)
        · rfl
        clear hf; intro a ha hf; clear ha
        refine st_nil hf (th_n ?_)
        exact ⟨hf.sub ⟨rfl, (by rw [hb15]; rfl), trivial⟩, hp⟩
      rintro a w ⟨hf, hp⟩
      refine st_pick (v := .bool ((decide ((IntKind.u32.wrap (((ishl .u32 (1 : Int) cx0_Length)).tdiv (2 : Int))) ≤ cx0_One)) || (decide ((IntKind.u32.wrap (((ishl .u32 (1 : Int) cx0_Length)).tdiv (2 : Int))) ≤ cx0_Two)))) hf rfl rfl (fun hb' => ?_) (fun hb' => ?_) (by decide) ?_
      · rfl
      · exact absurd (hb13.symm.trans hb') (by decide)
      clear hf; intro a ha hf; clear ha
      refine st_nil hf (th_n ?_)
      exact ⟨hf.sub ⟨(by rw [hb13]; rfl), trivial⟩, hp⟩
    refine st_skip hf (wantN hf rfl rfl hb13) rfl (by decide) ?_ rfl
    clear hf; intro a hf
    refine st_skip hf (wantN hf rfl rfl hb13) rfl (by decide) ?_ rfl
    clear hf; intro a hf
    refine st_skip hf (wantN hf rfl rfl hb13) rfl (by decide) ?_ rfl
    clear hf; intro a hf
    refine st_skip hf (wantN hf rfl rfl hb13) rfl (by decide) ?_ rfl
    clear hf; intro a hf
    refine st_skip hf (wantN hf rfl rfl hb13) rfl (by decide) ?_ rfl
    clear hf; intro a hf
    refine st_skipU hf (wantN hf rfl rfl hb13) rfl (by decide) ?_
    clear hf; intro a hf
    refine st_skip hf (wantU hf rfl rfl) rfl (by decide) ?_ rfl
    clear hf; intro a hf
    refine st_skip hf (wantU hf rfl rfl) rfl (by decide) ?_ rfl
    clear hf; intro a hf
    refine st_skip hf (wantU hf rfl rfl) rfl (by decide) ?_ rfl
    clear hf; intro a hf
    refine st_skip hf (wantU hf rfl rfl) rfl (by decide) ?_ rfl
    clear hf; intro a hf
    refine st_skip hf (wantU hf rfl rfl) rfl (by decide) ?_ rfl
    clear hf; intro a hf
    refine st_skip hf (wantN hf rfl rfl hb13) rfl (by decide) ?_ rfl
    clear hf; intro a hf
    refine st_pick (v := .bool false) hf rfl rfl (fun hb' => ?_) (fun hb' => ?_) (by decide) ?_
    · exact absurd (hb13.symm.trans hb') (by decide)
    · rfl
    clear hf; intro a ha hf; clear ha
    refine st_nil hf (th_n ?_)
    exact ⟨hf.sub ⟨(by rw [hb13]; rfl), trivial⟩, hp⟩
  rintro a w ⟨hf, hp⟩
  refine st_assign hf rfl rfl (by decide) ?_
  clear hf; intro a ha hf; clear ha
  refine st_nil hf ?_
  refine th_n ?_
  refine wp_ret ?_
  obtain rfl := Option.some.inj h
  have hp : Hp _ _ _ (ow) := Hp.sel (pre := [Res.obj 24 v1 [.int .i64 cx0_Length, .int .u32 cx0_One, .int .u32 cx0_Two]]) (tail := ow) (rs' := []) hp [] (by decide) (by simp) rfl
  exact ⟨rfl, ⟨hf.sub ⟨rfl, trivial⟩, hp⟩⟩

noncomputable def f_foghornref21_whole.s1c (cx0_Length : Int) (all6 : (List Bool)) (i7 : Int) : Option (((List Bool) × Int) ⊕ (List Bool)) := (if (decide (i7 < cx0_Length)) = true then (if (all6.length + ([false]).length) * 1 ≤ 140737488355328 then (some (Sum.inl ((all6 ++ [false]), (IntKind.i64.wrap (i7 + (1 : Int)))))) else none) else (some (Sum.inr all6)))
noncomputable def f_foghornref21_whole.s1 (cx0_Length : Int) (s : ((List Bool) × Int)) : Option (((List Bool) × Int) ⊕ (List Bool)) := f_foghornref21_whole.s1c cx0_Length s.1 s.2
noncomputable def f_foghornref21_whole (cx0_Length : Int) (cx0_One : Int) (cx0_Two : Int) (bits1 : (List Bool)) : Option ((List Bool) × Bool) := (if ((decide ((32768 : Int) < (bits1.length : Int))) || (decide ((32768 : Int) < (IntKind.i64.wrap ((2 : Int) * (IntKind.i64.wrap ((IntKind.i64.wrap ((bits1.length : Int) + cx0_Length)) - (1 : Int)))))))) = true then (some ([], false)) else (if (([] : List Bool).length + bits1.length) * 1 ≤ 140737488355328 then ((loop (f_foghornref21_whole.s1 cx0_Length) ((([] : List Bool) ++ bits1), (1 : Int))).bind (fun q18 => (some (q18, true)))) else none))
theorem f_foghornref21_whole_c {S : Nat → Prop} {w0 w : World} {ow : List Res} (hp : Hp S w0 w ow) (cx0_Length : Int) (cx0_One : Int) (cx0_Two : Int) (vbits1 : Value) (bits1 : (List Bool)) (hbits1 : RdS Ek.bool S w0 vbits1 bits1) {r : ((List Bool) × Bool)} (h : f_foghornref21_whole cx0_Length cx0_One cx0_Two bits1 = some r) :
    Calls Try.prog 57 #[.agg #[.int .i64 cx0_Length, .int .u32 cx0_One, .int .u32 cx0_Two], vbits1] w (fun e w' => ∃ (u0 : Value), e = .returned (.tuple #[u0, .bool r.2]) ∧ Hp S w0 w' (Res.sl Ek.bool 4 u0 r.1 :: ow)) := by
  unfold f_foghornref21_whole at h
  refine enter (n := 34) (args := [.agg #[.int .i64 cx0_Length, .int .u32 cx0_One, .int .u32 cx0_Two], vbits1]) Try.func57 rfl rfl (Nat.le_of_ble_eq_true rfl) fun a hf => ?_
  replace hf : Fr 34 a [(0, .agg #[.int .i64 cx0_Length, .int .u32 cx0_One, .int .u32 cx0_Two]), (1, vbits1)] := hf
  refine wp_mono (Q := fun e a w => e = .ret ∧ ∃ (u0 : Value), Fr 34 a [(4, u0), (5, .bool r.2)] ∧ Hp S w0 w (Res.sl Ek.bool 4 u0 r.1 :: ow)) ?_ ?_
  rotate_left
  · rintro e a w ⟨rfl, x0, hf, hp⟩
    exact ret2 hf rfl rfl rfl ⟨x0, rfl, hp⟩
  refine wp_seq ?_
  refine wp_reg ?_
  refine st_boxO (cs := [.int .i64 cx0_Length, .int .u32 cx0_One, .int .u32 cx0_Two]) hf (by decide) hp rfl rfl rfl ?_
  clear hf; intro a w v1 hf hp0; clear hp; have hp := hp0; clear hp0
  replace hp : Hp _ _ _ (Res.obj 24 v1 [.int .i64 cx0_Length, .int .u32 cx0_One, .int .u32 cx0_Two] :: ow) := hp
  refine st_assign hf rfl rfl (by decide) ?_
  clear hf; intro a ha hf; clear ha
  refine st_assign hf rfl rfl (by decide) ?_
  clear hf; intro a ha hf; clear ha
  refine st_nil hf ?_
  refine th_n ?_
  refine wp_seq ?_
  refine wp_seq ?_
  refine wp_reg ?_
  refine st_move hf rfl rfl (by decide) ?_
  clear hf; intro a ha hf; clear ha
  refine st_len (E := Ek.bool) hf (by decide) Try.underlying25 rfl rfl (hbits1.sl hp) ?_
  clear hf; intro a ha hf; clear ha
  refine st_igtr hf (by decide) rfl rfl rfl ?_
  clear hf; intro a ha hf; clear ha
  refine st_move hf rfl rfl (by decide) ?_
  clear hf; intro a ha hf; clear ha
  refine wpList_cut 9 (fun a w => Fr 34 a [(1, vbits1), (2, optr v1 0), (20, .bool ((decide ((32768 : Int) < (bits1.length : Int))) || (decide ((32768 : Int) < (IntKind.i64.wrap ((2 : Int) * (IntKind.i64.wrap ((IntKind.i64.wrap ((bits1.length : Int) + cx0_Length)) - (1 : Int)))))))))] ∧ Hp S w0 w (Res.obj 24 v1 [.int .i64 cx0_Length, .int .u32 cx0_One, .int .u32 cx0_Two] :: ow)) ?_ ?_
  · rcases Bool.eq_false_or_eq_true (decide ((32768 : Int) < (bits1.length : Int))) with hb4 | hb4
    · skip
      refine st_skip hf (wantN hf rfl rfl hb4) rfl (by decide) ?_ rfl
      clear hf; intro a hf
      refine st_skip hf (wantN hf rfl rfl hb4) rfl (by decide) ?_ rfl
      clear hf; intro a hf
      refine st_skip hf (wantN hf rfl rfl hb4) rfl (by decide) ?_ rfl
      clear hf; intro a hf
      refine st_skip hf (wantN hf rfl rfl hb4) rfl (by decide) ?_ rfl
      clear hf; intro a hf
      refine st_skip hf (wantN hf rfl rfl hb4) rfl (by decide) ?_ rfl
      clear hf; intro a hf
      refine st_skip hf (wantN hf rfl rfl hb4) rfl (by decide) ?_ rfl
      clear hf; intro a hf
      refine st_skip hf (wantN hf rfl rfl hb4) rfl (by decide) ?_ rfl
      clear hf; intro a hf
      refine st_skip hf (wantN hf rfl rfl hb4) rfl (by decide) ?_ rfl
      clear hf; intro a hf
      refine st_pick (v := .bool true) hf rfl rfl (fun hb' => ?_) (fun hb' => ?_) (by decide) ?_
      · rfl
      · exact absurd (hb4.symm.trans hb') (by decide)
      clear hf; intro a ha hf; clear ha
      refine st_nil hf (th_n ?_)
      exact ⟨hf.sub ⟨rfl, rfl, (by rw [hb4]; rfl), trivial⟩, hp⟩
    refine st_move hf (wantY hf rfl rfl hb4) rfl (by decide) ?_
    clear hf; intro a ha hf; clear ha
    refine st_len (E := Ek.bool) hf (by decide) Try.underlying25 (wantY hf rfl rfl hb4) rfl (hbits1.sl hp) ?_
    clear hf; intro a ha hf; clear ha
    refine st_fa (o' := 0) hf (by decide) (off := 0) (sz := 1) (by kernel_rfl) (by decide) (wantY hf rfl rfl hb4) rfl (hp.ob (i := 0) rfl) rfl ?_
    clear hf; intro a ha hf; clear ha
    refine st_ldO (u := .int .i64 cx0_Length) hf (by decide) pl3 (wantY hf rfl rfl hb4) rfl (hp.ob (i := 0) rfl) rfl ?_
    clear hf; intro a ha hf; clear ha
    refine st_iadd hf (by decide) (wantY hf rfl rfl hb4) rfl rfl ?_
    clear hf; intro a ha hf; clear ha
    refine st_isub hf (by decide) (wantY hf rfl rfl hb4) rfl rfl ?_
    clear hf; intro a ha hf; clear ha
    refine st_imul hf (by decide) (wantY hf rfl rfl hb4) rfl rfl ?_
    clear hf; intro a ha hf; clear ha
    refine st_igtr hf (by decide) (wantY hf rfl rfl hb4) rfl rfl ?_
    clear hf; intro a ha hf; clear ha
    refine st_pick (v := .bool (decide ((32768 : Int) < (IntKind.i64.wrap ((2 : Int) * (IntKind.i64.wrap ((IntKind.i64.wrap ((bits1.length : Int) + cx0_Length)) - (1 : Int)))))))) hf rfl rfl (fun hb' => ?_) (fun hb' => ?_) (by decide) ?_
    · exact absurd (hb4.symm.trans hb') (by decide)
    · rfl
    clear hf; intro a ha hf; clear ha
    refine st_nil hf (th_n ?_)
    exact ⟨hf.sub ⟨rfl, rfl, (by rw [hb4]; rfl), trivial⟩, hp⟩
  rintro a w ⟨hf, hp⟩
  refine st_nil hf ?_
  refine th_n ?_
  refine wp_if hf rfl (fun hb => ?_) (fun hb => ?_)
  · replace h := ifT h hb
    refine wp_seq ?_
    refine wp_reg ?_
    refine st_assign hf rfl rfl (by decide) ?_
    clear hf; intro a ha hf; clear ha
    refine st_assign hf rfl rfl (by decide) ?_
    clear hf; intro a ha hf; clear ha
    refine st_nil hf ?_
    refine th_n ?_
    refine wp_ret ?_
    refine th_r ?_
    obtain rfl := Option.some.inj h
    have hp := hp.nil Ek.bool 4
    have hp : Hp _ _ _ (Res.sl Ek.bool 4 (.slice none 0 0) ([]) :: ow) := Hp.sel (pre := [Res.sl Ek.bool 4 (.slice none 0 0) ([]), Res.obj 24 v1 [.int .i64 cx0_Length, .int .u32 cx0_One, .int .u32 cx0_Two]]) (tail := ow) (rs' := [Res.sl Ek.bool 4 (.slice none 0 0) ([])]) hp [0] (by decide) (by simp) rfl
    exact ⟨rfl, ⟨_, hf.sub ⟨rfl, rfl, trivial⟩, hp⟩⟩
  replace h := ifF h hb
  refine wp_skip ?_
  refine th_n ?_
  refine wp_seq ?_
  refine wp_reg ?_
  refine st_build0 (E := Ek.bool) hf (by decide) elt4 Try.underlying25 hp rfl ?_
  clear hf; intro a w v6 hf hp0; clear hp; have hp := hp0; clear hp0
  replace hp : Hp _ _ _ (Res.sl Ek.bool 4 v6 ([] : List Bool) :: Res.obj 24 v1 [.int .i64 cx0_Length, .int .u32 cx0_One, .int .u32 cx0_Two] :: ow) := hp
  refine st_move hf rfl rfl (by decide) ?_
  clear hf; intro a ha hf; clear ha
  obtain ⟨hc8, h⟩ := chk h
  refine st_append (E := Ek.bool) hf (by decide) elt4 Try.underlying25 (by decide) hp (i := 0) rfl rfl rfl rfl (hbits1.sl hp) hc8 ?_
  clear hf; intro a w v9 hf hp0; clear hp; have hp := hp0; clear hp0
  replace hp : Hp _ _ _ (Res.sl Ek.bool 4 v9 (([] : List Bool) ++ bits1) :: Res.obj 24 v1 [.int .i64 cx0_Length, .int .u32 cx0_One, .int .u32 cx0_Two] :: ow) := hp
  refine st_assign hf rfl rfl (by decide) ?_
  clear hf; intro a ha hf; clear ha
  refine st_nil hf ?_
  refine th_n ?_
  refine wp_seq ?_
  refine wp_seq ?_
  refine wp_reg ?_
  refine st_assign hf rfl rfl (by decide) ?_
  clear hf; intro a ha hf; clear ha
  refine st_nil hf ?_
  refine th_n ?_
  refine wp_block ?_
  obtain ⟨q18, hl, h⟩ := bnd h
  refine wp_loop_pure (f := (f_foghornref21_whole.s1 cx0_Length)) (s := ((([] : List Bool) ++ bits1), (1 : Int))) (fun s a w => ∃ (v10 : Value), Fr 34 a [(2, optr v1 0), (6, v10), (7, .int .i64 s.2)] ∧ Hp S w0 w (Res.sl Ek.bool 4 v10 s.1 :: Res.obj 24 v1 [.int .i64 cx0_Length, .int .u32 cx0_One, .int .u32 cx0_Two] :: ow)) (fun q e a w => e = .exit 0 ∧ ∃ (v12 : Value), Fr 34 a [(6, v12)] ∧ Hp S w0 w (Res.sl Ek.bool 4 v12 q :: ow)) ?_ hl ⟨_, hf.sub ⟨rfl, rfl, rfl, trivial⟩, hp⟩ ?_
  · clear hl hf hp
    intro s x a w h hI
    obtain ⟨all6, i7⟩ := s
    obtain ⟨v10, hf, hp⟩ : ∃ (v10 : Value), Fr 34 a [(2, optr v1 0), (6, v10), (7, .int .i64 i7)] ∧ Hp S w0 w (Res.sl Ek.bool 4 v10 all6 :: Res.obj 24 v1 [.int .i64 cx0_Length, .int .u32 cx0_One, .int .u32 cx0_Two] :: ow) := hI
    replace h : f_foghornref21_whole.s1c cx0_Length all6 i7 = some x := h
    unfold f_foghornref21_whole.s1c at h
    refine wp_seq ?_
    refine wp_seq ?_
    refine wp_reg ?_
    refine st_move hf rfl rfl (by decide) ?_
    clear hf; intro a ha hf; clear ha
    refine st_fa (o' := 0) hf (by decide) (off := 0) (sz := 1) (by kernel_rfl) (by decide) rfl rfl (hp.ob (i := 1) rfl) rfl ?_
    clear hf; intro a ha hf; clear ha
    refine st_ldO (u := .int .i64 cx0_Length) hf (by decide) pl3 rfl rfl (hp.ob (i := 1) rfl) rfl ?_
    clear hf; intro a ha hf; clear ha
    refine st_ilss hf (by decide) rfl rfl rfl ?_
    clear hf; intro a ha hf; clear ha
    refine st_nil hf ?_
    refine th_n ?_
    refine wp_if hf rfl (fun hb => ?_) (fun hb => ?_)
    · replace h := ifT h hb
      refine wp_skip ?_
      refine th_n ?_
      refine wp_seq ?_
      refine wp_block ?_
      refine wp_reg ?_
      refine st_move hf rfl rfl (by decide) ?_
      clear hf; intro a ha hf; clear ha
      refine st_build (E := Ek.bool) (xs := [false]) hf (by decide) elt4 Try.underlying25 hp (vals := #[(0, .bool false)]) (cells := #[.bool false]) rfl (by simp [hf.ev (x := (Operand.const (.bool false))) rfl]) (by decide) (by decide) (z := .bool false) (by kernel_rfl) (by kernel_rfl) rfl (reps_cons (cs := [.bool false]) rfl (reps_nil _)) ?_
      clear hf; intro a w v14 hf hp0; clear hp; have hp := hp0; clear hp0
      replace hp : Hp _ _ _ (Res.sl Ek.bool 4 v14 ([false]) :: Res.sl Ek.bool 4 v10 all6 :: Res.obj 24 v1 [.int .i64 cx0_Length, .int .u32 cx0_One, .int .u32 cx0_Two] :: ow) := hp
      obtain ⟨hc16, h⟩ := chk h
      refine st_append (E := Ek.bool) hf (by decide) elt4 Try.underlying25 (by decide) hp (i := 1) rfl rfl rfl rfl (hp.sl (i := 0) rfl) hc16 ?_
      clear hf; intro a w v17 hf hp0; clear hp; have hp := hp0; clear hp0
      replace hp : Hp _ _ _ (Res.sl Ek.bool 4 v14 ([false]) :: Res.sl Ek.bool 4 v17 (all6 ++ [false]) :: Res.obj 24 v1 [.int .i64 cx0_Length, .int .u32 cx0_One, .int .u32 cx0_Two] :: ow) := hp
      refine st_assign hf rfl rfl (by decide) ?_
      clear hf; intro a ha hf; clear ha
      refine st_nil hf ?_
      refine ib_n ?_
      refine th_n ?_
      refine wp_reg ?_
      refine st_move hf rfl rfl (by decide) ?_
      clear hf; intro a ha hf; clear ha
      refine st_iadd hf (by decide) rfl rfl rfl ?_
      clear hf; intro a ha hf; clear ha
      refine st_assign hf rfl rfl (by decide) ?_
      clear hf; intro a ha hf; clear ha
      refine st_nil hf ?_
      obtain rfl := Option.some.inj h
      have hp : Hp _ _ _ (Res.sl Ek.bool 4 v17 (all6 ++ [false]) :: Res.obj 24 v1 [.int .i64 cx0_Length, .int .u32 cx0_One, .int .u32 cx0_Two] :: ow) := Hp.sel (pre := [Res.sl Ek.bool 4 v14 ([false]), Res.sl Ek.bool 4 v17 (all6 ++ [false]), Res.obj 24 v1 [.int .i64 cx0_Length, .int .u32 cx0_One, .int .u32 cx0_Two]]) (tail := ow) (rs' := [Res.sl Ek.bool 4 v17 (all6 ++ [false]), Res.obj 24 v1 [.int .i64 cx0_Length, .int .u32 cx0_One, .int .u32 cx0_Two]]) hp [1, 2] (by decide) (by simp) rfl
      exact rnd_l ⟨_, hf.sub ⟨rfl, rfl, rfl, trivial⟩, hp⟩
    replace h := ifF h hb
    refine wp_exit ?_
    refine th_e ?_
    obtain rfl := Option.some.inj h
    have hp : Hp _ _ _ (Res.sl Ek.bool 4 v10 all6 :: ow) := Hp.sel (pre := [Res.sl Ek.bool 4 v10 all6, Res.obj 24 v1 [.int .i64 cx0_Length, .int .u32 cx0_One, .int .u32 cx0_Two]]) (tail := ow) (rs' := [Res.sl Ek.bool 4 v10 all6]) hp [0] (by decide) (by simp) rfl
    exact rnd_r (by simp) ⟨rfl, _, hf.sub ⟨rfl, trivial⟩, hp⟩
  clear hl hf hp
  intro e a w hne hO
  obtain ⟨rfl, v12, hf, hp⟩ := hO
  refine ib_same ?_
  refine th_n ?_
  refine wp_seq ?_
  refine wp_reg ?_
  refine st_move hf rfl rfl (by decide) ?_
  clear hf; intro a ha hf; clear ha
  refine st_assign hf rfl rfl (by decide) ?_
  clear hf; intro a ha hf; clear ha
  refine st_assign hf rfl rfl (by decide) ?_
  clear hf; intro a ha hf; clear ha
  refine st_nil hf ?_
  refine th_n ?_
  refine wp_ret ?_
  obtain rfl := Option.some.inj h
  exact ⟨rfl, ⟨_, hf.sub ⟨rfl, rfl, trivial⟩, hp⟩⟩

noncomputable def f_foghornref21_odd.s1c (ax0 : Int) (bx1 : Int) (is5 : Bool) (i6 : Int) : Option ((Bool × Int) ⊕ Bool) := (if (decide (i6 < (32 : Int))) = true then (if 0 ≤ i6 then ((if ((iand .u32 (ishr .u32 ax0 i6) (1 : Int)) == (1 : Int)) = true then (if 0 ≤ i6 then (some ((iand .u32 (ishr .u32 bx1 i6) (1 : Int)) == (1 : Int))) else none) else (some false)).bind fun z4 => (if z4 = true then (some (Sum.inl ((!is5), (IntKind.i64.wrap (i6 + (1 : Int)))))) else (some (Sum.inl (is5, (IntKind.i64.wrap (i6 + (1 : Int)))))))) else none) else (some (Sum.inr is5)))
noncomputable def f_foghornref21_odd.s1 (ax0 : Int) (bx1 : Int) (s : (Bool × Int)) : Option ((Bool × Int) ⊕ Bool) := f_foghornref21_odd.s1c ax0 bx1 s.1 s.2
noncomputable def f_foghornref21_odd (ax0 : Int) (bx1 : Int) : Option Bool := ((loop (f_foghornref21_odd.s1 ax0 bx1) (false, (0 : Int))).bind (fun q6 => (some q6)))
theorem f_foghornref21_odd_c {S : Nat → Prop} {w0 w : World} {ow : List Res} (hp : Hp S w0 w ow) (ax0 : Int) (bx1 : Int) {r : Bool} (h : f_foghornref21_odd ax0 bx1 = some r) :
    Calls Try.prog 60 #[.int .u32 ax0, .int .u32 bx1] w (fun e w' => e = .returned (.bool r) ∧ Hp S w0 w' (ow)) := by
  unfold f_foghornref21_odd at h
  refine enter (n := 26) (args := [.int .u32 ax0, .int .u32 bx1]) Try.func60 rfl rfl (Nat.le_of_ble_eq_true rfl) fun a hf => ?_
  replace hf : Fr 26 a [(0, .int .u32 ax0), (1, .int .u32 bx1)] := hf
  refine wp_mono (Q := fun e a w => e = .ret ∧ Fr 26 a [(4, .bool r)] ∧ Hp S w0 w (ow)) ?_ ?_
  rotate_left
  · rintro e a w ⟨rfl, hf, hp⟩
    exact ret1 hf rfl rfl ⟨rfl, hp⟩
  refine wp_seq ?_
  refine wp_reg ?_
  refine st_assign hf rfl rfl (by decide) ?_
  clear hf; intro a ha hf; clear ha
  refine st_nil hf ?_
  refine th_n ?_
  refine wp_seq ?_
  refine wp_reg ?_
  refine st_assign hf rfl rfl (by decide) ?_
  clear hf; intro a ha hf; clear ha
  refine st_nil hf ?_
  refine th_n ?_
  refine wp_seq ?_
  refine wp_seq ?_
  refine wp_reg ?_
  refine st_assign hf rfl rfl (by decide) ?_
  clear hf; intro a ha hf; clear ha
  refine st_nil hf ?_
  refine th_n ?_
  refine wp_block ?_
  obtain ⟨q6, hl, h⟩ := bnd h
  refine wp_loop_pure (f := (f_foghornref21_odd.s1 ax0 bx1)) (s := (false, (0 : Int))) (fun s a w => Fr 26 a [(0, .int .u32 ax0), (1, .int .u32 bx1), (5, .bool s.1), (6, .int .i64 s.2)] ∧ Hp S w0 w (ow)) (fun q e a w => e = .exit 0 ∧ Fr 26 a [(5, .bool q)] ∧ Hp S w0 w (ow)) ?_ hl ⟨hf.sub ⟨rfl, rfl, rfl, rfl, trivial⟩, hp⟩ ?_
  · clear hl hf hp
    intro s x a w h hI
    obtain ⟨is5, i6⟩ := s
    obtain ⟨hf, hp⟩ : Fr 26 a [(0, .int .u32 ax0), (1, .int .u32 bx1), (5, .bool is5), (6, .int .i64 i6)] ∧ Hp S w0 w (ow) := hI
    replace h : f_foghornref21_odd.s1c ax0 bx1 is5 i6 = some x := h
    unfold f_foghornref21_odd.s1c at h
    refine wp_seq ?_
    refine wp_seq ?_
    refine wp_reg ?_
    refine st_move hf rfl rfl (by decide) ?_
    clear hf; intro a ha hf; clear ha
    refine st_ilss hf (by decide) rfl rfl rfl ?_
    clear hf; intro a ha hf; clear ha
    refine st_nil hf ?_
    refine th_n ?_
    refine wp_if hf rfl (fun hb => ?_) (fun hb => ?_)
    · replace h := ifT h hb
      refine wp_skip ?_
      refine th_n ?_
      refine wp_seq ?_
      refine wp_block ?_
      refine wp_seq ?_
      refine wp_reg ?_
      refine st_move hf rfl rfl (by decide) ?_
      clear hf; intro a ha hf; clear ha
      refine st_move hf rfl rfl (by decide) ?_
      clear hf; intro a ha hf; clear ha
      obtain ⟨hc1, h⟩ := chk h
      refine st_ishr hf (by decide) rfl rfl rfl hc1 ?_
      clear hf; intro a ha hf; clear ha
      refine st_iand hf (by decide) rfl rfl rfl ?_
      clear hf; intro a ha hf; clear ha
      refine st_ieql hf (by decide) rfl rfl rfl ?_
      clear hf; intro a ha hf; clear ha
      refine st_move hf rfl rfl (by decide) ?_
      clear hf; intro a ha hf; clear ha
      obtain ⟨z4, hz2, h⟩ := bnd h
      refine wpList_cut 6 (fun a w => Fr 26 a [(0, .int .u32 ax0), (1, .int .u32 bx1), (5, .bool is5), (6, .int .i64 i6), (22, .bool z4)] ∧ Hp S w0 w (ow)) ?_ ?_
      · rcases Bool.eq_false_or_eq_true ((iand .u32 (ishr .u32 ax0 i6) (1 : Int)) == (1 : Int)) with hb3 | hb3
        · skip
          replace hz2 := ifT hz2 hb3
          refine st_move hf (wantY hf rfl rfl hb3) rfl (by decide) ?_
          clear hf; intro a ha hf; clear ha
          refine st_move hf (wantY hf rfl rfl hb3) rfl (by decide) ?_
          clear hf; intro a ha hf; clear ha
          obtain ⟨hc5, hz2⟩ := chk hz2
          refine st_ishr hf (by decide) (wantY hf rfl rfl hb3) rfl rfl hc5 ?_
          clear hf; intro a ha hf; clear ha
          refine st_iand hf (by decide) (wantY hf rfl rfl hb3) rfl rfl ?_
          clear hf; intro a ha hf; clear ha
          refine st_ieql hf (by decide) (wantY hf rfl rfl hb3) rfl rfl ?_
          clear hf; intro a ha hf; clear ha
          obtain rfl := Option.some.inj hz2
          refine st_pick (v := .bool ((iand .u32 (ishr .u32 bx1 i6) (1 : Int)) == (1 : Int))) hf rfl rfl (fun hb' => ?_) (fun hb' => ?_) (by decide) ?_
          · rfl
          · exact absurd (hb3.symm.trans hb') (by decide)
          clear hf; intro a ha hf; clear ha
          refine st_nil hf (th_n ?_)
          exact ⟨hf.sub ⟨rfl, rfl, rfl, rfl, rfl, trivial⟩, hp⟩
        replace hz2 := ifF hz2 hb3
        refine st_skip hf (wantN hf rfl rfl hb3) rfl (by decide) ?_ rfl
        clear hf; intro a hf
        refine st_skip hf (wantN hf rfl rfl hb3) rfl (by decide) ?_ rfl
        clear hf; intro a hf
        refine st_skip hf (wantN hf rfl rfl hb3) rfl (by decide) ?_ rfl
        clear hf; intro a hf
        refine st_skip hf (wantN hf rfl rfl hb3) rfl (by decide) ?_ rfl
        clear hf; intro a hf
        refine st_skip hf (wantN hf rfl rfl hb3) rfl (by decide) ?_ rfl
        clear hf; intro a hf
        obtain rfl := Option.some.inj hz2
        refine st_pick (v := .bool false) hf rfl rfl (fun hb' => ?_) (fun hb' => ?_) (by decide) ?_
        · exact absurd (hb3.symm.trans hb') (by decide)
        · rfl
        clear hf; intro a ha hf; clear ha
        refine st_nil hf (th_n ?_)
        exact ⟨hf.sub ⟨rfl, rfl, rfl, rfl, rfl, trivial⟩, hp⟩
      rintro a w ⟨hf, hp⟩
      refine st_nil hf ?_
      refine th_n ?_
      refine wp_if hf rfl (fun hb => ?_) (fun hb => ?_)
      · replace h := ifT h hb
        refine wp_reg ?_
        refine st_move hf rfl rfl (by decide) ?_
        clear hf; intro a ha hf; clear ha
        refine st_not hf (by decide) rfl rfl ?_
        clear hf; intro a ha hf; clear ha
        refine st_assign hf rfl rfl (by decide) ?_
        clear hf; intro a ha hf; clear ha
        refine st_nil hf ?_
        refine ib_n ?_
        refine th_n ?_
        refine wp_reg ?_
        refine st_move hf rfl rfl (by decide) ?_
        clear hf; intro a ha hf; clear ha
        refine st_iadd hf (by decide) rfl rfl rfl ?_
        clear hf; intro a ha hf; clear ha
        refine st_assign hf rfl rfl (by decide) ?_
        clear hf; intro a ha hf; clear ha
        refine st_nil hf ?_
        obtain rfl := Option.some.inj h
        exact rnd_l ⟨hf.sub ⟨rfl, rfl, rfl, rfl, trivial⟩, hp⟩
      replace h := ifF h hb
      refine wp_skip ?_
      refine ib_n ?_
      refine th_n ?_
      refine wp_reg ?_
      refine st_move hf rfl rfl (by decide) ?_
      clear hf; intro a ha hf; clear ha
      refine st_iadd hf (by decide) rfl rfl rfl ?_
      clear hf; intro a ha hf; clear ha
      refine st_assign hf rfl rfl (by decide) ?_
      clear hf; intro a ha hf; clear ha
      refine st_nil hf ?_
      obtain rfl := Option.some.inj h
      exact rnd_l ⟨hf.sub ⟨rfl, rfl, rfl, rfl, trivial⟩, hp⟩
    replace h := ifF h hb
    refine wp_exit ?_
    refine th_e ?_
    obtain rfl := Option.some.inj h
    exact rnd_r (by simp) ⟨rfl, hf.sub ⟨rfl, trivial⟩, hp⟩
  clear hl hf hp
  intro e a w hne hO
  obtain ⟨rfl, hf, hp⟩ := hO
  refine ib_same ?_
  refine th_n ?_
  refine wp_seq ?_
  refine wp_reg ?_
  refine st_move hf rfl rfl (by decide) ?_
  clear hf; intro a ha hf; clear ha
  refine st_assign hf rfl rfl (by decide) ?_
  clear hf; intro a ha hf; clear ha
  refine st_nil hf ?_
  refine th_n ?_
  refine wp_ret ?_
  obtain rfl := Option.some.inj h
  exact ⟨rfl, ⟨hf.sub ⟨rfl, trivial⟩, hp⟩⟩

noncomputable def f_foghornref21_Go.j1 (cx0_One : Int) (cx0_Two : Int) (all9 : Int) : Option (Int × Bool × Bool) := ((f_foghornref21_odd all9 cx0_One).bind fun q9 => ((f_foghornref21_odd all9 cx0_Two).bind fun q11 => (some ((IntKind.i64.wrap (IntKind.u32.wrap ((all9).tdiv (2 : Int)))), q9, q11))))
noncomputable def f_foghornref21_Go (cx0_Length : Int) (cx0_One : Int) (cx0_Two : Int) (state1 : Int) (bit2 : Bool) : Option (Int × Bool × Bool) := (if bit2 = true then (if 0 ≤ (IntKind.i64.wrap (cx0_Length - (1 : Int))) then (f_foghornref21_Go.j1 cx0_One cx0_Two (IntKind.u32.wrap ((IntKind.u32.wrap state1) + (ishl .u32 (1 : Int) (IntKind.i64.wrap (cx0_Length - (1 : Int))))))) else none) else (f_foghornref21_Go.j1 cx0_One cx0_Two (IntKind.u32.wrap state1)))
theorem f_foghornref21_Go_c {S : Nat → Prop} {w0 w : World} {ow : List Res} (hp : Hp S w0 w ow) (cx0_Length : Int) (cx0_One : Int) (cx0_Two : Int) (state1 : Int) (bit2 : Bool) {r : (Int × Bool × Bool)} (h : f_foghornref21_Go cx0_Length cx0_One cx0_Two state1 bit2 = some r) :
    Calls Try.prog 43 #[.agg #[.int .i64 cx0_Length, .int .u32 cx0_One, .int .u32 cx0_Two], .int .i64 state1, .bool bit2] w (fun e w' => e = .returned (.tuple #[.int .i64 r.1, .bool r.2.1, .bool r.2.2]) ∧ Hp S w0 w' (ow)) := by
  unfold f_foghornref21_Go at h
  refine enter (n := 30) (args := [.agg #[.int .i64 cx0_Length, .int .u32 cx0_One, .int .u32 cx0_Two], .int .i64 state1, .bool bit2]) Try.func43 rfl rfl (Nat.le_of_ble_eq_true rfl) fun a hf => ?_
  replace hf : Fr 30 a [(0, .agg #[.int .i64 cx0_Length, .int .u32 cx0_One, .int .u32 cx0_Two]), (1, .int .i64 state1), (2, .bool bit2)] := hf
  refine wp_mono (Q := fun e a w => e = .ret ∧ Fr 30 a [(6, .int .i64 r.1), (7, .bool r.2.1), (8, .bool r.2.2)] ∧ Hp S w0 w (ow)) ?_ ?_
  rotate_left
  · rintro e a w ⟨rfl, hf, hp⟩
    exact ret3 hf rfl rfl rfl rfl ⟨rfl, hp⟩
  refine wp_seq ?_
  refine wp_reg ?_
  refine st_boxO (cs := [.int .i64 cx0_Length, .int .u32 cx0_One, .int .u32 cx0_Two]) hf (by decide) hp rfl rfl rfl ?_
  clear hf; intro a w v1 hf hp0; clear hp; have hp := hp0; clear hp0
  replace hp : Hp _ _ _ (Res.obj 24 v1 [.int .i64 cx0_Length, .int .u32 cx0_One, .int .u32 cx0_Two] :: ow) := hp
  refine st_assign hf rfl rfl (by decide) ?_
  clear hf; intro a ha hf; clear ha
  refine st_assign hf rfl rfl (by decide) ?_
  clear hf; intro a ha hf; clear ha
  refine st_assign hf rfl rfl (by decide) ?_
  clear hf; intro a ha hf; clear ha
  refine st_nil hf ?_
  refine th_n ?_
  refine wp_seq ?_
  refine wp_reg ?_
  refine st_move hf rfl rfl (by decide) ?_
  clear hf; intro a ha hf; clear ha
  refine st_conv_ii hf (by decide) (by rw [Try.underlying3]; rfl) Try.underlying22 rfl rfl ?_
  clear hf; intro a ha hf; clear ha
  refine st_assign hf rfl rfl (by decide) ?_
  clear hf; intro a ha hf; clear ha
  refine st_nil hf ?_
  refine th_n ?_
  refine wp_seq_cut (fun a w => ∃ (all9 : Int), f_foghornref21_Go.j1 cx0_One cx0_Two all9 = some r ∧ Fr 30 a [(3, optr v1 0), (9, .int .u32 all9)] ∧ Hp S w0 w (Res.obj 24 v1 [.int .i64 cx0_Length, .int .u32 cx0_One, .int .u32 cx0_Two] :: ow)) ?_ ?_
  · skip
    refine wp_seq ?_
    refine wp_reg ?_
    refine st_move hf rfl rfl (by decide) ?_
    clear hf; intro a ha hf; clear ha
    refine st_nil hf ?_
    refine th_n ?_
    refine wp_if hf rfl (fun hb => ?_) (fun hb => ?_)
    · replace h := ifT h hb
      refine wp_reg ?_
      refine st_move hf rfl rfl (by decide) ?_
      clear hf; intro a ha hf; clear ha
      refine st_fa (o' := 0) hf (by decide) (off := 0) (sz := 1) (by kernel_rfl) (by decide) rfl rfl (hp.ob (i := 0) rfl) rfl ?_
      clear hf; intro a ha hf; clear ha
      refine st_ldO (u := .int .i64 cx0_Length) hf (by decide) pl3 rfl rfl (hp.ob (i := 0) rfl) rfl ?_
      clear hf; intro a ha hf; clear ha
      refine st_isub hf (by decide) rfl rfl rfl ?_
      clear hf; intro a ha hf; clear ha
      obtain ⟨hc13, h⟩ := chk h
      refine st_ishl hf (by decide) rfl rfl rfl hc13 ?_
      clear hf; intro a ha hf; clear ha
      refine st_iadd hf (by decide) rfl rfl rfl ?_
      clear hf; intro a ha hf; clear ha
      refine st_assign hf rfl rfl (by decide) ?_
      clear hf; intro a ha hf; clear ha
      refine st_nil hf ?_
      refine th_n ?_
      exact ⟨_, h, hf.sub ⟨rfl, rfl, trivial⟩, hp⟩
    replace h := ifF h hb
    refine wp_skip ?_
    refine th_n ?_
    exact ⟨_, h, hf.sub ⟨rfl, rfl, trivial⟩, hp⟩
  rintro a w ⟨all9, h, hf, hp⟩
  unfold f_foghornref21_Go.j1 at h
  refine wp_seq ?_
  obtain ⟨S3, hp4, rd5, up6, bk7⟩ := Hp.lendO hp (i := 0) rfl
  have rl8 := rd5
  obtain ⟨q9, hcall10, h⟩ := bnd h
  obtain ⟨q11, hcall12, h⟩ := bnd h
  refine wp_cutN (fun a w => Fr 30 a [(6, .int .i64 (IntKind.i64.wrap (IntKind.u32.wrap ((all9).tdiv (2 : Int))))), (7, .bool q9), (8, .bool q11)] ∧ Hp S w0 w (Res.obj 24 v1 [.int .i64 cx0_Length, .int .u32 cx0_One, .int .u32 cx0_Two] :: ow)) ?_ ?_
  · have hp := hp4.same (Same.drew w)
    refine dr_begin' (fun a w => Fr 30 a [(6, .int .i64 (IntKind.i64.wrap (IntKind.u32.wrap ((all9).tdiv (2 : Int))))), (7, .bool q9), (8, .bool q11)] ∧ Hp S w0 w (Res.obj 24 v1 [.int .i64 cx0_Length, .int .u32 cx0_One, .int .u32 cx0_Two] :: ow)) (fun w' => ∃ l, Hp S3 w w' l) [] (by kernel_rfl) ?_
    refine dr_take 0 (.int .u32 all9) rfl (by kernel_rfl) (by kernel_rfl) (by kernel_rfl) (by kernel_rfl) rfl rfl hf (by decide) rfl (fun w hp => ?_) ⟨_, hp⟩ ?_
    · obtain ⟨_, hp⟩ := hp
      refine st_move hf rfl rfl (by decide) ?_
      clear hf; intro a ha hf
      exact st_nil hf (th_n ⟨ha, rfl⟩)
    clear hf; intro a hf
    refine dr_take 1 (.int .u32 (IntKind.u32.wrap ((all9).tdiv (2 : Int)))) rfl (by kernel_rfl) (by kernel_rfl) (by kernel_rfl) (by kernel_rfl) rfl rfl hf (by decide) rfl (fun w hp => ?_) ⟨_, hp⟩ ?_
    · obtain ⟨_, hp⟩ := hp
      refine st_iquo hf (by decide) rfl rfl rfl (by decide) ?_
      clear hf; intro a ha hf
      exact st_nil hf (th_n ⟨ha, rfl⟩)
    clear hf; intro a hf
    refine dr_take 2 (.int .i64 (IntKind.i64.wrap (IntKind.u32.wrap ((all9).tdiv (2 : Int))))) rfl (by kernel_rfl) (by kernel_rfl) (by kernel_rfl) (by kernel_rfl) rfl rfl hf (by decide) rfl (fun w hp => ?_) ⟨_, hp⟩ ?_
    · obtain ⟨_, hp⟩ := hp
      refine st_conv_ii hf (by decide) (by rw [Try.underlying22]; rfl) Try.underlying3 rfl rfl ?_
      clear hf; intro a ha hf
      exact st_nil hf (th_n ⟨ha, rfl⟩)
    clear hf; intro a hf
    refine dr_take 3 (.int .u32 all9) rfl (by kernel_rfl) (by kernel_rfl) (by kernel_rfl) (by kernel_rfl) rfl rfl hf (by decide) rfl (fun w hp => ?_) ⟨_, hp⟩ ?_
    · obtain ⟨_, hp⟩ := hp
      refine st_move hf rfl rfl (by decide) ?_
      clear hf; intro a ha hf
      exact st_nil hf (th_n ⟨ha, rfl⟩)
    clear hf; intro a hf
    refine dr_take 4 (optr v1 1) rfl (by kernel_rfl) (by kernel_rfl) (by kernel_rfl) (by kernel_rfl) rfl rfl hf (by decide) rfl (fun w hp => ?_) ⟨_, hp⟩ ?_
    · obtain ⟨_, hp⟩ := hp
      refine st_fa (o' := 1) hf (by decide) (off := 1) (sz := 1) (by kernel_rfl) (by decide) rfl rfl (rl8.ob hp) rfl ?_
      clear hf; intro a ha hf
      exact st_nil hf (th_n ⟨ha, rfl⟩)
    clear hf; intro a hf
    refine dr_take 5 (.int .u32 cx0_One) rfl (by kernel_rfl) (by kernel_rfl) (by kernel_rfl) (by kernel_rfl) rfl rfl hf (by decide) rfl (fun w hp => ?_) ⟨_, hp⟩ ?_
    · obtain ⟨_, hp⟩ := hp
      refine st_ldO (u := .int .u32 cx0_One) hf (by decide) pl22 rfl rfl (rl8.ob hp) rfl ?_
      clear hf; intro a ha hf
      exact st_nil hf (th_n ⟨ha, rfl⟩)
    clear hf; intro a hf
    refine dr_take 7 (.int .u32 all9) rfl (by kernel_rfl) (by kernel_rfl) (by kernel_rfl) (by kernel_rfl) rfl rfl hf (by decide) rfl (fun w hp => ?_) ⟨_, hp⟩ ?_
    · obtain ⟨_, hp⟩ := hp
      refine st_move hf rfl rfl (by decide) ?_
      clear hf; intro a ha hf
      exact st_nil hf (th_n ⟨ha, rfl⟩)
    clear hf; intro a hf
    refine dr_take 8 (optr v1 2) rfl (by kernel_rfl) (by kernel_rfl) (by kernel_rfl) (by kernel_rfl) rfl rfl hf (by decide) rfl (fun w hp => ?_) ⟨_, hp⟩ ?_
    · obtain ⟨_, hp⟩ := hp
      refine st_fa (o' := 2) hf (by decide) (off := 2) (sz := 1) (by kernel_rfl) (by decide) rfl rfl (rl8.ob hp) rfl ?_
      clear hf; intro a ha hf
      exact st_nil hf (th_n ⟨ha, rfl⟩)
    clear hf; intro a hf
    refine dr_take 9 (.int .u32 cx0_Two) rfl (by kernel_rfl) (by kernel_rfl) (by kernel_rfl) (by kernel_rfl) rfl rfl hf (by decide) rfl (fun w hp => ?_) ⟨_, hp⟩ ?_
    · obtain ⟨_, hp⟩ := hp
      refine st_ldO (u := .int .u32 cx0_Two) hf (by decide) pl22 rfl rfl (rl8.ob hp) rfl ?_
      clear hf; intro a ha hf
      exact st_nil hf (th_n ⟨ha, rfl⟩)
    clear hf; intro a hf
    refine dr_one 6 rfl (by kernel_rfl) ?_
    refine st_call hf (by decide) Try.func60 rfl rfl rfl rfl rfl (f_foghornref21_odd_c hp _ _ hcall10) ?_
    rintro _ w ⟨rfl, hp0⟩
    clear hp; have hp := hp0; clear hp0
    replace hp : Hp _ _ _ (ow) := hp
    refine ⟨_, rfl, ?_⟩
    clear hf; intro a hf
    refine st_nil hf (th_n ⟨fun _ _ => ⟨_, hp⟩, ?_⟩)
    refine dr_one 10 rfl (by kernel_rfl) ?_
    refine st_call hf (by decide) Try.func60 rfl rfl rfl rfl rfl (f_foghornref21_odd_c hp _ _ hcall12) ?_
    rintro _ w ⟨rfl, hp0⟩
    clear hp; have hp := hp0; clear hp0
    replace hp : Hp _ _ _ (ow) := hp
    refine ⟨_, rfl, ?_⟩
    clear hf; intro a hf
    refine st_nil hf (th_n ⟨fun _ _ => ⟨_, hp⟩, ?_⟩)
    refine dr_take 11 (.int .i64 (IntKind.i64.wrap (IntKind.u32.wrap ((all9).tdiv (2 : Int))))) rfl (by kernel_rfl) (by kernel_rfl) (by kernel_rfl) (by kernel_rfl) rfl rfl hf (by decide) rfl (fun w hp => ?_) ⟨_, hp⟩ ?_
    · obtain ⟨_, hp⟩ := hp
      refine st_assign hf rfl rfl (by decide) ?_
      clear hf; intro a ha hf
      exact st_nil hf (th_n ⟨ha, rfl⟩)
    clear hf; intro a hf
    refine dr_take 12 (.bool q9) rfl (by kernel_rfl) (by kernel_rfl) (by kernel_rfl) (by kernel_rfl) rfl rfl hf (by decide) rfl (fun w hp => ?_) ⟨_, hp⟩ ?_
    · obtain ⟨_, hp⟩ := hp
      refine st_assign hf rfl rfl (by decide) ?_
      clear hf; intro a ha hf
      exact st_nil hf (th_n ⟨ha, rfl⟩)
    clear hf; intro a hf
    refine dr_take 13 (.bool q11) rfl (by kernel_rfl) (by kernel_rfl) (by kernel_rfl) (by kernel_rfl) rfl rfl hf (by decide) rfl (fun w hp => ?_) ⟨_, hp⟩ ?_
    · obtain ⟨_, hp⟩ := hp
      refine st_assign hf rfl rfl (by decide) ?_
      clear hf; intro a ha hf
      exact st_nil hf (th_n ⟨ha, rfl⟩)
    clear hf; intro a hf
    refine dr_end (by kernel_rfl) ?_ _
    have hp := bk7 _ _ hp
    exact ⟨hf.sub ⟨rfl, rfl, rfl, trivial⟩, hp⟩
  rintro a w ⟨hf, hp⟩
  refine th_n ?_
  refine wp_ret ?_
  obtain rfl := Option.some.inj h
  have hp : Hp _ _ _ (ow) := Hp.sel (pre := [Res.obj 24 v1 [.int .i64 cx0_Length, .int .u32 cx0_One, .int .u32 cx0_Two]]) (tail := ow) (rs' := []) hp [] (by decide) (by simp) rfl
  exact ⟨rfl, ⟨hf.sub ⟨rfl, rfl, rfl, trivial⟩, hp⟩⟩

noncomputable def f_foghornref21_Encode.s1c (cx0_Length : Int) (cx0_One : Int) (cx0_Two : Int) (q6 : ((List Bool) × Bool)) (out8 : (List Bool)) (sx9 : Int) (i10 : Int) : Option (((List Bool) × Int × Int) ⊕ (List Bool)) := (if (decide (i10 < (q6.1.length : Int))) = true then (if 0 ≤ i10 ∧ i10 < (q6.1.length : Int) then ((f_foghornref21_Go cx0_Length cx0_One cx0_Two sx9 (gt q6.1 i10)).bind fun q28 => (if (out8.length + ([q28.2.1, q28.2.2]).length) * 1 ≤ 140737488355328 then (some (Sum.inl ((out8 ++ [q28.2.1, q28.2.2]), q28.1, (IntKind.i64.wrap (i10 + (1 : Int)))))) else none)) else none) else (some (Sum.inr out8)))
noncomputable def f_foghornref21_Encode.s1 (cx0_Length : Int) (cx0_One : Int) (cx0_Two : Int) (q6 : ((List Bool) × Bool)) (s : ((List Bool) × Int × Int)) : Option (((List Bool) × Int × Int) ⊕ (List Bool)) := f_foghornref21_Encode.s1c cx0_Length cx0_One cx0_Two q6 s.1 s.2.1 s.2.2
noncomputable def f_foghornref21_Encode (cx0_Length : Int) (cx0_One : Int) (cx0_Two : Int) (bits1 : (List Bool)) : Option ((List Bool) × Int) := ((f_foghornref21_May cx0_Length cx0_One cx0_Two).bind fun q3 => (if (!q3) = true then (some ([], (1 : Int))) else ((f_foghornref21_whole cx0_Length cx0_One cx0_Two bits1).bind fun q6 => (if (!q6.2) = true then (some ([], (1 : Int))) else ((loop (f_foghornref21_Encode.s1 cx0_Length cx0_One cx0_Two q6) ([], (0 : Int), (0 : Int))).bind (fun q34 => (some (q34, (0 : Int)))))))))
theorem f_foghornref21_Encode_c {S : Nat → Prop} {w0 w : World} {ow : List Res} (hp : Hp S w0 w ow) (cx0_Length : Int) (cx0_One : Int) (cx0_Two : Int) (vbits1 : Value) (bits1 : (List Bool)) (hbits1 : RdS Ek.bool S w0 vbits1 bits1) {r : ((List Bool) × Int)} (h : f_foghornref21_Encode cx0_Length cx0_One cx0_Two bits1 = some r) :
    Calls Try.prog 37 #[.agg #[.int .i64 cx0_Length, .int .u32 cx0_One, .int .u32 cx0_Two], vbits1] w (fun e w' => ∃ (u0 : Value), e = .returned (.tuple #[u0, .int .i64 r.2]) ∧ Hp S w0 w' (Res.sl Ek.bool 4 u0 r.1 :: ow)) := by
  unfold f_foghornref21_Encode at h
  refine enter (n := 47) (args := [.agg #[.int .i64 cx0_Length, .int .u32 cx0_One, .int .u32 cx0_Two], vbits1]) Try.func37 rfl rfl (Nat.le_of_ble_eq_true rfl) fun a hf => ?_
  replace hf : Fr 47 a [(0, .agg #[.int .i64 cx0_Length, .int .u32 cx0_One, .int .u32 cx0_Two]), (1, vbits1)] := hf
  refine wp_mono (Q := fun e a w => e = .ret ∧ ∃ (u0 : Value), Fr 47 a [(4, u0), (5, .int .i64 r.2)] ∧ Hp S w0 w (Res.sl Ek.bool 4 u0 r.1 :: ow)) ?_ ?_
  rotate_left
  · rintro e a w ⟨rfl, x0, hf, hp⟩
    exact ret2 hf rfl rfl rfl ⟨x0, rfl, hp⟩
  refine wp_seq ?_
  refine wp_reg ?_
  refine st_boxO (cs := [.int .i64 cx0_Length, .int .u32 cx0_One, .int .u32 cx0_Two]) hf (by decide) hp rfl rfl rfl ?_
  clear hf; intro a w v1 hf hp0; clear hp; have hp := hp0; clear hp0
  replace hp : Hp _ _ _ (Res.obj 24 v1 [.int .i64 cx0_Length, .int .u32 cx0_One, .int .u32 cx0_Two] :: ow) := hp
  refine st_assign hf rfl rfl (by decide) ?_
  clear hf; intro a ha hf; clear ha
  refine st_assign hf rfl rfl (by decide) ?_
  clear hf; intro a ha hf; clear ha
  refine st_nil hf ?_
  refine th_n ?_
  refine wp_seq ?_
  refine wp_seq ?_
  refine wp_reg ?_
  refine st_ldOA (m := 3) (us := [.int .i64 cx0_Length, .int .u32 cx0_One, .int .u32 cx0_Two]) hf (by decide) (by kernel_rfl) rfl rfl (hp.ob (i := 0) rfl) rfl rfl ?_
  clear hf; intro a ha hf; clear ha
  obtain ⟨q3, hcall4, h⟩ := bnd h
  refine st_call hf (by decide) Try.func41 rfl rfl rfl rfl rfl (f_foghornref21_May_c hp _ _ _ hcall4) ?_
  rintro _ w ⟨rfl, hp0⟩
  clear hp; have hp := hp0; clear hp0
  replace hp : Hp _ _ _ (Res.obj 24 v1 [.int .i64 cx0_Length, .int .u32 cx0_One, .int .u32 cx0_Two] :: ow) := hp
  refine ⟨_, rfl, ?_⟩
  clear hf; intro a hf
  refine st_not hf (by decide) rfl rfl ?_
  clear hf; intro a ha hf; clear ha
  refine st_nil hf ?_
  refine th_n ?_
  refine wp_if hf rfl (fun hb => ?_) (fun hb => ?_)
  · replace h := ifT h hb
    refine wp_seq ?_
    refine wp_reg ?_
    refine st_assign hf rfl rfl (by decide) ?_
    clear hf; intro a ha hf; clear ha
    refine st_assign hf rfl rfl (by decide) ?_
    clear hf; intro a ha hf; clear ha
    refine st_nil hf ?_
    refine th_n ?_
    refine wp_ret ?_
    refine th_r ?_
    obtain rfl := Option.some.inj h
    have hp := hp.nil Ek.bool 4
    have hp : Hp _ _ _ (Res.sl Ek.bool 4 (.slice none 0 0) ([]) :: ow) := Hp.sel (pre := [Res.sl Ek.bool 4 (.slice none 0 0) ([]), Res.obj 24 v1 [.int .i64 cx0_Length, .int .u32 cx0_One, .int .u32 cx0_Two]]) (tail := ow) (rs' := [Res.sl Ek.bool 4 (.slice none 0 0) ([])]) hp [0] (by decide) (by simp) rfl
    exact ⟨rfl, ⟨_, hf.sub ⟨rfl, rfl, trivial⟩, hp⟩⟩
  replace h := ifF h hb
  refine wp_skip ?_
  refine th_n ?_
  refine wp_seq ?_
  refine wp_reg ?_
  refine st_ldOA (m := 3) (us := [.int .i64 cx0_Length, .int .u32 cx0_One, .int .u32 cx0_Two]) hf (by decide) (by kernel_rfl) rfl rfl (hp.ob (i := 0) rfl) rfl rfl ?_
  clear hf; intro a ha hf; clear ha
  refine st_move hf rfl rfl (by decide) ?_
  clear hf; intro a ha hf; clear ha
  obtain ⟨q6, hcall7, h⟩ := bnd h
  refine st_call hf (by decide) Try.func57 rfl rfl rfl rfl rfl (f_foghornref21_whole_c hp _ _ _ _ _ hbits1 hcall7) ?_
  rintro _ w ⟨v8, rfl, hp0⟩
  clear hp; have hp := hp0; clear hp0
  replace hp : Hp _ _ _ (Res.sl Ek.bool 4 v8 q6.1 :: Res.obj 24 v1 [.int .i64 cx0_Length, .int .u32 cx0_One, .int .u32 cx0_Two] :: ow) := hp
  refine ⟨_, rfl, ?_⟩
  clear hf; intro a hf
  refine st_move hf rfl rfl (by decide) ?_
  clear hf; intro a ha hf; clear ha
  refine st_extract hf (by decide) rfl rfl rfl ?_
  clear hf; intro a ha hf; clear ha
  refine st_extract hf (by decide) rfl rfl rfl ?_
  clear hf; intro a ha hf; clear ha
  refine st_assign hf rfl rfl (by decide) ?_
  clear hf; intro a ha hf; clear ha
  refine st_assign hf rfl rfl (by decide) ?_
  clear hf; intro a ha hf; clear ha
  refine st_nil hf ?_
  refine th_n ?_
  refine wp_seq ?_
  refine wp_seq ?_
  refine wp_reg ?_
  refine st_move hf rfl rfl (by decide) ?_
  clear hf; intro a ha hf; clear ha
  refine st_not hf (by decide) rfl rfl ?_
  clear hf; intro a ha hf; clear ha
  refine st_nil hf ?_
  refine th_n ?_
  refine wp_if hf rfl (fun hb => ?_) (fun hb => ?_)
  · replace h := ifT h hb
    refine wp_seq ?_
    refine wp_reg ?_
    refine st_assign hf rfl rfl (by decide) ?_
    clear hf; intro a ha hf; clear ha
    refine st_assign hf rfl rfl (by decide) ?_
    clear hf; intro a ha hf; clear ha
    refine st_nil hf ?_
    refine th_n ?_
    refine wp_ret ?_
    refine th_r ?_
    obtain rfl := Option.some.inj h
    have hp := hp.nil Ek.bool 4
    have hp : Hp _ _ _ (Res.sl Ek.bool 4 (.slice none 0 0) ([]) :: ow) := Hp.sel (pre := [Res.sl Ek.bool 4 (.slice none 0 0) ([]), Res.sl Ek.bool 4 v8 q6.1, Res.obj 24 v1 [.int .i64 cx0_Length, .int .u32 cx0_One, .int .u32 cx0_Two]]) (tail := ow) (rs' := [Res.sl Ek.bool 4 (.slice none 0 0) ([])]) hp [0] (by decide) (by simp) rfl
    exact ⟨rfl, ⟨_, hf.sub ⟨rfl, rfl, trivial⟩, hp⟩⟩
  replace h := ifF h hb
  refine wp_skip ?_
  refine th_n ?_
  refine wp_seq ?_
  refine wp_reg ?_
  refine st_assign hf rfl rfl (by decide) ?_
  clear hf; intro a ha hf; clear ha
  refine st_nil hf ?_
  refine th_n ?_
  refine wp_seq ?_
  refine wp_reg ?_
  refine st_assign hf rfl rfl (by decide) ?_
  clear hf; intro a ha hf; clear ha
  refine st_nil hf ?_
  refine th_n ?_
  refine wp_seq ?_
  refine wp_seq ?_
  refine wp_reg ?_
  refine st_assign hf rfl rfl (by decide) ?_
  clear hf; intro a ha hf; clear ha
  refine st_nil hf ?_
  refine th_n ?_
  refine wp_block ?_
  obtain ⟨q34, hl, h⟩ := bnd h
  have hp := hp.nil Ek.bool 4
  have hp : Hp _ _ _ (Res.sl Ek.bool 4 (.slice none 0 0) ([]) :: Res.obj 24 v1 [.int .i64 cx0_Length, .int .u32 cx0_One, .int .u32 cx0_Two] :: Res.sl Ek.bool 4 v8 q6.1 :: ow) := Hp.sel (pre := [Res.sl Ek.bool 4 (.slice none 0 0) ([]), Res.sl Ek.bool 4 v8 q6.1, Res.obj 24 v1 [.int .i64 cx0_Length, .int .u32 cx0_One, .int .u32 cx0_Two]]) (tail := ow) (rs' := [Res.sl Ek.bool 4 (.slice none 0 0) ([]), Res.obj 24 v1 [.int .i64 cx0_Length, .int .u32 cx0_One, .int .u32 cx0_Two], Res.sl Ek.bool 4 v8 q6.1]) hp [0, 2, 1] (by decide) (by simp) rfl
  refine wp_loop_pure (f := (f_foghornref21_Encode.s1 cx0_Length cx0_One cx0_Two q6)) (s := ([], (0 : Int), (0 : Int))) (fun s a w => ∃ (v11 : Value), Fr 47 a [(2, optr v1 0), (6, v8), (8, v11), (9, .int .i64 s.2.1), (10, .int .i64 s.2.2)] ∧ Hp S w0 w (Res.sl Ek.bool 4 v11 s.1 :: Res.obj 24 v1 [.int .i64 cx0_Length, .int .u32 cx0_One, .int .u32 cx0_Two] :: Res.sl Ek.bool 4 v8 q6.1 :: ow)) (fun q e a w => e = .exit 0 ∧ ∃ (v13 : Value), Fr 47 a [(8, v13)] ∧ Hp S w0 w (Res.sl Ek.bool 4 v13 q :: ow)) ?_ hl ⟨_, hf.sub ⟨rfl, rfl, rfl, rfl, rfl, trivial⟩, hp⟩ ?_
  · clear hl hf hp
    intro s x a w h hI
    obtain ⟨out8, sx9, i10⟩ := s
    obtain ⟨v11, hf, hp⟩ : ∃ (v11 : Value), Fr 47 a [(2, optr v1 0), (6, v8), (8, v11), (9, .int .i64 sx9), (10, .int .i64 i10)] ∧ Hp S w0 w (Res.sl Ek.bool 4 v11 out8 :: Res.obj 24 v1 [.int .i64 cx0_Length, .int .u32 cx0_One, .int .u32 cx0_Two] :: Res.sl Ek.bool 4 v8 q6.1 :: ow) := hI
    replace h : f_foghornref21_Encode.s1c cx0_Length cx0_One cx0_Two q6 out8 sx9 i10 = some x := h
    unfold f_foghornref21_Encode.s1c at h
    refine wp_seq ?_
    refine wp_seq ?_
    refine wp_reg ?_
    refine st_move hf rfl rfl (by decide) ?_
    clear hf; intro a ha hf; clear ha
    refine st_move hf rfl rfl (by decide) ?_
    clear hf; intro a ha hf; clear ha
    refine st_len (E := Ek.bool) hf (by decide) Try.underlying25 rfl rfl (hp.sl (i := 2) rfl) ?_
    clear hf; intro a ha hf; clear ha
    refine st_ilss hf (by decide) rfl rfl rfl ?_
    clear hf; intro a ha hf; clear ha
    refine st_nil hf ?_
    refine th_n ?_
    refine wp_if hf rfl (fun hb => ?_) (fun hb => ?_)
    · replace h := ifT h hb
      refine wp_skip ?_
      refine th_n ?_
      refine wp_seq ?_
      refine wp_block ?_
      refine wp_seq ?_
      refine wp_reg ?_
      refine st_assign hf rfl rfl (by decide) ?_
      clear hf; intro a ha hf; clear ha
      refine st_assign hf rfl rfl (by decide) ?_
      clear hf; intro a ha hf; clear ha
      refine st_nil hf ?_
      refine th_n ?_
      refine wp_seq ?_
      obtain ⟨S15, hp16, rd17, up18, bk19⟩ := Hp.lendO hp (i := 1) rfl
      obtain ⟨S20, hp21, rd22, up23, bk24⟩ := Hp.lendS hp16 (i := 1) rfl
      have rl25 := ((rd17.now hp16).mono up23)
      have rl26 := rd22
      obtain ⟨hc27, h⟩ := chk h
      obtain ⟨q28, hcall29, h⟩ := bnd h
      refine wp_cutN (fun a w => Fr 47 a [(2, optr v1 0), (6, v8), (8, v11), (9, .int .i64 q28.1), (10, .int .i64 i10), (11, .bool q28.2.1), (12, .bool q28.2.2)] ∧ Hp S w0 w (Res.obj 24 v1 [.int .i64 cx0_Length, .int .u32 cx0_One, .int .u32 cx0_Two] :: Res.sl Ek.bool 4 v8 q6.1 :: Res.sl Ek.bool 4 v11 out8 :: ow)) ?_ ?_
      · have hp := hp21.same (Same.drew w)
        refine dr_begin' (fun a w => Fr 47 a [(2, optr v1 0), (6, v8), (8, v11), (9, .int .i64 q28.1), (10, .int .i64 i10), (11, .bool q28.2.1), (12, .bool q28.2.2)] ∧ Hp S w0 w (Res.obj 24 v1 [.int .i64 cx0_Length, .int .u32 cx0_One, .int .u32 cx0_Two] :: Res.sl Ek.bool 4 v8 q6.1 :: Res.sl Ek.bool 4 v11 out8 :: ow)) (fun w' => ∃ l, Hp S20 w w' l) [] (by kernel_rfl) ?_
        refine dr_take 0 (.agg #[.int .i64 cx0_Length, .int .u32 cx0_One, .int .u32 cx0_Two]) rfl (by kernel_rfl) (by kernel_rfl) (by kernel_rfl) (by kernel_rfl) rfl rfl hf (by decide) rfl (fun w hp => ?_) ⟨_, hp⟩ ?_
        · obtain ⟨_, hp⟩ := hp
          refine st_ldOA (m := 3) (us := [.int .i64 cx0_Length, .int .u32 cx0_One, .int .u32 cx0_Two]) hf (by decide) (by kernel_rfl) rfl rfl (rl25.ob hp) rfl rfl ?_
          clear hf; intro a ha hf
          exact st_nil hf (th_n ⟨ha, rfl⟩)
        clear hf; intro a hf
        refine dr_take 1 (.int .i64 sx9) rfl (by kernel_rfl) (by kernel_rfl) (by kernel_rfl) (by kernel_rfl) rfl rfl hf (by decide) rfl (fun w hp => ?_) ⟨_, hp⟩ ?_
        · obtain ⟨_, hp⟩ := hp
          refine st_move hf rfl rfl (by decide) ?_
          clear hf; intro a ha hf
          exact st_nil hf (th_n ⟨ha, rfl⟩)
        clear hf; intro a hf
        refine dr_take 2 (v8) rfl (by kernel_rfl) (by kernel_rfl) (by kernel_rfl) (by kernel_rfl) rfl rfl hf (by decide) rfl (fun w hp => ?_) ⟨_, hp⟩ ?_
        · obtain ⟨_, hp⟩ := hp
          refine st_move hf rfl rfl (by decide) ?_
          clear hf; intro a ha hf
          exact st_nil hf (th_n ⟨ha, rfl⟩)
        clear hf; intro a hf
        refine dr_take 3 (.int .i64 i10) rfl (by kernel_rfl) (by kernel_rfl) (by kernel_rfl) (by kernel_rfl) rfl rfl hf (by decide) rfl (fun w hp => ?_) ⟨_, hp⟩ ?_
        · obtain ⟨_, hp⟩ := hp
          refine st_move hf rfl rfl (by decide) ?_
          clear hf; intro a ha hf
          exact st_nil hf (th_n ⟨ha, rfl⟩)
        clear hf; intro a hf
        refine dr_take 4 (eptr v8 i10 1) rfl (by kernel_rfl) (by kernel_rfl) (by kernel_rfl) (by kernel_rfl) rfl rfl hf (by decide) rfl (fun w hp => ?_) ⟨_, hp⟩ ?_
        · obtain ⟨_, hp⟩ := hp
          refine st_index (E := Ek.bool) hf (by decide) Try.underlying25 elt4 rfl rfl rfl (rl26.sl hp) hc27.1 hc27.2 ?_
          clear hf; intro a ha hf
          exact st_nil hf (th_n ⟨ha, rfl⟩)
        clear hf; intro a hf
        refine dr_take 5 (.bool (gt q6.1 i10)) rfl (by kernel_rfl) (by kernel_rfl) (by kernel_rfl) (by kernel_rfl) rfl rfl hf (by decide) rfl (fun w hp => ?_) ⟨_, hp⟩ ?_
        · obtain ⟨_, hp⟩ := hp
          refine st_ldB hf (by decide) pl4 rfl rfl (rl26.sl hp) hc27.1 hc27.2 ?_
          clear hf; intro a ha hf
          exact st_nil hf (th_n ⟨ha, rfl⟩)
        clear hf; intro a hf
        refine dr_one 6 rfl (by kernel_rfl) ?_
        refine st_call hf (by decide) Try.func43 rfl rfl rfl rfl rfl (f_foghornref21_Go_c hp _ _ _ _ _ hcall29) ?_
        rintro _ w ⟨rfl, hp0⟩
        clear hp; have hp := hp0; clear hp0
        replace hp : Hp _ _ _ (Res.sl Ek.bool 4 v11 out8 :: ow) := hp
        refine ⟨_, rfl, ?_⟩
        clear hf; intro a hf
        refine st_nil hf (th_n ⟨fun _ _ => ⟨_, hp⟩, ?_⟩)
        refine dr_take 7 (.tuple #[.int .i64 q28.1, .bool q28.2.1, .bool q28.2.2]) rfl (by kernel_rfl) (by kernel_rfl) (by kernel_rfl) (by kernel_rfl) rfl rfl hf (by decide) rfl (fun w hp => ?_) ⟨_, hp⟩ ?_
        · obtain ⟨_, hp⟩ := hp
          refine st_move hf rfl rfl (by decide) ?_
          clear hf; intro a ha hf
          exact st_nil hf (th_n ⟨ha, rfl⟩)
        clear hf; intro a hf
        refine dr_take 8 (.int .i64 q28.1) rfl (by kernel_rfl) (by kernel_rfl) (by kernel_rfl) (by kernel_rfl) rfl rfl hf (by decide) rfl (fun w hp => ?_) ⟨_, hp⟩ ?_
        · obtain ⟨_, hp⟩ := hp
          refine st_extract hf (by decide) rfl rfl rfl ?_
          clear hf; intro a ha hf
          exact st_nil hf (th_n ⟨ha, rfl⟩)
        clear hf; intro a hf
        refine dr_take 9 (.bool q28.2.1) rfl (by kernel_rfl) (by kernel_rfl) (by kernel_rfl) (by kernel_rfl) rfl rfl hf (by decide) rfl (fun w hp => ?_) ⟨_, hp⟩ ?_
        · obtain ⟨_, hp⟩ := hp
          refine st_extract hf (by decide) rfl rfl rfl ?_
          clear hf; intro a ha hf
          exact st_nil hf (th_n ⟨ha, rfl⟩)
        clear hf; intro a hf
        refine dr_take 10 (.bool q28.2.2) rfl (by kernel_rfl) (by kernel_rfl) (by kernel_rfl) (by kernel_rfl) rfl rfl hf (by decide) rfl (fun w hp => ?_) ⟨_, hp⟩ ?_
        · obtain ⟨_, hp⟩ := hp
          refine st_extract hf (by decide) rfl rfl rfl ?_
          clear hf; intro a ha hf
          exact st_nil hf (th_n ⟨ha, rfl⟩)
        clear hf; intro a hf
        refine dr_take 11 (.int .i64 q28.1) rfl (by kernel_rfl) (by kernel_rfl) (by kernel_rfl) (by kernel_rfl) rfl rfl hf (by decide) rfl (fun w hp => ?_) ⟨_, hp⟩ ?_
        · obtain ⟨_, hp⟩ := hp
          refine st_assign hf rfl rfl (by decide) ?_
          clear hf; intro a ha hf
          exact st_nil hf (th_n ⟨ha, rfl⟩)
        clear hf; intro a hf
        refine dr_take 12 (.bool q28.2.1) rfl (by kernel_rfl) (by kernel_rfl) (by kernel_rfl) (by kernel_rfl) rfl rfl hf (by decide) rfl (fun w hp => ?_) ⟨_, hp⟩ ?_
        · obtain ⟨_, hp⟩ := hp
          refine st_assign hf rfl rfl (by decide) ?_
          clear hf; intro a ha hf
          exact st_nil hf (th_n ⟨ha, rfl⟩)
        clear hf; intro a hf
        refine dr_take 13 (.bool q28.2.2) rfl (by kernel_rfl) (by kernel_rfl) (by kernel_rfl) (by kernel_rfl) rfl rfl hf (by decide) rfl (fun w hp => ?_) ⟨_, hp⟩ ?_
        · obtain ⟨_, hp⟩ := hp
          refine st_assign hf rfl rfl (by decide) ?_
          clear hf; intro a ha hf
          exact st_nil hf (th_n ⟨ha, rfl⟩)
        clear hf; intro a hf
        refine dr_end (by kernel_rfl) ?_ _
        have hp := bk24 _ _ hp
        have hp := bk19 _ _ hp
        exact ⟨hf.sub ⟨rfl, rfl, rfl, rfl, rfl, rfl, rfl, trivial⟩, hp⟩
      rintro a w ⟨hf, hp⟩
      refine th_n ?_
      refine wp_reg ?_
      refine st_move hf rfl rfl (by decide) ?_
      clear hf; intro a ha hf; clear ha
      refine st_move hf rfl rfl (by decide) ?_
      clear hf; intro a ha hf; clear ha
      refine st_move hf rfl rfl (by decide) ?_
      clear hf; intro a ha hf; clear ha
      refine st_build (E := Ek.bool) (xs := [q28.2.1, q28.2.2]) hf (by decide) elt4 Try.underlying25 hp (vals := #[(0, .bool q28.2.1), (1, .bool q28.2.2)]) (cells := #[.bool q28.2.1, .bool q28.2.2]) rfl (by simp [hf.ev (x := (Operand.tmp 42)) rfl, hf.ev (x := (Operand.tmp 43)) rfl]) (by decide) (by decide) (z := .bool false) (by kernel_rfl) (by kernel_rfl) rfl (reps_cons (cs := [.bool q28.2.1]) rfl (reps_cons (cs := [.bool q28.2.2]) rfl (reps_nil _))) ?_
      clear hf; intro a w v30 hf hp0; clear hp; have hp := hp0; clear hp0
      replace hp : Hp _ _ _ (Res.sl Ek.bool 4 v30 ([q28.2.1, q28.2.2]) :: Res.obj 24 v1 [.int .i64 cx0_Length, .int .u32 cx0_One, .int .u32 cx0_Two] :: Res.sl Ek.bool 4 v8 q6.1 :: Res.sl Ek.bool 4 v11 out8 :: ow) := hp
      obtain ⟨hc32, h⟩ := chk h
      refine st_append (E := Ek.bool) hf (by decide) elt4 Try.underlying25 (by decide) hp (i := 3) rfl rfl rfl rfl (hp.sl (i := 0) rfl) hc32 ?_
      clear hf; intro a w v33 hf hp0; clear hp; have hp := hp0; clear hp0
      replace hp : Hp _ _ _ (Res.sl Ek.bool 4 v30 ([q28.2.1, q28.2.2]) :: Res.obj 24 v1 [.int .i64 cx0_Length, .int .u32 cx0_One, .int .u32 cx0_Two] :: Res.sl Ek.bool 4 v8 q6.1 :: Res.sl Ek.bool 4 v33 (out8 ++ [q28.2.1, q28.2.2]) :: ow) := hp
      refine st_assign hf rfl rfl (by decide) ?_
      clear hf; intro a ha hf; clear ha
      refine st_nil hf ?_
      refine ib_n ?_
      refine th_n ?_
      refine wp_reg ?_
      refine st_move hf rfl rfl (by decide) ?_
      clear hf; intro a ha hf; clear ha
      refine st_iadd hf (by decide) rfl rfl rfl ?_
      clear hf; intro a ha hf; clear ha
      refine st_assign hf rfl rfl (by decide) ?_
      clear hf; intro a ha hf; clear ha
      refine st_nil hf ?_
      obtain rfl := Option.some.inj h
      have hp : Hp _ _ _ (Res.sl Ek.bool 4 v33 (out8 ++ [q28.2.1, q28.2.2]) :: Res.obj 24 v1 [.int .i64 cx0_Length, .int .u32 cx0_One, .int .u32 cx0_Two] :: Res.sl Ek.bool 4 v8 q6.1 :: ow) := Hp.sel (pre := [Res.sl Ek.bool 4 v30 ([q28.2.1, q28.2.2]), Res.obj 24 v1 [.int .i64 cx0_Length, .int .u32 cx0_One, .int .u32 cx0_Two], Res.sl Ek.bool 4 v8 q6.1, Res.sl Ek.bool 4 v33 (out8 ++ [q28.2.1, q28.2.2])]) (tail := ow) (rs' := [Res.sl Ek.bool 4 v33 (out8 ++ [q28.2.1, q28.2.2]), Res.obj 24 v1 [.int .i64 cx0_Length, .int .u32 cx0_One, .int .u32 cx0_Two], Res.sl Ek.bool 4 v8 q6.1]) hp [3, 1, 2] (by decide) (by simp) rfl
      exact rnd_l ⟨_, hf.sub ⟨rfl, rfl, rfl, rfl, rfl, trivial⟩, hp⟩
    replace h := ifF h hb
    refine wp_exit ?_
    refine th_e ?_
    obtain rfl := Option.some.inj h
    have hp : Hp _ _ _ (Res.sl Ek.bool 4 v11 out8 :: ow) := Hp.sel (pre := [Res.sl Ek.bool 4 v11 out8, Res.obj 24 v1 [.int .i64 cx0_Length, .int .u32 cx0_One, .int .u32 cx0_Two], Res.sl Ek.bool 4 v8 q6.1]) (tail := ow) (rs' := [Res.sl Ek.bool 4 v11 out8]) hp [0] (by decide) (by simp) rfl
    exact rnd_r (by simp) ⟨rfl, _, hf.sub ⟨rfl, trivial⟩, hp⟩
  clear hl hf hp
  intro e a w hne hO
  obtain ⟨rfl, v13, hf, hp⟩ := hO
  refine ib_same ?_
  refine th_n ?_
  refine wp_seq ?_
  refine wp_reg ?_
  refine st_move hf rfl rfl (by decide) ?_
  clear hf; intro a ha hf; clear ha
  refine st_assign hf rfl rfl (by decide) ?_
  clear hf; intro a ha hf; clear ha
  refine st_assign hf rfl rfl (by decide) ?_
  clear hf; intro a ha hf; clear ha
  refine st_nil hf ?_
  refine th_n ?_
  refine wp_ret ?_
  obtain rfl := Option.some.inj h
  exact ⟨rfl, ⟨_, hf.sub ⟨rfl, rfl, trivial⟩, hp⟩⟩

noncomputable def f_foghornref23_Point (one0 : Bool) (two1 : Bool) : Option (Fl × Fl) := ((f_foghornref23_sign one0).bind fun q1 => ((f_foghornref23_sign two1).bind fun q5 => (some (q1, q5))))
theorem f_foghornref23_Point_c {S : Nat → Prop} {w0 w : World} {ow : List Res} (hp : Hp S w0 w ow) (one0 : Bool) (two1 : Bool) {r : (Fl × Fl)} (h : f_foghornref23_Point one0 two1 = some r) :
    Calls Try.prog 16 #[.bool one0, .bool two1] w (fun e w' => ∃ (b0 : Nat) (b1 : Nat), e = .returned (.complex .f64 b0 b1) ∧ Fl.rep b0 r.1 ∧ Fl.rep b1 r.2 ∧ Hp S w0 w' (ow)) := by
  unfold f_foghornref23_Point at h
  refine enter (n := 10) (args := [.bool one0, .bool two1]) Try.func16 rfl rfl (Nat.le_of_ble_eq_true rfl) fun a hf => ?_
  replace hf : Fr 10 a [(0, .bool one0), (1, .bool two1)] := hf
  refine wp_mono (Q := fun e a w => e = .ret ∧ ∃ (b0 : Nat) (b1 : Nat), Fr 10 a [(4, .complex .f64 b0 b1)] ∧ Fl.rep b0 r.1 ∧ Fl.rep b1 r.2 ∧ Hp S w0 w (ow)) ?_ ?_
  rotate_left
  · rintro e a w ⟨rfl, x0, x1, hf, y0, y1, hp⟩
    exact ret1 hf rfl rfl ⟨x0, x1, rfl, y0, y1, hp⟩
  refine wp_seq ?_
  refine wp_reg ?_
  refine st_assign hf rfl rfl (by decide) ?_
  clear hf; intro a ha hf; clear ha
  refine st_nil hf ?_
  refine th_n ?_
  refine wp_seq ?_
  refine wp_reg ?_
  refine st_move hf rfl rfl (by decide) ?_
  clear hf; intro a ha hf; clear ha
  obtain ⟨q1, hcall2, h⟩ := bnd h
  refine st_call hf (by decide) Try.func40 rfl rfl rfl rfl rfl (f_foghornref23_sign_c hp _ hcall2) ?_
  rintro _ w ⟨v3, rfl, y4, hp0⟩
  clear hp; have hp := hp0; clear hp0
  replace hp : Hp _ _ _ (ow) := hp
  refine ⟨_, rfl, ?_⟩
  clear hf; intro a hf
  refine st_move hf rfl rfl (by decide) ?_
  clear hf; intro a ha hf; clear ha
  obtain ⟨q5, hcall6, h⟩ := bnd h
  refine st_call hf (by decide) Try.func40 rfl rfl rfl rfl rfl (f_foghornref23_sign_c hp _ hcall6) ?_
  rintro _ w ⟨v7, rfl, y8, hp0⟩
  clear hp; have hp := hp0; clear hp0
  replace hp : Hp _ _ _ (ow) := hp
  refine ⟨_, rfl, ?_⟩
  clear hf; intro a hf
  refine st_complex hf (by decide) rfl rfl rfl ?_
  clear hf; intro a ha hf; clear ha
  refine st_assign hf rfl rfl (by decide) ?_
  clear hf; intro a ha hf; clear ha
  refine st_nil hf ?_
  refine th_n ?_
  refine wp_ret ?_
  obtain rfl := Option.some.inj h
  exact ⟨rfl, ⟨_, _, hf.sub ⟨rfl, trivial⟩, y4, y8, hp⟩⟩

noncomputable def f_foghornref23_Send.s1c (q3 : ((List Bool) × Int)) (out8 : (List (Fl × Fl))) (i9 : Int) : Option (((List (Fl × Fl)) × Int) ⊕ (List (Fl × Fl))) := (if (decide ((IntKind.i64.wrap (i9 + (1 : Int))) < (q3.1.length : Int))) = true then (if 0 ≤ i9 ∧ i9 < (q3.1.length : Int) then (if 0 ≤ (IntKind.i64.wrap (i9 + (1 : Int))) ∧ (IntKind.i64.wrap (i9 + (1 : Int))) < (q3.1.length : Int) then ((f_foghornref23_Point (gt q3.1 i9) (gt q3.1 (IntKind.i64.wrap (i9 + (1 : Int))))).bind fun q20 => (if (out8.length + ([q20]).length) * 16 ≤ 140737488355328 then (some (Sum.inl ((out8 ++ [q20]), (IntKind.i64.wrap (i9 + (2 : Int)))))) else none)) else none) else none) else (some (Sum.inr out8)))
noncomputable def f_foghornref23_Send.s1 (q3 : ((List Bool) × Int)) (s : ((List (Fl × Fl)) × Int)) : Option (((List (Fl × Fl)) × Int) ⊕ (List (Fl × Fl))) := f_foghornref23_Send.s1c q3 s.1 s.2
noncomputable def f_foghornref23_Send (cx0_Length : Int) (cx0_One : Int) (cx0_Two : Int) (bits1 : (List Bool)) : Option ((List (Fl × Fl)) × Int) := ((f_foghornref21_Encode cx0_Length cx0_One cx0_Two bits1).bind fun q3 => (if (q3.2 != (0 : Int)) = true then (some ([], q3.2)) else ((loop (f_foghornref23_Send.s1 q3) ([], (0 : Int))).bind (fun q30 => (some (q30, (0 : Int)))))))
theorem f_foghornref23_Send_c {S : Nat → Prop} {w0 w : World} {ow : List Res} (hp : Hp S w0 w ow) (cx0_Length : Int) (cx0_One : Int) (cx0_Two : Int) (vbits1 : Value) (bits1 : (List Bool)) (hbits1 : RdS Ek.bool S w0 vbits1 bits1) {r : ((List (Fl × Fl)) × Int)} (h : f_foghornref23_Send cx0_Length cx0_One cx0_Two bits1 = some r) :
    Calls Try.prog 12 #[.agg #[.int .i64 cx0_Length, .int .u32 cx0_One, .int .u32 cx0_Two], vbits1] w (fun e w' => ∃ (u0 : Value), e = .returned (.tuple #[u0, .int .i64 r.2]) ∧ Hp S w0 w' (Res.sl Ek.c128 33 u0 r.1 :: ow)) := by
  unfold f_foghornref23_Send at h
  refine enter (n := 40) (args := [.agg #[.int .i64 cx0_Length, .int .u32 cx0_One, .int .u32 cx0_Two], vbits1]) Try.func12 rfl rfl (Nat.le_of_ble_eq_true rfl) fun a hf => ?_
  replace hf : Fr 40 a [(0, .agg #[.int .i64 cx0_Length, .int .u32 cx0_One, .int .u32 cx0_Two]), (1, vbits1)] := hf
  refine wp_mono (Q := fun e a w => e = .ret ∧ ∃ (u0 : Value), Fr 40 a [(4, u0), (5, .int .i64 r.2)] ∧ Hp S w0 w (Res.sl Ek.c128 33 u0 r.1 :: ow)) ?_ ?_
  rotate_left
  · rintro e a w ⟨rfl, x0, hf, hp⟩
    exact ret2 hf rfl rfl rfl ⟨x0, rfl, hp⟩
  refine wp_seq ?_
  refine wp_reg ?_
  refine st_boxO (cs := [.int .i64 cx0_Length, .int .u32 cx0_One, .int .u32 cx0_Two]) hf (by decide) hp rfl rfl rfl ?_
  clear hf; intro a w v1 hf hp0; clear hp; have hp := hp0; clear hp0
  replace hp : Hp _ _ _ (Res.obj 24 v1 [.int .i64 cx0_Length, .int .u32 cx0_One, .int .u32 cx0_Two] :: ow) := hp
  refine st_assign hf rfl rfl (by decide) ?_
  clear hf; intro a ha hf; clear ha
  refine st_assign hf rfl rfl (by decide) ?_
  clear hf; intro a ha hf; clear ha
  refine st_nil hf ?_
  refine th_n ?_
  refine wp_seq ?_
  refine wp_reg ?_
  refine st_ldOA (m := 3) (us := [.int .i64 cx0_Length, .int .u32 cx0_One, .int .u32 cx0_Two]) hf (by decide) (by kernel_rfl) rfl rfl (hp.ob (i := 0) rfl) rfl rfl ?_
  clear hf; intro a ha hf; clear ha
  refine st_move hf rfl rfl (by decide) ?_
  clear hf; intro a ha hf; clear ha
  obtain ⟨q3, hcall4, h⟩ := bnd h
  refine st_call hf (by decide) Try.func37 rfl rfl rfl rfl rfl (f_foghornref21_Encode_c hp _ _ _ _ _ hbits1 hcall4) ?_
  rintro _ w ⟨v5, rfl, hp0⟩
  clear hp; have hp := hp0; clear hp0
  replace hp : Hp _ _ _ (Res.sl Ek.bool 4 v5 q3.1 :: Res.obj 24 v1 [.int .i64 cx0_Length, .int .u32 cx0_One, .int .u32 cx0_Two] :: ow) := hp
  refine ⟨_, rfl, ?_⟩
  clear hf; intro a hf
  refine st_move hf rfl rfl (by decide) ?_
  clear hf; intro a ha hf; clear ha
  refine st_extract hf (by decide) rfl rfl rfl ?_
  clear hf; intro a ha hf; clear ha
  refine st_extract hf (by decide) rfl rfl rfl ?_
  clear hf; intro a ha hf; clear ha
  refine st_assign hf rfl rfl (by decide) ?_
  clear hf; intro a ha hf; clear ha
  refine st_assign hf rfl rfl (by decide) ?_
  clear hf; intro a ha hf; clear ha
  refine st_nil hf ?_
  refine th_n ?_
  refine wp_seq ?_
  refine wp_seq ?_
  refine wp_reg ?_
  refine st_move hf rfl rfl (by decide) ?_
  clear hf; intro a ha hf; clear ha
  refine st_ineq hf (by decide) rfl rfl rfl ?_
  clear hf; intro a ha hf; clear ha
  refine st_nil hf ?_
  refine th_n ?_
  refine wp_if hf rfl (fun hb => ?_) (fun hb => ?_)
  · replace h := ifT h hb
    refine wp_seq ?_
    refine wp_reg ?_
    refine st_move hf rfl rfl (by decide) ?_
    clear hf; intro a ha hf; clear ha
    refine st_assign hf rfl rfl (by decide) ?_
    clear hf; intro a ha hf; clear ha
    refine st_assign hf rfl rfl (by decide) ?_
    clear hf; intro a ha hf; clear ha
    refine st_nil hf ?_
    refine th_n ?_
    refine wp_ret ?_
    refine th_r ?_
    obtain rfl := Option.some.inj h
    have hp := hp.nil Ek.c128 33
    have hp : Hp _ _ _ (Res.sl Ek.c128 33 (.slice none 0 0) ([]) :: ow) := Hp.sel (pre := [Res.sl Ek.c128 33 (.slice none 0 0) ([]), Res.sl Ek.bool 4 v5 q3.1, Res.obj 24 v1 [.int .i64 cx0_Length, .int .u32 cx0_One, .int .u32 cx0_Two]]) (tail := ow) (rs' := [Res.sl Ek.c128 33 (.slice none 0 0) ([])]) hp [0] (by decide) (by simp) rfl
    exact ⟨rfl, ⟨_, hf.sub ⟨rfl, rfl, trivial⟩, hp⟩⟩
  replace h := ifF h hb
  refine wp_skip ?_
  refine th_n ?_
  refine wp_seq ?_
  refine wp_reg ?_
  refine st_assign hf rfl rfl (by decide) ?_
  clear hf; intro a ha hf; clear ha
  refine st_nil hf ?_
  refine th_n ?_
  refine wp_seq ?_
  refine wp_seq ?_
  refine wp_reg ?_
  refine st_assign hf rfl rfl (by decide) ?_
  clear hf; intro a ha hf; clear ha
  refine st_nil hf ?_
  refine th_n ?_
  refine wp_block ?_
  obtain ⟨q30, hl, h⟩ := bnd h
  have hp := hp.nil Ek.c128 33
  have hp : Hp _ _ _ (Res.sl Ek.c128 33 (.slice none 0 0) ([]) :: Res.sl Ek.bool 4 v5 q3.1 :: ow) := Hp.sel (pre := [Res.sl Ek.c128 33 (.slice none 0 0) ([]), Res.sl Ek.bool 4 v5 q3.1, Res.obj 24 v1 [.int .i64 cx0_Length, .int .u32 cx0_One, .int .u32 cx0_Two]]) (tail := ow) (rs' := [Res.sl Ek.c128 33 (.slice none 0 0) ([]), Res.sl Ek.bool 4 v5 q3.1]) hp [0, 1] (by decide) (by simp) rfl
  refine wp_loop_pure (f := (f_foghornref23_Send.s1 q3)) (s := ([], (0 : Int))) (fun s a w => ∃ (v8 : Value), Fr 40 a [(6, v5), (8, v8), (9, .int .i64 s.2)] ∧ Hp S w0 w (Res.sl Ek.c128 33 v8 s.1 :: Res.sl Ek.bool 4 v5 q3.1 :: ow)) (fun q e a w => e = .exit 0 ∧ ∃ (v10 : Value), Fr 40 a [(8, v10)] ∧ Hp S w0 w (Res.sl Ek.c128 33 v10 q :: ow)) ?_ hl ⟨_, hf.sub ⟨rfl, rfl, rfl, trivial⟩, hp⟩ ?_
  · clear hl hf hp
    intro s x a w h hI
    obtain ⟨out8, i9⟩ := s
    obtain ⟨v8, hf, hp⟩ : ∃ (v8 : Value), Fr 40 a [(6, v5), (8, v8), (9, .int .i64 i9)] ∧ Hp S w0 w (Res.sl Ek.c128 33 v8 out8 :: Res.sl Ek.bool 4 v5 q3.1 :: ow) := hI
    replace h : f_foghornref23_Send.s1c q3 out8 i9 = some x := h
    unfold f_foghornref23_Send.s1c at h
    refine wp_seq ?_
    refine wp_seq ?_
    refine wp_reg ?_
    refine st_move hf rfl rfl (by decide) ?_
    clear hf; intro a ha hf; clear ha
    refine st_iadd hf (by decide) rfl rfl rfl ?_
    clear hf; intro a ha hf; clear ha
    refine st_move hf rfl rfl (by decide) ?_
    clear hf; intro a ha hf; clear ha
    refine st_len (E := Ek.bool) hf (by decide) Try.underlying25 rfl rfl (hp.sl (i := 1) rfl) ?_
    clear hf; intro a ha hf; clear ha
    refine st_ilss hf (by decide) rfl rfl rfl ?_
    clear hf; intro a ha hf; clear ha
    refine st_nil hf ?_
    refine th_n ?_
    refine wp_if hf rfl (fun hb => ?_) (fun hb => ?_)
    · replace h := ifT h hb
      refine wp_skip ?_
      refine th_n ?_
      refine wp_seq ?_
      refine wp_block ?_
      obtain ⟨S12, hp13, rd14, up15, bk16⟩ := Hp.lendS hp (i := 1) rfl
      have rl17 := rd14
      obtain ⟨hc18, h⟩ := chk h
      obtain ⟨hc19, h⟩ := chk h
      obtain ⟨q20, hcall21, h⟩ := bnd h
      obtain ⟨hc28, h⟩ := chk h
      refine wp_cutN (fun a w => ∃ (v26 : Value) (v29 : Value), Fr 40 a [(6, v5), (8, v29), (9, .int .i64 i9)] ∧ Hp S w0 w (Res.sl Ek.bool 4 v5 q3.1 :: Res.sl Ek.c128 33 v26 ([q20]) :: Res.sl Ek.c128 33 v29 (out8 ++ [q20]) :: ow)) ?_ ?_
      · have hp := hp13.same (Same.drew w)
        refine dr_begin' (fun a w => ∃ (v26 : Value) (v29 : Value), Fr 40 a [(6, v5), (8, v29), (9, .int .i64 i9)] ∧ Hp S w0 w (Res.sl Ek.bool 4 v5 q3.1 :: Res.sl Ek.c128 33 v26 ([q20]) :: Res.sl Ek.c128 33 v29 (out8 ++ [q20]) :: ow)) (fun w' => ∃ l, Hp S12 w w' l) [] (by kernel_rfl) ?_
        refine dr_take 0 (v8) rfl (by kernel_rfl) (by kernel_rfl) (by kernel_rfl) (by kernel_rfl) rfl rfl hf (by decide) rfl (fun w hp => ?_) ⟨_, hp⟩ ?_
        · obtain ⟨_, hp⟩ := hp
          refine st_move hf rfl rfl (by decide) ?_
          clear hf; intro a ha hf
          exact st_nil hf (th_n ⟨ha, rfl⟩)
        clear hf; intro a hf
        refine dr_take 1 (v5) rfl (by kernel_rfl) (by kernel_rfl) (by kernel_rfl) (by kernel_rfl) rfl rfl hf (by decide) rfl (fun w hp => ?_) ⟨_, hp⟩ ?_
        · obtain ⟨_, hp⟩ := hp
          refine st_move hf rfl rfl (by decide) ?_
          clear hf; intro a ha hf
          exact st_nil hf (th_n ⟨ha, rfl⟩)
        clear hf; intro a hf
        refine dr_take 2 (.int .i64 i9) rfl (by kernel_rfl) (by kernel_rfl) (by kernel_rfl) (by kernel_rfl) rfl rfl hf (by decide) rfl (fun w hp => ?_) ⟨_, hp⟩ ?_
        · obtain ⟨_, hp⟩ := hp
          refine st_move hf rfl rfl (by decide) ?_
          clear hf; intro a ha hf
          exact st_nil hf (th_n ⟨ha, rfl⟩)
        clear hf; intro a hf
        refine dr_take 3 (eptr v5 i9 1) rfl (by kernel_rfl) (by kernel_rfl) (by kernel_rfl) (by kernel_rfl) rfl rfl hf (by decide) rfl (fun w hp => ?_) ⟨_, hp⟩ ?_
        · obtain ⟨_, hp⟩ := hp
          refine st_index (E := Ek.bool) hf (by decide) Try.underlying25 elt4 rfl rfl rfl (rl17.sl hp) hc18.1 hc18.2 ?_
          clear hf; intro a ha hf
          exact st_nil hf (th_n ⟨ha, rfl⟩)
        clear hf; intro a hf
        refine dr_take 4 (.bool (gt q3.1 i9)) rfl (by kernel_rfl) (by kernel_rfl) (by kernel_rfl) (by kernel_rfl) rfl rfl hf (by decide) rfl (fun w hp => ?_) ⟨_, hp⟩ ?_
        · obtain ⟨_, hp⟩ := hp
          refine st_ldB hf (by decide) pl4 rfl rfl (rl17.sl hp) hc18.1 hc18.2 ?_
          clear hf; intro a ha hf
          exact st_nil hf (th_n ⟨ha, rfl⟩)
        clear hf; intro a hf
        refine dr_take 5 (v5) rfl (by kernel_rfl) (by kernel_rfl) (by kernel_rfl) (by kernel_rfl) rfl rfl hf (by decide) rfl (fun w hp => ?_) ⟨_, hp⟩ ?_
        · obtain ⟨_, hp⟩ := hp
          refine st_move hf rfl rfl (by decide) ?_
          clear hf; intro a ha hf
          exact st_nil hf (th_n ⟨ha, rfl⟩)
        clear hf; intro a hf
        refine dr_take 6 (.int .i64 i9) rfl (by kernel_rfl) (by kernel_rfl) (by kernel_rfl) (by kernel_rfl) rfl rfl hf (by decide) rfl (fun w hp => ?_) ⟨_, hp⟩ ?_
        · obtain ⟨_, hp⟩ := hp
          refine st_move hf rfl rfl (by decide) ?_
          clear hf; intro a ha hf
          exact st_nil hf (th_n ⟨ha, rfl⟩)
        clear hf; intro a hf
        refine dr_take 7 (.int .i64 (IntKind.i64.wrap (i9 + (1 : Int)))) rfl (by kernel_rfl) (by kernel_rfl) (by kernel_rfl) (by kernel_rfl) rfl rfl hf (by decide) rfl (fun w hp => ?_) ⟨_, hp⟩ ?_
        · obtain ⟨_, hp⟩ := hp
          refine st_iadd hf (by decide) rfl rfl rfl ?_
          clear hf; intro a ha hf
          exact st_nil hf (th_n ⟨ha, rfl⟩)
        clear hf; intro a hf
        refine dr_take 8 (eptr v5 (IntKind.i64.wrap (i9 + (1 : Int))) 1) rfl (by kernel_rfl) (by kernel_rfl) (by kernel_rfl) (by kernel_rfl) rfl rfl hf (by decide) rfl (fun w hp => ?_) ⟨_, hp⟩ ?_
        · obtain ⟨_, hp⟩ := hp
          refine st_index (E := Ek.bool) hf (by decide) Try.underlying25 elt4 rfl rfl rfl (rl17.sl hp) hc19.1 hc19.2 ?_
          clear hf; intro a ha hf
          exact st_nil hf (th_n ⟨ha, rfl⟩)
        clear hf; intro a hf
        refine dr_take 9 (.bool (gt q3.1 (IntKind.i64.wrap (i9 + (1 : Int))))) rfl (by kernel_rfl) (by kernel_rfl) (by kernel_rfl) (by kernel_rfl) rfl rfl hf (by decide) rfl (fun w hp => ?_) ⟨_, hp⟩ ?_
        · obtain ⟨_, hp⟩ := hp
          refine st_ldB hf (by decide) pl4 rfl rfl (rl17.sl hp) hc19.1 hc19.2 ?_
          clear hf; intro a ha hf
          exact st_nil hf (th_n ⟨ha, rfl⟩)
        clear hf; intro a hf
        refine dr_one 10 rfl (by kernel_rfl) ?_
        refine st_call hf (by decide) Try.func16 rfl rfl rfl rfl rfl (f_foghornref23_Point_c hp _ _ hcall21) ?_
        rintro _ w ⟨v22, v23, rfl, y24, y25, hp0⟩
        clear hp; have hp := hp0; clear hp0
        replace hp : Hp _ _ _ (Res.sl Ek.c128 33 v8 out8 :: ow) := hp
        refine ⟨_, rfl, ?_⟩
        clear hf; intro a hf
        refine st_nil hf (th_n ⟨fun _ _ => ⟨_, hp⟩, ?_⟩)
        refine dr_one 11 rfl (by kernel_rfl) ?_
        refine st_build (E := Ek.c128) (xs := [q20]) hf (by decide) elt33 Try.underlying36 hp (vals := #[(0, .complex .f64 v22 v23)]) (cells := #[.complex .f64 v22 v23]) rfl (by simp [hf.ev (x := (Operand.tmp 36)) rfl]) (by decide) (by decide) (z := .complex .f64 0 0) (by kernel_rfl) (by kernel_rfl) rfl (reps_cons (cs := [.complex .f64 v22 v23]) (show Ek.c128.rep [.complex .f64 v22 v23] q20 from ⟨_, _, rfl, y24, y25⟩) (reps_nil _)) ?_
        clear hf; intro a w v26 hf hp0; clear hp; have hp := hp0; clear hp0
        replace hp : Hp _ _ _ (Res.sl Ek.c128 33 v26 ([q20]) :: Res.sl Ek.c128 33 v8 out8 :: ow) := hp
        refine st_nil hf (th_n ⟨fun _ _ => ⟨_, hp⟩, ?_⟩)
        refine dr_one 12 rfl (by kernel_rfl) ?_
        refine st_append (E := Ek.c128) hf (by decide) elt33 Try.underlying36 (by decide) hp (i := 1) rfl rfl rfl rfl (hp.sl (i := 0) rfl) hc28 ?_
        clear hf; intro a w v29 hf hp0; clear hp; have hp := hp0; clear hp0
        replace hp : Hp _ _ _ (Res.sl Ek.c128 33 v26 ([q20]) :: Res.sl Ek.c128 33 v29 (out8 ++ [q20]) :: ow) := hp
        refine st_nil hf (th_n ⟨fun _ _ => ⟨_, hp⟩, ?_⟩)
        refine dr_take 13 (v29) rfl (by kernel_rfl) (by kernel_rfl) (by kernel_rfl) (by kernel_rfl) rfl rfl hf (by decide) rfl (fun w hp => ?_) ⟨_, hp⟩ ?_
        · obtain ⟨_, hp⟩ := hp
          refine st_assign hf rfl rfl (by decide) ?_
          clear hf; intro a ha hf
          exact st_nil hf (th_n ⟨ha, rfl⟩)
        clear hf; intro a hf
        refine dr_end (by kernel_rfl) ?_ _
        have hp := bk16 _ _ hp
        exact ⟨v26, v29, hf.sub ⟨rfl, rfl, rfl, trivial⟩, hp⟩
      rintro a w ⟨v26, v29, hf, hp⟩
      refine ib_n ?_
      refine th_n ?_
      refine wp_reg ?_
      refine st_move hf rfl rfl (by decide) ?_
      clear hf; intro a ha hf; clear ha
      refine st_iadd hf (by decide) rfl rfl rfl ?_
      clear hf; intro a ha hf; clear ha
      refine st_assign hf rfl rfl (by decide) ?_
      clear hf; intro a ha hf; clear ha
      refine st_nil hf ?_
      obtain rfl := Option.some.inj h
      have hp : Hp _ _ _ (Res.sl Ek.c128 33 v29 (out8 ++ [q20]) :: Res.sl Ek.bool 4 v5 q3.1 :: ow) := Hp.sel (pre := [Res.sl Ek.bool 4 v5 q3.1, Res.sl Ek.c128 33 v26 ([q20]), Res.sl Ek.c128 33 v29 (out8 ++ [q20])]) (tail := ow) (rs' := [Res.sl Ek.c128 33 v29 (out8 ++ [q20]), Res.sl Ek.bool 4 v5 q3.1]) hp [2, 0] (by decide) (by simp) rfl
      exact rnd_l ⟨_, hf.sub ⟨rfl, rfl, rfl, trivial⟩, hp⟩
    replace h := ifF h hb
    refine wp_exit ?_
    refine th_e ?_
    obtain rfl := Option.some.inj h
    have hp : Hp _ _ _ (Res.sl Ek.c128 33 v8 out8 :: ow) := Hp.sel (pre := [Res.sl Ek.c128 33 v8 out8, Res.sl Ek.bool 4 v5 q3.1]) (tail := ow) (rs' := [Res.sl Ek.c128 33 v8 out8]) hp [0] (by decide) (by simp) rfl
    exact rnd_r (by simp) ⟨rfl, _, hf.sub ⟨rfl, trivial⟩, hp⟩
  clear hl hf hp
  intro e a w hne hO
  obtain ⟨rfl, v10, hf, hp⟩ := hO
  refine ib_same ?_
  refine th_n ?_
  refine wp_seq ?_
  refine wp_reg ?_
  refine st_move hf rfl rfl (by decide) ?_
  clear hf; intro a ha hf; clear ha
  refine st_assign hf rfl rfl (by decide) ?_
  clear hf; intro a ha hf; clear ha
  refine st_assign hf rfl rfl (by decide) ?_
  clear hf; intro a ha hf; clear ha
  refine st_nil hf ?_
  refine th_n ?_
  refine wp_ret ?_
  obtain rfl := Option.some.inj h
  exact ⟨rfl, ⟨_, hf.sub ⟨rfl, rfl, trivial⟩, hp⟩⟩

noncomputable def f_foghornlaw23_code (cx0_Length : Int) (cx0_One : Int) (cx0_Two : Int) : Option (Int × Int × Int) := (some (cx0_Length, cx0_One, cx0_Two))
theorem f_foghornlaw23_code_c {S : Nat → Prop} {w0 w : World} {ow : List Res} (hp : Hp S w0 w ow) (cx0_Length : Int) (cx0_One : Int) (cx0_Two : Int) {r : (Int × Int × Int)} (h : f_foghornlaw23_code cx0_Length cx0_One cx0_Two = some r) :
    Calls Try.prog 14 #[.agg #[.int .i64 cx0_Length, .int .u32 cx0_One, .int .u32 cx0_Two]] w (fun e w' => e = .returned (.agg #[.int .i64 r.1, .int .u32 r.2.1, .int .u32 r.2.2]) ∧ Hp S w0 w' (ow)) := by
  unfold f_foghornlaw23_code at h
  refine enter (n := 10) (args := [.agg #[.int .i64 cx0_Length, .int .u32 cx0_One, .int .u32 cx0_Two]]) Try.func14 rfl rfl (Nat.le_of_ble_eq_true rfl) fun a hf => ?_
  replace hf : Fr 10 a [(0, .agg #[.int .i64 cx0_Length, .int .u32 cx0_One, .int .u32 cx0_Two])] := hf
  refine wp_mono (Q := fun e a w => e = .ret ∧ ∃ (c0 : Value), Fr 10 a [(2, optr c0 0)] ∧ Hp S w0 w (Res.obj 40 c0 [.int .i64 r.1, .int .u32 r.2.1, .int .u32 r.2.2] :: ow)) ?_ ?_
  rotate_left
  · rintro e a w ⟨rfl, c0, hf, hp⟩
    exact retG1 hf rfl ⟨_, _, rfl, hp.ob (i := 0) rfl, .inr ⟨by kernel_rfl, rfl⟩⟩ ⟨rfl, hp.drop⟩
  refine wp_seq ?_
  refine wp_reg ?_
  refine st_boxO (cs := [.int .i64 cx0_Length, .int .u32 cx0_One, .int .u32 cx0_Two]) hf (by decide) hp rfl rfl rfl ?_
  clear hf; intro a w v1 hf hp0; clear hp; have hp := hp0; clear hp0
  replace hp : Hp _ _ _ (Res.obj 24 v1 [.int .i64 cx0_Length, .int .u32 cx0_One, .int .u32 cx0_Two] :: ow) := hp
  refine st_alloc (cs := [.int .i64 (0 : Int), .int .u32 (0 : Int), .int .u32 (0 : Int)]) (zv := .agg #[.int .i64 (0 : Int), .int .u32 (0 : Int), .int .u32 (0 : Int)]) hf (by decide) (by kernel_rfl) rfl hp rfl ?_
  clear hf; intro a w v3 hf hp0; clear hp; have hp := hp0; clear hp0
  replace hp : Hp _ _ _ (Res.obj 40 v3 [.int .i64 (0 : Int), .int .u32 (0 : Int), .int .u32 (0 : Int)] :: Res.obj 24 v1 [.int .i64 cx0_Length, .int .u32 cx0_One, .int .u32 cx0_Two] :: ow) := hp
  refine st_nil hf ?_
  refine th_n ?_
  refine wp_seq ?_
  refine wp_reg ?_
  refine st_fa (o' := 0) hf (by decide) (off := 0) (sz := 1) (by kernel_rfl) (by decide) rfl rfl (hp.ob (i := 1) rfl) rfl ?_
  clear hf; intro a ha hf; clear ha
  refine st_ldO (u := .int .i64 cx0_Length) hf (by decide) pl3 rfl rfl (hp.ob (i := 1) rfl) rfl ?_
  clear hf; intro a ha hf; clear ha
  refine st_fa (o' := 1) hf (by decide) (off := 1) (sz := 1) (by kernel_rfl) (by decide) rfl rfl (hp.ob (i := 1) rfl) rfl ?_
  clear hf; intro a ha hf; clear ha
  refine st_ldO (u := .int .u32 cx0_One) hf (by decide) pl22 rfl rfl (hp.ob (i := 1) rfl) rfl ?_
  clear hf; intro a ha hf; clear ha
  refine st_fa (o' := 2) hf (by decide) (off := 2) (sz := 1) (by kernel_rfl) (by decide) rfl rfl (hp.ob (i := 1) rfl) rfl ?_
  clear hf; intro a ha hf; clear ha
  refine st_ldO (u := .int .u32 cx0_Two) hf (by decide) pl22 rfl rfl (hp.ob (i := 1) rfl) rfl ?_
  clear hf; intro a ha hf; clear ha
  refine st_buildA (vals := [(0, .int .i64 cx0_Length), (1, .int .u32 cx0_One), (2, .int .u32 cx0_Two)]) (cells := [.int .i64 cx0_Length, .int .u32 cx0_One, .int .u32 cx0_Two]) hf (by decide) rfl (by simp [hf.ev (x := (Operand.tmp 4)) rfl, hf.ev (x := (Operand.tmp 6)) rfl, hf.ev (x := (Operand.tmp 8)) rfl]) (fun w => by kernel_rfl) ?_
  clear hf; intro a ha hf; clear ha
  refine st_stO (us := [.int .i64 cx0_Length, .int .u32 cx0_One, .int .u32 cx0_Two]) hf hp (i := 0) rfl rfl rfl rfl rfl (by rfl) (by kernel_rfl) (Nat.le_of_ble_eq_true rfl) ?_
  clear hf; intro a w hf hp0; clear hp; have hp := hp0; clear hp0
  replace hp : Hp _ _ _ (Res.obj 40 v3 [.int .i64 cx0_Length, .int .u32 cx0_One, .int .u32 cx0_Two] :: Res.obj 24 v1 [.int .i64 cx0_Length, .int .u32 cx0_One, .int .u32 cx0_Two] :: ow) := hp
  refine st_nil hf ?_
  refine th_n ?_
  refine wp_ret ?_
  obtain rfl := Option.some.inj h
  have hp : Hp _ _ _ (Res.obj 40 v3 [.int .i64 cx0_Length, .int .u32 cx0_One, .int .u32 cx0_Two] :: ow) := Hp.sel (pre := [Res.obj 40 v3 [.int .i64 cx0_Length, .int .u32 cx0_One, .int .u32 cx0_Two], Res.obj 24 v1 [.int .i64 cx0_Length, .int .u32 cx0_One, .int .u32 cx0_Two]]) (tail := ow) (rs' := [Res.obj 40 v3 [.int .i64 cx0_Length, .int .u32 cx0_One, .int .u32 cx0_Two]]) hp [0] (by decide) (by simp) rfl
  exact ⟨rfl, ⟨_, hf.sub ⟨rfl, trivial⟩, hp⟩⟩

noncomputable def f_math_bits_Len32.j2 (xx0 : Int) (n2 : Int) : Option Int := (if 0 ≤ (IntKind.u8.wrap xx0) ∧ (IntKind.u8.wrap xx0) < ((ByteArray.mk #[0, 1, 2, 2, 3, 3, 3, 3, 4, 4, 4, 4, 4, 4, 4, 4, 5, 5, 5, 5, 5, 5, 5, 5, 5, 5, 5, 5, 5, 5, 5, 5, 6, 6, 6, 6, 6, 6, 6, 6, 6, 6, 6, 6, 6, 6, 6, 6, 6, 6, 6, 6, 6, 6, 6, 6, 6, 6, 6, 6, 6, 6, 6, 6, 7, 7, 7, 7, 7, 7, 7, 7, 7, 7, 7, 7, 7, 7, 7, 7, 7, 7, 7, 7, 7, 7, 7, 7, 7, 7, 7, 7, 7, 7, 7, 7, 7, 7, 7, 7, 7, 7, 7, 7, 7, 7, 7, 7, 7, 7, 7, 7, 7, 7, 7, 7, 7, 7, 7, 7, 7, 7, 7, 7, 7, 7, 7, 7, 8, 8, 8, 8, 8, 8, 8, 8, 8, 8, 8, 8, 8, 8, 8, 8, 8, 8, 8, 8, 8, 8, 8, 8, 8, 8, 8, 8, 8, 8, 8, 8, 8, 8, 8, 8, 8, 8, 8, 8, 8, 8, 8, 8, 8, 8, 8, 8, 8, 8, 8, 8, 8, 8, 8, 8, 8, 8, 8, 8, 8, 8, 8, 8, 8, 8, 8, 8, 8, 8, 8, 8, 8, 8, 8, 8, 8, 8, 8, 8, 8, 8, 8, 8, 8, 8, 8, 8, 8, 8, 8, 8, 8, 8, 8, 8, 8, 8, 8, 8, 8, 8, 8, 8, 8, 8, 8, 8, 8, 8, 8, 8, 8, 8, 8, 8, 8, 8, 8, 8, 8, 8, 8, 8, 8, 8, 8, 8]).size : Int) then (some (IntKind.i64.wrap (n2 + (IntKind.i64.wrap (bt (ByteArray.mk #[0, 1, 2, 2, 3, 3, 3, 3, 4, 4, 4, 4, 4, 4, 4, 4, 5, 5, 5, 5, 5, 5, 5, 5, 5, 5, 5, 5, 5, 5, 5, 5, 6, 6, 6, 6, 6, 6, 6, 6, 6, 6, 6, 6, 6, 6, 6, 6, 6, 6, 6, 6, 6, 6, 6, 6, 6, 6, 6, 6, 6, 6, 6, 6, 7, 7, 7, 7, 7, 7, 7, 7, 7, 7, 7, 7, 7, 7, 7, 7, 7, 7, 7, 7, 7, 7, 7, 7, 7, 7, 7, 7, 7, 7, 7, 7, 7, 7, 7, 7, 7, 7, 7, 7, 7, 7, 7, 7, 7, 7, 7, 7, 7, 7, 7, 7, 7, 7, 7, 7, 7, 7, 7, 7, 7, 7, 7, 7, 8, 8, 8, 8, 8, 8, 8, 8, 8, 8, 8, 8, 8, 8, 8, 8, 8, 8, 8, 8, 8, 8, 8, 8, 8, 8, 8, 8, 8, 8, 8, 8, 8, 8, 8, 8, 8, 8, 8, 8, 8, 8, 8, 8, 8, 8, 8, 8, 8, 8, 8, 8, 8, 8, 8, 8, 8, 8, 8, 8, 8, 8, 8, 8, 8, 8, 8, 8, 8, 8, 8, 8, 8, 8, 8, 8, 8, 8, 8, 8, 8, 8, 8, 8, 8, 8, 8, 8, 8, 8, 8, 8, 8, 8, 8, 8, 8, 8, 8, 8, 8, 8, 8, 8, 8, 8, 8, 8, 8, 8, 8, 8, 8, 8, 8, 8, 8, 8, 8, 8, 8, 8, 8, 8, 8, 8, 8, 8]) (IntKind.u8.wrap xx0)))))) else none)
noncomputable def f_math_bits_Len32.j1 (xx0 : Int) (n2 : Int) : Option Int := (if (decide ((256 : Int) ≤ xx0)) = true then (f_math_bits_Len32.j2 (ishr .u32 xx0 (8 : Int)) (IntKind.i64.wrap (n2 + (8 : Int)))) else (f_math_bits_Len32.j2 xx0 n2))
noncomputable def f_math_bits_Len32 (xx0 : Int) : Option Int := (if (decide ((65536 : Int) ≤ xx0)) = true then (f_math_bits_Len32.j1 (ishr .u32 xx0 (16 : Int)) (16 : Int)) else (f_math_bits_Len32.j1 xx0 (0 : Int)))
theorem f_math_bits_Len32_c {S : Nat → Prop} {w0 w : World} {ow : List Res} (hp : Hp S w0 w ow) (xx0 : Int) {r : Int} (h : f_math_bits_Len32 xx0 = some r) :
    Calls Try.prog 61 #[.int .u32 xx0] w (fun e w' => e = .returned (.int .i64 r) ∧ Hp S w0 w' (ow)) := by
  unfold f_math_bits_Len32 at h
  refine enter (n := 19) (args := [.int .u32 xx0]) Try.func61 rfl rfl (Nat.le_of_ble_eq_true rfl) fun a hf => ?_
  replace hf : Fr 19 a [(0, .int .u32 xx0)] := hf
  refine wp_mono (Q := fun e a w => e = .ret ∧ Fr 19 a [(2, .int .i64 r)] ∧ Hp S w0 w (ow)) ?_ ?_
  rotate_left
  · rintro e a w ⟨rfl, hf, hp⟩
    exact ret1 hf rfl rfl ⟨rfl, hp⟩
  refine wp_seq ?_
  refine wp_reg ?_
  refine st_assign hf rfl rfl (by decide) ?_
  clear hf; intro a ha hf; clear ha
  refine st_nil hf ?_
  refine th_n ?_
  refine wp_seq_cut (fun a w => ∃ (xx0 : Int) (n2 : Int), f_math_bits_Len32.j1 xx0 n2 = some r ∧ Fr 19 a [(0, .int .u32 xx0), (2, .int .i64 n2)] ∧ Hp S w0 w (ow)) ?_ ?_
  · skip
    refine wp_seq ?_
    refine wp_reg ?_
    refine st_move hf rfl rfl (by decide) ?_
    clear hf; intro a ha hf; clear ha
    refine st_igeq hf (by decide) rfl rfl rfl ?_
    clear hf; intro a ha hf; clear ha
    refine st_nil hf ?_
    refine th_n ?_
    refine wp_if hf rfl (fun hb => ?_) (fun hb => ?_)
    · replace h := ifT h hb
      refine wp_seq ?_
      refine wp_reg ?_
      refine st_move hf rfl rfl (by decide) ?_
      clear hf; intro a ha hf; clear ha
      refine st_ishr hf (by decide) rfl rfl rfl (by decide) ?_
      clear hf; intro a ha hf; clear ha
      refine st_assign hf rfl rfl (by decide) ?_
      clear hf; intro a ha hf; clear ha
      refine st_nil hf ?_
      refine th_n ?_
      refine wp_reg ?_
      refine st_assign hf rfl rfl (by decide) ?_
      clear hf; intro a ha hf; clear ha
      refine st_nil hf ?_
      refine th_n ?_
      exact ⟨_, _, h, hf.sub ⟨rfl, rfl, trivial⟩, hp⟩
    replace h := ifF h hb
    refine wp_skip ?_
    refine th_n ?_
    exact ⟨_, _, h, hf.sub ⟨rfl, rfl, trivial⟩, hp⟩
  rintro a w ⟨xx0, n2, h, hf, hp⟩
  unfold f_math_bits_Len32.j1 at h
  refine wp_seq_cut (fun a w => ∃ (xx0 : Int) (n2 : Int), f_math_bits_Len32.j2 xx0 n2 = some r ∧ Fr 19 a [(0, .int .u32 xx0), (2, .int .i64 n2)] ∧ Hp S w0 w (ow)) ?_ ?_
  · skip
    refine wp_seq ?_
    refine wp_reg ?_
    refine st_move hf rfl rfl (by decide) ?_
    clear hf; intro a ha hf; clear ha
    refine st_igeq hf (by decide) rfl rfl rfl ?_
    clear hf; intro a ha hf; clear ha
    refine st_nil hf ?_
    refine th_n ?_
    refine wp_if hf rfl (fun hb => ?_) (fun hb => ?_)
    · replace h := ifT h hb
      refine wp_seq ?_
      refine wp_reg ?_
      refine st_move hf rfl rfl (by decide) ?_
      clear hf; intro a ha hf; clear ha
      refine st_ishr hf (by decide) rfl rfl rfl (by decide) ?_
      clear hf; intro a ha hf; clear ha
      refine st_assign hf rfl rfl (by decide) ?_
      clear hf; intro a ha hf; clear ha
      refine st_nil hf ?_
      refine th_n ?_
      refine wp_reg ?_
      refine st_move hf rfl rfl (by decide) ?_
      clear hf; intro a ha hf; clear ha
      refine st_iadd hf (by decide) rfl rfl rfl ?_
      clear hf; intro a ha hf; clear ha
      refine st_assign hf rfl rfl (by decide) ?_
      clear hf; intro a ha hf; clear ha
      refine st_nil hf ?_
      refine th_n ?_
      exact ⟨_, _, h, hf.sub ⟨rfl, rfl, trivial⟩, hp⟩
    replace h := ifF h hb
    refine wp_skip ?_
    refine th_n ?_
    exact ⟨_, _, h, hf.sub ⟨rfl, rfl, trivial⟩, hp⟩
  rintro a w ⟨xx0, n2, h, hf, hp⟩
  unfold f_math_bits_Len32.j2 at h
  refine wp_seq ?_
  refine wp_reg ?_
  refine st_move hf rfl rfl (by decide) ?_
  clear hf; intro a ha hf; clear ha
  refine st_move hf rfl rfl (by decide) ?_
  clear hf; intro a ha hf; clear ha
  refine st_conv_ii hf (by decide) (by rw [Try.underlying22]; rfl) Try.underlying5 rfl rfl ?_
  clear hf; intro a ha hf; clear ha
  obtain ⟨hc1, h⟩ := chk h
  refine st_sidx hf (by decide) Try.underlying9 rfl rfl rfl hc1.1 hc1.2 ?_
  clear hf; intro a ha hf; clear ha
  refine st_conv_ii hf (by decide) (by rw [Try.underlying5]; rfl) Try.underlying3 rfl rfl ?_
  clear hf; intro a ha hf; clear ha
  refine st_iadd hf (by decide) rfl rfl rfl ?_
  clear hf; intro a ha hf; clear ha
  refine st_assign hf rfl rfl (by decide) ?_
  clear hf; intro a ha hf; clear ha
  refine st_nil hf ?_
  refine th_n ?_
  refine wp_ret ?_
  obtain rfl := Option.some.inj h
  exact ⟨rfl, ⟨hf.sub ⟨rfl, trivial⟩, hp⟩⟩

end Go.Proofs.Ytcooefnbolobaaa
