/- The functions foghorn foghornlaw23.SoftNearest: what each answers, as a plain function, and that its call answers it; printed by gen.py. -/
import Derived.Test.YtcooefnbolobaaaProg
import Derived.Test.YtcooefnbolobaaaGlUc
import Derived.KernelRfl
import Derived.Test.YtcooefnbolobaaaG4p2
set_option linter.unusedVariables false
set_option linter.unusedSimpArgs false
set_option maxRecDepth 100000
set_option maxHeartbeats 4000000
namespace Go.Proofs.Ytcooefnbolobaaa
open GL
noncomputable def f_foghornlaw23_samples.s1c (l0 : (List (Int × Int × Bool))) (out3 : (List ((Fl × Fl) × Bool))) (i4 : Int) : Option (((List ((Fl × Fl) × Bool)) × Int) ⊕ (List ((Fl × Fl) × Bool))) := (if (decide (i4 < (l0.length : Int))) = true then (if 0 ≤ i4 ∧ i4 < (l0.length : Int) then ((farithS .quo (fofi ((gt l0 i4).1)) (Fl.bits 4661225614328463360)).bind fun q6 => (if 0 ≤ i4 ∧ i4 < (l0.length : Int) then ((farithS .quo (fofi ((gt l0 i4).2.1)) (Fl.bits 4661225614328463360)).bind fun q9 => (if 0 ≤ i4 ∧ i4 < (l0.length : Int) then (if (out3.length + ([((q6, q9), (gt l0 i4).2.2)]).length) * 24 ≤ 140737488355328 then (some (Sum.inl ((out3 ++ [((q6, q9), (gt l0 i4).2.2)]), (IntKind.i64.wrap (i4 + (1 : Int)))))) else none) else none)) else none)) else none) else (some (Sum.inr out3)))
noncomputable def f_foghornlaw23_samples.s1 (l0 : (List (Int × Int × Bool))) (s : ((List ((Fl × Fl) × Bool)) × Int)) : Option (((List ((Fl × Fl) × Bool)) × Int) ⊕ (List ((Fl × Fl) × Bool))) := f_foghornlaw23_samples.s1c l0 s.1 s.2
noncomputable def f_foghornlaw23_samples (l0 : (List (Int × Int × Bool))) : Option ((List ((Fl × Fl) × Bool)) × (List ((Fl × Fl) × Bool))) := ((loop (f_foghornlaw23_samples.s1 l0) ([], (0 : Int))).bind (fun q16 => (if (q16.length + ([((Fl.bits 4651892959631900672, Fl.bits 0), false)]).length) * 24 ≤ 140737488355328 then (if 0 ≤ (q16.length : Int) ∧ (q16.length : Int) ≤ (((q16 ++ [((Fl.bits 4651892959631900672, Fl.bits 0), false)]) ++ ([] : List ((Fl × Fl) × Bool))).length : Int) then (some ((((q16 ++ [((Fl.bits 4651892959631900672, Fl.bits 0), false)]) ++ ([] : List ((Fl × Fl) × Bool))).take (((q16.length : Int)).toNat)), (((q16 ++ [((Fl.bits 4651892959631900672, Fl.bits 0), false)]) ++ ([] : List ((Fl × Fl) × Bool))).drop (((q16.length : Int)).toNat)))) else none) else none)))
theorem f_foghornlaw23_samples_c {S : Nat → Prop} {w0 w : World} {ow : List Res} (hp : Hp S w0 w ow) (vl0 : Value) (l0 : (List (Int × Int × Bool))) (hl0 : RdS (Ek.pair (Ek.int .i32) (Ek.pair (Ek.int .i32) Ek.bool)) S w0 vl0 l0) {r : ((List ((Fl × Fl) × Bool)) × (List ((Fl × Fl) × Bool)))} (h : f_foghornlaw23_samples l0 = some r) :
    Calls Try.prog 9 #[vl0] w (fun e w' => ∃ (u0 : Value), e = .returned (u0) ∧ Hp S w0 w' (Res.slx (Ek.pair Ek.c128 Ek.bool) 35 u0 r.1 r.2 :: ow)) := by
  unfold f_foghornlaw23_samples at h
  refine enter (n := 44) (args := [vl0]) Try.func9 rfl rfl (Nat.le_of_ble_eq_true rfl) fun a hf => ?_
  replace hf : Fr 44 a [(0, vl0)] := hf
  refine wp_mono (Q := fun e a w => e = .ret ∧ ∃ (u0 : Value), Fr 44 a [(2, u0)] ∧ Hp S w0 w (Res.slx (Ek.pair Ek.c128 Ek.bool) 35 u0 r.1 r.2 :: ow)) ?_ ?_
  rotate_left
  · rintro e a w ⟨rfl, x0, hf, hp⟩
    exact ret1 hf rfl rfl ⟨x0, rfl, hp⟩
  refine wp_seq ?_
  refine wp_reg ?_
  refine st_assign hf rfl rfl (by decide) ?_
  clear hf; intro a ha hf; clear ha
  refine st_nil hf ?_
  refine th_n ?_
  refine wp_seq ?_
  refine wp_reg ?_
  refine st_assign hf rfl rfl (by decide) ?_
  clear hf; intro a ha hf; clear ha
  refine st_nil hf ?_
  refine th_n ?_
  refine wp_seq ?_
  refine wp_seq ?_
  refine wp_reg ?_
  refine st_assign hf rfl rfl (by decide) ?_
  clear hf; intro a ha hf; clear ha
  refine st_nil hf ?_
  refine th_n ?_
  refine wp_block ?_
  obtain ⟨q16, hl, h⟩ := bnd h
  have hp := hp.nil (Ek.pair Ek.c128 Ek.bool) 35
  refine wp_loop_pure (f := (f_foghornlaw23_samples.s1 l0)) (s := ([], (0 : Int))) (fun s a w => ∃ (v1 : Value), Fr 44 a [(0, vl0), (3, v1), (4, .int .i64 s.2)] ∧ Hp S w0 w (Res.sl (Ek.pair Ek.c128 Ek.bool) 35 v1 s.1 :: ow)) (fun q e a w => e = .exit 0 ∧ ∃ (v3 : Value), Fr 44 a [(3, v3)] ∧ Hp S w0 w (Res.sl (Ek.pair Ek.c128 Ek.bool) 35 v3 q :: ow)) ?_ hl ⟨_, hf.sub ⟨rfl, rfl, rfl, trivial⟩, hp⟩ ?_
  · clear hl hf hp
    intro s x a w h hI
    obtain ⟨out3, i4⟩ := s
    obtain ⟨v1, hf, hp⟩ : ∃ (v1 : Value), Fr 44 a [(0, vl0), (3, v1), (4, .int .i64 i4)] ∧ Hp S w0 w (Res.sl (Ek.pair Ek.c128 Ek.bool) 35 v1 out3 :: ow) := hI
    replace h : f_foghornlaw23_samples.s1c l0 out3 i4 = some x := h
    unfold f_foghornlaw23_samples.s1c at h
    refine wp_seq ?_
    refine wp_seq ?_
    refine wp_reg ?_
    refine st_move hf rfl rfl (by decide) ?_
    clear hf; intro a ha hf; clear ha
    refine st_move hf rfl rfl (by decide) ?_
    clear hf; intro a ha hf; clear ha
    refine st_len (E := (Ek.pair (Ek.int .i32) (Ek.pair (Ek.int .i32) Ek.bool))) hf (by decide) Try.underlying26 rfl rfl (hl0.sl hp) ?_
    clear hf; intro a ha hf; clear ha
    refine st_ilss hf (by decide) rfl rfl rfl ?_
    clear hf; intro a ha hf; clear ha
    refine st_nil hf ?_
    refine th_n ?_
    refine wp_if hf rfl (fun hb => ?_) (fun hb => ?_)
    · replace h := ifT h hb
      refine wp_skip ?_
      refine th_n ?_
      refine wp_seq ?_
      refine wp_block ?_
      obtain ⟨hc5, h⟩ := chk h
      obtain ⟨q6, hq7, h⟩ := bnd h
      obtain ⟨hc8, h⟩ := chk h
      obtain ⟨q9, hq10, h⟩ := bnd h
      obtain ⟨hc11, h⟩ := chk h
      obtain ⟨hc14, h⟩ := chk h
      refine wp_cutN (fun a w => ∃ (v12 : Value) (v15 : Value), Fr 44 a [(0, vl0), (3, v15), (4, .int .i64 i4)] ∧ Hp S w0 w (Res.sl (Ek.pair Ek.c128 Ek.bool) 35 v12 ([((q6, q9), (gt l0 i4).2.2)]) :: Res.sl (Ek.pair Ek.c128 Ek.bool) 35 v15 (out3 ++ [((q6, q9), (gt l0 i4).2.2)]) :: ow)) ?_ ?_
      · have hp := hp.same (Same.drew w)
        refine dr_begin' (fun a w => ∃ (v12 : Value) (v15 : Value), Fr 44 a [(0, vl0), (3, v15), (4, .int .i64 i4)] ∧ Hp S w0 w (Res.sl (Ek.pair Ek.c128 Ek.bool) 35 v12 ([((q6, q9), (gt l0 i4).2.2)]) :: Res.sl (Ek.pair Ek.c128 Ek.bool) 35 v15 (out3 ++ [((q6, q9), (gt l0 i4).2.2)]) :: ow)) (fun w' => ∃ l, Hp S w0 w' l) [] (by kernel_rfl) ?_
        refine dr_take 0 (v1) rfl (by kernel_rfl) (by kernel_rfl) (by kernel_rfl) (by kernel_rfl) rfl rfl hf (by decide) rfl (fun w hp => ?_) ⟨_, hp⟩ ?_
        · obtain ⟨_, hp⟩ := hp
          refine st_move hf rfl rfl (by decide) ?_
          clear hf; intro a ha hf
          exact st_nil hf (th_n ⟨ha, rfl⟩)
        clear hf; intro a hf
        refine dr_take 1 (vl0) rfl (by kernel_rfl) (by kernel_rfl) (by kernel_rfl) (by kernel_rfl) rfl rfl hf (by decide) rfl (fun w hp => ?_) ⟨_, hp⟩ ?_
        · obtain ⟨_, hp⟩ := hp
          refine st_move hf rfl rfl (by decide) ?_
          clear hf; intro a ha hf
          exact st_nil hf (th_n ⟨ha, rfl⟩)
        clear hf; intro a hf
        refine dr_take 2 (.int .i64 i4) rfl (by kernel_rfl) (by kernel_rfl) (by kernel_rfl) (by kernel_rfl) rfl rfl hf (by decide) rfl (fun w hp => ?_) ⟨_, hp⟩ ?_
        · obtain ⟨_, hp⟩ := hp
          refine st_move hf rfl rfl (by decide) ?_
          clear hf; intro a ha hf
          exact st_nil hf (th_n ⟨ha, rfl⟩)
        clear hf; intro a hf
        refine dr_take 3 (eptr vl0 i4 3) rfl (by kernel_rfl) (by kernel_rfl) (by kernel_rfl) (by kernel_rfl) rfl rfl hf (by decide) rfl (fun w hp => ?_) ⟨_, hp⟩ ?_
        · obtain ⟨_, hp⟩ := hp
          refine st_index (E := (Ek.pair (Ek.int .i32) (Ek.pair (Ek.int .i32) Ek.bool))) hf (by decide) Try.underlying26 elt62 rfl rfl rfl (hl0.sl hp) hc5.1 hc5.2 ?_
          clear hf; intro a ha hf
          exact st_nil hf (th_n ⟨ha, rfl⟩)
        clear hf; intro a hf
        refine dr_take 4 (optr (eptr vl0 i4 3) 0) rfl (by kernel_rfl) (by kernel_rfl) (by kernel_rfl) (by kernel_rfl) rfl rfl hf (by decide) rfl (fun w hp => ?_) ⟨_, hp⟩ ?_
        · obtain ⟨_, hp⟩ := hp
          refine st_faP (off := 0) (sz := 1) hf (by decide) (by kernel_rfl) (by decide) rfl rfl (Sl.isP (hl0.sl hp) hc5.1 hc5.2) ?_
          clear hf; intro a ha hf
          exact st_nil hf (th_n ⟨ha, rfl⟩)
        clear hf; intro a hf
        refine dr_take 5 (.int .i32 ((gt l0 i4).1)) rfl (by kernel_rfl) (by kernel_rfl) (by kernel_rfl) (by kernel_rfl) rfl rfl hf (by decide) rfl (fun w hp => ?_) ⟨_, hp⟩ ?_
        · obtain ⟨_, hp⟩ := hp
          refine st_ldQ (F := (Ek.int .i32)) (yv := (gt l0 i4).1) hf (by decide) pl21 (fun x => .int .i32 x) (fun _ _ h => h) rfl rfl (Sl.part (E := (Ek.pair (Ek.int .i32) (Ek.pair (Ek.int .i32) Ek.bool))) (F := (Ek.int .i32)) (o := 0) (Sub.fst (E := (Ek.int .i32)) (F := (Ek.pair (Ek.int .i32) Ek.bool))) (hl0.sl hp) hc5.1 hc5.2) ?_
          clear hf; intro a ha hf
          exact st_nil hf (th_n ⟨ha, rfl⟩)
        clear hf; intro a hf
        refine dr_take 6 (.float .f64 (FloatKind.f64.nearest ((gt l0 i4).1))) rfl (by kernel_rfl) (by kernel_rfl) (by kernel_rfl) (by kernel_rfl) rfl rfl hf (by decide) rfl (fun w hp => ?_) ⟨_, hp⟩ ?_
        · obtain ⟨_, hp⟩ := hp
          refine st_conv_if Try.underlying21 Try.underlying29 hf (by decide) rfl rfl ?_
          clear hf; intro a ha hf
          exact st_nil hf (th_n ⟨ha, rfl⟩)
        clear hf; intro a hf
        refine dr_take 7 (.float .f64 (flb q6)) rfl (by kernel_rfl) (by kernel_rfl) (by kernel_rfl) (by kernel_rfl) rfl rfl hf (by decide) rfl (fun w hp => ?_) ⟨_, hp⟩ ?_
        · obtain ⟨_, hp⟩ := hp
          refine st_fs (op := .quo) rfl hf (by decide) rfl rfl rfl (show Fl.rep (FloatKind.f64.nearest ((gt l0 i4).1)) (fofi ((gt l0 i4).1)) from rfl) (show Fl.rep 4661225614328463360 (Fl.bits 4661225614328463360) from rfl) hq7 ?_
          clear hf; intro a ha hf
          exact st_nil hf (th_n ⟨ha, rfl⟩)
        clear hf; intro a hf
        refine dr_take 8 (vl0) rfl (by kernel_rfl) (by kernel_rfl) (by kernel_rfl) (by kernel_rfl) rfl rfl hf (by decide) rfl (fun w hp => ?_) ⟨_, hp⟩ ?_
        · obtain ⟨_, hp⟩ := hp
          refine st_move hf rfl rfl (by decide) ?_
          clear hf; intro a ha hf
          exact st_nil hf (th_n ⟨ha, rfl⟩)
        clear hf; intro a hf
        refine dr_take 9 (.int .i64 i4) rfl (by kernel_rfl) (by kernel_rfl) (by kernel_rfl) (by kernel_rfl) rfl rfl hf (by decide) rfl (fun w hp => ?_) ⟨_, hp⟩ ?_
        · obtain ⟨_, hp⟩ := hp
          refine st_move hf rfl rfl (by decide) ?_
          clear hf; intro a ha hf
          exact st_nil hf (th_n ⟨ha, rfl⟩)
        clear hf; intro a hf
        refine dr_take 10 (eptr vl0 i4 3) rfl (by kernel_rfl) (by kernel_rfl) (by kernel_rfl) (by kernel_rfl) rfl rfl hf (by decide) rfl (fun w hp => ?_) ⟨_, hp⟩ ?_
        · obtain ⟨_, hp⟩ := hp
          refine st_index (E := (Ek.pair (Ek.int .i32) (Ek.pair (Ek.int .i32) Ek.bool))) hf (by decide) Try.underlying26 elt62 rfl rfl rfl (hl0.sl hp) hc8.1 hc8.2 ?_
          clear hf; intro a ha hf
          exact st_nil hf (th_n ⟨ha, rfl⟩)
        clear hf; intro a hf
        refine dr_take 11 (optr (eptr vl0 i4 3) 1) rfl (by kernel_rfl) (by kernel_rfl) (by kernel_rfl) (by kernel_rfl) rfl rfl hf (by decide) rfl (fun w hp => ?_) ⟨_, hp⟩ ?_
        · obtain ⟨_, hp⟩ := hp
          refine st_faP (off := 1) (sz := 1) hf (by decide) (by kernel_rfl) (by decide) rfl rfl (Sl.isP (hl0.sl hp) hc8.1 hc8.2) ?_
          clear hf; intro a ha hf
          exact st_nil hf (th_n ⟨ha, rfl⟩)
        clear hf; intro a hf
        refine dr_take 12 (.int .i32 ((gt l0 i4).2.1)) rfl (by kernel_rfl) (by kernel_rfl) (by kernel_rfl) (by kernel_rfl) rfl rfl hf (by decide) rfl (fun w hp => ?_) ⟨_, hp⟩ ?_
        · obtain ⟨_, hp⟩ := hp
          refine st_ldQ (F := (Ek.int .i32)) (yv := (gt l0 i4).2.1) hf (by decide) pl21 (fun x => .int .i32 x) (fun _ _ h => h) rfl rfl (Sl.part (E := (Ek.pair (Ek.int .i32) (Ek.pair (Ek.int .i32) Ek.bool))) (F := (Ek.int .i32)) (o := 1) (Sub.comp (Sub.snd (E := (Ek.int .i32)) (F := (Ek.pair (Ek.int .i32) Ek.bool))) (Sub.fst (E := (Ek.int .i32)) (F := Ek.bool))) (hl0.sl hp) hc8.1 hc8.2) ?_
          clear hf; intro a ha hf
          exact st_nil hf (th_n ⟨ha, rfl⟩)
        clear hf; intro a hf
        refine dr_take 13 (.float .f64 (FloatKind.f64.nearest ((gt l0 i4).2.1))) rfl (by kernel_rfl) (by kernel_rfl) (by kernel_rfl) (by kernel_rfl) rfl rfl hf (by decide) rfl (fun w hp => ?_) ⟨_, hp⟩ ?_
        · obtain ⟨_, hp⟩ := hp
          refine st_conv_if Try.underlying21 Try.underlying29 hf (by decide) rfl rfl ?_
          clear hf; intro a ha hf
          exact st_nil hf (th_n ⟨ha, rfl⟩)
        clear hf; intro a hf
        refine dr_take 14 (.float .f64 (flb q9)) rfl (by kernel_rfl) (by kernel_rfl) (by kernel_rfl) (by kernel_rfl) rfl rfl hf (by decide) rfl (fun w hp => ?_) ⟨_, hp⟩ ?_
        · obtain ⟨_, hp⟩ := hp
          refine st_fs (op := .quo) rfl hf (by decide) rfl rfl rfl (show Fl.rep (FloatKind.f64.nearest ((gt l0 i4).2.1)) (fofi ((gt l0 i4).2.1)) from rfl) (show Fl.rep 4661225614328463360 (Fl.bits 4661225614328463360) from rfl) hq10 ?_
          clear hf; intro a ha hf
          exact st_nil hf (th_n ⟨ha, rfl⟩)
        clear hf; intro a hf
        refine dr_take 15 (.complex .f64 (flb q6) (flb q9)) rfl (by kernel_rfl) (by kernel_rfl) (by kernel_rfl) (by kernel_rfl) rfl rfl hf (by decide) rfl (fun w hp => ?_) ⟨_, hp⟩ ?_
        · obtain ⟨_, hp⟩ := hp
          refine st_complex hf (by decide) rfl rfl rfl ?_
          clear hf; intro a ha hf
          exact st_nil hf (th_n ⟨ha, rfl⟩)
        clear hf; intro a hf
        refine dr_take 16 (vl0) rfl (by kernel_rfl) (by kernel_rfl) (by kernel_rfl) (by kernel_rfl) rfl rfl hf (by decide) rfl (fun w hp => ?_) ⟨_, hp⟩ ?_
        · obtain ⟨_, hp⟩ := hp
          refine st_move hf rfl rfl (by decide) ?_
          clear hf; intro a ha hf
          exact st_nil hf (th_n ⟨ha, rfl⟩)
        clear hf; intro a hf
        refine dr_take 17 (.int .i64 i4) rfl (by kernel_rfl) (by kernel_rfl) (by kernel_rfl) (by kernel_rfl) rfl rfl hf (by decide) rfl (fun w hp => ?_) ⟨_, hp⟩ ?_
        · obtain ⟨_, hp⟩ := hp
          refine st_move hf rfl rfl (by decide) ?_
          clear hf; intro a ha hf
          exact st_nil hf (th_n ⟨ha, rfl⟩)
        clear hf; intro a hf
        refine dr_take 18 (eptr vl0 i4 3) rfl (by kernel_rfl) (by kernel_rfl) (by kernel_rfl) (by kernel_rfl) rfl rfl hf (by decide) rfl (fun w hp => ?_) ⟨_, hp⟩ ?_
        · obtain ⟨_, hp⟩ := hp
          refine st_index (E := (Ek.pair (Ek.int .i32) (Ek.pair (Ek.int .i32) Ek.bool))) hf (by decide) Try.underlying26 elt62 rfl rfl rfl (hl0.sl hp) hc11.1 hc11.2 ?_
          clear hf; intro a ha hf
          exact st_nil hf (th_n ⟨ha, rfl⟩)
        clear hf; intro a hf
        refine dr_take 19 (optr (eptr vl0 i4 3) 2) rfl (by kernel_rfl) (by kernel_rfl) (by kernel_rfl) (by kernel_rfl) rfl rfl hf (by decide) rfl (fun w hp => ?_) ⟨_, hp⟩ ?_
        · obtain ⟨_, hp⟩ := hp
          refine st_faP (off := 2) (sz := 1) hf (by decide) (by kernel_rfl) (by decide) rfl rfl (Sl.isP (hl0.sl hp) hc11.1 hc11.2) ?_
          clear hf; intro a ha hf
          exact st_nil hf (th_n ⟨ha, rfl⟩)
        clear hf; intro a hf
        refine dr_take 20 (.bool ((gt l0 i4).2.2)) rfl (by kernel_rfl) (by kernel_rfl) (by kernel_rfl) (by kernel_rfl) rfl rfl hf (by decide) rfl (fun w hp => ?_) ⟨_, hp⟩ ?_
        · obtain ⟨_, hp⟩ := hp
          refine st_ldQ (F := Ek.bool) (yv := (gt l0 i4).2.2) hf (by decide) pl4 (fun x => .bool x) (fun _ _ h => h) rfl rfl (Sl.part (E := (Ek.pair (Ek.int .i32) (Ek.pair (Ek.int .i32) Ek.bool))) (F := Ek.bool) (o := 2) (Sub.comp (Sub.snd (E := (Ek.int .i32)) (F := (Ek.pair (Ek.int .i32) Ek.bool))) (Sub.snd (E := (Ek.int .i32)) (F := Ek.bool))) (hl0.sl hp) hc11.1 hc11.2) ?_
          clear hf; intro a ha hf
          exact st_nil hf (th_n ⟨ha, rfl⟩)
        clear hf; intro a hf
        refine dr_take 21 (.agg #[.complex .f64 (flb q6) (flb q9), .bool ((gt l0 i4).2.2)]) rfl (by kernel_rfl) (by kernel_rfl) (by kernel_rfl) (by kernel_rfl) rfl rfl hf (by decide) rfl (fun w hp => ?_) ⟨_, hp⟩ ?_
        · obtain ⟨_, hp⟩ := hp
          refine st_buildA (vals := [(0, .complex .f64 (flb q6) (flb q9)), (1, .bool ((gt l0 i4).2.2))]) (cells := [.complex .f64 (flb q6) (flb q9), .bool ((gt l0 i4).2.2)]) hf (by decide) rfl (by simp [hf.ev (x := (Operand.tmp 27)) rfl, hf.ev (x := (Operand.tmp 32)) rfl]) (fun w => by kernel_rfl) ?_
          clear hf; intro a ha hf
          exact st_nil hf (th_n ⟨ha, rfl⟩)
        clear hf; intro a hf
        refine dr_one 22 rfl (by kernel_rfl) ?_
        refine st_build (E := (Ek.pair Ek.c128 Ek.bool)) (xs := [((q6, q9), (gt l0 i4).2.2)]) hf (by decide) elt35 Try.underlying27 hp (vals := #[(0, .agg #[.complex .f64 (flb q6) (flb q9), .bool ((gt l0 i4).2.2)])]) (cells := #[.complex .f64 (flb q6) (flb q9), .bool ((gt l0 i4).2.2)]) rfl (by simp [hf.ev (x := (Operand.tmp 33)) rfl]) (by decide) (by decide) (z := .agg #[.complex .f64 0 0, .bool false]) (by kernel_rfl) (by kernel_rfl) rfl (reps_cons (cs := [.complex .f64 (flb q6) (flb q9), .bool ((gt l0 i4).2.2)]) ⟨[.complex .f64 (flb q6) (flb q9)], [.bool ((gt l0 i4).2.2)], rfl, (show Ek.c128.rep [.complex .f64 (flb q6) (flb q9)] (q6, q9) from ⟨_, _, rfl, (farithS_rep hq7), (farithS_rep hq10)⟩), rfl⟩ (reps_nil _)) ?_
        clear hf; intro a w v12 hf hp0; clear hp; have hp := hp0; clear hp0
        replace hp : Hp _ _ _ (Res.sl (Ek.pair Ek.c128 Ek.bool) 35 v12 ([((q6, q9), (gt l0 i4).2.2)]) :: Res.sl (Ek.pair Ek.c128 Ek.bool) 35 v1 out3 :: ow) := hp
        refine st_nil hf (th_n ⟨fun _ _ => ⟨_, hp⟩, ?_⟩)
        refine dr_one 23 rfl (by kernel_rfl) ?_
        refine st_append (E := (Ek.pair Ek.c128 Ek.bool)) hf (by decide) elt35 Try.underlying27 (by decide) hp (i := 1) rfl rfl rfl rfl (hp.sl (i := 0) rfl) hc14 ?_
        clear hf; intro a w v15 hf hp0; clear hp; have hp := hp0; clear hp0
        replace hp : Hp _ _ _ (Res.sl (Ek.pair Ek.c128 Ek.bool) 35 v12 ([((q6, q9), (gt l0 i4).2.2)]) :: Res.sl (Ek.pair Ek.c128 Ek.bool) 35 v15 (out3 ++ [((q6, q9), (gt l0 i4).2.2)]) :: ow) := hp
        refine st_nil hf (th_n ⟨fun _ _ => ⟨_, hp⟩, ?_⟩)
        refine dr_take 24 (v15) rfl (by kernel_rfl) (by kernel_rfl) (by kernel_rfl) (by kernel_rfl) rfl rfl hf (by decide) rfl (fun w hp => ?_) ⟨_, hp⟩ ?_
        · obtain ⟨_, hp⟩ := hp
          refine st_assign hf rfl rfl (by decide) ?_
          clear hf; intro a ha hf
          exact st_nil hf (th_n ⟨ha, rfl⟩)
        clear hf; intro a hf
        refine dr_end (by kernel_rfl) ?_ _
        exact ⟨v12, v15, hf.sub ⟨rfl, rfl, rfl, trivial⟩, hp⟩
      rintro a w ⟨v12, v15, hf, hp⟩
      refine ib_n ?_
      refine th_n ?_
      refine wp_reg ?_
      refine st_move hf rfl rfl (by decide) ?_
      clear hf; intro a ha hf; clear ha
      refine st_iadd hf (by decide) rfl rfl rfl ?_
      clear hf; intro a ha hf; clear ha
      refine st_assign hf rfl rfl (by decide) ?_
      clear hf; intro a ha hf; clear ha
      refine st_nil hf ?_
      obtain rfl := Option.some.inj h
      have hp : Hp _ _ _ (Res.sl (Ek.pair Ek.c128 Ek.bool) 35 v15 (out3 ++ [((q6, q9), (gt l0 i4).2.2)]) :: ow) := Hp.sel (pre := [Res.sl (Ek.pair Ek.c128 Ek.bool) 35 v12 ([((q6, q9), (gt l0 i4).2.2)]), Res.sl (Ek.pair Ek.c128 Ek.bool) 35 v15 (out3 ++ [((q6, q9), (gt l0 i4).2.2)])]) (tail := ow) (rs' := [Res.sl (Ek.pair Ek.c128 Ek.bool) 35 v15 (out3 ++ [((q6, q9), (gt l0 i4).2.2)])]) hp [1] (by decide) (by simp) rfl
      exact rnd_l ⟨_, hf.sub ⟨rfl, rfl, rfl, trivial⟩, hp⟩
    replace h := ifF h hb
    refine wp_exit ?_
    refine th_e ?_
    obtain rfl := Option.some.inj h
    exact rnd_r (by simp) ⟨rfl, _, hf.sub ⟨rfl, trivial⟩, hp⟩
  clear hl hf hp
  intro e a w hne hO
  obtain ⟨rfl, v3, hf, hp⟩ := hO
  refine ib_same ?_
  refine th_n ?_
  refine wp_seq ?_
  refine wp_reg ?_
  refine st_move hf rfl rfl (by decide) ?_
  clear hf; intro a ha hf; clear ha
  refine st_len (E := (Ek.pair Ek.c128 Ek.bool)) hf (by decide) Try.underlying27 rfl rfl (hp.sl (i := 0) rfl) ?_
  clear hf; intro a ha hf; clear ha
  refine st_assign hf rfl rfl (by decide) ?_
  clear hf; intro a ha hf; clear ha
  refine st_nil hf ?_
  refine th_n ?_
  refine wp_seq ?_
  refine wp_reg ?_
  refine st_move hf rfl rfl (by decide) ?_
  clear hf; intro a ha hf; clear ha
  refine st_buildA (vals := [(0, .complex .f64 4651892959631900672 0)]) (cells := [.complex .f64 4651892959631900672 0, .bool false]) hf (by decide) rfl (by simp [hf.ev (x := (Operand.const (.complex .f64 4651892959631900672 0))) rfl]) (fun w => by kernel_rfl) ?_
  clear hf; intro a ha hf; clear ha
  refine st_build (E := (Ek.pair Ek.c128 Ek.bool)) (xs := [((Fl.bits 4651892959631900672, Fl.bits 0), false)]) hf (by decide) elt35 Try.underlying27 hp (vals := #[(0, .agg #[.complex .f64 4651892959631900672 0, .bool false])]) (cells := #[.complex .f64 4651892959631900672 0, .bool false]) rfl (by simp [hf.ev (x := (Operand.tmp 39)) rfl]) (by decide) (by decide) (z := .agg #[.complex .f64 0 0, .bool false]) (by kernel_rfl) (by kernel_rfl) rfl (reps_cons (cs := [.complex .f64 4651892959631900672 0, .bool false]) ⟨[.complex .f64 4651892959631900672 0], [.bool false], rfl, (show Ek.c128.rep [.complex .f64 4651892959631900672 0] (Fl.bits 4651892959631900672, Fl.bits 0) from ⟨_, _, rfl, rfl, rfl⟩), rfl⟩ (reps_nil _)) ?_
  clear hf; intro a w v18 hf hp0; clear hp; have hp := hp0; clear hp0
  replace hp : Hp _ _ _ (Res.sl (Ek.pair Ek.c128 Ek.bool) 35 v18 ([((Fl.bits 4651892959631900672, Fl.bits 0), false)]) :: Res.sl (Ek.pair Ek.c128 Ek.bool) 35 v3 q16 :: ow) := hp
  obtain ⟨hc20, h⟩ := chk h
  refine st_append (E := (Ek.pair Ek.c128 Ek.bool)) hf (by decide) elt35 Try.underlying27 (by decide) hp (i := 1) rfl rfl rfl rfl (hp.sl (i := 0) rfl) hc20 ?_
  clear hf; intro a w v21 hf hp0; clear hp; have hp := hp0; clear hp0
  replace hp : Hp _ _ _ (Res.sl (Ek.pair Ek.c128 Ek.bool) 35 v18 ([((Fl.bits 4651892959631900672, Fl.bits 0), false)]) :: Res.sl (Ek.pair Ek.c128 Ek.bool) 35 v21 (q16 ++ [((Fl.bits 4651892959631900672, Fl.bits 0), false)]) :: ow) := hp
  refine st_move hf rfl rfl (by decide) ?_
  clear hf; intro a ha hf; clear ha
  obtain ⟨hc22, h⟩ := chk h
  have hc23 : 0 ≤ ((q16.length : Int)).toNat := by omega
  have hc24 : ((q16.length : Int)).toNat ≤ ((q16 ++ [((Fl.bits 4651892959631900672, Fl.bits 0), false)]) ++ ([] : List ((Fl × Fl) × Bool))).length := by omega
  refine st_cutX (E := (Ek.pair Ek.c128 Ek.bool)) hf (by decide) Try.underlying27 elt35 hp (i := 1) rfl rfl rfl (.inl ⟨rfl, rfl⟩) (.inr ⟨_, _, rfl, evI rfl (by omega)⟩) hc23 hc24 ?_
  clear hf; intro a ha hf; clear ha
  replace hp : Hp _ _ _ (Res.sl (Ek.pair Ek.c128 Ek.bool) 35 v18 ([((Fl.bits 4651892959631900672, Fl.bits 0), false)]) :: Res.slx (Ek.pair Ek.c128 Ek.bool) 35 (GL.cut v21 0 (((q16.length : Int)).toNat) 2) (((q16 ++ [((Fl.bits 4651892959631900672, Fl.bits 0), false)]) ++ ([] : List ((Fl × Fl) × Bool))).take (((q16.length : Int)).toNat)) (((q16 ++ [((Fl.bits 4651892959631900672, Fl.bits 0), false)]) ++ ([] : List ((Fl × Fl) × Bool))).drop (((q16.length : Int)).toNat)) :: ow) := hp.cutOwn (i := 1) rfl hc24
  refine st_assign hf rfl rfl (by decide) ?_
  clear hf; intro a ha hf; clear ha
  refine st_nil hf ?_
  refine th_n ?_
  refine wp_ret ?_
  obtain rfl := Option.some.inj h
  have hp : Hp _ _ _ (Res.slx (Ek.pair Ek.c128 Ek.bool) 35 (GL.cut v21 0 (((q16.length : Int)).toNat) 2) (((q16 ++ [((Fl.bits 4651892959631900672, Fl.bits 0), false)]) ++ ([] : List ((Fl × Fl) × Bool))).take (((q16.length : Int)).toNat)) (((q16 ++ [((Fl.bits 4651892959631900672, Fl.bits 0), false)]) ++ ([] : List ((Fl × Fl) × Bool))).drop (((q16.length : Int)).toNat)) :: ow) := Hp.sel (pre := [Res.sl (Ek.pair Ek.c128 Ek.bool) 35 v18 ([((Fl.bits 4651892959631900672, Fl.bits 0), false)]), Res.slx (Ek.pair Ek.c128 Ek.bool) 35 (GL.cut v21 0 (((q16.length : Int)).toNat) 2) (((q16 ++ [((Fl.bits 4651892959631900672, Fl.bits 0), false)]) ++ ([] : List ((Fl × Fl) × Bool))).take (((q16.length : Int)).toNat)) (((q16 ++ [((Fl.bits 4651892959631900672, Fl.bits 0), false)]) ++ ([] : List ((Fl × Fl) × Bool))).drop (((q16.length : Int)).toNat))]) (tail := ow) (rs' := [Res.slx (Ek.pair Ek.c128 Ek.bool) 35 (GL.cut v21 0 (((q16.length : Int)).toNat) 2) (((q16 ++ [((Fl.bits 4651892959631900672, Fl.bits 0), false)]) ++ ([] : List ((Fl × Fl) × Bool))).take (((q16.length : Int)).toNat)) (((q16 ++ [((Fl.bits 4651892959631900672, Fl.bits 0), false)]) ++ ([] : List ((Fl × Fl) × Bool))).drop (((q16.length : Int)).toNat))]) hp [1] (by decide) (by simp) rfl
  exact ⟨rfl, ⟨_, hf.sub ⟨rfl, trivial⟩, hp⟩⟩

noncomputable def f_foghornlaw23_calm (sx0_Re : Int) (sx0_Im : Int) (sx0_Lost : Bool) : Option ((Fl × Fl) × Bool) := (if sx0_Lost = true then (some ((Fl.bits 0, Fl.bits 0), true)) else (some (((fquo (fofi ((sx0_Re).tmod (1048576 : Int))) (Fl.bits 4661225614328463360)), (fquo (fofi ((sx0_Im).tmod (1048576 : Int))) (Fl.bits 4661225614328463360))), false)))
theorem f_foghornlaw23_calm_c {S : Nat → Prop} {w0 w : World} {ow : List Res} (hp : Hp S w0 w ow) (sx0_Re : Int) (sx0_Im : Int) (sx0_Lost : Bool) {r : ((Fl × Fl) × Bool)} (h : f_foghornlaw23_calm sx0_Re sx0_Im sx0_Lost = some r) :
    Calls Try.prog 28 #[.agg #[.int .i32 sx0_Re, .int .i32 sx0_Im, .bool sx0_Lost]] w (fun e w' => ∃ (b0 : Nat) (b1 : Nat), e = .returned (.agg #[.complex .f64 b0 b1, .bool r.2]) ∧ Fl.rep b0 r.1.1 ∧ Fl.rep b1 r.1.2 ∧ Hp S w0 w' (ow)) := by
  unfold f_foghornlaw23_calm at h
  refine enter (n := 18) (args := [.agg #[.int .i32 sx0_Re, .int .i32 sx0_Im, .bool sx0_Lost]]) Try.func28 rfl rfl (Nat.le_of_ble_eq_true rfl) fun a hf => ?_
  replace hf : Fr 18 a [(0, .agg #[.int .i32 sx0_Re, .int .i32 sx0_Im, .bool sx0_Lost])] := hf
  refine wp_mono (Q := fun e a w => e = .ret ∧ ∃ (b0 : Nat) (b1 : Nat) (c0 : Value), Fr 18 a [(2, optr c0 0)] ∧ Fl.rep b0 r.1.1 ∧ Fl.rep b1 r.1.2 ∧ Hp S w0 w (Res.obj 35 c0 [.complex .f64 b0 b1, .bool r.2] :: ow)) ?_ ?_
  rotate_left
  · rintro e a w ⟨rfl, x0, x1, c0, hf, y0, y1, hp⟩
    exact retG1 hf rfl ⟨_, _, rfl, hp.ob (i := 0) rfl, .inr ⟨by kernel_rfl, rfl⟩⟩ ⟨x0, x1, rfl, y0, y1, hp.drop⟩
  refine wp_seq ?_
  refine wp_reg ?_
  refine st_boxO (cs := [.int .i32 sx0_Re, .int .i32 sx0_Im, .bool sx0_Lost]) hf (by decide) hp rfl rfl rfl ?_
  clear hf; intro a w v1 hf hp0; clear hp; have hp := hp0; clear hp0
  replace hp : Hp _ _ _ (Res.obj 62 v1 [.int .i32 sx0_Re, .int .i32 sx0_Im, .bool sx0_Lost] :: ow) := hp
  refine st_alloc (cs := [.complex .f64 0 0, .bool false]) (zv := .agg #[.complex .f64 0 0, .bool false]) hf (by decide) (by kernel_rfl) rfl hp rfl ?_
  clear hf; intro a w v3 hf hp0; clear hp; have hp := hp0; clear hp0
  replace hp : Hp _ _ _ (Res.obj 35 v3 [.complex .f64 0 0, .bool false] :: Res.obj 62 v1 [.int .i32 sx0_Re, .int .i32 sx0_Im, .bool sx0_Lost] :: ow) := hp
  refine st_nil hf ?_
  refine th_n ?_
  refine wp_seq ?_
  refine wp_seq ?_
  refine wp_reg ?_
  refine st_fa (o' := 2) hf (by decide) (off := 2) (sz := 1) (by kernel_rfl) (by decide) rfl rfl (hp.ob (i := 1) rfl) rfl ?_
  clear hf; intro a ha hf; clear ha
  refine st_ldO (u := .bool sx0_Lost) hf (by decide) pl4 rfl rfl (hp.ob (i := 1) rfl) rfl ?_
  clear hf; intro a ha hf; clear ha
  refine st_nil hf ?_
  refine th_n ?_
  refine wp_if hf rfl (fun hb => ?_) (fun hb => ?_)
  · replace h := ifT h hb
    refine wp_seq ?_
    refine wp_reg ?_
    refine st_buildA (vals := [(1, .bool true)]) (cells := [.complex .f64 0 0, .bool true]) hf (by decide) rfl (by simp [hf.ev (x := (Operand.const (.bool true))) rfl]) (fun w => by kernel_rfl) ?_
    clear hf; intro a ha hf; clear ha
    refine st_stO (us := [.complex .f64 0 0, .bool true]) hf hp (i := 0) rfl rfl rfl rfl rfl (by rfl) (by kernel_rfl) (Nat.le_of_ble_eq_true rfl) ?_
    clear hf; intro a w hf hp0; clear hp; have hp := hp0; clear hp0
    replace hp : Hp _ _ _ (Res.obj 35 v3 [.complex .f64 0 0, .bool true] :: Res.obj 62 v1 [.int .i32 sx0_Re, .int .i32 sx0_Im, .bool sx0_Lost] :: ow) := hp
    refine st_nil hf ?_
    refine th_n ?_
    refine wp_ret ?_
    refine th_r ?_
    obtain rfl := Option.some.inj h
    have hp : Hp _ _ _ (Res.obj 35 v3 [.complex .f64 0 0, .bool true] :: ow) := Hp.sel (pre := [Res.obj 35 v3 [.complex .f64 0 0, .bool true], Res.obj 62 v1 [.int .i32 sx0_Re, .int .i32 sx0_Im, .bool sx0_Lost]]) (tail := ow) (rs' := [Res.obj 35 v3 [.complex .f64 0 0, .bool true]]) hp [0] (by decide) (by simp) rfl
    exact ⟨rfl, ⟨_, _, _, hf.sub ⟨rfl, trivial⟩, rfl, rfl, hp⟩⟩
  replace h := ifF h hb
  refine wp_skip ?_
  refine th_n ?_
  refine wp_seq ?_
  refine wp_reg ?_
  refine st_fa (o' := 0) hf (by decide) (off := 0) (sz := 1) (by kernel_rfl) (by decide) rfl rfl (hp.ob (i := 1) rfl) rfl ?_
  clear hf; intro a ha hf; clear ha
  refine st_ldO (u := .int .i32 sx0_Re) hf (by decide) pl21 rfl rfl (hp.ob (i := 1) rfl) rfl ?_
  clear hf; intro a ha hf; clear ha
  refine st_irem hf (by decide) rfl rfl rfl (by decide) ?_
  clear hf; intro a ha hf; clear ha
  refine st_conv_if Try.underlying21 Try.underlying29 hf (by decide) rfl rfl ?_
  clear hf; intro a ha hf; clear ha
  refine st_farith (op := .quo) rfl hf (by decide) hp rfl rfl rfl (show Fl.rep (FloatKind.f64.nearest ((sx0_Re).tmod (1048576 : Int))) (fofi ((sx0_Re).tmod (1048576 : Int))) from rfl) (show Fl.rep 4661225614328463360 (Fl.bits 4661225614328463360) from rfl) ?_
  clear hf; intro a w bb5 y6 hf hp0; clear hp; have hp := hp0; clear hp0
  replace hp : Hp _ _ _ (Res.obj 35 v3 [.complex .f64 0 0, .bool false] :: Res.obj 62 v1 [.int .i32 sx0_Re, .int .i32 sx0_Im, .bool sx0_Lost] :: ow) := hp
  refine st_fa (o' := 1) hf (by decide) (off := 1) (sz := 1) (by kernel_rfl) (by decide) rfl rfl (hp.ob (i := 1) rfl) rfl ?_
  clear hf; intro a ha hf; clear ha
  refine st_ldO (u := .int .i32 sx0_Im) hf (by decide) pl21 rfl rfl (hp.ob (i := 1) rfl) rfl ?_
  clear hf; intro a ha hf; clear ha
  refine st_irem hf (by decide) rfl rfl rfl (by decide) ?_
  clear hf; intro a ha hf; clear ha
  refine st_conv_if Try.underlying21 Try.underlying29 hf (by decide) rfl rfl ?_
  clear hf; intro a ha hf; clear ha
  refine st_farith (op := .quo) rfl hf (by decide) hp rfl rfl rfl (show Fl.rep (FloatKind.f64.nearest ((sx0_Im).tmod (1048576 : Int))) (fofi ((sx0_Im).tmod (1048576 : Int))) from rfl) (show Fl.rep 4661225614328463360 (Fl.bits 4661225614328463360) from rfl) ?_
  clear hf; intro a w bb7 y8 hf hp0; clear hp; have hp := hp0; clear hp0
  replace hp : Hp _ _ _ (Res.obj 35 v3 [.complex .f64 0 0, .bool false] :: Res.obj 62 v1 [.int .i32 sx0_Re, .int .i32 sx0_Im, .bool sx0_Lost] :: ow) := hp
  refine st_complex hf (by decide) rfl rfl rfl ?_
  clear hf; intro a ha hf; clear ha
  refine st_buildA (vals := [(0, .complex .f64 bb5 bb7)]) (cells := [.complex .f64 bb5 bb7, .bool false]) hf (by decide) rfl (by simp [hf.ev (x := (Operand.tmp 16)) rfl]) (fun w => by kernel_rfl) ?_
  clear hf; intro a ha hf; clear ha
  refine st_stO (us := [.complex .f64 bb5 bb7, .bool false]) hf hp (i := 0) rfl rfl rfl rfl rfl (by rfl) (by kernel_rfl) (Nat.le_of_ble_eq_true rfl) ?_
  clear hf; intro a w hf hp0; clear hp; have hp := hp0; clear hp0
  replace hp : Hp _ _ _ (Res.obj 35 v3 [.complex .f64 bb5 bb7, .bool false] :: Res.obj 62 v1 [.int .i32 sx0_Re, .int .i32 sx0_Im, .bool sx0_Lost] :: ow) := hp
  refine st_nil hf ?_
  refine th_n ?_
  refine wp_ret ?_
  obtain rfl := Option.some.inj h
  have hp : Hp _ _ _ (Res.obj 35 v3 [.complex .f64 bb5 bb7, .bool false] :: ow) := Hp.sel (pre := [Res.obj 35 v3 [.complex .f64 bb5 bb7, .bool false], Res.obj 62 v1 [.int .i32 sx0_Re, .int .i32 sx0_Im, .bool sx0_Lost]]) (tail := ow) (rs' := [Res.obj 35 v3 [.complex .f64 bb5 bb7, .bool false]]) hp [0] (by decide) (by simp) rfl
  exact ⟨rfl, ⟨_, _, _, hf.sub ⟨rfl, trivial⟩, y6, y8, hp⟩⟩

noncomputable def f_foghornlaw23_code (cx0_Length : Int) (cx0_One : Int) (cx0_Two : Int) : Option (Int × Int × Int) := (some (cx0_Length, cx0_One, cx0_Two))
theorem f_foghornlaw23_code_c {S : Nat → Prop} {w0 w : World} {ow : List Res} (hp : Hp S w0 w ow) (cx0_Length : Int) (cx0_One : Int) (cx0_Two : Int) {r : (Int × Int × Int)} (h : f_foghornlaw23_code cx0_Length cx0_One cx0_Two = some r) :
    Calls Try.prog 14 #[.agg #[.int .i64 cx0_Length, .int .u32 cx0_One, .int .u32 cx0_Two]] w (fun e w' => e = .returned (.agg #[.int .i64 r.1, .int .u32 r.2.1, .int .u32 r.2.2]) ∧ Hp S w0 w' (ow)) := by
  unfold f_foghornlaw23_code at h
  refine enter (n := 10) (args := [.agg #[.int .i64 cx0_Length, .int .u32 cx0_One, .int .u32 cx0_Two]]) Try.func14 rfl rfl (Nat.le_of_ble_eq_true rfl) fun a hf => ?_
  replace hf : Fr 10 a [(0, .agg #[.int .i64 cx0_Length, .int .u32 cx0_One, .int .u32 cx0_Two])] := hf
  refine wp_mono (Q := fun e a w => e = .ret ∧ ∃ (c0 : Value), Fr 10 a [(2, optr c0 0)] ∧ Hp S w0 w (Res.obj 40 c0 [.int .i64 r.1, .int .u32 r.2.1, .int .u32 r.2.2] :: ow)) ?_ ?_
  rotate_left
  · rintro e a w ⟨rfl, c0, hf, hp⟩
    exact retG1 hf rfl ⟨_, _, rfl, hp.ob (i := 0) rfl, .inr ⟨by kernel_rfl, rfl⟩⟩ ⟨rfl, hp.drop⟩
  refine wp_seq ?_
  refine wp_reg ?_
  refine st_boxO (cs := [.int .i64 cx0_Length, .int .u32 cx0_One, .int .u32 cx0_Two]) hf (by decide) hp rfl rfl rfl ?_
  clear hf; intro a w v1 hf hp0; clear hp; have hp := hp0; clear hp0
  replace hp : Hp _ _ _ (Res.obj 24 v1 [.int .i64 cx0_Length, .int .u32 cx0_One, .int .u32 cx0_Two] :: ow) := hp
  refine st_alloc (cs := [.int .i64 (0 : Int), .int .u32 (0 : Int), .int .u32 (0 : Int)]) (zv := .agg #[.int .i64 (0 : Int), .int .u32 (0 : Int), .int .u32 (0 : Int)]) hf (by decide) (by kernel_rfl) rfl hp rfl ?_
  clear hf; intro a w v3 hf hp0; clear hp; have hp := hp0; clear hp0
  replace hp : Hp _ _ _ (Res.obj 40 v3 [.int .i64 (0 : Int), .int .u32 (0 : Int), .int .u32 (0 : Int)] :: Res.obj 24 v1 [.int .i64 cx0_Length, .int .u32 cx0_One, .int .u32 cx0_Two] :: ow) := hp
  refine st_nil hf ?_
  refine th_n ?_
  refine wp_seq ?_
  refine wp_reg ?_
  refine st_fa (o' := 0) hf (by decide) (off := 0) (sz := 1) (by kernel_rfl) (by decide) rfl rfl (hp.ob (i := 1) rfl) rfl ?_
  clear hf; intro a ha hf; clear ha
  refine st_ldO (u := .int .i64 cx0_Length) hf (by decide) pl3 rfl rfl (hp.ob (i := 1) rfl) rfl ?_
  clear hf; intro a ha hf; clear ha
  refine st_fa (o' := 1) hf (by decide) (off := 1) (sz := 1) (by kernel_rfl) (by decide) rfl rfl (hp.ob (i := 1) rfl) rfl ?_
  clear hf; intro a ha hf; clear ha
  refine st_ldO (u := .int .u32 cx0_One) hf (by decide) pl22 rfl rfl (hp.ob (i := 1) rfl) rfl ?_
  clear hf; intro a ha hf; clear ha
  refine st_fa (o' := 2) hf (by decide) (off := 2) (sz := 1) (by kernel_rfl) (by decide) rfl rfl (hp.ob (i := 1) rfl) rfl ?_
  clear hf; intro a ha hf; clear ha
  refine st_ldO (u := .int .u32 cx0_Two) hf (by decide) pl22 rfl rfl (hp.ob (i := 1) rfl) rfl ?_
  clear hf; intro a ha hf; clear ha
  refine st_buildA (vals := [(0, .int .i64 cx0_Length), (1, .int .u32 cx0_One), (2, .int .u32 cx0_Two)]) (cells := [.int .i64 cx0_Length, .int .u32 cx0_One, .int .u32 cx0_Two]) hf (by decide) rfl (by simp [hf.ev (x := (Operand.tmp 4)) rfl, hf.ev (x := (Operand.tmp 6)) rfl, hf.ev (x := (Operand.tmp 8)) rfl]) (fun w => by kernel_rfl) ?_
  clear hf; intro a ha hf; clear ha
  refine st_stO (us := [.int .i64 cx0_Length, .int .u32 cx0_One, .int .u32 cx0_Two]) hf hp (i := 0) rfl rfl rfl rfl rfl (by rfl) (by kernel_rfl) (Nat.le_of_ble_eq_true rfl) ?_
  clear hf; intro a w hf hp0; clear hp; have hp := hp0; clear hp0
  replace hp : Hp _ _ _ (Res.obj 40 v3 [.int .i64 cx0_Length, .int .u32 cx0_One, .int .u32 cx0_Two] :: Res.obj 24 v1 [.int .i64 cx0_Length, .int .u32 cx0_One, .int .u32 cx0_Two] :: ow) := hp
  refine st_nil hf ?_
  refine th_n ?_
  refine wp_ret ?_
  obtain rfl := Option.some.inj h
  have hp : Hp _ _ _ (Res.obj 40 v3 [.int .i64 cx0_Length, .int .u32 cx0_One, .int .u32 cx0_Two] :: ow) := Hp.sel (pre := [Res.obj 40 v3 [.int .i64 cx0_Length, .int .u32 cx0_One, .int .u32 cx0_Two], Res.obj 24 v1 [.int .i64 cx0_Length, .int .u32 cx0_One, .int .u32 cx0_Two]]) (tail := ow) (rs' := [Res.obj 40 v3 [.int .i64 cx0_Length, .int .u32 cx0_One, .int .u32 cx0_Two]]) hp [0] (by decide) (by simp) rfl
  exact ⟨rfl, ⟨_, hf.sub ⟨rfl, trivial⟩, hp⟩⟩

noncomputable def f_soft_Path.s1c (cx0_Length : Int) (cx0_One : Int) (cx0_Two : Int) (bits1 : (List Bool)) (l2 : (List ((Fl × Fl) × Bool))) (sum10 : Fl) (state11 : Int) (t47 : Int) : Option ((Fl × Int × Int) ⊕ Fl) := (if (decide (t47 < (l2.length : Int))) = true then (if 0 ≤ t47 ∧ t47 < (l2.length : Int) then ((if (decide (t47 < (bits1.length : Int))) = true then (if 0 ≤ t47 ∧ t47 < (bits1.length : Int) then (some (gt bits1 t47)) else none) else (some false)).bind fun z35 => ((f_trellis_Code_Step cx0_Length cx0_One cx0_Two state11 z35).bind fun q36 => ((f_soft_cost q36.2.1 q36.2.2.1 ((gt l2 t47).1) ((gt l2 t47).2)).bind fun q38 => (some (Sum.inl ((fadd sum10 q38), q36.1, (IntKind.i64.wrap (t47 + (1 : Int))))))))) else none) else (some (Sum.inr sum10)))
noncomputable def f_soft_Path.s1 (cx0_Length : Int) (cx0_One : Int) (cx0_Two : Int) (bits1 : (List Bool)) (l2 : (List ((Fl × Fl) × Bool))) (s : (Fl × Int × Int)) : Option ((Fl × Int × Int) ⊕ Fl) := f_soft_Path.s1c cx0_Length cx0_One cx0_Two bits1 l2 s.1 s.2.1 s.2.2
noncomputable def f_soft_Path (cx0_Length : Int) (cx0_One : Int) (cx0_Two : Int) (bits1 : (List Bool)) (l2 : (List ((Fl × Fl) × Bool))) : Option (Fl × Int) := ((f_trellis_Code_Check cx0_Length cx0_One cx0_Two).bind fun q3 => (if (((q3 != (0 : Int)) || (decide ((16384 : Int) < (l2.length : Int)))) || ((IntKind.i64.wrap ((IntKind.i64.wrap ((bits1.length : Int) + cx0_Length)) - (1 : Int))) != (l2.length : Int))) = true then (some ((Fl.bits 0), (1 : Int))) else ((f_grid_Check l2).bind fun q9 => (if (q9.2 != (0 : Int)) = true then (some ((Fl.bits 0), q9.2)) else ((loop (f_soft_Path.s1 cx0_Length cx0_One cx0_Two bits1 l2) ((Fl.bits 0), (0 : Int), (0 : Int))).bind (fun q44 => (some (q44, (0 : Int)))))))))
theorem f_soft_Path_c {S : Nat → Prop} {w0 w : World} {ow : List Res} (hp : Hp S w0 w ow) (cx0_Length : Int) (cx0_One : Int) (cx0_Two : Int) (vbits1 : Value) (bits1 : (List Bool)) (hbits1 : RdS Ek.bool S w0 vbits1 bits1) (vl2 : Value) (l2 : (List ((Fl × Fl) × Bool))) (hl2 : RdS (Ek.pair Ek.c128 Ek.bool) S w0 vl2 l2) {r : (Fl × Int)} (h : f_soft_Path cx0_Length cx0_One cx0_Two bits1 l2 = some r) :
    Calls Try.prog 18 #[.agg #[.int .i64 cx0_Length, .int .u32 cx0_One, .int .u32 cx0_Two], vbits1, vl2] w (fun e w' => ∃ (b0 : Nat), e = .returned (.tuple #[.float .f64 b0, .int .i64 r.2]) ∧ Fl.rep b0 r.1 ∧ Hp S w0 w' (ow)) := by
  unfold f_soft_Path at h
  refine enter (n := 79) (args := [.agg #[.int .i64 cx0_Length, .int .u32 cx0_One, .int .u32 cx0_Two], vbits1, vl2]) Try.func18 rfl rfl (Nat.le_of_ble_eq_true rfl) fun a hf => ?_
  replace hf : Fr 79 a [(0, .agg #[.int .i64 cx0_Length, .int .u32 cx0_One, .int .u32 cx0_Two]), (1, vbits1), (2, vl2)] := hf
  refine wp_mono (Q := fun e a w => e = .ret ∧ ∃ (b0 : Nat), Fr 79 a [(6, .float .f64 b0), (7, .int .i64 r.2)] ∧ Fl.rep b0 r.1 ∧ Hp S w0 w (ow)) ?_ ?_
  rotate_left
  · rintro e a w ⟨rfl, x0, hf, y0, hp⟩
    exact ret2 hf rfl rfl rfl ⟨x0, rfl, y0, hp⟩
  refine wp_seq ?_
  refine wp_reg ?_
  refine st_boxO (cs := [.int .i64 cx0_Length, .int .u32 cx0_One, .int .u32 cx0_Two]) hf (by decide) hp rfl rfl rfl ?_
  clear hf; intro a w v1 hf hp0; clear hp; have hp := hp0; clear hp0
  replace hp : Hp _ _ _ (Res.obj 40 v1 [.int .i64 cx0_Length, .int .u32 cx0_One, .int .u32 cx0_Two] :: ow) := hp
  refine st_assign hf rfl rfl (by decide) ?_
  clear hf; intro a ha hf; clear ha
  refine st_assign hf rfl rfl (by decide) ?_
  clear hf; intro a ha hf; clear ha
  refine st_nil hf ?_
  refine th_n ?_
  refine wp_seq ?_
  refine wp_seq ?_
  refine wp_reg ?_
  refine st_ldOA (m := 3) (us := [.int .i64 cx0_Length, .int .u32 cx0_One, .int .u32 cx0_Two]) hf (by decide) (by kernel_rfl) rfl rfl (hp.ob (i := 0) rfl) rfl rfl ?_
  clear hf; intro a ha hf; clear ha
  obtain ⟨q3, hcall4, h⟩ := bnd h
  refine st_call hf (by decide) Try.func44 rfl rfl rfl rfl rfl (f_trellis_Code_Check_c hp _ _ _ hcall4) ?_
  rintro _ w ⟨rfl, hp0⟩
  clear hp; have hp := hp0; clear hp0
  replace hp : Hp _ _ _ (Res.obj 40 v1 [.int .i64 cx0_Length, .int .u32 cx0_One, .int .u32 cx0_Two] :: ow) := hp
  refine ⟨_, rfl, ?_⟩
  clear hf; intro a hf
  refine st_ineq hf (by decide) rfl rfl rfl ?_
  clear hf; intro a ha hf; clear ha
  refine st_move hf rfl rfl (by decide) ?_
  clear hf; intro a ha hf; clear ha
  refine wpList_cut 4 (fun a w => Fr 79 a [(1, vbits1), (2, vl2), (3, optr v1 0), (25, .bool ((q3 != (0 : Int)) || (decide ((16384 : Int) < (l2.length : Int)))))] ∧ Hp S w0 w (Res.obj 40 v1 [.int .i64 cx0_Length, .int .u32 cx0_One, .int .u32 cx0_Two] :: ow)) ?_ ?_
  · rcases Bool.eq_false_or_eq_true (q3 != (0 : Int)) with hb6 | hb6
    · skip
      refine st_skip hf (wantN hf rfl rfl hb6) rfl (by decide) ?_ rfl
      clear hf; intro a hf
      refine st_skip hf (wantN hf rfl rfl hb6) rfl (by decide) ?_ rfl
      clear hf; intro a hf
      refine st_skip hf (wantN hf rfl rfl hb6) rfl (by decide) ?_ rfl
      clear hf; intro a hf
      refine st_pick (v := .bool true) hf rfl rfl (fun hb' => ?_) (fun hb' => ?_) (by decide) ?_
      · rfl
      · exact absurd (hb6.symm.trans hb') (by decide)
      clear hf; intro a ha hf; clear ha
      refine st_nil hf (th_n ?_)
      exact ⟨hf.sub ⟨rfl, rfl, rfl, (by rw [hb6]; rfl), trivial⟩, hp⟩
    refine st_move hf (wantY hf rfl rfl hb6) rfl (by decide) ?_
    clear hf; intro a ha hf; clear ha
    refine st_len (E := (Ek.pair Ek.c128 Ek.bool)) hf (by decide) Try.underlying27 (wantY hf rfl rfl hb6) rfl (hl2.sl hp) ?_
    clear hf; intro a ha hf; clear ha
    refine st_igtr hf (by decide) (wantY hf rfl rfl hb6) rfl rfl ?_
    clear hf; intro a ha hf; clear ha
    refine st_pick (v := .bool (decide ((16384 : Int) < (l2.length : Int)))) hf rfl rfl (fun hb' => ?_) (fun hb' => ?_) (by decide) ?_
    · exact absurd (hb6.symm.trans hb') (by decide)
    · rfl
    clear hf; intro a ha hf; clear ha
    refine st_nil hf (th_n ?_)
    exact ⟨hf.sub ⟨rfl, rfl, rfl, (by rw [hb6]; rfl), trivial⟩, hp⟩
  rintro a w ⟨hf, hp⟩
  refine st_move hf rfl rfl (by decide) ?_
  clear hf; intro a ha hf; clear ha
  refine wpList_cut 10 (fun a w => Fr 79 a [(1, vbits1), (2, vl2), (3, optr v1 0), (36, .bool (((q3 != (0 : Int)) || (decide ((16384 : Int) < (l2.length : Int)))) || ((IntKind.i64.wrap ((IntKind.i64.wrap ((bits1.length : Int) + cx0_Length)) - (1 : Int))) != (l2.length : Int))))] ∧ Hp S w0 w (Res.obj 40 v1 [.int .i64 cx0_Length, .int .u32 cx0_One, .int .u32 cx0_Two] :: ow)) ?_ ?_
  · rcases Bool.eq_false_or_eq_true ((q3 != (0 : Int)) || (decide ((16384 : Int) < (l2.length : Int)))) with hb8 | hb8
    · skip
      refine st_skip hf (wantN hf rfl rfl hb8) rfl (by decide) ?_ rfl
      clear hf; intro a hf
      refine st_skip hf (wantN hf rfl rfl hb8) rfl (by decide) ?_ rfl
      clear hf; intro a hf
      refine st_skip hf (wantN hf rfl rfl hb8) rfl (by decide) ?_ rfl
      clear hf; intro a hf
      refine st_skip hf (wantN hf rfl rfl hb8) rfl (by decide) ?_ rfl
      clear hf; intro a hf
      refine st_skip hf (wantN hf rfl rfl hb8) rfl (by decide) ?_ rfl
      clear hf; intro a hf
      refine st_skip hf (wantN hf rfl rfl hb8) rfl (by decide) ?_ rfl
      clear hf; intro a hf
      refine st_skip hf (wantN hf rfl rfl hb8) rfl (by decide) ?_ rfl
      clear hf; intro a hf
      refine st_skip hf (wantN hf rfl rfl hb8) rfl (by decide) ?_ rfl
      clear hf; intro a hf
      refine st_skip hf (wantN hf rfl rfl hb8) rfl (by decide) ?_ rfl
      clear hf; intro a hf
      refine st_pick (v := .bool true) hf rfl rfl (fun hb' => ?_) (fun hb' => ?_) (by decide) ?_
      · rfl
      · exact absurd (hb8.symm.trans hb') (by decide)
      clear hf; intro a ha hf; clear ha
      refine st_nil hf (th_n ?_)
      exact ⟨hf.sub ⟨rfl, rfl, rfl, (by rw [hb8]; rfl), trivial⟩, hp⟩
    refine st_move hf (wantY hf rfl rfl hb8) rfl (by decide) ?_
    clear hf; intro a ha hf; clear ha
    refine st_len (E := Ek.bool) hf (by decide) Try.underlying25 (wantY hf rfl rfl hb8) rfl (hbits1.sl hp) ?_
    clear hf; intro a ha hf; clear ha
    refine st_fa (o' := 0) hf (by decide) (off := 0) (sz := 1) (by kernel_rfl) (by decide) (wantY hf rfl rfl hb8) rfl (hp.ob (i := 0) rfl) rfl ?_
    clear hf; intro a ha hf; clear ha
    refine st_ldO (u := .int .i64 cx0_Length) hf (by decide) pl3 (wantY hf rfl rfl hb8) rfl (hp.ob (i := 0) rfl) rfl ?_
    clear hf; intro a ha hf; clear ha
    refine st_iadd hf (by decide) (wantY hf rfl rfl hb8) rfl rfl ?_
    clear hf; intro a ha hf; clear ha
    refine st_isub hf (by decide) (wantY hf rfl rfl hb8) rfl rfl ?_
    clear hf; intro a ha hf; clear ha
    refine st_move hf (wantY hf rfl rfl hb8) rfl (by decide) ?_
    clear hf; intro a ha hf; clear ha
    refine st_len (E := (Ek.pair Ek.c128 Ek.bool)) hf (by decide) Try.underlying27 (wantY hf rfl rfl hb8) rfl (hl2.sl hp) ?_
    clear hf; intro a ha hf; clear ha
    refine st_ineq hf (by decide) (wantY hf rfl rfl hb8) rfl rfl ?_
    clear hf; intro a ha hf; clear ha
    refine st_pick (v := .bool ((IntKind.i64.wrap ((IntKind.i64.wrap ((bits1.length : Int) + cx0_Length)) - (1 : Int))) != (l2.length : Int))) hf rfl rfl (fun hb' => ?_) (fun hb' => ?_) (by decide) ?_
    · exact absurd (hb8.symm.trans hb') (by decide)
    · rfl
    clear hf; intro a ha hf; clear ha
    refine st_nil hf (th_n ?_)
    exact ⟨hf.sub ⟨rfl, rfl, rfl, (by rw [hb8]; rfl), trivial⟩, hp⟩
  rintro a w ⟨hf, hp⟩
  refine st_nil hf ?_
  refine th_n ?_
  refine wp_if hf rfl (fun hb => ?_) (fun hb => ?_)
  · replace h := ifT h hb
    refine wp_seq ?_
    refine wp_reg ?_
    refine st_assign hf rfl rfl (by decide) ?_
    clear hf; intro a ha hf; clear ha
    refine st_assign hf rfl rfl (by decide) ?_
    clear hf; intro a ha hf; clear ha
    refine st_nil hf ?_
    refine th_n ?_
    refine wp_ret ?_
    refine th_r ?_
    obtain rfl := Option.some.inj h
    have hp : Hp _ _ _ (ow) := Hp.sel (pre := [Res.obj 40 v1 [.int .i64 cx0_Length, .int .u32 cx0_One, .int .u32 cx0_Two]]) (tail := ow) (rs' := []) hp [] (by decide) (by simp) rfl
    exact ⟨rfl, ⟨_, hf.sub ⟨rfl, rfl, trivial⟩, rfl, hp⟩⟩
  replace h := ifF h hb
  refine wp_skip ?_
  refine th_n ?_
  refine wp_seq ?_
  refine wp_seq ?_
  refine wp_reg ?_
  refine st_move hf rfl rfl (by decide) ?_
  clear hf; intro a ha hf; clear ha
  obtain ⟨q9, hcall10, h⟩ := bnd h
  refine st_call hf (by decide) Try.func35 rfl rfl rfl rfl rfl (f_grid_Check_c hp _ _ hl2 hcall10) ?_
  rintro _ w ⟨rfl, hp0⟩
  clear hp; have hp := hp0; clear hp0
  replace hp : Hp _ _ _ (Res.obj 40 v1 [.int .i64 cx0_Length, .int .u32 cx0_One, .int .u32 cx0_Two] :: ow) := hp
  refine ⟨_, rfl, ?_⟩
  clear hf; intro a hf
  refine st_move hf rfl rfl (by decide) ?_
  clear hf; intro a ha hf; clear ha
  refine st_extract hf (by decide) rfl rfl rfl ?_
  clear hf; intro a ha hf; clear ha
  refine st_extract hf (by decide) rfl rfl rfl ?_
  clear hf; intro a ha hf; clear ha
  refine st_assign hf rfl rfl (by decide) ?_
  clear hf; intro a ha hf; clear ha
  refine st_assign hf rfl rfl (by decide) ?_
  clear hf; intro a ha hf; clear ha
  refine st_nil hf ?_
  refine th_n ?_
  refine wp_seq ?_
  refine wp_reg ?_
  refine st_move hf rfl rfl (by decide) ?_
  clear hf; intro a ha hf; clear ha
  refine st_ineq hf (by decide) rfl rfl rfl ?_
  clear hf; intro a ha hf; clear ha
  refine st_nil hf ?_
  refine th_n ?_
  refine wp_if hf rfl (fun hb => ?_) (fun hb => ?_)
  · replace h := ifT h hb
    refine wp_seq ?_
    refine wp_reg ?_
    refine st_move hf rfl rfl (by decide) ?_
    clear hf; intro a ha hf; clear ha
    refine st_assign hf rfl rfl (by decide) ?_
    clear hf; intro a ha hf; clear ha
    refine st_assign hf rfl rfl (by decide) ?_
    clear hf; intro a ha hf; clear ha
    refine st_nil hf ?_
    refine th_n ?_
    refine wp_ret ?_
    refine th_r ?_
    obtain rfl := Option.some.inj h
    have hp : Hp _ _ _ (ow) := Hp.sel (pre := [Res.obj 40 v1 [.int .i64 cx0_Length, .int .u32 cx0_One, .int .u32 cx0_Two]]) (tail := ow) (rs' := []) hp [] (by decide) (by simp) rfl
    exact ⟨rfl, ⟨_, hf.sub ⟨rfl, rfl, trivial⟩, rfl, hp⟩⟩
  replace h := ifF h hb
  refine wp_skip ?_
  refine th_n ?_
  refine wp_seq ?_
  refine wp_reg ?_
  refine st_assign hf rfl rfl (by decide) ?_
  clear hf; intro a ha hf; clear ha
  refine st_assign hf rfl rfl (by decide) ?_
  clear hf; intro a ha hf; clear ha
  refine st_nil hf ?_
  refine th_n ?_
  refine wp_seq ?_
  refine wp_seq ?_
  refine wp_reg ?_
  refine st_move hf rfl rfl (by decide) ?_
  clear hf; intro a ha hf; clear ha
  refine st_len (E := (Ek.pair Ek.c128 Ek.bool)) hf (by decide) Try.underlying27 rfl rfl (hl2.sl hp) ?_
  clear hf; intro a ha hf; clear ha
  refine st_move hf rfl rfl (by decide) ?_
  clear hf; intro a ha hf; clear ha
  refine st_nil hf ?_
  refine th_n ?_
  refine wp_block ?_
  obtain ⟨q44, hl, h⟩ := bnd h
  refine wp_loop_pure (f := (f_soft_Path.s1 cx0_Length cx0_One cx0_Two bits1 l2)) (s := ((Fl.bits 0), (0 : Int), (0 : Int))) (fun s a w => ∃ (bb11 : Nat), Fr 79 a [(1, vbits1), (3, optr v1 0), (10, .float .f64 bb11), (11, .int .i64 s.2.1), (45, vl2), (46, .int .i64 (l2.length : Int)), (47, .int .i64 s.2.2)] ∧ Fl.rep bb11 s.1 ∧ Hp S w0 w (Res.obj 40 v1 [.int .i64 cx0_Length, .int .u32 cx0_One, .int .u32 cx0_Two] :: ow)) (fun q e a w => e = .exit 0 ∧ ∃ (bb13 : Nat), Fr 79 a [(10, .float .f64 bb13)] ∧ Fl.rep bb13 q ∧ Hp S w0 w (ow)) ?_ hl ⟨_, hf.sub ⟨rfl, rfl, rfl, rfl, rfl, rfl, rfl, trivial⟩, rfl, hp⟩ ?_
  · clear hl hf hp
    intro s x a w h hI
    obtain ⟨sum10, state11, t47⟩ := s
    obtain ⟨bb11, hf, y12, hp⟩ : ∃ (bb11 : Nat), Fr 79 a [(1, vbits1), (3, optr v1 0), (10, .float .f64 bb11), (11, .int .i64 state11), (45, vl2), (46, .int .i64 (l2.length : Int)), (47, .int .i64 t47)] ∧ Fl.rep bb11 sum10 ∧ Hp S w0 w (Res.obj 40 v1 [.int .i64 cx0_Length, .int .u32 cx0_One, .int .u32 cx0_Two] :: ow) := hI
    replace h : f_soft_Path.s1c cx0_Length cx0_One cx0_Two bits1 l2 sum10 state11 t47 = some x := h
    unfold f_soft_Path.s1c at h
    refine wp_seq ?_
    refine wp_reg ?_
    refine st_ilss hf (by decide) rfl rfl rfl ?_
    clear hf; intro a ha hf; clear ha
    refine st_nil hf ?_
    refine th_n ?_
    refine wp_seq ?_
    refine wp_if hf rfl (fun hb => ?_) (fun hb => ?_)
    · replace h := ifT h hb
      refine wp_skip ?_
      refine th_n ?_
      refine wp_seq ?_
      refine wp_block ?_
      refine wp_seq ?_
      refine wp_reg ?_
      refine st_move hf rfl rfl (by decide) ?_
      clear hf; intro a ha hf; clear ha
      obtain ⟨hc15, h⟩ := chk h
      refine st_index (E := (Ek.pair Ek.c128 Ek.bool)) hf (by decide) Try.underlying27 elt35 rfl rfl rfl (hl2.sl hp) hc15.1 hc15.2 ?_
      clear hf; intro a ha hf; clear ha
      refine st_ldQA (F := (Ek.pair Ek.c128 Ek.bool)) (yv := (gt l2 t47)) (m := 2) hf (by decide) (by kernel_rfl) rfl rfl rfl (Part.whole (hl2.sl hp) hc15.1 hc15.2) ?_
      clear hf; intro a cs16 hr17 ha hf; clear ha
      obtain ⟨_, _, rfl, ⟨bb18, bb19, rfl, y20, y21⟩, rfl⟩ := hr17
      replace hf : Fr _ _ ((51, .agg #[.complex .f64 bb18 bb19, .bool ((gt l2 t47).2)]) :: _) := hf
      refine st_alloc (cs := [.complex .f64 0 0, .bool false]) (zv := .agg #[.complex .f64 0 0, .bool false]) hf (by decide) (by kernel_rfl) rfl hp rfl ?_
      clear hf; intro a w v22 hf hp0; clear hp; have hp := hp0; clear hp0
      replace hp : Hp _ _ _ (Res.obj 35 v22 [.complex .f64 0 0, .bool false] :: Res.obj 40 v1 [.int .i64 cx0_Length, .int .u32 cx0_One, .int .u32 cx0_Two] :: ow) := hp
      refine st_assign hf rfl rfl (by decide) ?_
      clear hf; intro a ha hf; clear ha
      refine st_stO (us := [.complex .f64 bb18 bb19, .bool ((gt l2 t47).2)]) hf hp (i := 0) rfl rfl rfl rfl rfl (by rfl) (by kernel_rfl) (Nat.le_of_ble_eq_true rfl) ?_
      clear hf; intro a w hf hp0; clear hp; have hp := hp0; clear hp0
      replace hp : Hp _ _ _ (Res.obj 35 v22 [.complex .f64 bb18 bb19, .bool ((gt l2 t47).2)] :: Res.obj 40 v1 [.int .i64 cx0_Length, .int .u32 cx0_One, .int .u32 cx0_Two] :: ow) := hp
      refine st_nil hf ?_
      refine th_n ?_
      refine wp_seq ?_
      obtain ⟨S24, hp25, rd26, up27, bk28⟩ := Hp.lendO hp (i := 1) rfl
      have rl29 := ((hbits1.now hp).mono up27)
      have rl30 := rd26
      have rl31 := ((hl2.now hp).mono up27)
      obtain ⟨z35, hz32, h⟩ := bnd h
      obtain ⟨q36, hcall37, h⟩ := bnd h
      refine wp_cutN (fun a w => Fr 79 a [(1, vbits1), (3, optr v1 0), (10, .float .f64 bb11), (13, optr v22 0), (14, .int .i64 q36.1), (15, .bool q36.2.1), (16, .bool q36.2.2.1), (45, vl2), (46, .int .i64 (l2.length : Int)), (47, .int .i64 t47)] ∧ Hp S w0 w (Res.obj 40 v1 [.int .i64 cx0_Length, .int .u32 cx0_One, .int .u32 cx0_Two] :: Res.obj 35 v22 [.complex .f64 bb18 bb19, .bool ((gt l2 t47).2)] :: ow)) ?_ ?_
      · have hp := hp25.same (Same.drew w)
        rcases Bool.eq_false_or_eq_true (decide (t47 < (bits1.length : Int))) with hb33 | hb33
        · skip
          replace hz32 := ifT hz32 hb33
          obtain ⟨hc34, hz32⟩ := chk hz32
          replace hz32 := Option.some.inj hz32
          refine dr_begin' (fun a w => Fr 79 a [(1, vbits1), (3, optr v1 0), (10, .float .f64 bb11), (13, optr v22 0), (14, .int .i64 q36.1), (15, .bool q36.2.1), (16, .bool q36.2.2.1), (45, vl2), (46, .int .i64 (l2.length : Int)), (47, .int .i64 t47)] ∧ Hp S w0 w (Res.obj 40 v1 [.int .i64 cx0_Length, .int .u32 cx0_One, .int .u32 cx0_Two] :: Res.obj 35 v22 [.complex .f64 bb18 bb19, .bool ((gt l2 t47).2)] :: ow)) (fun w' => ∃ l, Hp S24 w w' l) [] (by kernel_rfl) ?_
          refine dr_take 0 (.agg #[.int .i64 cx0_Length, .int .u32 cx0_One, .int .u32 cx0_Two]) rfl (by kernel_rfl) (by kernel_rfl) (by kernel_rfl) (by kernel_rfl) rfl rfl hf (by decide) rfl (fun w hp => ?_) ⟨_, hp⟩ ?_
          · obtain ⟨_, hp⟩ := hp
            refine st_ldOA (m := 3) (us := [.int .i64 cx0_Length, .int .u32 cx0_One, .int .u32 cx0_Two]) hf (by decide) (by kernel_rfl) rfl rfl (rl30.ob hp) rfl rfl ?_
            clear hf; intro a ha hf
            exact st_nil hf (th_n ⟨ha, rfl⟩)
          clear hf; intro a hf
          refine dr_take 1 (.int .i64 state11) rfl (by kernel_rfl) (by kernel_rfl) (by kernel_rfl) (by kernel_rfl) rfl rfl hf (by decide) rfl (fun w hp => ?_) ⟨_, hp⟩ ?_
          · obtain ⟨_, hp⟩ := hp
            refine st_move hf rfl rfl (by decide) ?_
            clear hf; intro a ha hf
            exact st_nil hf (th_n ⟨ha, rfl⟩)
          clear hf; intro a hf
          refine dr_take 2 (.int .i64 t47) rfl (by kernel_rfl) (by kernel_rfl) (by kernel_rfl) (by kernel_rfl) rfl rfl hf (by decide) rfl (fun w hp => ?_) ⟨_, hp⟩ ?_
          · obtain ⟨_, hp⟩ := hp
            refine st_move hf rfl rfl (by decide) ?_
            clear hf; intro a ha hf
            exact st_nil hf (th_n ⟨ha, rfl⟩)
          clear hf; intro a hf
          refine dr_take 3 (vbits1) rfl (by kernel_rfl) (by kernel_rfl) (by kernel_rfl) (by kernel_rfl) rfl rfl hf (by decide) rfl (fun w hp => ?_) ⟨_, hp⟩ ?_
          · obtain ⟨_, hp⟩ := hp
            refine st_move hf rfl rfl (by decide) ?_
            clear hf; intro a ha hf
            exact st_nil hf (th_n ⟨ha, rfl⟩)
          clear hf; intro a hf
          refine dr_take 4 (.int .i64 (bits1.length : Int)) rfl (by kernel_rfl) (by kernel_rfl) (by kernel_rfl) (by kernel_rfl) rfl rfl hf (by decide) rfl (fun w hp => ?_) ⟨_, hp⟩ ?_
          · obtain ⟨_, hp⟩ := hp
            refine st_len (E := Ek.bool) hf (by decide) Try.underlying25 rfl rfl (rl29.sl hp) ?_
            clear hf; intro a ha hf
            exact st_nil hf (th_n ⟨ha, rfl⟩)
          clear hf; intro a hf
          refine dr_take 5 (.bool (decide (t47 < (bits1.length : Int)))) rfl (by kernel_rfl) (by kernel_rfl) (by kernel_rfl) (by kernel_rfl) rfl rfl hf (by decide) rfl (fun w hp => ?_) ⟨_, hp⟩ ?_
          · obtain ⟨_, hp⟩ := hp
            refine st_ilss hf (by decide) rfl rfl rfl ?_
            clear hf; intro a ha hf
            exact st_nil hf (th_n ⟨ha, rfl⟩)
          clear hf; intro a hf
          refine dr_take 6 (.bool (decide (t47 < (bits1.length : Int)))) rfl (by kernel_rfl) (by kernel_rfl) (by kernel_rfl) (by kernel_rfl) rfl rfl hf (by decide) rfl (fun w hp => ?_) ⟨_, hp⟩ ?_
          · obtain ⟨_, hp⟩ := hp
            refine st_move hf rfl rfl (by decide) ?_
            clear hf; intro a ha hf
            exact st_nil hf (th_n ⟨ha, rfl⟩)
          clear hf; intro a hf
          refine dr_take 7 (vbits1) rfl (by kernel_rfl) (by kernel_rfl) (by kernel_rfl) (by kernel_rfl) rfl rfl hf (by decide) (wantY hf rfl rfl hb33) (fun w hp => ?_) ⟨_, hp⟩ ?_
          · obtain ⟨_, hp⟩ := hp
            refine st_move hf (wantY hf rfl rfl hb33) rfl (by decide) ?_
            clear hf; intro a ha hf
            exact st_nil hf (th_n ⟨ha, rfl⟩)
          clear hf; intro a hf
          refine dr_take 8 (.int .i64 t47) rfl (by kernel_rfl) (by kernel_rfl) (by kernel_rfl) (by kernel_rfl) rfl rfl hf (by decide) (wantY hf rfl rfl hb33) (fun w hp => ?_) ⟨_, hp⟩ ?_
          · obtain ⟨_, hp⟩ := hp
            refine st_move hf (wantY hf rfl rfl hb33) rfl (by decide) ?_
            clear hf; intro a ha hf
            exact st_nil hf (th_n ⟨ha, rfl⟩)
          clear hf; intro a hf
          refine dr_take 9 (eptr vbits1 t47 1) rfl (by kernel_rfl) (by kernel_rfl) (by kernel_rfl) (by kernel_rfl) rfl rfl hf (by decide) (wantY hf rfl rfl hb33) (fun w hp => ?_) ⟨_, hp⟩ ?_
          · obtain ⟨_, hp⟩ := hp
            refine st_index (E := Ek.bool) hf (by decide) Try.underlying25 elt4 (wantY hf rfl rfl hb33) rfl rfl (rl29.sl hp) hc34.1 hc34.2 ?_
            clear hf; intro a ha hf
            exact st_nil hf (th_n ⟨ha, rfl⟩)
          clear hf; intro a hf
          refine dr_take 10 (.bool (gt bits1 t47)) rfl (by kernel_rfl) (by kernel_rfl) (by kernel_rfl) (by kernel_rfl) rfl rfl hf (by decide) (wantY hf rfl rfl hb33) (fun w hp => ?_) ⟨_, hp⟩ ?_
          · obtain ⟨_, hp⟩ := hp
            refine st_ldB hf (by decide) pl4 (wantY hf rfl rfl hb33) rfl (rl29.sl hp) hc34.1 hc34.2 ?_
            clear hf; intro a ha hf
            exact st_nil hf (th_n ⟨ha, rfl⟩)
          clear hf; intro a hf
          refine dr_take 11 (.bool z35) rfl (by kernel_rfl) (by kernel_rfl) (by kernel_rfl) (by kernel_rfl) rfl rfl hf (by decide) rfl (fun w hp => ?_) ⟨_, hp⟩ ?_
          · obtain ⟨_, hp⟩ := hp
            refine st_pick (v := .bool z35) hf rfl rfl (fun _ => by rw [← hz32]; rfl) (fun hb' => absurd (hb33.symm.trans hb') (by decide)) (by decide) ?_
            clear hf; intro a ha hf
            exact st_nil hf (th_n ⟨ha, rfl⟩)
          clear hf; intro a hf
          refine dr_one 12 rfl (by kernel_rfl) ?_
          refine st_call hf (by decide) Try.func32 rfl rfl rfl rfl rfl (f_trellis_Code_Step_c hp _ _ _ _ _ hcall37) ?_
          rintro _ w ⟨rfl, hp0⟩
          clear hp; have hp := hp0; clear hp0
          replace hp : Hp _ _ _ (Res.obj 35 v22 [.complex .f64 bb18 bb19, .bool ((gt l2 t47).2)] :: ow) := hp
          refine ⟨_, rfl, ?_⟩
          clear hf; intro a hf
          refine st_nil hf (th_n ⟨fun _ _ => ⟨_, hp⟩, ?_⟩)
          refine dr_take 13 (.tuple #[.int .i64 q36.1, .bool q36.2.1, .bool q36.2.2.1, .int .i64 q36.2.2.2]) rfl (by kernel_rfl) (by kernel_rfl) (by kernel_rfl) (by kernel_rfl) rfl rfl hf (by decide) rfl (fun w hp => ?_) ⟨_, hp⟩ ?_
          · obtain ⟨_, hp⟩ := hp
            refine st_move hf rfl rfl (by decide) ?_
            clear hf; intro a ha hf
            exact st_nil hf (th_n ⟨ha, rfl⟩)
          clear hf; intro a hf
          refine dr_take 14 (.int .i64 q36.1) rfl (by kernel_rfl) (by kernel_rfl) (by kernel_rfl) (by kernel_rfl) rfl rfl hf (by decide) rfl (fun w hp => ?_) ⟨_, hp⟩ ?_
          · obtain ⟨_, hp⟩ := hp
            refine st_extract hf (by decide) rfl rfl rfl ?_
            clear hf; intro a ha hf
            exact st_nil hf (th_n ⟨ha, rfl⟩)
          clear hf; intro a hf
          refine dr_take 15 (.bool q36.2.1) rfl (by kernel_rfl) (by kernel_rfl) (by kernel_rfl) (by kernel_rfl) rfl rfl hf (by decide) rfl (fun w hp => ?_) ⟨_, hp⟩ ?_
          · obtain ⟨_, hp⟩ := hp
            refine st_extract hf (by decide) rfl rfl rfl ?_
            clear hf; intro a ha hf
            exact st_nil hf (th_n ⟨ha, rfl⟩)
          clear hf; intro a hf
          refine dr_take 16 (.bool q36.2.2.1) rfl (by kernel_rfl) (by kernel_rfl) (by kernel_rfl) (by kernel_rfl) rfl rfl hf (by decide) rfl (fun w hp => ?_) ⟨_, hp⟩ ?_
          · obtain ⟨_, hp⟩ := hp
            refine st_extract hf (by decide) rfl rfl rfl ?_
            clear hf; intro a ha hf
            exact st_nil hf (th_n ⟨ha, rfl⟩)
          clear hf; intro a hf
          refine dr_take 17 (.int .i64 q36.2.2.2) rfl (by kernel_rfl) (by kernel_rfl) (by kernel_rfl) (by kernel_rfl) rfl rfl hf (by decide) rfl (fun w hp => ?_) ⟨_, hp⟩ ?_
          · obtain ⟨_, hp⟩ := hp
            refine st_extract hf (by decide) rfl rfl rfl ?_
            clear hf; intro a ha hf
            exact st_nil hf (th_n ⟨ha, rfl⟩)
          clear hf; intro a hf
          refine dr_take 18 (.int .i64 q36.1) rfl (by kernel_rfl) (by kernel_rfl) (by kernel_rfl) (by kernel_rfl) rfl rfl hf (by decide) rfl (fun w hp => ?_) ⟨_, hp⟩ ?_
          · obtain ⟨_, hp⟩ := hp
            refine st_assign hf rfl rfl (by decide) ?_
            clear hf; intro a ha hf
            exact st_nil hf (th_n ⟨ha, rfl⟩)
          clear hf; intro a hf
          refine dr_take 19 (.bool q36.2.1) rfl (by kernel_rfl) (by kernel_rfl) (by kernel_rfl) (by kernel_rfl) rfl rfl hf (by decide) rfl (fun w hp => ?_) ⟨_, hp⟩ ?_
          · obtain ⟨_, hp⟩ := hp
            refine st_assign hf rfl rfl (by decide) ?_
            clear hf; intro a ha hf
            exact st_nil hf (th_n ⟨ha, rfl⟩)
          clear hf; intro a hf
          refine dr_take 20 (.bool q36.2.2.1) rfl (by kernel_rfl) (by kernel_rfl) (by kernel_rfl) (by kernel_rfl) rfl rfl hf (by decide) rfl (fun w hp => ?_) ⟨_, hp⟩ ?_
          · obtain ⟨_, hp⟩ := hp
            refine st_assign hf rfl rfl (by decide) ?_
            clear hf; intro a ha hf
            exact st_nil hf (th_n ⟨ha, rfl⟩)
          clear hf; intro a hf
          refine dr_take 21 (.int .i64 q36.2.2.2) rfl (by kernel_rfl) (by kernel_rfl) (by kernel_rfl) (by kernel_rfl) rfl rfl hf (by decide) rfl (fun w hp => ?_) ⟨_, hp⟩ ?_
          · obtain ⟨_, hp⟩ := hp
            refine st_assign hf rfl rfl (by decide) ?_
            clear hf; intro a ha hf
            exact st_nil hf (th_n ⟨ha, rfl⟩)
          clear hf; intro a hf
          refine dr_end (by kernel_rfl) ?_ _
          have hp := bk28 _ _ hp
          exact ⟨hf.sub ⟨rfl, rfl, rfl, rfl, rfl, rfl, rfl, rfl, rfl, rfl, trivial⟩, hp⟩
        skip
        replace hz32 := ifF hz32 hb33
        replace hz32 := Option.some.inj hz32
        refine dr_begin' (fun a w => Fr 79 a [(1, vbits1), (3, optr v1 0), (10, .float .f64 bb11), (13, optr v22 0), (14, .int .i64 q36.1), (15, .bool q36.2.1), (16, .bool q36.2.2.1), (45, vl2), (46, .int .i64 (l2.length : Int)), (47, .int .i64 t47)] ∧ Hp S w0 w (Res.obj 40 v1 [.int .i64 cx0_Length, .int .u32 cx0_One, .int .u32 cx0_Two] :: Res.obj 35 v22 [.complex .f64 bb18 bb19, .bool ((gt l2 t47).2)] :: ow)) (fun w' => ∃ l, Hp S24 w w' l) [] (by kernel_rfl) ?_
        refine dr_take 0 (.agg #[.int .i64 cx0_Length, .int .u32 cx0_One, .int .u32 cx0_Two]) rfl (by kernel_rfl) (by kernel_rfl) (by kernel_rfl) (by kernel_rfl) rfl rfl hf (by decide) rfl (fun w hp => ?_) ⟨_, hp⟩ ?_
        · obtain ⟨_, hp⟩ := hp
          refine st_ldOA (m := 3) (us := [.int .i64 cx0_Length, .int .u32 cx0_One, .int .u32 cx0_Two]) hf (by decide) (by kernel_rfl) rfl rfl (rl30.ob hp) rfl rfl ?_
          clear hf; intro a ha hf
          exact st_nil hf (th_n ⟨ha, rfl⟩)
        clear hf; intro a hf
        refine dr_take 1 (.int .i64 state11) rfl (by kernel_rfl) (by kernel_rfl) (by kernel_rfl) (by kernel_rfl) rfl rfl hf (by decide) rfl (fun w hp => ?_) ⟨_, hp⟩ ?_
        · obtain ⟨_, hp⟩ := hp
          refine st_move hf rfl rfl (by decide) ?_
          clear hf; intro a ha hf
          exact st_nil hf (th_n ⟨ha, rfl⟩)
        clear hf; intro a hf
        refine dr_take 2 (.int .i64 t47) rfl (by kernel_rfl) (by kernel_rfl) (by kernel_rfl) (by kernel_rfl) rfl rfl hf (by decide) rfl (fun w hp => ?_) ⟨_, hp⟩ ?_
        · obtain ⟨_, hp⟩ := hp
          refine st_move hf rfl rfl (by decide) ?_
          clear hf; intro a ha hf
          exact st_nil hf (th_n ⟨ha, rfl⟩)
        clear hf; intro a hf
        refine dr_take 3 (vbits1) rfl (by kernel_rfl) (by kernel_rfl) (by kernel_rfl) (by kernel_rfl) rfl rfl hf (by decide) rfl (fun w hp => ?_) ⟨_, hp⟩ ?_
        · obtain ⟨_, hp⟩ := hp
          refine st_move hf rfl rfl (by decide) ?_
          clear hf; intro a ha hf
          exact st_nil hf (th_n ⟨ha, rfl⟩)
        clear hf; intro a hf
        refine dr_take 4 (.int .i64 (bits1.length : Int)) rfl (by kernel_rfl) (by kernel_rfl) (by kernel_rfl) (by kernel_rfl) rfl rfl hf (by decide) rfl (fun w hp => ?_) ⟨_, hp⟩ ?_
        · obtain ⟨_, hp⟩ := hp
          refine st_len (E := Ek.bool) hf (by decide) Try.underlying25 rfl rfl (rl29.sl hp) ?_
          clear hf; intro a ha hf
          exact st_nil hf (th_n ⟨ha, rfl⟩)
        clear hf; intro a hf
        refine dr_take 5 (.bool (decide (t47 < (bits1.length : Int)))) rfl (by kernel_rfl) (by kernel_rfl) (by kernel_rfl) (by kernel_rfl) rfl rfl hf (by decide) rfl (fun w hp => ?_) ⟨_, hp⟩ ?_
        · obtain ⟨_, hp⟩ := hp
          refine st_ilss hf (by decide) rfl rfl rfl ?_
          clear hf; intro a ha hf
          exact st_nil hf (th_n ⟨ha, rfl⟩)
        clear hf; intro a hf
        refine dr_take 6 (.bool (decide (t47 < (bits1.length : Int)))) rfl (by kernel_rfl) (by kernel_rfl) (by kernel_rfl) (by kernel_rfl) rfl rfl hf (by decide) rfl (fun w hp => ?_) ⟨_, hp⟩ ?_
        · obtain ⟨_, hp⟩ := hp
          refine st_move hf rfl rfl (by decide) ?_
          clear hf; intro a ha hf
          exact st_nil hf (th_n ⟨ha, rfl⟩)
        clear hf; intro a hf
        refine dr_out 7 rfl (by kernel_rfl) (by kernel_rfl) (by kernel_rfl) (by kernel_rfl) rfl hf (by decide) rfl (wantN hf rfl rfl hb33) ⟨_, hp⟩ ?_
        clear hf; intro a hf
        refine dr_out 8 rfl (by kernel_rfl) (by kernel_rfl) (by kernel_rfl) (by kernel_rfl) rfl hf (by decide) rfl (wantN hf rfl rfl hb33) ⟨_, hp⟩ ?_
        clear hf; intro a hf
        refine dr_out 9 rfl (by kernel_rfl) (by kernel_rfl) (by kernel_rfl) (by kernel_rfl) rfl hf (by decide) rfl (wantN hf rfl rfl hb33) ⟨_, hp⟩ ?_
        clear hf; intro a hf
        refine dr_out 10 rfl (by kernel_rfl) (by kernel_rfl) (by kernel_rfl) (by kernel_rfl) rfl hf (by decide) rfl (wantN hf rfl rfl hb33) ⟨_, hp⟩ ?_
        clear hf; intro a hf
        refine dr_take 11 (.bool z35) rfl (by kernel_rfl) (by kernel_rfl) (by kernel_rfl) (by kernel_rfl) rfl rfl hf (by decide) rfl (fun w hp => ?_) ⟨_, hp⟩ ?_
        · obtain ⟨_, hp⟩ := hp
          refine st_pick (v := .bool z35) hf rfl rfl (fun hb' => absurd (hb33.symm.trans hb') (by decide)) (fun _ => by rw [← hz32]; rfl) (by decide) ?_
          clear hf; intro a ha hf
          exact st_nil hf (th_n ⟨ha, rfl⟩)
        clear hf; intro a hf
        refine dr_one 12 rfl (by kernel_rfl) ?_
        refine st_call hf (by decide) Try.func32 rfl rfl rfl rfl rfl (f_trellis_Code_Step_c hp _ _ _ _ _ hcall37) ?_
        rintro _ w ⟨rfl, hp0⟩
        clear hp; have hp := hp0; clear hp0
        replace hp : Hp _ _ _ (Res.obj 35 v22 [.complex .f64 bb18 bb19, .bool ((gt l2 t47).2)] :: ow) := hp
        refine ⟨_, rfl, ?_⟩
        clear hf; intro a hf
        refine st_nil hf (th_n ⟨fun _ _ => ⟨_, hp⟩, ?_⟩)
        refine dr_take 13 (.tuple #[.int .i64 q36.1, .bool q36.2.1, .bool q36.2.2.1, .int .i64 q36.2.2.2]) rfl (by kernel_rfl) (by kernel_rfl) (by kernel_rfl) (by kernel_rfl) rfl rfl hf (by decide) rfl (fun w hp => ?_) ⟨_, hp⟩ ?_
        · obtain ⟨_, hp⟩ := hp
          refine st_move hf rfl rfl (by decide) ?_
          clear hf; intro a ha hf
          exact st_nil hf (th_n ⟨ha, rfl⟩)
        clear hf; intro a hf
        refine dr_take 14 (.int .i64 q36.1) rfl (by kernel_rfl) (by kernel_rfl) (by kernel_rfl) (by kernel_rfl) rfl rfl hf (by decide) rfl (fun w hp => ?_) ⟨_, hp⟩ ?_
        · obtain ⟨_, hp⟩ := hp
          refine st_extract hf (by decide) rfl rfl rfl ?_
          clear hf; intro a ha hf
          exact st_nil hf (th_n ⟨ha, rfl⟩)
        clear hf; intro a hf
        refine dr_take 15 (.bool q36.2.1) rfl (by kernel_rfl) (by kernel_rfl) (by kernel_rfl) (by kernel_rfl) rfl rfl hf (by decide) rfl (fun w hp => ?_) ⟨_, hp⟩ ?_
        · obtain ⟨_, hp⟩ := hp
          refine st_extract hf (by decide) rfl rfl rfl ?_
          clear hf; intro a ha hf
          exact st_nil hf (th_n ⟨ha, rfl⟩)
        clear hf; intro a hf
        refine dr_take 16 (.bool q36.2.2.1) rfl (by kernel_rfl) (by kernel_rfl) (by kernel_rfl) (by kernel_rfl) rfl rfl hf (by decide) rfl (fun w hp => ?_) ⟨_, hp⟩ ?_
        · obtain ⟨_, hp⟩ := hp
          refine st_extract hf (by decide) rfl rfl rfl ?_
          clear hf; intro a ha hf
          exact st_nil hf (th_n ⟨ha, rfl⟩)
        clear hf; intro a hf
        refine dr_take 17 (.int .i64 q36.2.2.2) rfl (by kernel_rfl) (by kernel_rfl) (by kernel_rfl) (by kernel_rfl) rfl rfl hf (by decide) rfl (fun w hp => ?_) ⟨_, hp⟩ ?_
        · obtain ⟨_, hp⟩ := hp
          refine st_extract hf (by decide) rfl rfl rfl ?_
          clear hf; intro a ha hf
          exact st_nil hf (th_n ⟨ha, rfl⟩)
        clear hf; intro a hf
        refine dr_take 18 (.int .i64 q36.1) rfl (by kernel_rfl) (by kernel_rfl) (by kernel_rfl) (by kernel_rfl) rfl rfl hf (by decide) rfl (fun w hp => ?_) ⟨_, hp⟩ ?_
        · obtain ⟨_, hp⟩ := hp
          refine st_assign hf rfl rfl (by decide) ?_
          clear hf; intro a ha hf
          exact st_nil hf (th_n ⟨ha, rfl⟩)
        clear hf; intro a hf
        refine dr_take 19 (.bool q36.2.1) rfl (by kernel_rfl) (by kernel_rfl) (by kernel_rfl) (by kernel_rfl) rfl rfl hf (by decide) rfl (fun w hp => ?_) ⟨_, hp⟩ ?_
        · obtain ⟨_, hp⟩ := hp
          refine st_assign hf rfl rfl (by decide) ?_
          clear hf; intro a ha hf
          exact st_nil hf (th_n ⟨ha, rfl⟩)
        clear hf; intro a hf
        refine dr_take 20 (.bool q36.2.2.1) rfl (by kernel_rfl) (by kernel_rfl) (by kernel_rfl) (by kernel_rfl) rfl rfl hf (by decide) rfl (fun w hp => ?_) ⟨_, hp⟩ ?_
        · obtain ⟨_, hp⟩ := hp
          refine st_assign hf rfl rfl (by decide) ?_
          clear hf; intro a ha hf
          exact st_nil hf (th_n ⟨ha, rfl⟩)
        clear hf; intro a hf
        refine dr_take 21 (.int .i64 q36.2.2.2) rfl (by kernel_rfl) (by kernel_rfl) (by kernel_rfl) (by kernel_rfl) rfl rfl hf (by decide) rfl (fun w hp => ?_) ⟨_, hp⟩ ?_
        · obtain ⟨_, hp⟩ := hp
          refine st_assign hf rfl rfl (by decide) ?_
          clear hf; intro a ha hf
          exact st_nil hf (th_n ⟨ha, rfl⟩)
        clear hf; intro a hf
        refine dr_end (by kernel_rfl) ?_ _
        have hp := bk28 _ _ hp
        exact ⟨hf.sub ⟨rfl, rfl, rfl, rfl, rfl, rfl, rfl, rfl, rfl, rfl, trivial⟩, hp⟩
      rintro a w ⟨hf, hp⟩
      refine th_n ?_
      refine wp_seq ?_
      refine wp_reg ?_
      refine st_move hf rfl rfl (by decide) ?_
      clear hf; intro a ha hf; clear ha
      refine st_move hf rfl rfl (by decide) ?_
      clear hf; intro a ha hf; clear ha
      refine st_move hf rfl rfl (by decide) ?_
      clear hf; intro a ha hf; clear ha
      refine st_ldOA (m := 2) (us := [.complex .f64 bb18 bb19, .bool ((gt l2 t47).2)]) hf (by decide) (by kernel_rfl) rfl rfl (hp.ob (i := 1) rfl) rfl rfl ?_
      clear hf; intro a ha hf; clear ha
      obtain ⟨q38, hcall39, h⟩ := bnd h
      refine st_call hf (by decide) Try.func36 rfl rfl rfl rfl rfl (f_soft_cost_c hp _ _ _ _ _ (show Fl.rep bb18 ((gt l2 t47).1).1 from y20) (show Fl.rep bb19 ((gt l2 t47).1).2 from y21) _ hcall39) ?_
      rintro _ w ⟨v40, rfl, y41, hp0⟩
      clear hp; have hp := hp0; clear hp0
      replace hp : Hp _ _ _ (Res.obj 40 v1 [.int .i64 cx0_Length, .int .u32 cx0_One, .int .u32 cx0_Two] :: Res.obj 35 v22 [.complex .f64 bb18 bb19, .bool ((gt l2 t47).2)] :: ow) := hp
      refine ⟨_, rfl, ?_⟩
      clear hf; intro a hf
      refine st_farith (op := .add) rfl hf (by decide) hp rfl rfl rfl (show Fl.rep bb11 sum10 from y12) (show Fl.rep v40 q38 from y41) ?_
      clear hf; intro a w bb42 y43 hf hp0; clear hp; have hp := hp0; clear hp0
      replace hp : Hp _ _ _ (Res.obj 40 v1 [.int .i64 cx0_Length, .int .u32 cx0_One, .int .u32 cx0_Two] :: Res.obj 35 v22 [.complex .f64 bb18 bb19, .bool ((gt l2 t47).2)] :: ow) := hp
      refine st_assign hf rfl rfl (by decide) ?_
      clear hf; intro a ha hf; clear ha
      refine st_nil hf ?_
      refine th_n ?_
      refine wp_reg ?_
      refine st_move hf rfl rfl (by decide) ?_
      clear hf; intro a ha hf; clear ha
      refine st_assign hf rfl rfl (by decide) ?_
      clear hf; intro a ha hf; clear ha
      refine st_nil hf ?_
      refine ib_n ?_
      refine th_n ?_
      refine wp_reg ?_
      refine st_iadd hf (by decide) rfl rfl rfl ?_
      clear hf; intro a ha hf; clear ha
      refine st_move hf rfl rfl (by decide) ?_
      clear hf; intro a ha hf; clear ha
      refine st_nil hf ?_
      obtain rfl := Option.some.inj h
      have hp : Hp _ _ _ (Res.obj 40 v1 [.int .i64 cx0_Length, .int .u32 cx0_One, .int .u32 cx0_Two] :: ow) := Hp.sel (pre := [Res.obj 40 v1 [.int .i64 cx0_Length, .int .u32 cx0_One, .int .u32 cx0_Two], Res.obj 35 v22 [.complex .f64 bb18 bb19, .bool ((gt l2 t47).2)]]) (tail := ow) (rs' := [Res.obj 40 v1 [.int .i64 cx0_Length, .int .u32 cx0_One, .int .u32 cx0_Two]]) hp [0] (by decide) (by simp) rfl
      exact rnd_l ⟨_, hf.sub ⟨rfl, rfl, rfl, rfl, rfl, rfl, rfl, trivial⟩, y43, hp⟩
    replace h := ifF h hb
    refine wp_exit ?_
    refine th_e ?_
    obtain rfl := Option.some.inj h
    have hp : Hp _ _ _ (ow) := Hp.sel (pre := [Res.obj 40 v1 [.int .i64 cx0_Length, .int .u32 cx0_One, .int .u32 cx0_Two]]) (tail := ow) (rs' := []) hp [] (by decide) (by simp) rfl
    exact rnd_r (by simp) ⟨rfl, _, hf.sub ⟨rfl, trivial⟩, y12, hp⟩
  clear hl hf hp
  intro e a w hne hO
  obtain ⟨rfl, bb13, hf, y14, hp⟩ := hO
  refine ib_same ?_
  refine th_n ?_
  refine wp_seq ?_
  refine wp_reg ?_
  refine st_move hf rfl rfl (by decide) ?_
  clear hf; intro a ha hf; clear ha
  refine st_assign hf rfl rfl (by decide) ?_
  clear hf; intro a ha hf; clear ha
  refine st_assign hf rfl rfl (by decide) ?_
  clear hf; intro a ha hf; clear ha
  refine st_nil hf ?_
  refine th_n ?_
  refine wp_ret ?_
  obtain rfl := Option.some.inj h
  exact ⟨rfl, ⟨_, hf.sub ⟨rfl, rfl, trivial⟩, y14, hp⟩⟩

noncomputable def f_soft_Margin (cx0_Length : Int) (cx0_One : Int) (cx0_Two : Int) (l1 : (List ((Fl × Fl) × Bool))) : Option (Fl × Int) := ((f_soft_check cx0_Length cx0_One cx0_Two l1 (IntKind.i64.wrap (cx0_Length - (1 : Int)))).bind fun q3 => (if (q3 != (0 : Int)) = true then (some ((Fl.bits 0), q3)) else ((f_soft_run cx0_Length cx0_One cx0_Two l1 (IntKind.i64.wrap (cx0_Length - (1 : Int)))).bind fun q5 => (if (((gt q5.1 (0 : Int)).2).isNone) = true then (some ((Fl.bits 0), (6 : Int))) else (((gt q5.1 (0 : Int)).2).bind fun n41 => (((gt q5.1 (0 : Int)).1).bind fun n57 => (some ((fsub ((nth q5.2 n41).2.2.1) ((nth q5.2 n57).2.2.1)), (0 : Int)))))))))
theorem f_soft_Margin_c {S : Nat → Prop} {w0 w : World} {ow : List Res} (hp : Hp S w0 w ow) (cx0_Length : Int) (cx0_One : Int) (cx0_Two : Int) (vl1 : Value) (l1 : (List ((Fl × Fl) × Bool))) (hl1 : RdS (Ek.pair Ek.c128 Ek.bool) S w0 vl1 l1) {r : (Fl × Int)} (h : f_soft_Margin cx0_Length cx0_One cx0_Two l1 = some r) :
    Calls Try.prog 24 #[.agg #[.int .i64 cx0_Length, .int .u32 cx0_One, .int .u32 cx0_Two], vl1] w (fun e w' => ∃ (b0 : Nat), e = .returned (.tuple #[.float .f64 b0, .int .i64 r.2]) ∧ Fl.rep b0 r.1 ∧ Hp S w0 w' (ow)) := by
  unfold f_soft_Margin at h
  refine enter (n := 40) (args := [.agg #[.int .i64 cx0_Length, .int .u32 cx0_One, .int .u32 cx0_Two], vl1]) Try.func24 rfl rfl (Nat.le_of_ble_eq_true rfl) fun a hf => ?_
  replace hf : Fr 40 a [(0, .agg #[.int .i64 cx0_Length, .int .u32 cx0_One, .int .u32 cx0_Two]), (1, vl1)] := hf
  refine wp_mono (Q := fun e a w => e = .ret ∧ ∃ (b0 : Nat), Fr 40 a [(4, .float .f64 b0), (5, .int .i64 r.2)] ∧ Fl.rep b0 r.1 ∧ Hp S w0 w (ow)) ?_ ?_
  rotate_left
  · rintro e a w ⟨rfl, x0, hf, y0, hp⟩
    exact ret2 hf rfl rfl rfl ⟨x0, rfl, y0, hp⟩
  refine wp_seq ?_
  refine wp_reg ?_
  refine st_boxO (cs := [.int .i64 cx0_Length, .int .u32 cx0_One, .int .u32 cx0_Two]) hf (by decide) hp rfl rfl rfl ?_
  clear hf; intro a w v1 hf hp0; clear hp; have hp := hp0; clear hp0
  replace hp : Hp _ _ _ (Res.obj 40 v1 [.int .i64 cx0_Length, .int .u32 cx0_One, .int .u32 cx0_Two] :: ow) := hp
  refine st_assign hf rfl rfl (by decide) ?_
  clear hf; intro a ha hf; clear ha
  refine st_assign hf rfl rfl (by decide) ?_
  clear hf; intro a ha hf; clear ha
  refine st_nil hf ?_
  refine th_n ?_
  refine wp_seq ?_
  refine wp_seq ?_
  refine wp_reg ?_
  refine st_ldOA (m := 3) (us := [.int .i64 cx0_Length, .int .u32 cx0_One, .int .u32 cx0_Two]) hf (by decide) (by kernel_rfl) rfl rfl (hp.ob (i := 0) rfl) rfl rfl ?_
  clear hf; intro a ha hf; clear ha
  refine st_move hf rfl rfl (by decide) ?_
  clear hf; intro a ha hf; clear ha
  refine st_fa (o' := 0) hf (by decide) (off := 0) (sz := 1) (by kernel_rfl) (by decide) rfl rfl (hp.ob (i := 0) rfl) rfl ?_
  clear hf; intro a ha hf; clear ha
  refine st_ldO (u := .int .i64 cx0_Length) hf (by decide) pl3 rfl rfl (hp.ob (i := 0) rfl) rfl ?_
  clear hf; intro a ha hf; clear ha
  refine st_isub hf (by decide) rfl rfl rfl ?_
  clear hf; intro a ha hf; clear ha
  obtain ⟨q3, hcall4, h⟩ := bnd h
  refine st_call hf (by decide) Try.func45 rfl rfl rfl rfl rfl (f_soft_check_c hp _ _ _ _ _ hl1 _ hcall4) ?_
  rintro _ w ⟨rfl, hp0⟩
  clear hp; have hp := hp0; clear hp0
  replace hp : Hp _ _ _ (Res.obj 40 v1 [.int .i64 cx0_Length, .int .u32 cx0_One, .int .u32 cx0_Two] :: ow) := hp
  refine ⟨_, rfl, ?_⟩
  clear hf; intro a hf
  refine st_assign hf rfl rfl (by decide) ?_
  clear hf; intro a ha hf; clear ha
  refine st_nil hf ?_
  refine th_n ?_
  refine wp_seq ?_
  refine wp_reg ?_
  refine st_move hf rfl rfl (by decide) ?_
  clear hf; intro a ha hf; clear ha
  refine st_ineq hf (by decide) rfl rfl rfl ?_
  clear hf; intro a ha hf; clear ha
  refine st_nil hf ?_
  refine th_n ?_
  refine wp_if hf rfl (fun hb => ?_) (fun hb => ?_)
  · replace h := ifT h hb
    refine wp_seq ?_
    refine wp_reg ?_
    refine st_move hf rfl rfl (by decide) ?_
    clear hf; intro a ha hf; clear ha
    refine st_assign hf rfl rfl (by decide) ?_
    clear hf; intro a ha hf; clear ha
    refine st_assign hf rfl rfl (by decide) ?_
    clear hf; intro a ha hf; clear ha
    refine st_nil hf ?_
    refine th_n ?_
    refine wp_ret ?_
    refine th_r ?_
    obtain rfl := Option.some.inj h
    have hp : Hp _ _ _ (ow) := Hp.sel (pre := [Res.obj 40 v1 [.int .i64 cx0_Length, .int .u32 cx0_One, .int .u32 cx0_Two]]) (tail := ow) (rs' := []) hp [] (by decide) (by simp) rfl
    exact ⟨rfl, ⟨_, hf.sub ⟨rfl, rfl, trivial⟩, rfl, hp⟩⟩
  replace h := ifF h hb
  refine wp_skip ?_
  refine th_n ?_
  refine wp_seq ?_
  refine wp_reg ?_
  refine st_ldOA (m := 3) (us := [.int .i64 cx0_Length, .int .u32 cx0_One, .int .u32 cx0_Two]) hf (by decide) (by kernel_rfl) rfl rfl (hp.ob (i := 0) rfl) rfl rfl ?_
  clear hf; intro a ha hf; clear ha
  refine st_move hf rfl rfl (by decide) ?_
  clear hf; intro a ha hf; clear ha
  refine st_fa (o' := 0) hf (by decide) (off := 0) (sz := 1) (by kernel_rfl) (by decide) rfl rfl (hp.ob (i := 0) rfl) rfl ?_
  clear hf; intro a ha hf; clear ha
  refine st_ldO (u := .int .i64 cx0_Length) hf (by decide) pl3 rfl rfl (hp.ob (i := 0) rfl) rfl ?_
  clear hf; intro a ha hf; clear ha
  refine st_isub hf (by decide) rfl rfl rfl ?_
  clear hf; intro a ha hf; clear ha
  obtain ⟨q5, hcall6, h⟩ := bnd h
  refine st_call hf (by decide) Try.func46 rfl rfl rfl rfl rfl (f_soft_run_c hp _ _ _ _ _ hl1 _ hcall6) ?_
  rintro _ w ⟨v7, v8, rfl, y9, y10, hp0⟩
  clear hp; have hp := hp0; clear hp0
  replace hp : Hp _ _ _ (Res.ar 92 v7 q5.2 :: Res.obj 40 v1 [.int .i64 cx0_Length, .int .u32 cx0_One, .int .u32 cx0_Two] :: ow) := hp
  refine ⟨_, rfl, ?_⟩
  clear hf; intro a hf
  refine st_allocA (E := (Ek.pair (Ek.wp v7) (Ek.wp v7))) (N := 64) (zs := List.replicate 64 ((none : Option Nat), (none : Option Nat))) (zv := .agg ((List.replicate 64 ([.pointer none, .pointer none] : List Value)).flatten).toArray) hf (by decide) (by decide) (by decide) (by kernel_rfl) (reps_replicate (E := (Ek.pair (Ek.wp v7) (Ek.wp v7))) (vs := ([.pointer none, .pointer none] : List Value)) (x := ((none : Option Nat), (none : Option Nat))) ⟨[.pointer none], [.pointer none], rfl, ⟨_, rfl, WP.nil _⟩, ⟨_, rfl, WP.nil _⟩⟩ 64) (by simp) hp rfl ?_
  clear hf; intro a w v12 hf hp0; clear hp; have hp := hp0; clear hp0
  replace hp : Hp _ _ _ (Res.sl (Ek.pair (Ek.wp v7) (Ek.wp v7)) 89 (aslv v12 64) (List.replicate 64 ((none : Option Nat), (none : Option Nat))) :: Res.ar 92 v7 q5.2 :: Res.obj 40 v1 [.int .i64 cx0_Length, .int .u32 cx0_One, .int .u32 cx0_Two] :: ow) := hp
  refine st_stArr hf hp (m := 0) rfl (by decide) rfl rfl rfl y9 y10 (by kernel_rfl) ?_
  clear hf; intro a w hf hp0; clear hp; have hp := hp0; clear hp0
  replace hp : Hp _ _ _ (Res.sl (Ek.pair (Ek.wp v7) (Ek.wp v7)) 89 (aslv v12 64) q5.1 :: Res.ar 92 v7 q5.2 :: Res.obj 40 v1 [.int .i64 cx0_Length, .int .u32 cx0_One, .int .u32 cx0_Two] :: ow) := hp
  refine st_nil hf ?_
  refine th_n ?_
  refine wp_seq ?_
  refine wp_seq ?_
  refine wp_reg ?_
  have hc14 : 0 ≤ (0 : Int) ∧ (0 : Int) < (64 : Int) := by decide
  refine st_iaA (E := (Ek.pair (Ek.wp v7) (Ek.wp v7))) (N := 64) hf (by decide) Try.underlying89 (by kernel_rfl) rfl rfl rfl (hp.sl (i := 0) rfl) rfl hc14.1 hc14.2 ?_
  clear hf; intro a ha hf; clear ha
  have hc16 : 0 ≤ (1 : Int) ∧ (1 : Int) < (2 : Int) := by decide
  refine st_iaP (sz := 1) hf (by decide) Try.underlying88 (by kernel_rfl) rfl rfl rfl (Sl.isP (hp.sl (i := 0) rfl) (aslv_ix (hp.sl (i := 0) rfl) hc14).1 (aslv_ix (hp.sl (i := 0) rfl) hc14).2) hc16.1 hc16.2 ?_
  clear hf; intro a ha hf; clear ha
  refine st_ldQW (bs := v7) (yv := (gt q5.1 (0 : Int)).2) hf (by decide) pl86 rfl rfl (Sl.part (E := (Ek.pair (Ek.wp v7) (Ek.wp v7))) (F := (Ek.wp v7)) (o := ((1 : Int)).toNat * 1) (Sub.snd (E := (Ek.wp v7)) (F := (Ek.wp v7))) (hp.sl (i := 0) rfl) (aslv_ix (hp.sl (i := 0) rfl) hc14).1 (aslv_ix (hp.sl (i := 0) rfl) hc14).2) ?_
  clear hf; intro a v17 y18 ha hf; clear ha
  refine st_wnilE hf (by decide) Try.underlying86 rfl rfl rfl y18 ?_
  clear hf; intro a ha hf; clear ha
  refine st_nil hf ?_
  refine th_n ?_
  refine wp_if hf rfl (fun hb => ?_) (fun hb => ?_)
  · replace h := ifT h hb
    refine wp_seq ?_
    refine wp_reg ?_
    refine st_assign hf rfl rfl (by decide) ?_
    clear hf; intro a ha hf; clear ha
    refine st_assign hf rfl rfl (by decide) ?_
    clear hf; intro a ha hf; clear ha
    refine st_nil hf ?_
    refine th_n ?_
    refine wp_ret ?_
    refine th_r ?_
    obtain rfl := Option.some.inj h
    have hp : Hp _ _ _ (ow) := Hp.sel (pre := [Res.sl (Ek.pair (Ek.wp v7) (Ek.wp v7)) 89 (aslv v12 64) q5.1, Res.ar 92 v7 q5.2, Res.obj 40 v1 [.int .i64 cx0_Length, .int .u32 cx0_One, .int .u32 cx0_Two]]) (tail := ow) (rs' := []) hp [] (by decide) (by simp) rfl
    exact ⟨rfl, ⟨_, hf.sub ⟨rfl, rfl, trivial⟩, rfl, hp⟩⟩
  replace h := ifF h hb
  refine wp_skip ?_
  refine th_n ?_
  refine wp_seq ?_
  obtain ⟨S19, hp20, rd21, up22, bk23⟩ := Hp.lendS hp (i := 0) rfl
  obtain ⟨S24, hp25, rd26, up27, bk28⟩ := Hp.lendA hp20 (i := 0) rfl
  have rl29 := ((((hl1.now hp).mono up22).now hp20).mono up27)
  have rl30 := rd26
  have rl31 := ((rd21.now hp20).mono up27)
  have hc32 : 0 ≤ (0 : Int) ∧ (0 : Int) < (64 : Int) := by decide
  have hc33 := aslv_ix rl31 hc32
  have hc34 : 0 ≤ (1 : Int) ∧ (1 : Int) < (2 : Int) := by decide
  obtain ⟨v40, y38, hl35⟩ := RdS.pinPW (p := (0 : Int)) (o := ((1 : Int)).toNat * 1) (Sub.snd (E := (Ek.wp v7)) (F := (Ek.wp v7))) rl31 hc33.1 hc33.2
  obtain ⟨n41, hx42, h⟩ := bnd h
  obtain ⟨v43, bb44, y45, y46, ho47⟩ := RdA.at rl30 y38 hx42
  have hc48 : 0 ≤ (0 : Int) ∧ (0 : Int) < (64 : Int) := by decide
  have hc49 := aslv_ix rl31 hc48
  have hc50 : 0 ≤ (0 : Int) ∧ (0 : Int) < (2 : Int) := by decide
  obtain ⟨v56, y54, hl51⟩ := RdS.pinPW (p := (0 : Int)) (o := ((0 : Int)).toNat * 1) (Sub.fst (E := (Ek.wp v7)) (F := (Ek.wp v7))) rl31 hc49.1 hc49.2
  obtain ⟨n57, hx58, h⟩ := bnd h
  obtain ⟨v59, bb60, y61, y62, ho63⟩ := RdA.at rl30 y54 hx58
  refine wp_cutN (fun a w => ∃ (bb64 : Nat), Fl.rep bb64 (fsub ((nth q5.2 n41).2.2.1) ((nth q5.2 n57).2.2.1)) ∧ Fr 40 a [(4, .float .f64 bb64), (5, .int .i64 (0 : Int))] ∧ Hp S w0 w (Res.sl (Ek.pair (Ek.wp v7) (Ek.wp v7)) 89 (aslv v12 64) q5.1 :: Res.ar 92 v7 q5.2 :: Res.obj 40 v1 [.int .i64 cx0_Length, .int .u32 cx0_One, .int .u32 cx0_Two] :: ow)) ?_ ?_
  · have hp := hp25.same (Same.drew w)
    refine dr_begin' (fun a w => ∃ (bb64 : Nat), Fl.rep bb64 (fsub ((nth q5.2 n41).2.2.1) ((nth q5.2 n57).2.2.1)) ∧ Fr 40 a [(4, .float .f64 bb64), (5, .int .i64 (0 : Int))] ∧ Hp S w0 w (Res.sl (Ek.pair (Ek.wp v7) (Ek.wp v7)) 89 (aslv v12 64) q5.1 :: Res.ar 92 v7 q5.2 :: Res.obj 40 v1 [.int .i64 cx0_Length, .int .u32 cx0_One, .int .u32 cx0_Two] :: ow)) (fun w' => ∃ l, Hp S24 w w' l) [] (by kernel_rfl) ?_
    refine dr_take 0 (eptr (aslv v12 64) (0 : Int) 2) rfl (by kernel_rfl) (by kernel_rfl) (by kernel_rfl) (by kernel_rfl) rfl rfl hf (by decide) rfl (fun w hp => ?_) ⟨_, hp⟩ ?_
    · obtain ⟨_, hp⟩ := hp
      refine st_iaA (E := (Ek.pair (Ek.wp v7) (Ek.wp v7))) (N := 64) hf (by decide) Try.underlying89 (by kernel_rfl) rfl rfl rfl (rl31.sl hp) rfl hc32.1 hc32.2 ?_
      clear hf; intro a ha hf
      exact st_nil hf (th_n ⟨ha, rfl⟩)
    clear hf; intro a hf
    refine dr_take 1 (optr (eptr (aslv v12 64) (0 : Int) 2) (((1 : Int)).toNat * 1)) rfl (by kernel_rfl) (by kernel_rfl) (by kernel_rfl) (by kernel_rfl) rfl rfl hf (by decide) rfl (fun w hp => ?_) ⟨_, hp⟩ ?_
    · obtain ⟨_, hp⟩ := hp
      refine st_iaP (sz := 1) hf (by decide) Try.underlying88 (by kernel_rfl) rfl rfl rfl (Sl.isP (rl31.sl hp) hc33.1 hc33.2) hc34.1 hc34.2 ?_
      clear hf; intro a ha hf
      exact st_nil hf (th_n ⟨ha, rfl⟩)
    clear hf; intro a hf
    refine dr_take 2 (v40) rfl (by kernel_rfl) (by kernel_rfl) (by kernel_rfl) (by kernel_rfl) rfl rfl hf (by decide) rfl (fun w hp => ?_) ⟨_, hp⟩ ?_
    · obtain ⟨_, hp⟩ := hp
      refine st_ldP hf (by decide) pl86 rfl rfl (hl35 _ _ hp) ?_
      clear hf; intro a ha hf
      exact st_nil hf (th_n ⟨ha, rfl⟩)
    clear hf; intro a hf
    refine dr_nilE 3 rfl (by kernel_rfl) (by kernel_rfl) (by kernel_rfl) hf (by decide) rfl rfl (WP.ptr y38 hx42) ?_
    clear hf; intro a hf
    refine dr_take 4 (optr v40 2) rfl (by kernel_rfl) (by kernel_rfl) (by kernel_rfl) (by kernel_rfl) rfl rfl hf (by decide) rfl (fun w hp => ?_) ⟨_, hp⟩ ?_
    · obtain ⟨_, hp⟩ := hp
      refine st_faP (off := 2) (sz := 1) hf (by decide) (by kernel_rfl) (by decide) rfl rfl (WP.isP y38 hx42) ?_
      clear hf; intro a ha hf
      exact st_nil hf (th_n ⟨ha, rfl⟩)
    clear hf; intro a hf
    refine dr_take 5 (.float .f64 bb44) rfl (by kernel_rfl) (by kernel_rfl) (by kernel_rfl) (by kernel_rfl) rfl rfl hf (by decide) rfl (fun w hp => ?_) ⟨_, hp⟩ ?_
    · obtain ⟨_, hp⟩ := hp
      refine st_ldO (u := .float .f64 bb44) hf (by decide) pl29 rfl rfl (ho47.ob hp) rfl ?_
      clear hf; intro a ha hf
      exact st_nil hf (th_n ⟨ha, rfl⟩)
    clear hf; intro a hf
    refine dr_take 6 (eptr (aslv v12 64) (0 : Int) 2) rfl (by kernel_rfl) (by kernel_rfl) (by kernel_rfl) (by kernel_rfl) rfl rfl hf (by decide) rfl (fun w hp => ?_) ⟨_, hp⟩ ?_
    · obtain ⟨_, hp⟩ := hp
      refine st_iaA (E := (Ek.pair (Ek.wp v7) (Ek.wp v7))) (N := 64) hf (by decide) Try.underlying89 (by kernel_rfl) rfl rfl rfl (rl31.sl hp) rfl hc48.1 hc48.2 ?_
      clear hf; intro a ha hf
      exact st_nil hf (th_n ⟨ha, rfl⟩)
    clear hf; intro a hf
    refine dr_take 7 (optr (eptr (aslv v12 64) (0 : Int) 2) (((0 : Int)).toNat * 1)) rfl (by kernel_rfl) (by kernel_rfl) (by kernel_rfl) (by kernel_rfl) rfl rfl hf (by decide) rfl (fun w hp => ?_) ⟨_, hp⟩ ?_
    · obtain ⟨_, hp⟩ := hp
      refine st_iaP (sz := 1) hf (by decide) Try.underlying88 (by kernel_rfl) rfl rfl rfl (Sl.isP (rl31.sl hp) hc49.1 hc49.2) hc50.1 hc50.2 ?_
      clear hf; intro a ha hf
      exact st_nil hf (th_n ⟨ha, rfl⟩)
    clear hf; intro a hf
    refine dr_take 8 (v56) rfl (by kernel_rfl) (by kernel_rfl) (by kernel_rfl) (by kernel_rfl) rfl rfl hf (by decide) rfl (fun w hp => ?_) ⟨_, hp⟩ ?_
    · obtain ⟨_, hp⟩ := hp
      refine st_ldP hf (by decide) pl86 rfl rfl (hl51 _ _ hp) ?_
      clear hf; intro a ha hf
      exact st_nil hf (th_n ⟨ha, rfl⟩)
    clear hf; intro a hf
    refine dr_nilE 9 rfl (by kernel_rfl) (by kernel_rfl) (by kernel_rfl) hf (by decide) rfl rfl (WP.ptr y54 hx58) ?_
    clear hf; intro a hf
    refine dr_take 10 (optr v56 2) rfl (by kernel_rfl) (by kernel_rfl) (by kernel_rfl) (by kernel_rfl) rfl rfl hf (by decide) rfl (fun w hp => ?_) ⟨_, hp⟩ ?_
    · obtain ⟨_, hp⟩ := hp
      refine st_faP (off := 2) (sz := 1) hf (by decide) (by kernel_rfl) (by decide) rfl rfl (WP.isP y54 hx58) ?_
      clear hf; intro a ha hf
      exact st_nil hf (th_n ⟨ha, rfl⟩)
    clear hf; intro a hf
    refine dr_take 11 (.float .f64 bb60) rfl (by kernel_rfl) (by kernel_rfl) (by kernel_rfl) (by kernel_rfl) rfl rfl hf (by decide) rfl (fun w hp => ?_) ⟨_, hp⟩ ?_
    · obtain ⟨_, hp⟩ := hp
      refine st_ldO (u := .float .f64 bb60) hf (by decide) pl29 rfl rfl (ho63.ob hp) rfl ?_
      clear hf; intro a ha hf
      exact st_nil hf (th_n ⟨ha, rfl⟩)
    clear hf; intro a hf
    refine dr_one 12 rfl (by kernel_rfl) ?_
    refine st_farith (op := .sub) rfl hf (by decide) hp rfl rfl rfl (show Fl.rep bb44 ((nth q5.2 n41).2.2.1) from y46) (show Fl.rep bb60 ((nth q5.2 n57).2.2.1) from y62) ?_
    clear hf; intro a w bb64 y65 hf hp0; clear hp; have hp := hp0; clear hp0
    replace hp : Hp _ _ _ (Res.obj 40 v1 [.int .i64 cx0_Length, .int .u32 cx0_One, .int .u32 cx0_Two] :: ow) := hp
    refine st_nil hf (th_n ⟨fun _ _ => ⟨_, hp⟩, ?_⟩)
    refine dr_take 13 (.float .f64 bb64) rfl (by kernel_rfl) (by kernel_rfl) (by kernel_rfl) (by kernel_rfl) rfl rfl hf (by decide) rfl (fun w hp => ?_) ⟨_, hp⟩ ?_
    · obtain ⟨_, hp⟩ := hp
      refine st_assign hf rfl rfl (by decide) ?_
      clear hf; intro a ha hf
      exact st_nil hf (th_n ⟨ha, rfl⟩)
    clear hf; intro a hf
    refine dr_take 14 (.int .i64 (0 : Int)) rfl (by kernel_rfl) (by kernel_rfl) (by kernel_rfl) (by kernel_rfl) rfl rfl hf (by decide) rfl (fun w hp => ?_) ⟨_, hp⟩ ?_
    · obtain ⟨_, hp⟩ := hp
      refine st_assign hf rfl rfl (by decide) ?_
      clear hf; intro a ha hf
      exact st_nil hf (th_n ⟨ha, rfl⟩)
    clear hf; intro a hf
    refine dr_end (by kernel_rfl) ?_ _
    have hp := bk28 _ _ hp
    have hp := bk23 _ _ hp
    exact ⟨bb64, y65, hf.sub ⟨rfl, rfl, trivial⟩, hp⟩
  rintro a w ⟨bb64, y65, hf, hp⟩
  refine th_n ?_
  refine wp_ret ?_
  obtain rfl := Option.some.inj h
  have hp : Hp _ _ _ (ow) := Hp.sel (pre := [Res.sl (Ek.pair (Ek.wp v7) (Ek.wp v7)) 89 (aslv v12 64) q5.1, Res.ar 92 v7 q5.2, Res.obj 40 v1 [.int .i64 cx0_Length, .int .u32 cx0_One, .int .u32 cx0_Two]]) (tail := ow) (rs' := []) hp [] (by decide) (by simp) rfl
  exact ⟨rfl, ⟨_, hf.sub ⟨rfl, rfl, trivial⟩, y65, hp⟩⟩

noncomputable def f_foghornlaw23_SoftNearest.s1c (l1 : (List (Int × Int × Bool))) (xx6 : (List ((Fl × Fl) × Bool))) (i7 : Int) : Option (((List ((Fl × Fl) × Bool)) × Int) ⊕ (List ((Fl × Fl) × Bool))) := (if (decide (i7 < (xx6.length : Int))) = true then (if 0 ≤ i7 ∧ i7 < (l1.length : Int) then ((f_foghornlaw23_calm ((gt l1 i7).1) ((gt l1 i7).2.1) ((gt l1 i7).2.2)).bind fun q20 => (if 0 ≤ i7 ∧ i7 < (xx6.length : Int) then (some (Sum.inl ((xx6.set (i7).toNat (q20.1, q20.2)), (IntKind.i64.wrap (i7 + (1 : Int)))))) else none)) else none) else (some (Sum.inr xx6)))
noncomputable def f_foghornlaw23_SoftNearest.s1 (l1 : (List (Int × Int × Bool))) (s : ((List ((Fl × Fl) × Bool)) × Int)) : Option (((List ((Fl × Fl) × Bool)) × Int) ⊕ (List ((Fl × Fl) × Bool))) := f_foghornlaw23_SoftNearest.s1c l1 s.1 s.2
noncomputable def f_foghornlaw23_SoftNearest.s2c (q5 : (Int × Int × Int)) (q27 : (List ((Fl × Fl) × Bool))) (q30 : ((List Bool) × Fl × Int)) (best12 : Int) (i13 : Int) : Option ((Int × Int) ⊕ Int) := (if (decide (i13 < (IntKind.i64.wrap ((IntKind.i64.wrap ((q27.length : Int) - q5.1)) + (1 : Int))))) = true then (if 0 ≤ i13 ∧ i13 < (q30.1.length : Int) then (if (gt q30.1 i13) = true then (some (Sum.inl ((IntKind.i64.wrap ((IntKind.i64.wrap ((2 : Int) * best12)) + (1 : Int))), (IntKind.i64.wrap (i13 + (1 : Int)))))) else (some (Sum.inl ((IntKind.i64.wrap ((2 : Int) * best12)), (IntKind.i64.wrap (i13 + (1 : Int))))))) else none) else (some (Sum.inr best12)))
noncomputable def f_foghornlaw23_SoftNearest.s2 (q5 : (Int × Int × Int)) (q27 : (List ((Fl × Fl) × Bool))) (q30 : ((List Bool) × Fl × Int)) (s : (Int × Int)) : Option ((Int × Int) ⊕ Int) := f_foghornlaw23_SoftNearest.s2c q5 q27 q30 s.1 s.2
noncomputable def f_foghornlaw23_SoftNearest.s4c (q5 : (Int × Int × Int)) (q27 : (List ((Fl × Fl) × Bool))) (k16 : Int) (m17 : (List Bool)) (i18 : Int) : Option (((List Bool) × Int) ⊕ (List Bool)) := (if (decide (i18 < (IntKind.i64.wrap ((IntKind.i64.wrap ((q27.length : Int) - q5.1)) + (1 : Int))))) = true then (if 0 ≤ (IntKind.i64.wrap ((IntKind.i64.wrap ((IntKind.i64.wrap ((IntKind.i64.wrap ((q27.length : Int) - q5.1)) + (1 : Int))) - (1 : Int))) - i18)) then (if 0 ≤ i18 ∧ i18 < (m17.length : Int) then (some (Sum.inl ((m17.set (i18).toNat ((((ishr .i64 k16 (IntKind.i64.wrap ((IntKind.i64.wrap ((IntKind.i64.wrap ((IntKind.i64.wrap ((q27.length : Int) - q5.1)) + (1 : Int))) - (1 : Int))) - i18)))).tmod (2 : Int)) == (1 : Int))), (IntKind.i64.wrap (i18 + (1 : Int)))))) else none) else none) else (some (Sum.inr m17)))
noncomputable def f_foghornlaw23_SoftNearest.s4 (q5 : (Int × Int × Int)) (q27 : (List ((Fl × Fl) × Bool))) (k16 : Int) (s : ((List Bool) × Int)) : Option (((List Bool) × Int) ⊕ (List Bool)) := f_foghornlaw23_SoftNearest.s4c q5 q27 k16 s.1 s.2
noncomputable def f_foghornlaw23_SoftNearest.s3c (q5 : (Int × Int × Int)) (q27 : (List ((Fl × Fl) × Bool))) (q30 : ((List Bool) × Fl × Int)) (q44 : Int) (next14 : Fl) (some15 : Bool) (k16 : Int) : Option ((Fl × Bool × Int) ⊕ ((Fl × Bool) ⊕ Bool)) := (if 0 ≤ (IntKind.i64.wrap ((IntKind.i64.wrap ((q27.length : Int) - q5.1)) + (1 : Int))) then (if (decide (k16 < (ishl .i64 (1 : Int) (IntKind.i64.wrap ((IntKind.i64.wrap ((q27.length : Int) - q5.1)) + (1 : Int)))))) = true then (if 0 ≤ (IntKind.i64.wrap ((IntKind.i64.wrap ((q27.length : Int) - q5.1)) + (1 : Int))) ∧ (IntKind.i64.wrap ((IntKind.i64.wrap ((q27.length : Int) - q5.1)) + (1 : Int))) ≤ (IntKind.i64.wrap ((IntKind.i64.wrap ((q27.length : Int) - q5.1)) + (1 : Int))) ∧ (IntKind.i64.wrap ((IntKind.i64.wrap ((q27.length : Int) - q5.1)) + (1 : Int))) * 1 ≤ 281474976710656 then ((loop (f_foghornlaw23_SoftNearest.s4 q5 q27 k16) ((List.replicate ((IntKind.i64.wrap ((IntKind.i64.wrap ((q27.length : Int) - q5.1)) + (1 : Int)))).toNat false), (0 : Int))).bind (fun q59 => ((f_foghornlaw23_code q5.1 q5.2.1 q5.2.2).bind fun q60 => ((f_soft_Path q60.1 q60.2.1 q60.2.2 q59 q27).bind fun q62 => (if ((((q62.2 != (0 : Int)) || (flt q62.1 q30.2.1)) || ((k16 == q44) && (fne q62.1 q30.2.1))) || ((feq q62.1 q30.2.1) && (decide (k16 < q44)))) = true then (some (Sum.inr (Sum.inr false))) else (if ((k16 != q44) && ((!some15) || (flt q62.1 next14))) = true then (some (Sum.inl (q62.1, true, (IntKind.i64.wrap (k16 + (1 : Int)))))) else (some (Sum.inl (next14, some15, (IntKind.i64.wrap (k16 + (1 : Int)))))))))))) else none) else (some (Sum.inr (Sum.inl (next14, some15))))) else none)
noncomputable def f_foghornlaw23_SoftNearest.s3 (q5 : (Int × Int × Int)) (q27 : (List ((Fl × Fl) × Bool))) (q30 : ((List Bool) × Fl × Int)) (q44 : Int) (s : (Fl × Bool × Int)) : Option ((Fl × Bool × Int) ⊕ ((Fl × Bool) ⊕ Bool)) := f_foghornlaw23_SoftNearest.s3c q5 q27 q30 q44 s.1 s.2.1 s.2.2
noncomputable def f_foghornlaw23_SoftNearest.j1 (q5 : (Int × Int × Int)) (l1 : (List (Int × Int × Bool))) : Option Bool := ((f_foghornlaw23_samples l1).bind fun q11 => ((loop (f_foghornlaw23_SoftNearest.s1 l1) (q11.1, (0 : Int))).bind (fun q27 => ((f_foghornlaw23_code q5.1 q5.2.1 q5.2.2).bind fun q28 => ((f_soft_Decode q28.1 q28.2.1 q28.2.2 q27).bind fun q30 => (if (decide ((IntKind.i64.wrap ((IntKind.i64.wrap ((q27.length : Int) - q5.1)) + (1 : Int))) < (0 : Int))) = true then (some (q30.2.2 == (1 : Int))) else (if ((q30.2.2 != (0 : Int)) || ((q30.1.length : Int) != (IntKind.i64.wrap ((IntKind.i64.wrap ((q27.length : Int) - q5.1)) + (1 : Int))))) = true then (some false) else ((loop (f_foghornlaw23_SoftNearest.s2 q5 q27 q30) ((0 : Int), (0 : Int))).bind (fun q44 => ((loop (f_foghornlaw23_SoftNearest.s3 q5 q27 q30 q44) ((Fl.bits 0), false, (0 : Int))).bind (fun q90 => sm q90 (fun q91 => ((f_foghornlaw23_code q5.1 q5.2.1 q5.2.2).bind fun q93 => ((f_soft_Margin q93.1 q93.2.1 q93.2.2 q27).bind fun q95 => (if (!q91.2) = true then (some (q95.2 == (6 : Int))) else (some ((q95.2 == (0 : Int)) && (feq q95.1 (fsub q91.1 q30.2.1)))))))) (fun q92 => (some q92)))))))))))))
noncomputable def f_foghornlaw23_SoftNearest (cx0_Length : Int) (cx0_One : Int) (cx0_Two : Int) (l1 : (List (Int × Int × Bool))) : Option Bool := ((f_foghornlaw23_awake).bind fun q3 => (if (!q3) = true then (some false) else ((f_foghornlaw23_codeOf cx0_Length cx0_One cx0_Two).bind fun q5 => (if (decide ((IntKind.i64.wrap (q5.1 + (6 : Int))) < (l1.length : Int))) = true then (if 0 ≤ (IntKind.i64.wrap (q5.1 + (6 : Int))) ∧ (IntKind.i64.wrap (q5.1 + (6 : Int))) ≤ (l1.length : Int) then (f_foghornlaw23_SoftNearest.j1 q5 ((l1.drop 0).take (((IntKind.i64.wrap (q5.1 + (6 : Int)))).toNat - 0))) else none) else (f_foghornlaw23_SoftNearest.j1 q5 l1)))))
theorem f_foghornlaw23_SoftNearest_c {S : Nat → Prop} {w0 w : World} {ow : List Res} (hp : Hp S w0 w ow) (cx0_Length : Int) (cx0_One : Int) (cx0_Two : Int) (vl1 : Value) (l1 : (List (Int × Int × Bool))) (hl1 : RdS (Ek.pair (Ek.int .i32) (Ek.pair (Ek.int .i32) Ek.bool)) S w0 vl1 l1) {r : Bool} (h : f_foghornlaw23_SoftNearest cx0_Length cx0_One cx0_Two l1 = some r) :
    Calls Try.prog 6 #[.agg #[.int .i64 cx0_Length, .int .u32 cx0_One, .int .u32 cx0_Two], vl1] w (fun e w' => e = .returned (.bool r) ∧ Hp S w0 w' (ow)) := by
  unfold f_foghornlaw23_SoftNearest at h
  refine enter (n := 185) (args := [.agg #[.int .i64 cx0_Length, .int .u32 cx0_One, .int .u32 cx0_Two], vl1]) Try.func6 rfl rfl (Nat.le_of_ble_eq_true rfl) fun a hf => ?_
  replace hf : Fr 185 a [(0, .agg #[.int .i64 cx0_Length, .int .u32 cx0_One, .int .u32 cx0_Two]), (1, vl1)] := hf
  refine wp_mono (Q := fun e a w => e = .ret ∧ Fr 185 a [(4, .bool r)] ∧ Hp S w0 w (ow)) ?_ ?_
  rotate_left
  · rintro e a w ⟨rfl, hf, hp⟩
    exact ret1 hf rfl rfl ⟨rfl, hp⟩
  refine wp_seq ?_
  refine wp_reg ?_
  refine st_boxO (cs := [.int .i64 cx0_Length, .int .u32 cx0_One, .int .u32 cx0_Two]) hf (by decide) hp rfl rfl rfl ?_
  clear hf; intro a w v1 hf hp0; clear hp; have hp := hp0; clear hp0
  replace hp : Hp _ _ _ (Res.obj 24 v1 [.int .i64 cx0_Length, .int .u32 cx0_One, .int .u32 cx0_Two] :: ow) := hp
  refine st_assign hf rfl rfl (by decide) ?_
  clear hf; intro a ha hf; clear ha
  refine st_nil hf ?_
  refine th_n ?_
  refine wp_seq ?_
  refine wp_seq ?_
  refine wp_reg ?_
  obtain ⟨q3, hcall4, h⟩ := bnd h
  refine st_call hf (by decide) Try.func26 rfl rfl rfl rfl rfl (f_foghornlaw23_awake_c hp  hcall4) ?_
  rintro _ w ⟨rfl, hp0⟩
  clear hp; have hp := hp0; clear hp0
  replace hp : Hp _ _ _ (Res.obj 24 v1 [.int .i64 cx0_Length, .int .u32 cx0_One, .int .u32 cx0_Two] :: ow) := hp
  refine ⟨_, rfl, ?_⟩
  clear hf; intro a hf
  refine st_not hf (by decide) rfl rfl ?_
  clear hf; intro a ha hf; clear ha
  refine st_nil hf ?_
  refine th_n ?_
  refine wp_if hf rfl (fun hb => ?_) (fun hb => ?_)
  · replace h := ifT h hb
    refine wp_seq ?_
    refine wp_reg ?_
    refine st_assign hf rfl rfl (by decide) ?_
    clear hf; intro a ha hf; clear ha
    refine st_nil hf ?_
    refine th_n ?_
    refine wp_ret ?_
    refine th_r ?_
    obtain rfl := Option.some.inj h
    have hp : Hp _ _ _ (ow) := Hp.sel (pre := [Res.obj 24 v1 [.int .i64 cx0_Length, .int .u32 cx0_One, .int .u32 cx0_Two]]) (tail := ow) (rs' := []) hp [] (by decide) (by simp) rfl
    exact ⟨rfl, ⟨hf.sub ⟨rfl, trivial⟩, hp⟩⟩
  replace h := ifF h hb
  refine wp_skip ?_
  refine th_n ?_
  refine wp_seq ?_
  refine wp_reg ?_
  refine st_ldOA (m := 3) (us := [.int .i64 cx0_Length, .int .u32 cx0_One, .int .u32 cx0_Two]) hf (by decide) (by kernel_rfl) rfl rfl (hp.ob (i := 0) rfl) rfl rfl ?_
  clear hf; intro a ha hf; clear ha
  obtain ⟨q5, hcall6, h⟩ := bnd h
  refine st_call hf (by decide) Try.func27 rfl rfl rfl rfl rfl (f_foghornlaw23_codeOf_c hp _ _ _ hcall6) ?_
  rintro _ w ⟨rfl, hp0⟩
  clear hp; have hp := hp0; clear hp0
  replace hp : Hp _ _ _ (Res.obj 24 v1 [.int .i64 cx0_Length, .int .u32 cx0_One, .int .u32 cx0_Two] :: ow) := hp
  refine ⟨_, rfl, ?_⟩
  clear hf; intro a hf
  refine st_alloc (cs := [.int .i64 (0 : Int), .int .u32 (0 : Int), .int .u32 (0 : Int)]) (zv := .agg #[.int .i64 (0 : Int), .int .u32 (0 : Int), .int .u32 (0 : Int)]) hf (by decide) (by kernel_rfl) rfl hp rfl ?_
  clear hf; intro a w v7 hf hp0; clear hp; have hp := hp0; clear hp0
  replace hp : Hp _ _ _ (Res.obj 24 v7 [.int .i64 (0 : Int), .int .u32 (0 : Int), .int .u32 (0 : Int)] :: Res.obj 24 v1 [.int .i64 cx0_Length, .int .u32 cx0_One, .int .u32 cx0_Two] :: ow) := hp
  refine st_stO (us := [.int .i64 q5.1, .int .u32 q5.2.1, .int .u32 q5.2.2]) hf hp (i := 0) rfl rfl rfl rfl rfl (by rfl) (by kernel_rfl) (Nat.le_of_ble_eq_true rfl) ?_
  clear hf; intro a w hf hp0; clear hp; have hp := hp0; clear hp0
  replace hp : Hp _ _ _ (Res.obj 24 v7 [.int .i64 q5.1, .int .u32 q5.2.1, .int .u32 q5.2.2] :: Res.obj 24 v1 [.int .i64 cx0_Length, .int .u32 cx0_One, .int .u32 cx0_Two] :: ow) := hp
  refine st_nil hf ?_
  refine th_n ?_
  refine wp_seq_cut (fun a w => ∃ (l1 : (List (Int × Int × Bool))) (v9 : Value), f_foghornlaw23_SoftNearest.j1 q5 l1 = some r ∧ Fr 185 a [(1, v9), (5, optr v7 0)] ∧ RdS (Ek.pair (Ek.int .i32) (Ek.pair (Ek.int .i32) Ek.bool)) S w0 v9 l1 ∧ Hp S w0 w (Res.obj 24 v7 [.int .i64 q5.1, .int .u32 q5.2.1, .int .u32 q5.2.2] :: ow)) ?_ ?_
  · skip
    refine wp_seq ?_
    refine wp_reg ?_
    refine st_move hf rfl rfl (by decide) ?_
    clear hf; intro a ha hf; clear ha
    refine st_len (E := (Ek.pair (Ek.int .i32) (Ek.pair (Ek.int .i32) Ek.bool))) hf (by decide) Try.underlying26 rfl rfl (hl1.sl hp) ?_
    clear hf; intro a ha hf; clear ha
    refine st_fa (o' := 0) hf (by decide) (off := 0) (sz := 1) (by kernel_rfl) (by decide) rfl rfl (hp.ob (i := 0) rfl) rfl ?_
    clear hf; intro a ha hf; clear ha
    refine st_ldO (u := .int .i64 q5.1) hf (by decide) pl3 rfl rfl (hp.ob (i := 0) rfl) rfl ?_
    clear hf; intro a ha hf; clear ha
    refine st_iadd hf (by decide) rfl rfl rfl ?_
    clear hf; intro a ha hf; clear ha
    refine st_igtr hf (by decide) rfl rfl rfl ?_
    clear hf; intro a ha hf; clear ha
    refine st_nil hf ?_
    refine th_n ?_
    refine wp_if hf rfl (fun hb => ?_) (fun hb => ?_)
    · replace h := ifT h hb
      refine wp_reg ?_
      refine st_move hf rfl rfl (by decide) ?_
      clear hf; intro a ha hf; clear ha
      refine st_fa (o' := 0) hf (by decide) (off := 0) (sz := 1) (by kernel_rfl) (by decide) rfl rfl (hp.ob (i := 0) rfl) rfl ?_
      clear hf; intro a ha hf; clear ha
      refine st_ldO (u := .int .i64 q5.1) hf (by decide) pl3 rfl rfl (hp.ob (i := 0) rfl) rfl ?_
      clear hf; intro a ha hf; clear ha
      refine st_iadd hf (by decide) rfl rfl rfl ?_
      clear hf; intro a ha hf; clear ha
      obtain ⟨hc108, h⟩ := chk h
      have hc109 : 0 ≤ ((IntKind.i64.wrap (q5.1 + (6 : Int)))).toNat := by omega
      have hc110 : ((IntKind.i64.wrap (q5.1 + (6 : Int)))).toNat ≤ l1.length := by omega
      refine st_cutS (E := (Ek.pair (Ek.int .i32) (Ek.pair (Ek.int .i32) Ek.bool))) hf (by decide) Try.underlying26 elt62 rfl rfl (hl1.sl hp) (.inl ⟨rfl, rfl⟩) (.inr ⟨_, _, rfl, evI rfl (by omega)⟩) hc109 hc110 ?_
      clear hf; intro a ha hf; clear ha
      refine st_assign hf rfl rfl (by decide) ?_
      clear hf; intro a ha hf; clear ha
      refine st_nil hf ?_
      have hp : Hp _ _ _ (Res.obj 24 v7 [.int .i64 q5.1, .int .u32 q5.2.1, .int .u32 q5.2.2] :: ow) := Hp.sel (pre := [Res.obj 24 v7 [.int .i64 q5.1, .int .u32 q5.2.1, .int .u32 q5.2.2], Res.obj 24 v1 [.int .i64 cx0_Length, .int .u32 cx0_One, .int .u32 cx0_Two]]) (tail := ow) (rs' := [Res.obj 24 v7 [.int .i64 q5.1, .int .u32 q5.2.1, .int .u32 q5.2.2]]) hp [0] (by decide) (by simp) rfl
      refine th_n ?_
      exact ⟨_, _, h, hf.sub ⟨rfl, rfl, trivial⟩, (RdS.cut hl1 hc109 hc110), hp⟩
    replace h := ifF h hb
    refine wp_skip ?_
    have hp : Hp _ _ _ (Res.obj 24 v7 [.int .i64 q5.1, .int .u32 q5.2.1, .int .u32 q5.2.2] :: ow) := Hp.sel (pre := [Res.obj 24 v7 [.int .i64 q5.1, .int .u32 q5.2.1, .int .u32 q5.2.2], Res.obj 24 v1 [.int .i64 cx0_Length, .int .u32 cx0_One, .int .u32 cx0_Two]]) (tail := ow) (rs' := [Res.obj 24 v7 [.int .i64 q5.1, .int .u32 q5.2.1, .int .u32 q5.2.2]]) hp [0] (by decide) (by simp) rfl
    refine th_n ?_
    exact ⟨_, _, h, hf.sub ⟨rfl, rfl, trivial⟩, hl1, hp⟩
  rintro a w ⟨l1, v9, h, hf, y10, hp⟩
  unfold f_foghornlaw23_SoftNearest.j1 at h
  refine wp_seq ?_
  refine wp_reg ?_
  refine st_move hf rfl rfl (by decide) ?_
  clear hf; intro a ha hf; clear ha
  obtain ⟨q11, hcall12, h⟩ := bnd h
  refine st_call hf (by decide) Try.func9 rfl rfl rfl rfl rfl (f_foghornlaw23_samples_c hp _ _ y10 hcall12) ?_
  rintro _ w ⟨v13, rfl, hp0⟩
  clear hp; have hp := hp0; clear hp0
  replace hp : Hp _ _ _ (Res.slx (Ek.pair Ek.c128 Ek.bool) 35 v13 q11.1 q11.2 :: Res.obj 24 v7 [.int .i64 q5.1, .int .u32 q5.2.1, .int .u32 q5.2.2] :: ow) := hp
  refine ⟨_, rfl, ?_⟩
  clear hf; intro a hf
  refine st_assign hf rfl rfl (by decide) ?_
  clear hf; intro a ha hf; clear ha
  refine st_nil hf ?_
  refine th_n ?_
  refine wp_seq ?_
  refine wp_seq ?_
  refine wp_reg ?_
  refine st_assign hf rfl rfl (by decide) ?_
  clear hf; intro a ha hf; clear ha
  refine st_nil hf ?_
  refine th_n ?_
  refine wp_block ?_
  obtain ⟨q27, hl, h⟩ := bnd h
  refine wp_loop_pure (f := (f_foghornlaw23_SoftNearest.s1 l1)) (s := (q11.1, (0 : Int))) (fun s a w => ∃ (v15 : Value), Fr 185 a [(1, v9), (5, optr v7 0), (6, v15), (7, .int .i64 s.2)] ∧ Hp S w0 w (Res.slx (Ek.pair Ek.c128 Ek.bool) 35 v15 s.1 q11.2 :: Res.obj 24 v7 [.int .i64 q5.1, .int .u32 q5.2.1, .int .u32 q5.2.2] :: ow)) (fun q e a w => e = .exit 0 ∧ ∃ (v17 : Value), Fr 185 a [(5, optr v7 0), (6, v17)] ∧ Hp S w0 w (Res.slx (Ek.pair Ek.c128 Ek.bool) 35 v17 q q11.2 :: Res.obj 24 v7 [.int .i64 q5.1, .int .u32 q5.2.1, .int .u32 q5.2.2] :: ow)) ?_ hl ⟨_, hf.sub ⟨rfl, rfl, rfl, rfl, trivial⟩, hp⟩ ?_
  · clear hl hf hp
    intro s x a w h hI
    obtain ⟨xx6, i7⟩ := s
    obtain ⟨v15, hf, hp⟩ : ∃ (v15 : Value), Fr 185 a [(1, v9), (5, optr v7 0), (6, v15), (7, .int .i64 i7)] ∧ Hp S w0 w (Res.slx (Ek.pair Ek.c128 Ek.bool) 35 v15 xx6 q11.2 :: Res.obj 24 v7 [.int .i64 q5.1, .int .u32 q5.2.1, .int .u32 q5.2.2] :: ow) := hI
    replace h : f_foghornlaw23_SoftNearest.s1c l1 xx6 i7 = some x := h
    unfold f_foghornlaw23_SoftNearest.s1c at h
    refine wp_seq ?_
    refine wp_seq ?_
    refine wp_reg ?_
    refine st_move hf rfl rfl (by decide) ?_
    clear hf; intro a ha hf; clear ha
    refine st_move hf rfl rfl (by decide) ?_
    clear hf; intro a ha hf; clear ha
    refine st_len (E := (Ek.pair Ek.c128 Ek.bool)) hf (by decide) Try.underlying27 rfl rfl (hp.sl (i := 0) rfl) ?_
    clear hf; intro a ha hf; clear ha
    refine st_ilss hf (by decide) rfl rfl rfl ?_
    clear hf; intro a ha hf; clear ha
    refine st_nil hf ?_
    refine th_n ?_
    refine wp_if hf rfl (fun hb => ?_) (fun hb => ?_)
    · replace h := ifT h hb
      refine wp_skip ?_
      refine th_n ?_
      refine wp_seq ?_
      refine wp_block ?_
      refine wp_reg ?_
      refine st_move hf rfl rfl (by decide) ?_
      clear hf; intro a ha hf; clear ha
      refine st_move hf rfl rfl (by decide) ?_
      clear hf; intro a ha hf; clear ha
      refine st_move hf rfl rfl (by decide) ?_
      clear hf; intro a ha hf; clear ha
      refine st_move hf rfl rfl (by decide) ?_
      clear hf; intro a ha hf; clear ha
      obtain ⟨hc19, h⟩ := chk h
      refine st_index (E := (Ek.pair (Ek.int .i32) (Ek.pair (Ek.int .i32) Ek.bool))) hf (by decide) Try.underlying26 elt62 rfl rfl rfl (y10.sl hp) hc19.1 hc19.2 ?_
      clear hf; intro a ha hf; clear ha
      refine st_ldQX (F := (Ek.pair (Ek.int .i32) (Ek.pair (Ek.int .i32) Ek.bool))) (yv := (gt l1 i7)) (m := 3) (us := [.int .i32 ((gt l1 i7).1), .int .i32 ((gt l1 i7).2.1), .bool ((gt l1 i7).2.2)]) hf (by decide) (by kernel_rfl) rfl (fun cs9 h9 => by obtain ⟨_, _, rfl, rfl, ⟨_, _, rfl, rfl, rfl⟩⟩ := h9; rfl) rfl rfl (Part.whole (y10.sl hp) hc19.1 hc19.2) ?_
      clear hf; intro a ha hf; clear ha
      obtain ⟨q20, hcall21, h⟩ := bnd h
      refine st_call hf (by decide) Try.func28 rfl rfl rfl rfl rfl (f_foghornlaw23_calm_c hp _ _ _ hcall21) ?_
      rintro _ w ⟨v22, v23, rfl, y24, y25, hp0⟩
      clear hp; have hp := hp0; clear hp0
      replace hp : Hp _ _ _ (Res.slx (Ek.pair Ek.c128 Ek.bool) 35 v15 xx6 q11.2 :: Res.obj 24 v7 [.int .i64 q5.1, .int .u32 q5.2.1, .int .u32 q5.2.2] :: ow) := hp
      refine ⟨_, rfl, ?_⟩
      clear hf; intro a hf
      obtain ⟨hc26, h⟩ := chk h
      refine st_index (E := (Ek.pair Ek.c128 Ek.bool)) hf (by decide) Try.underlying27 elt35 rfl rfl rfl (hp.sl (i := 0) rfl) hc26.1 hc26.2 ?_
      clear hf; intro a ha hf; clear ha
      refine st_store (E := (Ek.pair Ek.c128 Ek.bool)) (x' := (q20.1, q20.2)) hf elt35 hp (i := 0) rfl rfl rfl rfl ⟨[.complex .f64 v22 v23], [.bool q20.2], rfl, (show Ek.c128.rep [.complex .f64 v22 v23] q20.1 from ⟨_, _, rfl, y24, y25⟩), rfl⟩ hc26.1 hc26.2 ?_
      clear hf; intro a w hf hp0; clear hp; have hp := hp0; clear hp0
      replace hp : Hp _ _ _ (Res.slx (Ek.pair Ek.c128 Ek.bool) 35 v15 (xx6.set (i7).toNat (q20.1, q20.2)) q11.2 :: Res.obj 24 v7 [.int .i64 q5.1, .int .u32 q5.2.1, .int .u32 q5.2.2] :: ow) := hp
      refine st_nil hf ?_
      refine ib_n ?_
      refine th_n ?_
      refine wp_reg ?_
      refine st_move hf rfl rfl (by decide) ?_
      clear hf; intro a ha hf; clear ha
      refine st_iadd hf (by decide) rfl rfl rfl ?_
      clear hf; intro a ha hf; clear ha
      refine st_assign hf rfl rfl (by decide) ?_
      clear hf; intro a ha hf; clear ha
      refine st_nil hf ?_
      obtain rfl := Option.some.inj h
      exact rnd_l ⟨_, hf.sub ⟨rfl, rfl, rfl, rfl, trivial⟩, hp⟩
    replace h := ifF h hb
    refine wp_exit ?_
    refine th_e ?_
    obtain rfl := Option.some.inj h
    exact rnd_r (by simp) ⟨rfl, _, hf.sub ⟨rfl, rfl, trivial⟩, hp⟩
  clear hl hf hp
  intro e a w hne hO
  obtain ⟨rfl, v17, hf, hp⟩ := hO
  refine ib_same ?_
  refine th_n ?_
  refine wp_seq ?_
  refine wp_reg ?_
  refine st_move hf rfl rfl (by decide) ?_
  clear hf; intro a ha hf; clear ha
  refine st_len (E := (Ek.pair Ek.c128 Ek.bool)) hf (by decide) Try.underlying27 rfl rfl (hp.sl (i := 0) rfl) ?_
  clear hf; intro a ha hf; clear ha
  refine st_fa (o' := 0) hf (by decide) (off := 0) (sz := 1) (by kernel_rfl) (by decide) rfl rfl (hp.ob (i := 1) rfl) rfl ?_
  clear hf; intro a ha hf; clear ha
  refine st_ldO (u := .int .i64 q5.1) hf (by decide) pl3 rfl rfl (hp.ob (i := 1) rfl) rfl ?_
  clear hf; intro a ha hf; clear ha
  refine st_isub hf (by decide) rfl rfl rfl ?_
  clear hf; intro a ha hf; clear ha
  refine st_iadd hf (by decide) rfl rfl rfl ?_
  clear hf; intro a ha hf; clear ha
  refine st_assign hf rfl rfl (by decide) ?_
  clear hf; intro a ha hf; clear ha
  refine st_nil hf ?_
  refine th_n ?_
  refine wp_seq ?_
  refine wp_reg ?_
  refine st_ldOA (m := 3) (us := [.int .i64 q5.1, .int .u32 q5.2.1, .int .u32 q5.2.2]) hf (by decide) (by kernel_rfl) rfl rfl (hp.ob (i := 1) rfl) rfl rfl ?_
  clear hf; intro a ha hf; clear ha
  obtain ⟨q28, hcall29, h⟩ := bnd h
  refine st_call hf (by decide) Try.func14 rfl rfl rfl rfl rfl (f_foghornlaw23_code_c hp _ _ _ hcall29) ?_
  rintro _ w ⟨rfl, hp0⟩
  clear hp; have hp := hp0; clear hp0
  replace hp : Hp _ _ _ (Res.slx (Ek.pair Ek.c128 Ek.bool) 35 v17 q27 q11.2 :: Res.obj 24 v7 [.int .i64 q5.1, .int .u32 q5.2.1, .int .u32 q5.2.2] :: ow) := hp
  refine ⟨_, rfl, ?_⟩
  clear hf; intro a hf
  refine st_move hf rfl rfl (by decide) ?_
  clear hf; intro a ha hf; clear ha
  obtain ⟨q30, hcall31, h⟩ := bnd h
  obtain ⟨S32, hp33, rd34, up35, bk36⟩ := Hp.lendS hp (i := 0) rfl
  refine st_call hf (by decide) Try.func21 rfl rfl rfl rfl rfl (f_soft_Decode_c hp33 _ _ _ _ _ rd34 hcall31) ?_
  rintro _ w ⟨v37, v38, rfl, y39, hp0⟩
  have hp0 := bk36 _ _ hp0
  clear hp; have hp := hp0; clear hp0
  replace hp : Hp _ _ _ (Res.slx (Ek.pair Ek.c128 Ek.bool) 35 v17 q27 q11.2 :: Res.sl Ek.bool 4 v37 q30.1 :: Res.obj 24 v7 [.int .i64 q5.1, .int .u32 q5.2.1, .int .u32 q5.2.2] :: ow) := hp
  refine ⟨_, rfl, ?_⟩
  clear hf; intro a hf
  refine st_move hf rfl rfl (by decide) ?_
  clear hf; intro a ha hf; clear ha
  refine st_extract hf (by decide) rfl rfl rfl ?_
  clear hf; intro a ha hf; clear ha
  refine st_extract hf (by decide) rfl rfl rfl ?_
  clear hf; intro a ha hf; clear ha
  refine st_extract hf (by decide) rfl rfl rfl ?_
  clear hf; intro a ha hf; clear ha
  refine st_assign hf rfl rfl (by decide) ?_
  clear hf; intro a ha hf; clear ha
  refine st_assign hf rfl rfl (by decide) ?_
  clear hf; intro a ha hf; clear ha
  refine st_assign hf rfl rfl (by decide) ?_
  clear hf; intro a ha hf; clear ha
  refine st_nil hf ?_
  refine th_n ?_
  refine wp_seq ?_
  refine wp_seq ?_
  refine wp_reg ?_
  refine st_move hf rfl rfl (by decide) ?_
  clear hf; intro a ha hf; clear ha
  refine st_ilss hf (by decide) rfl rfl rfl ?_
  clear hf; intro a ha hf; clear ha
  refine st_nil hf ?_
  refine th_n ?_
  refine wp_if hf rfl (fun hb => ?_) (fun hb => ?_)
  · replace h := ifT h hb
    refine wp_seq ?_
    refine wp_reg ?_
    refine st_move hf rfl rfl (by decide) ?_
    clear hf; intro a ha hf; clear ha
    refine st_ieql hf (by decide) rfl rfl rfl ?_
    clear hf; intro a ha hf; clear ha
    refine st_assign hf rfl rfl (by decide) ?_
    clear hf; intro a ha hf; clear ha
    refine st_nil hf ?_
    refine th_n ?_
    refine wp_ret ?_
    refine th_r ?_
    obtain rfl := Option.some.inj h
    have hp : Hp _ _ _ (ow) := Hp.sel (pre := [Res.slx (Ek.pair Ek.c128 Ek.bool) 35 v17 q27 q11.2, Res.sl Ek.bool 4 v37 q30.1, Res.obj 24 v7 [.int .i64 q5.1, .int .u32 q5.2.1, .int .u32 q5.2.2]]) (tail := ow) (rs' := []) hp [] (by decide) (by simp) rfl
    exact ⟨rfl, ⟨hf.sub ⟨rfl, trivial⟩, hp⟩⟩
  replace h := ifF h hb
  refine wp_skip ?_
  refine th_n ?_
  refine wp_seq ?_
  refine wp_seq ?_
  refine wp_reg ?_
  refine st_move hf rfl rfl (by decide) ?_
  clear hf; intro a ha hf; clear ha
  refine st_ineq hf (by decide) rfl rfl rfl ?_
  clear hf; intro a ha hf; clear ha
  refine st_move hf rfl rfl (by decide) ?_
  clear hf; intro a ha hf; clear ha
  refine wpList_cut 5 (fun a w => Fr 185 a [(5, optr v7 0), (6, v17), (8, .int .i64 (IntKind.i64.wrap ((IntKind.i64.wrap ((q27.length : Int) - q5.1)) + (1 : Int)))), (9, v37), (10, .float .f64 v38), (79, .bool ((q30.2.2 != (0 : Int)) || ((q30.1.length : Int) != (IntKind.i64.wrap ((IntKind.i64.wrap ((q27.length : Int) - q5.1)) + (1 : Int))))))] ∧ Hp S w0 w (Res.slx (Ek.pair Ek.c128 Ek.bool) 35 v17 q27 q11.2 :: Res.sl Ek.bool 4 v37 q30.1 :: Res.obj 24 v7 [.int .i64 q5.1, .int .u32 q5.2.1, .int .u32 q5.2.2] :: ow)) ?_ ?_
  · rcases Bool.eq_false_or_eq_true (q30.2.2 != (0 : Int)) with hb42 | hb42
    · skip
      refine st_skip hf (wantN hf rfl rfl hb42) rfl (by decide) ?_ rfl
      clear hf; intro a hf
      refine st_skip hf (wantN hf rfl rfl hb42) rfl (by decide) ?_ rfl
      clear hf; intro a hf
      refine st_skip hf (wantN hf rfl rfl hb42) rfl (by decide) ?_ rfl
      clear hf; intro a hf
      refine st_skip hf (wantN hf rfl rfl hb42) rfl (by decide) ?_ rfl
      clear hf; intro a hf
      refine st_pick (v := .bool true) hf rfl rfl (fun hb' => ?_) (fun hb' => ?_) (by decide) ?_
      · rfl
      · exact absurd (hb42.symm.trans hb') (by decide)
      clear hf; intro a ha hf; clear ha
      refine st_nil hf (th_n ?_)
      exact ⟨hf.sub ⟨rfl, rfl, rfl, rfl, rfl, (by rw [hb42]; rfl), trivial⟩, hp⟩
    refine st_move hf (wantY hf rfl rfl hb42) rfl (by decide) ?_
    clear hf; intro a ha hf; clear ha
    refine st_len (E := Ek.bool) hf (by decide) Try.underlying25 (wantY hf rfl rfl hb42) rfl (hp.sl (i := 1) rfl) ?_
    clear hf; intro a ha hf; clear ha
    refine st_move hf (wantY hf rfl rfl hb42) rfl (by decide) ?_
    clear hf; intro a ha hf; clear ha
    refine st_ineq hf (by decide) (wantY hf rfl rfl hb42) rfl rfl ?_
    clear hf; intro a ha hf; clear ha
    refine st_pick (v := .bool ((q30.1.length : Int) != (IntKind.i64.wrap ((IntKind.i64.wrap ((q27.length : Int) - q5.1)) + (1 : Int))))) hf rfl rfl (fun hb' => ?_) (fun hb' => ?_) (by decide) ?_
    · exact absurd (hb42.symm.trans hb') (by decide)
    · rfl
    clear hf; intro a ha hf; clear ha
    refine st_nil hf (th_n ?_)
    exact ⟨hf.sub ⟨rfl, rfl, rfl, rfl, rfl, (by rw [hb42]; rfl), trivial⟩, hp⟩
  rintro a w ⟨hf, hp⟩
  refine st_nil hf ?_
  refine th_n ?_
  refine wp_if hf rfl (fun hb => ?_) (fun hb => ?_)
  · replace h := ifT h hb
    refine wp_seq ?_
    refine wp_reg ?_
    refine st_assign hf rfl rfl (by decide) ?_
    clear hf; intro a ha hf; clear ha
    refine st_nil hf ?_
    refine th_n ?_
    refine wp_ret ?_
    refine th_r ?_
    obtain rfl := Option.some.inj h
    have hp : Hp _ _ _ (ow) := Hp.sel (pre := [Res.slx (Ek.pair Ek.c128 Ek.bool) 35 v17 q27 q11.2, Res.sl Ek.bool 4 v37 q30.1, Res.obj 24 v7 [.int .i64 q5.1, .int .u32 q5.2.1, .int .u32 q5.2.2]]) (tail := ow) (rs' := []) hp [] (by decide) (by simp) rfl
    exact ⟨rfl, ⟨hf.sub ⟨rfl, trivial⟩, hp⟩⟩
  replace h := ifF h hb
  refine wp_skip ?_
  refine th_n ?_
  refine wp_seq ?_
  refine wp_reg ?_
  refine st_assign hf rfl rfl (by decide) ?_
  clear hf; intro a ha hf; clear ha
  refine st_nil hf ?_
  refine th_n ?_
  refine wp_seq ?_
  refine wp_seq ?_
  refine wp_reg ?_
  refine st_assign hf rfl rfl (by decide) ?_
  clear hf; intro a ha hf; clear ha
  refine st_nil hf ?_
  refine th_n ?_
  refine wp_block ?_
  obtain ⟨q44, hl, h⟩ := bnd h
  have hp : Hp _ _ _ (Res.obj 24 v7 [.int .i64 q5.1, .int .u32 q5.2.1, .int .u32 q5.2.2] :: Res.slx (Ek.pair Ek.c128 Ek.bool) 35 v17 q27 q11.2 :: Res.sl Ek.bool 4 v37 q30.1 :: ow) := Hp.sel (pre := [Res.slx (Ek.pair Ek.c128 Ek.bool) 35 v17 q27 q11.2, Res.sl Ek.bool 4 v37 q30.1, Res.obj 24 v7 [.int .i64 q5.1, .int .u32 q5.2.1, .int .u32 q5.2.2]]) (tail := ow) (rs' := [Res.obj 24 v7 [.int .i64 q5.1, .int .u32 q5.2.1, .int .u32 q5.2.2], Res.slx (Ek.pair Ek.c128 Ek.bool) 35 v17 q27 q11.2, Res.sl Ek.bool 4 v37 q30.1]) hp [2, 0, 1] (by decide) (by simp) rfl
  refine wp_loop_pure (f := (f_foghornlaw23_SoftNearest.s2 q5 q27 q30)) (s := ((0 : Int), (0 : Int))) (fun s a w => Fr 185 a [(5, optr v7 0), (6, v17), (8, .int .i64 (IntKind.i64.wrap ((IntKind.i64.wrap ((q27.length : Int) - q5.1)) + (1 : Int)))), (9, v37), (10, .float .f64 v38), (12, .int .i64 s.1), (13, .int .i64 s.2)] ∧ Hp S w0 w (Res.obj 24 v7 [.int .i64 q5.1, .int .u32 q5.2.1, .int .u32 q5.2.2] :: Res.slx (Ek.pair Ek.c128 Ek.bool) 35 v17 q27 q11.2 :: Res.sl Ek.bool 4 v37 q30.1 :: ow)) (fun q e a w => e = .exit 2 ∧ Fr 185 a [(5, optr v7 0), (6, v17), (8, .int .i64 (IntKind.i64.wrap ((IntKind.i64.wrap ((q27.length : Int) - q5.1)) + (1 : Int)))), (10, .float .f64 v38), (12, .int .i64 q)] ∧ Hp S w0 w (Res.obj 24 v7 [.int .i64 q5.1, .int .u32 q5.2.1, .int .u32 q5.2.2] :: Res.slx (Ek.pair Ek.c128 Ek.bool) 35 v17 q27 q11.2 :: ow)) ?_ hl ⟨hf.sub ⟨rfl, rfl, rfl, rfl, rfl, rfl, rfl, trivial⟩, hp⟩ ?_
  · clear hl hf hp
    intro s x a w h hI
    obtain ⟨best12, i13⟩ := s
    obtain ⟨hf, hp⟩ : Fr 185 a [(5, optr v7 0), (6, v17), (8, .int .i64 (IntKind.i64.wrap ((IntKind.i64.wrap ((q27.length : Int) - q5.1)) + (1 : Int)))), (9, v37), (10, .float .f64 v38), (12, .int .i64 best12), (13, .int .i64 i13)] ∧ Hp S w0 w (Res.obj 24 v7 [.int .i64 q5.1, .int .u32 q5.2.1, .int .u32 q5.2.2] :: Res.slx (Ek.pair Ek.c128 Ek.bool) 35 v17 q27 q11.2 :: Res.sl Ek.bool 4 v37 q30.1 :: ow) := hI
    replace h : f_foghornlaw23_SoftNearest.s2c q5 q27 q30 best12 i13 = some x := h
    unfold f_foghornlaw23_SoftNearest.s2c at h
    refine wp_seq ?_
    refine wp_seq ?_
    refine wp_reg ?_
    refine st_move hf rfl rfl (by decide) ?_
    clear hf; intro a ha hf; clear ha
    refine st_move hf rfl rfl (by decide) ?_
    clear hf; intro a ha hf; clear ha
    refine st_ilss hf (by decide) rfl rfl rfl ?_
    clear hf; intro a ha hf; clear ha
    refine st_nil hf ?_
    refine th_n ?_
    refine wp_if hf rfl (fun hb => ?_) (fun hb => ?_)
    · replace h := ifT h hb
      refine wp_skip ?_
      refine th_n ?_
      refine wp_seq ?_
      refine wp_block ?_
      refine wp_seq ?_
      refine wp_reg ?_
      refine st_move hf rfl rfl (by decide) ?_
      clear hf; intro a ha hf; clear ha
      refine st_imul hf (by decide) rfl rfl rfl ?_
      clear hf; intro a ha hf; clear ha
      refine st_assign hf rfl rfl (by decide) ?_
      clear hf; intro a ha hf; clear ha
      refine st_nil hf ?_
      refine th_n ?_
      refine wp_seq ?_
      refine wp_reg ?_
      refine st_move hf rfl rfl (by decide) ?_
      clear hf; intro a ha hf; clear ha
      refine st_move hf rfl rfl (by decide) ?_
      clear hf; intro a ha hf; clear ha
      obtain ⟨hc43, h⟩ := chk h
      refine st_index (E := Ek.bool) hf (by decide) Try.underlying25 elt4 rfl rfl rfl (hp.sl (i := 2) rfl) hc43.1 hc43.2 ?_
      clear hf; intro a ha hf; clear ha
      refine st_ldB hf (by decide) pl4 rfl rfl (hp.sl (i := 2) rfl) hc43.1 hc43.2 ?_
      clear hf; intro a ha hf; clear ha
      refine st_nil hf ?_
      refine th_n ?_
      refine wp_if hf rfl (fun hb => ?_) (fun hb => ?_)
      · replace h := ifT h hb
        refine wp_reg ?_
        refine st_move hf rfl rfl (by decide) ?_
        clear hf; intro a ha hf; clear ha
        refine st_iadd hf (by decide) rfl rfl rfl ?_
        clear hf; intro a ha hf; clear ha
        refine st_assign hf rfl rfl (by decide) ?_
        clear hf; intro a ha hf; clear ha
        refine st_nil hf ?_
        refine ib_n ?_
        refine th_n ?_
        refine wp_reg ?_
        refine st_move hf rfl rfl (by decide) ?_
        clear hf; intro a ha hf; clear ha
        refine st_iadd hf (by decide) rfl rfl rfl ?_
        clear hf; intro a ha hf; clear ha
        refine st_assign hf rfl rfl (by decide) ?_
        clear hf; intro a ha hf; clear ha
        refine st_nil hf ?_
        obtain rfl := Option.some.inj h
        exact rnd_l ⟨hf.sub ⟨rfl, rfl, rfl, rfl, rfl, rfl, rfl, trivial⟩, hp⟩
      replace h := ifF h hb
      refine wp_skip ?_
      refine ib_n ?_
      refine th_n ?_
      refine wp_reg ?_
      refine st_move hf rfl rfl (by decide) ?_
      clear hf; intro a ha hf; clear ha
      refine st_iadd hf (by decide) rfl rfl rfl ?_
      clear hf; intro a ha hf; clear ha
      refine st_assign hf rfl rfl (by decide) ?_
      clear hf; intro a ha hf; clear ha
      refine st_nil hf ?_
      obtain rfl := Option.some.inj h
      exact rnd_l ⟨hf.sub ⟨rfl, rfl, rfl, rfl, rfl, rfl, rfl, trivial⟩, hp⟩
    replace h := ifF h hb
    refine wp_exit ?_
    refine th_e ?_
    obtain rfl := Option.some.inj h
    have hp : Hp _ _ _ (Res.obj 24 v7 [.int .i64 q5.1, .int .u32 q5.2.1, .int .u32 q5.2.2] :: Res.slx (Ek.pair Ek.c128 Ek.bool) 35 v17 q27 q11.2 :: ow) := Hp.sel (pre := [Res.obj 24 v7 [.int .i64 q5.1, .int .u32 q5.2.1, .int .u32 q5.2.2], Res.slx (Ek.pair Ek.c128 Ek.bool) 35 v17 q27 q11.2, Res.sl Ek.bool 4 v37 q30.1]) (tail := ow) (rs' := [Res.obj 24 v7 [.int .i64 q5.1, .int .u32 q5.2.1, .int .u32 q5.2.2], Res.slx (Ek.pair Ek.c128 Ek.bool) 35 v17 q27 q11.2]) hp [0, 1] (by decide) (by simp) rfl
    exact rnd_r (by simp) ⟨rfl, hf.sub ⟨rfl, rfl, rfl, rfl, rfl, trivial⟩, hp⟩
  clear hl hf hp
  intro e a w hne hO
  obtain ⟨rfl, hf, hp⟩ := hO
  refine ib_same ?_
  refine th_n ?_
  refine wp_seq ?_
  refine wp_reg ?_
  refine st_assign hf rfl rfl (by decide) ?_
  clear hf; intro a ha hf; clear ha
  refine st_nil hf ?_
  refine th_n ?_
  refine wp_seq ?_
  refine wp_reg ?_
  refine st_assign hf rfl rfl (by decide) ?_
  clear hf; intro a ha hf; clear ha
  refine st_nil hf ?_
  refine th_n ?_
  refine wp_seq ?_
  refine wp_seq ?_
  refine wp_reg ?_
  refine st_assign hf rfl rfl (by decide) ?_
  clear hf; intro a ha hf; clear ha
  refine st_nil hf ?_
  refine th_n ?_
  refine wp_block ?_
  obtain ⟨q90, hl, h⟩ := bnd h
  refine wp_loop_pure (f := (f_foghornlaw23_SoftNearest.s3 q5 q27 q30 q44)) (s := ((Fl.bits 0), false, (0 : Int))) (fun s a w => ∃ (bb45 : Nat), Fr 185 a [(5, optr v7 0), (6, v17), (8, .int .i64 (IntKind.i64.wrap ((IntKind.i64.wrap ((q27.length : Int) - q5.1)) + (1 : Int)))), (10, .float .f64 v38), (12, .int .i64 q44), (14, .float .f64 bb45), (15, .bool s.2.1), (16, .int .i64 s.2.2)] ∧ Fl.rep bb45 s.1 ∧ Hp S w0 w (Res.obj 24 v7 [.int .i64 q5.1, .int .u32 q5.2.1, .int .u32 q5.2.2] :: Res.slx (Ek.pair Ek.c128 Ek.bool) 35 v17 q27 q11.2 :: ow)) (fun q e a w => match q with | (Sum.inl q) => e = .exit 4 ∧ ∃ (bb47 : Nat), Fr 185 a [(5, optr v7 0), (6, v17), (10, .float .f64 v38), (14, .float .f64 bb47), (15, .bool q.2)] ∧ Fl.rep bb47 q.1 ∧ Hp S w0 w (Res.obj 24 v7 [.int .i64 q5.1, .int .u32 q5.2.1, .int .u32 q5.2.2] :: Res.slx (Ek.pair Ek.c128 Ek.bool) 35 v17 q27 q11.2 :: ow) | (Sum.inr q) => e = .ret ∧ Fr 185 a [(4, .bool q)] ∧ Hp S w0 w (ow)) ?_ hl ⟨_, hf.sub ⟨rfl, rfl, rfl, rfl, rfl, rfl, rfl, rfl, trivial⟩, rfl, hp⟩ ?_
  · clear hl hf hp
    intro s x a w h hI
    obtain ⟨next14, some15, k16⟩ := s
    obtain ⟨bb45, hf, y46, hp⟩ : ∃ (bb45 : Nat), Fr 185 a [(5, optr v7 0), (6, v17), (8, .int .i64 (IntKind.i64.wrap ((IntKind.i64.wrap ((q27.length : Int) - q5.1)) + (1 : Int)))), (10, .float .f64 v38), (12, .int .i64 q44), (14, .float .f64 bb45), (15, .bool some15), (16, .int .i64 k16)] ∧ Fl.rep bb45 next14 ∧ Hp S w0 w (Res.obj 24 v7 [.int .i64 q5.1, .int .u32 q5.2.1, .int .u32 q5.2.2] :: Res.slx (Ek.pair Ek.c128 Ek.bool) 35 v17 q27 q11.2 :: ow) := hI
    replace h : f_foghornlaw23_SoftNearest.s3c q5 q27 q30 q44 next14 some15 k16 = some x := h
    unfold f_foghornlaw23_SoftNearest.s3c at h
    refine wp_seq ?_
    refine wp_seq ?_
    refine wp_reg ?_
    refine st_move hf rfl rfl (by decide) ?_
    clear hf; intro a ha hf; clear ha
    refine st_move hf rfl rfl (by decide) ?_
    clear hf; intro a ha hf; clear ha
    obtain ⟨hc49, h⟩ := chk h
    refine st_ishl hf (by decide) rfl rfl rfl hc49 ?_
    clear hf; intro a ha hf; clear ha
    refine st_ilss hf (by decide) rfl rfl rfl ?_
    clear hf; intro a ha hf; clear ha
    refine st_nil hf ?_
    refine th_n ?_
    refine wp_if hf rfl (fun hb => ?_) (fun hb => ?_)
    · replace h := ifT h hb
      refine wp_skip ?_
      refine th_n ?_
      refine wp_seq ?_
      refine wp_block ?_
      refine wp_seq ?_
      refine wp_reg ?_
      refine st_move hf rfl rfl (by decide) ?_
      clear hf; intro a ha hf; clear ha
      obtain ⟨hc50, h⟩ := chk h
      refine st_make (E := Ek.bool) hf (by decide) elt4 Try.underlying25 (by decide) hp rfl rfl rfl hc50.1 hc50.2.1 hc50.2.2 ?_
      clear hf; intro a w v51 hf hp0; clear hp; have hp := hp0; clear hp0
      replace hp : Hp _ _ _ (Res.sl Ek.bool 4 v51 (List.replicate ((IntKind.i64.wrap ((IntKind.i64.wrap ((q27.length : Int) - q5.1)) + (1 : Int)))).toNat false) :: Res.obj 24 v7 [.int .i64 q5.1, .int .u32 q5.2.1, .int .u32 q5.2.2] :: Res.slx (Ek.pair Ek.c128 Ek.bool) 35 v17 q27 q11.2 :: ow) := hp
      refine st_assign hf rfl rfl (by decide) ?_
      clear hf; intro a ha hf; clear ha
      refine st_nil hf ?_
      refine th_n ?_
      refine wp_seq ?_
      refine wp_seq ?_
      refine wp_reg ?_
      refine st_assign hf rfl rfl (by decide) ?_
      clear hf; intro a ha hf; clear ha
      refine st_nil hf ?_
      refine th_n ?_
      refine wp_block ?_
      obtain ⟨q59, hl, h⟩ := bnd h
      refine wp_loop_pure (f := (f_foghornlaw23_SoftNearest.s4 q5 q27 k16)) (s := ((List.replicate ((IntKind.i64.wrap ((IntKind.i64.wrap ((q27.length : Int) - q5.1)) + (1 : Int)))).toNat false), (0 : Int))) (fun s a w => ∃ (v53 : Value), Fr 185 a [(5, optr v7 0), (6, v17), (8, .int .i64 (IntKind.i64.wrap ((IntKind.i64.wrap ((q27.length : Int) - q5.1)) + (1 : Int)))), (10, .float .f64 v38), (12, .int .i64 q44), (14, .float .f64 bb45), (15, .bool some15), (16, .int .i64 k16), (17, v53), (18, .int .i64 s.2)] ∧ Hp S w0 w (Res.sl Ek.bool 4 v53 s.1 :: Res.obj 24 v7 [.int .i64 q5.1, .int .u32 q5.2.1, .int .u32 q5.2.2] :: Res.slx (Ek.pair Ek.c128 Ek.bool) 35 v17 q27 q11.2 :: ow)) (fun q e a w => e = .exit 6 ∧ ∃ (v55 : Value), Fr 185 a [(5, optr v7 0), (6, v17), (8, .int .i64 (IntKind.i64.wrap ((IntKind.i64.wrap ((q27.length : Int) - q5.1)) + (1 : Int)))), (10, .float .f64 v38), (12, .int .i64 q44), (14, .float .f64 bb45), (15, .bool some15), (16, .int .i64 k16), (17, v55)] ∧ Hp S w0 w (Res.sl Ek.bool 4 v55 q :: Res.obj 24 v7 [.int .i64 q5.1, .int .u32 q5.2.1, .int .u32 q5.2.2] :: Res.slx (Ek.pair Ek.c128 Ek.bool) 35 v17 q27 q11.2 :: ow)) ?_ hl ⟨_, hf.sub ⟨rfl, rfl, rfl, rfl, rfl, rfl, rfl, rfl, rfl, rfl, trivial⟩, hp⟩ ?_
      · clear hl hf hp
        intro s x a w h hI
        obtain ⟨m17, i18⟩ := s
        obtain ⟨v53, hf, hp⟩ : ∃ (v53 : Value), Fr 185 a [(5, optr v7 0), (6, v17), (8, .int .i64 (IntKind.i64.wrap ((IntKind.i64.wrap ((q27.length : Int) - q5.1)) + (1 : Int)))), (10, .float .f64 v38), (12, .int .i64 q44), (14, .float .f64 bb45), (15, .bool some15), (16, .int .i64 k16), (17, v53), (18, .int .i64 i18)] ∧ Hp S w0 w (Res.sl Ek.bool 4 v53 m17 :: Res.obj 24 v7 [.int .i64 q5.1, .int .u32 q5.2.1, .int .u32 q5.2.2] :: Res.slx (Ek.pair Ek.c128 Ek.bool) 35 v17 q27 q11.2 :: ow) := hI
        replace h : f_foghornlaw23_SoftNearest.s4c q5 q27 k16 m17 i18 = some x := h
        unfold f_foghornlaw23_SoftNearest.s4c at h
        refine wp_seq ?_
        refine wp_seq ?_
        refine wp_reg ?_
        refine st_move hf rfl rfl (by decide) ?_
        clear hf; intro a ha hf; clear ha
        refine st_move hf rfl rfl (by decide) ?_
        clear hf; intro a ha hf; clear ha
        refine st_ilss hf (by decide) rfl rfl rfl ?_
        clear hf; intro a ha hf; clear ha
        refine st_nil hf ?_
        refine th_n ?_
        refine wp_if hf rfl (fun hb => ?_) (fun hb => ?_)
        · replace h := ifT h hb
          refine wp_skip ?_
          refine th_n ?_
          refine wp_seq ?_
          refine wp_block ?_
          refine wp_reg ?_
          refine st_move hf rfl rfl (by decide) ?_
          clear hf; intro a ha hf; clear ha
          refine st_move hf rfl rfl (by decide) ?_
          clear hf; intro a ha hf; clear ha
          refine st_move hf rfl rfl (by decide) ?_
          clear hf; intro a ha hf; clear ha
          refine st_move hf rfl rfl (by decide) ?_
          clear hf; intro a ha hf; clear ha
          refine st_isub hf (by decide) rfl rfl rfl ?_
          clear hf; intro a ha hf; clear ha
          refine st_move hf rfl rfl (by decide) ?_
          clear hf; intro a ha hf; clear ha
          refine st_isub hf (by decide) rfl rfl rfl ?_
          clear hf; intro a ha hf; clear ha
          obtain ⟨hc57, h⟩ := chk h
          refine st_ishr hf (by decide) rfl rfl rfl hc57 ?_
          clear hf; intro a ha hf; clear ha
          refine st_irem hf (by decide) rfl rfl rfl (by decide) ?_
          clear hf; intro a ha hf; clear ha
          refine st_ieql hf (by decide) rfl rfl rfl ?_
          clear hf; intro a ha hf; clear ha
          obtain ⟨hc58, h⟩ := chk h
          refine st_index (E := Ek.bool) hf (by decide) Try.underlying25 elt4 rfl rfl rfl (hp.sl (i := 0) rfl) hc58.1 hc58.2 ?_
          clear hf; intro a ha hf; clear ha
          refine st_store (E := Ek.bool) hf elt4 hp (i := 0) rfl rfl rfl rfl rfl hc58.1 hc58.2 ?_
          clear hf; intro a w hf hp0; clear hp; have hp := hp0; clear hp0
          replace hp : Hp _ _ _ (Res.sl Ek.bool 4 v53 (m17.set (i18).toNat ((((ishr .i64 k16 (IntKind.i64.wrap ((IntKind.i64.wrap ((IntKind.i64.wrap ((IntKind.i64.wrap ((q27.length : Int) - q5.1)) + (1 : Int))) - (1 : Int))) - i18)))).tmod (2 : Int)) == (1 : Int))) :: Res.obj 24 v7 [.int .i64 q5.1, .int .u32 q5.2.1, .int .u32 q5.2.2] :: Res.slx (Ek.pair Ek.c128 Ek.bool) 35 v17 q27 q11.2 :: ow) := hp
          refine st_nil hf ?_
          refine ib_n ?_
          refine th_n ?_
          refine wp_reg ?_
          refine st_move hf rfl rfl (by decide) ?_
          clear hf; intro a ha hf; clear ha
          refine st_iadd hf (by decide) rfl rfl rfl ?_
          clear hf; intro a ha hf; clear ha
          refine st_assign hf rfl rfl (by decide) ?_
          clear hf; intro a ha hf; clear ha
          refine st_nil hf ?_
          obtain rfl := Option.some.inj h
          exact rnd_l ⟨_, hf.sub ⟨rfl, rfl, rfl, rfl, rfl, rfl, rfl, rfl, rfl, rfl, trivial⟩, hp⟩
        replace h := ifF h hb
        refine wp_exit ?_
        refine th_e ?_
        obtain rfl := Option.some.inj h
        exact rnd_r (by simp) ⟨rfl, _, hf.sub ⟨rfl, rfl, rfl, rfl, rfl, rfl, rfl, rfl, rfl, trivial⟩, hp⟩
      clear hl hf hp
      intro e a w hne hO
      obtain ⟨rfl, v55, hf, hp⟩ := hO
      refine ib_same ?_
      refine th_n ?_
      refine wp_seq ?_
      refine wp_reg ?_
      refine st_ldOA (m := 3) (us := [.int .i64 q5.1, .int .u32 q5.2.1, .int .u32 q5.2.2]) hf (by decide) (by kernel_rfl) rfl rfl (hp.ob (i := 1) rfl) rfl rfl ?_
      clear hf; intro a ha hf; clear ha
      obtain ⟨q60, hcall61, h⟩ := bnd h
      refine st_call hf (by decide) Try.func14 rfl rfl rfl rfl rfl (f_foghornlaw23_code_c hp _ _ _ hcall61) ?_
      rintro _ w ⟨rfl, hp0⟩
      clear hp; have hp := hp0; clear hp0
      replace hp : Hp _ _ _ (Res.sl Ek.bool 4 v55 q59 :: Res.obj 24 v7 [.int .i64 q5.1, .int .u32 q5.2.1, .int .u32 q5.2.2] :: Res.slx (Ek.pair Ek.c128 Ek.bool) 35 v17 q27 q11.2 :: ow) := hp
      refine ⟨_, rfl, ?_⟩
      clear hf; intro a hf
      refine st_move hf rfl rfl (by decide) ?_
      clear hf; intro a ha hf; clear ha
      refine st_move hf rfl rfl (by decide) ?_
      clear hf; intro a ha hf; clear ha
      obtain ⟨q62, hcall63, h⟩ := bnd h
      obtain ⟨S64, hp65, rd66, up67, bk68⟩ := Hp.lendS hp (i := 0) rfl
      obtain ⟨S69, hp70, rd71, up72, bk73⟩ := Hp.lendS hp65 (i := 1) rfl
      refine st_call hf (by decide) Try.func18 rfl rfl rfl rfl rfl (f_soft_Path_c hp70 _ _ _ _ _ ((rd66.now hp65).mono up72) _ _ rd71 hcall63) ?_
      rintro _ w ⟨v74, rfl, y75, hp0⟩
      have hp0 := bk73 _ _ hp0
      have hp0 := bk68 _ _ hp0
      clear hp; have hp := hp0; clear hp0
      replace hp : Hp _ _ _ (Res.sl Ek.bool 4 v55 q59 :: Res.slx (Ek.pair Ek.c128 Ek.bool) 35 v17 q27 q11.2 :: Res.obj 24 v7 [.int .i64 q5.1, .int .u32 q5.2.1, .int .u32 q5.2.2] :: ow) := hp
      refine ⟨_, rfl, ?_⟩
      clear hf; intro a hf
      refine st_move hf rfl rfl (by decide) ?_
      clear hf; intro a ha hf; clear ha
      refine st_extract hf (by decide) rfl rfl rfl ?_
      clear hf; intro a ha hf; clear ha
      refine st_extract hf (by decide) rfl rfl rfl ?_
      clear hf; intro a ha hf; clear ha
      refine st_assign hf rfl rfl (by decide) ?_
      clear hf; intro a ha hf; clear ha
      refine st_assign hf rfl rfl (by decide) ?_
      clear hf; intro a ha hf; clear ha
      refine st_nil hf ?_
      refine th_n ?_
      refine wp_seq ?_
      refine wp_seq ?_
      refine wp_reg ?_
      refine st_move hf rfl rfl (by decide) ?_
      clear hf; intro a ha hf; clear ha
      refine st_ineq hf (by decide) rfl rfl rfl ?_
      clear hf; intro a ha hf; clear ha
      refine st_move hf rfl rfl (by decide) ?_
      clear hf; intro a ha hf; clear ha
      refine wpList_cut 4 (fun a w => Fr 185 a [(5, optr v7 0), (6, v17), (8, .int .i64 (IntKind.i64.wrap ((IntKind.i64.wrap ((q27.length : Int) - q5.1)) + (1 : Int)))), (10, .float .f64 v38), (12, .int .i64 q44), (14, .float .f64 bb45), (15, .bool some15), (16, .int .i64 k16), (19, .float .f64 v74), (131, .bool ((q62.2 != (0 : Int)) || (flt q62.1 q30.2.1)))] ∧ Hp S w0 w (Res.sl Ek.bool 4 v55 q59 :: Res.slx (Ek.pair Ek.c128 Ek.bool) 35 v17 q27 q11.2 :: Res.obj 24 v7 [.int .i64 q5.1, .int .u32 q5.2.1, .int .u32 q5.2.2] :: ow)) ?_ ?_
      · rcases Bool.eq_false_or_eq_true (q62.2 != (0 : Int)) with hb77 | hb77
        · skip
          refine st_skip hf (wantN hf rfl rfl hb77) rfl (by decide) ?_ rfl
          clear hf; intro a hf
          refine st_skip hf (wantN hf rfl rfl hb77) rfl (by decide) ?_ rfl
          clear hf; intro a hf
          refine st_skip hf (wantN hf rfl rfl hb77) rfl (by decide) ?_ rfl
          clear hf; intro a hf
          refine st_pick (v := .bool true) hf rfl rfl (fun hb' => ?_) (fun hb' => ?_) (by decide) ?_
          · rfl
          · exact absurd (hb77.symm.trans hb') (by decide)
          clear hf; intro a ha hf; clear ha
          refine st_nil hf (th_n ?_)
          exact ⟨hf.sub ⟨rfl, rfl, rfl, rfl, rfl, rfl, rfl, rfl, rfl, (by rw [hb77]; rfl), trivial⟩, hp⟩
        refine st_move hf (wantY hf rfl rfl hb77) rfl (by decide) ?_
        clear hf; intro a ha hf; clear ha
        refine st_move hf (wantY hf rfl rfl hb77) rfl (by decide) ?_
        clear hf; intro a ha hf; clear ha
        refine st_fcmp (r_flt (fx := q62.1) (fy := q30.2.1) y75 y39) hf (by decide) (wantY hf rfl rfl hb77) rfl rfl ?_
        clear hf; intro a ha hf; clear ha
        refine st_pick (v := .bool (flt q62.1 q30.2.1)) hf rfl rfl (fun hb' => ?_) (fun hb' => ?_) (by decide) ?_
        · exact absurd (hb77.symm.trans hb') (by decide)
        · rfl
        clear hf; intro a ha hf; clear ha
        refine st_nil hf (th_n ?_)
        exact ⟨hf.sub ⟨rfl, rfl, rfl, rfl, rfl, rfl, rfl, rfl, rfl, (by rw [hb77]; rfl), trivial⟩, hp⟩
      rintro a w ⟨hf, hp⟩
      refine st_move hf rfl rfl (by decide) ?_
      clear hf; intro a ha hf; clear ha
      refine wpList_cut 9 (fun a w => Fr 185 a [(5, optr v7 0), (6, v17), (8, .int .i64 (IntKind.i64.wrap ((IntKind.i64.wrap ((q27.length : Int) - q5.1)) + (1 : Int)))), (10, .float .f64 v38), (12, .int .i64 q44), (14, .float .f64 bb45), (15, .bool some15), (16, .int .i64 k16), (19, .float .f64 v74), (141, .bool (((q62.2 != (0 : Int)) || (flt q62.1 q30.2.1)) || ((k16 == q44) && (fne q62.1 q30.2.1))))] ∧ Hp S w0 w (Res.sl Ek.bool 4 v55 q59 :: Res.slx (Ek.pair Ek.c128 Ek.bool) 35 v17 q27 q11.2 :: Res.obj 24 v7 [.int .i64 q5.1, .int .u32 q5.2.1, .int .u32 q5.2.2] :: ow)) ?_ ?_
      · rcases Bool.eq_false_or_eq_true ((q62.2 != (0 : Int)) || (flt q62.1 q30.2.1)) with hb79 | hb79
        · skip
          refine st_skip hf (wantN hf rfl rfl hb79) rfl (by decide) ?_ rfl
          clear hf; intro a hf
          refine st_skip hf (wantN hf rfl rfl hb79) rfl (by decide) ?_ rfl
          clear hf; intro a hf
          refine st_skip hf (wantN hf rfl rfl hb79) rfl (by decide) ?_ rfl
          clear hf; intro a hf
          refine st_skipU hf (wantN hf rfl rfl hb79) rfl (by decide) ?_
          clear hf; intro a hf
          refine st_skip hf (wantU hf rfl rfl) rfl (by decide) ?_ rfl
          clear hf; intro a hf
          refine st_skip hf (wantU hf rfl rfl) rfl (by decide) ?_ rfl
          clear hf; intro a hf
          refine st_skip hf (wantU hf rfl rfl) rfl (by decide) ?_ rfl
          clear hf; intro a hf
          refine st_skip hf (wantN hf rfl rfl hb79) rfl (by decide) ?_ rfl
          clear hf; intro a hf
          refine st_pick (v := .bool true) hf rfl rfl (fun hb' => ?_) (fun hb' => ?_) (by decide) ?_
          · rfl
          · exact absurd (hb79.symm.trans hb') (by decide)
          clear hf; intro a ha hf; clear ha
          refine st_nil hf (th_n ?_)
          exact ⟨hf.sub ⟨rfl, rfl, rfl, rfl, rfl, rfl, rfl, rfl, rfl, (by rw [hb79]; rfl), trivial⟩, hp⟩
        refine st_move hf (wantY hf rfl rfl hb79) rfl (by decide) ?_
        clear hf; intro a ha hf; clear ha
        refine st_move hf (wantY hf rfl rfl hb79) rfl (by decide) ?_
        clear hf; intro a ha hf; clear ha
        refine st_ieql hf (by decide) (wantY hf rfl rfl hb79) rfl rfl ?_
        clear hf; intro a ha hf; clear ha
        refine st_move hf (wantY hf rfl rfl hb79) rfl (by decide) ?_
        clear hf; intro a ha hf; clear ha
        refine wpList_cut 4 (fun a w => Fr 185 a [(5, optr v7 0), (6, v17), (8, .int .i64 (IntKind.i64.wrap ((IntKind.i64.wrap ((q27.length : Int) - q5.1)) + (1 : Int)))), (10, .float .f64 v38), (12, .int .i64 q44), (14, .float .f64 bb45), (15, .bool some15), (16, .int .i64 k16), (19, .float .f64 v74), (132, .bool ((q62.2 != (0 : Int)) || (flt q62.1 q30.2.1))), (140, .bool ((k16 == q44) && (fne q62.1 q30.2.1)))] ∧ Hp S w0 w (Res.sl Ek.bool 4 v55 q59 :: Res.slx (Ek.pair Ek.c128 Ek.bool) 35 v17 q27 q11.2 :: Res.obj 24 v7 [.int .i64 q5.1, .int .u32 q5.2.1, .int .u32 q5.2.2] :: ow)) ?_ ?_
        · rcases Bool.eq_false_or_eq_true (k16 == q44) with hb81 | hb81
          · skip
            refine st_move hf (wantY hf rfl rfl hb81) rfl (by decide) ?_
            clear hf; intro a ha hf; clear ha
            refine st_move hf (wantY hf rfl rfl hb81) rfl (by decide) ?_
            clear hf; intro a ha hf; clear ha
            refine st_fcmp (r_fne (fx := q62.1) (fy := q30.2.1) y75 y39) hf (by decide) (wantY hf rfl rfl hb81) rfl rfl ?_
            clear hf; intro a ha hf; clear ha
            refine st_pick (v := .bool (fne q62.1 q30.2.1)) hf (wantY hf rfl rfl hb79) rfl (fun hb' => ?_) (fun hb' => ?_) (by decide) ?_
            · rfl
            · exact absurd (hb81.symm.trans hb') (by decide)
            clear hf; intro a ha hf; clear ha
            refine st_nil hf (th_n ?_)
            exact ⟨hf.sub ⟨rfl, rfl, rfl, rfl, rfl, rfl, rfl, rfl, rfl, rfl, (by rw [hb81]; rfl), trivial⟩, hp⟩
          refine st_skip hf (wantN hf rfl rfl hb81) rfl (by decide) ?_ rfl
          clear hf; intro a hf
          refine st_skip hf (wantN hf rfl rfl hb81) rfl (by decide) ?_ rfl
          clear hf; intro a hf
          refine st_skip hf (wantN hf rfl rfl hb81) rfl (by decide) ?_ rfl
          clear hf; intro a hf
          refine st_pick (v := .bool false) hf (wantY hf rfl rfl hb79) rfl (fun hb' => ?_) (fun hb' => ?_) (by decide) ?_
          · exact absurd (hb81.symm.trans hb') (by decide)
          · rfl
          clear hf; intro a ha hf; clear ha
          refine st_nil hf (th_n ?_)
          exact ⟨hf.sub ⟨rfl, rfl, rfl, rfl, rfl, rfl, rfl, rfl, rfl, rfl, (by rw [hb81]; rfl), trivial⟩, hp⟩
        rintro a w ⟨hf, hp⟩
        refine st_pick (v := .bool ((k16 == q44) && (fne q62.1 q30.2.1))) hf rfl rfl (fun hb' => ?_) (fun hb' => ?_) (by decide) ?_
        · exact absurd (hb79.symm.trans hb') (by decide)
        · rfl
        clear hf; intro a ha hf; clear ha
        refine st_nil hf (th_n ?_)
        exact ⟨hf.sub ⟨rfl, rfl, rfl, rfl, rfl, rfl, rfl, rfl, rfl, (by rw [hb79]; rfl), trivial⟩, hp⟩
      rintro a w ⟨hf, hp⟩
      refine st_move hf rfl rfl (by decide) ?_
      clear hf; intro a ha hf; clear ha
      refine wpList_cut 9 (fun a w => Fr 185 a [(5, optr v7 0), (6, v17), (8, .int .i64 (IntKind.i64.wrap ((IntKind.i64.wrap ((q27.length : Int) - q5.1)) + (1 : Int)))), (10, .float .f64 v38), (12, .int .i64 q44), (14, .float .f64 bb45), (15, .bool some15), (16, .int .i64 k16), (19, .float .f64 v74), (151, .bool ((((q62.2 != (0 : Int)) || (flt q62.1 q30.2.1)) || ((k16 == q44) && (fne q62.1 q30.2.1))) || ((feq q62.1 q30.2.1) && (decide (k16 < q44)))))] ∧ Hp S w0 w (Res.sl Ek.bool 4 v55 q59 :: Res.slx (Ek.pair Ek.c128 Ek.bool) 35 v17 q27 q11.2 :: Res.obj 24 v7 [.int .i64 q5.1, .int .u32 q5.2.1, .int .u32 q5.2.2] :: ow)) ?_ ?_
      · rcases Bool.eq_false_or_eq_true (((q62.2 != (0 : Int)) || (flt q62.1 q30.2.1)) || ((k16 == q44) && (fne q62.1 q30.2.1))) with hb83 | hb83
        · skip
          refine st_skip hf (wantN hf rfl rfl hb83) rfl (by decide) ?_ rfl
          clear hf; intro a hf
          refine st_skip hf (wantN hf rfl rfl hb83) rfl (by decide) ?_ rfl
          clear hf; intro a hf
          refine st_skip hf (wantN hf rfl rfl hb83) rfl (by decide) ?_ rfl
          clear hf; intro a hf
          refine st_skipU hf (wantN hf rfl rfl hb83) rfl (by decide) ?_
          clear hf; intro a hf
          refine st_skip hf (wantU hf rfl rfl) rfl (by decide) ?_ rfl
          clear hf; intro a hf
          refine st_skip hf (wantU hf rfl rfl) rfl (by decide) ?_ rfl
          clear hf; intro a hf
          refine st_skip hf (wantU hf rfl rfl) rfl (by decide) ?_ rfl
          clear hf; intro a hf
          refine st_skip hf (wantN hf rfl rfl hb83) rfl (by decide) ?_ rfl
          clear hf; intro a hf
          refine st_pick (v := .bool true) hf rfl rfl (fun hb' => ?_) (fun hb' => ?_) (by decide) ?_
          · rfl
          · exact absurd (hb83.symm.trans hb') (by decide)
          clear hf; intro a ha hf; clear ha
          refine st_nil hf (th_n ?_)
          exact ⟨hf.sub ⟨rfl, rfl, rfl, rfl, rfl, rfl, rfl, rfl, rfl, (by rw [hb83]; rfl), trivial⟩, hp⟩
        refine st_move hf (wantY hf rfl rfl hb83) rfl (by decide) ?_
        clear hf; intro a ha hf; clear ha
        refine st_move hf (wantY hf rfl rfl hb83) rfl (by decide) ?_
        clear hf; intro a ha hf; clear ha
        refine st_fcmp (r_feq (fx := q62.1) (fy := q30.2.1) y75 y39) hf (by decide) (wantY hf rfl rfl hb83) rfl rfl ?_
        clear hf; intro a ha hf; clear ha
        refine st_move hf (wantY hf rfl rfl hb83) rfl (by decide) ?_
        clear hf; intro a ha hf; clear ha
        refine wpList_cut 4 (fun a w => Fr 185 a [(5, optr v7 0), (6, v17), (8, .int .i64 (IntKind.i64.wrap ((IntKind.i64.wrap ((q27.length : Int) - q5.1)) + (1 : Int)))), (10, .float .f64 v38), (12, .int .i64 q44), (14, .float .f64 bb45), (15, .bool some15), (16, .int .i64 k16), (19, .float .f64 v74), (142, .bool (((q62.2 != (0 : Int)) || (flt q62.1 q30.2.1)) || ((k16 == q44) && (fne q62.1 q30.2.1)))), (150, .bool ((feq q62.1 q30.2.1) && (decide (k16 < q44))))] ∧ Hp S w0 w (Res.sl Ek.bool 4 v55 q59 :: Res.slx (Ek.pair Ek.c128 Ek.bool) 35 v17 q27 q11.2 :: Res.obj 24 v7 [.int .i64 q5.1, .int .u32 q5.2.1, .int .u32 q5.2.2] :: ow)) ?_ ?_
        · rcases Bool.eq_false_or_eq_true (feq q62.1 q30.2.1) with hb85 | hb85
          · skip
            refine st_move hf (wantY hf rfl rfl hb85) rfl (by decide) ?_
            clear hf; intro a ha hf; clear ha
            refine st_move hf (wantY hf rfl rfl hb85) rfl (by decide) ?_
            clear hf; intro a ha hf; clear ha
            refine st_ilss hf (by decide) (wantY hf rfl rfl hb85) rfl rfl ?_
            clear hf; intro a ha hf; clear ha
            refine st_pick (v := .bool (decide (k16 < q44))) hf (wantY hf rfl rfl hb83) rfl (fun hb' => ?_) (fun hb' => ?_) (by decide) ?_
            · rfl
            · exact absurd (hb85.symm.trans hb') (by decide)
            clear hf; intro a ha hf; clear ha
            refine st_nil hf (th_n ?_)
            exact ⟨hf.sub ⟨rfl, rfl, rfl, rfl, rfl, rfl, rfl, rfl, rfl, rfl, (by rw [hb85]; rfl), trivial⟩, hp⟩
          refine st_skip hf (wantN hf rfl rfl hb85) rfl (by decide) ?_ rfl
          clear hf; intro a hf
          refine st_skip hf (wantN hf rfl rfl hb85) rfl (by decide) ?_ rfl
          clear hf; intro a hf
          refine st_skip hf (wantN hf rfl rfl hb85) rfl (by decide) ?_ rfl
          clear hf; intro a hf
          refine st_pick (v := .bool false) hf (wantY hf rfl rfl hb83) rfl (fun hb' => ?_) (fun hb' => ?_) (by decide) ?_
          · exact absurd (hb85.symm.trans hb') (by decide)
          · rfl
          clear hf; intro a ha hf; clear ha
          refine st_nil hf (th_n ?_)
          exact ⟨hf.sub ⟨rfl, rfl, rfl, rfl, rfl, rfl, rfl, rfl, rfl, rfl, (by rw [hb85]; rfl), trivial⟩, hp⟩
        rintro a w ⟨hf, hp⟩
        refine st_pick (v := .bool ((feq q62.1 q30.2.1) && (decide (k16 < q44)))) hf rfl rfl (fun hb' => ?_) (fun hb' => ?_) (by decide) ?_
        · exact absurd (hb83.symm.trans hb') (by decide)
        · rfl
        clear hf; intro a ha hf; clear ha
        refine st_nil hf (th_n ?_)
        exact ⟨hf.sub ⟨rfl, rfl, rfl, rfl, rfl, rfl, rfl, rfl, rfl, (by rw [hb83]; rfl), trivial⟩, hp⟩
      rintro a w ⟨hf, hp⟩
      refine st_nil hf ?_
      refine th_n ?_
      refine wp_if hf rfl (fun hb => ?_) (fun hb => ?_)
      · replace h := ifT h hb
        refine wp_seq ?_
        refine wp_reg ?_
        refine st_assign hf rfl rfl (by decide) ?_
        clear hf; intro a ha hf; clear ha
        refine st_nil hf ?_
        refine th_n ?_
        refine wp_ret ?_
        refine th_r ?_
        refine ib_r ?_
        refine th_r ?_
        obtain rfl := Option.some.inj h
        have hp : Hp _ _ _ (ow) := Hp.sel (pre := [Res.sl Ek.bool 4 v55 q59, Res.slx (Ek.pair Ek.c128 Ek.bool) 35 v17 q27 q11.2, Res.obj 24 v7 [.int .i64 q5.1, .int .u32 q5.2.1, .int .u32 q5.2.2]]) (tail := ow) (rs' := []) hp [] (by decide) (by simp) rfl
        exact rnd_r (by simp) ⟨rfl, ⟨hf.sub ⟨rfl, trivial⟩, hp⟩⟩
      replace h := ifF h hb
      refine wp_skip ?_
      refine th_n ?_
      refine wp_seq ?_
      refine wp_reg ?_
      refine st_move hf rfl rfl (by decide) ?_
      clear hf; intro a ha hf; clear ha
      refine st_move hf rfl rfl (by decide) ?_
      clear hf; intro a ha hf; clear ha
      refine st_ineq hf (by decide) rfl rfl rfl ?_
      clear hf; intro a ha hf; clear ha
      refine st_move hf rfl rfl (by decide) ?_
      clear hf; intro a ha hf; clear ha
      refine wpList_cut 8 (fun a w => Fr 185 a [(5, optr v7 0), (6, v17), (8, .int .i64 (IntKind.i64.wrap ((IntKind.i64.wrap ((q27.length : Int) - q5.1)) + (1 : Int)))), (10, .float .f64 v38), (12, .int .i64 q44), (14, .float .f64 bb45), (15, .bool some15), (16, .int .i64 k16), (19, .float .f64 v74), (163, .bool ((k16 != q44) && ((!some15) || (flt q62.1 next14))))] ∧ Hp S w0 w (Res.sl Ek.bool 4 v55 q59 :: Res.slx (Ek.pair Ek.c128 Ek.bool) 35 v17 q27 q11.2 :: Res.obj 24 v7 [.int .i64 q5.1, .int .u32 q5.2.1, .int .u32 q5.2.2] :: ow)) ?_ ?_
      · rcases Bool.eq_false_or_eq_true (k16 != q44) with hb87 | hb87
        · skip
          refine st_move hf (wantY hf rfl rfl hb87) rfl (by decide) ?_
          clear hf; intro a ha hf; clear ha
          refine st_not hf (by decide) (wantY hf rfl rfl hb87) rfl ?_
          clear hf; intro a ha hf; clear ha
          refine st_move hf (wantY hf rfl rfl hb87) rfl (by decide) ?_
          clear hf; intro a ha hf; clear ha
          refine wpList_cut 4 (fun a w => Fr 185 a [(5, optr v7 0), (6, v17), (8, .int .i64 (IntKind.i64.wrap ((IntKind.i64.wrap ((q27.length : Int) - q5.1)) + (1 : Int)))), (10, .float .f64 v38), (12, .int .i64 q44), (14, .float .f64 bb45), (15, .bool some15), (16, .int .i64 k16), (19, .float .f64 v74), (155, .bool (k16 != q44)), (162, .bool ((!some15) || (flt q62.1 next14)))] ∧ Hp S w0 w (Res.sl Ek.bool 4 v55 q59 :: Res.slx (Ek.pair Ek.c128 Ek.bool) 35 v17 q27 q11.2 :: Res.obj 24 v7 [.int .i64 q5.1, .int .u32 q5.2.1, .int .u32 q5.2.2] :: ow)) ?_ ?_
          · rcases Bool.eq_false_or_eq_true (!some15) with hb89 | hb89
            · skip
              refine st_skip hf (wantN hf rfl rfl hb89) rfl (by decide) ?_ rfl
              clear hf; intro a hf
              refine st_skip hf (wantN hf rfl rfl hb89) rfl (by decide) ?_ rfl
              clear hf; intro a hf
              refine st_skip hf (wantN hf rfl rfl hb89) rfl (by decide) ?_ rfl
              clear hf; intro a hf
              refine st_pick (v := .bool true) hf (wantY hf rfl rfl hb87) rfl (fun hb' => ?_) (fun hb' => ?_) (by decide) ?_
              · rfl
              · exact absurd (hb89.symm.trans hb') (by decide)
              clear hf; intro a ha hf; clear ha
              refine st_nil hf (th_n ?_)
              exact ⟨hf.sub ⟨rfl, rfl, rfl, rfl, rfl, rfl, rfl, rfl, rfl, rfl, (by rw [hb89]; rfl), trivial⟩, hp⟩
            refine st_move hf (wantY hf rfl rfl hb89) rfl (by decide) ?_
            clear hf; intro a ha hf; clear ha
            refine st_move hf (wantY hf rfl rfl hb89) rfl (by decide) ?_
            clear hf; intro a ha hf; clear ha
            refine st_fcmp (r_flt (fx := q62.1) (fy := next14) y75 y46) hf (by decide) (wantY hf rfl rfl hb89) rfl rfl ?_
            clear hf; intro a ha hf; clear ha
            refine st_pick (v := .bool (flt q62.1 next14)) hf (wantY hf rfl rfl hb87) rfl (fun hb' => ?_) (fun hb' => ?_) (by decide) ?_
            · exact absurd (hb89.symm.trans hb') (by decide)
            · rfl
            clear hf; intro a ha hf; clear ha
            refine st_nil hf (th_n ?_)
            exact ⟨hf.sub ⟨rfl, rfl, rfl, rfl, rfl, rfl, rfl, rfl, rfl, rfl, (by rw [hb89]; rfl), trivial⟩, hp⟩
          rintro a w ⟨hf, hp⟩
          refine st_pick (v := .bool ((!some15) || (flt q62.1 next14))) hf rfl rfl (fun hb' => ?_) (fun hb' => ?_) (by decide) ?_
          · rfl
          · exact absurd (hb87.symm.trans hb') (by decide)
          clear hf; intro a ha hf; clear ha
          refine st_nil hf (th_n ?_)
          exact ⟨hf.sub ⟨rfl, rfl, rfl, rfl, rfl, rfl, rfl, rfl, rfl, (by rw [hb87]; rfl), trivial⟩, hp⟩
        refine st_skip hf (wantN hf rfl rfl hb87) rfl (by decide) ?_ rfl
        clear hf; intro a hf
        refine st_skip hf (wantN hf rfl rfl hb87) rfl (by decide) ?_ rfl
        clear hf; intro a hf
        refine st_skipU hf (wantN hf rfl rfl hb87) rfl (by decide) ?_
        clear hf; intro a hf
        refine st_skip hf (wantU hf rfl rfl) rfl (by decide) ?_ rfl
        clear hf; intro a hf
        refine st_skip hf (wantU hf rfl rfl) rfl (by decide) ?_ rfl
        clear hf; intro a hf
        refine st_skip hf (wantU hf rfl rfl) rfl (by decide) ?_ rfl
        clear hf; intro a hf
        refine st_skip hf (wantN hf rfl rfl hb87) rfl (by decide) ?_ rfl
        clear hf; intro a hf
        refine st_pick (v := .bool false) hf rfl rfl (fun hb' => ?_) (fun hb' => ?_) (by decide) ?_
        · exact absurd (hb87.symm.trans hb') (by decide)
        · rfl
        clear hf; intro a ha hf; clear ha
        refine st_nil hf (th_n ?_)
        exact ⟨hf.sub ⟨rfl, rfl, rfl, rfl, rfl, rfl, rfl, rfl, rfl, (by rw [hb87]; rfl), trivial⟩, hp⟩
      rintro a w ⟨hf, hp⟩
      refine st_nil hf ?_
      refine th_n ?_
      refine wp_if hf rfl (fun hb => ?_) (fun hb => ?_)
      · replace h := ifT h hb
        refine wp_seq ?_
        refine wp_reg ?_
        refine st_move hf rfl rfl (by decide) ?_
        clear hf; intro a ha hf; clear ha
        refine st_assign hf rfl rfl (by decide) ?_
        clear hf; intro a ha hf; clear ha
        refine st_nil hf ?_
        refine th_n ?_
        refine wp_reg ?_
        refine st_assign hf rfl rfl (by decide) ?_
        clear hf; intro a ha hf; clear ha
        refine st_nil hf ?_
        refine ib_n ?_
        refine th_n ?_
        refine wp_reg ?_
        refine st_move hf rfl rfl (by decide) ?_
        clear hf; intro a ha hf; clear ha
        refine st_iadd hf (by decide) rfl rfl rfl ?_
        clear hf; intro a ha hf; clear ha
        refine st_assign hf rfl rfl (by decide) ?_
        clear hf; intro a ha hf; clear ha
        refine st_nil hf ?_
        obtain rfl := Option.some.inj h
        have hp : Hp _ _ _ (Res.obj 24 v7 [.int .i64 q5.1, .int .u32 q5.2.1, .int .u32 q5.2.2] :: Res.slx (Ek.pair Ek.c128 Ek.bool) 35 v17 q27 q11.2 :: ow) := Hp.sel (pre := [Res.sl Ek.bool 4 v55 q59, Res.slx (Ek.pair Ek.c128 Ek.bool) 35 v17 q27 q11.2, Res.obj 24 v7 [.int .i64 q5.1, .int .u32 q5.2.1, .int .u32 q5.2.2]]) (tail := ow) (rs' := [Res.obj 24 v7 [.int .i64 q5.1, .int .u32 q5.2.1, .int .u32 q5.2.2], Res.slx (Ek.pair Ek.c128 Ek.bool) 35 v17 q27 q11.2]) hp [2, 1] (by decide) (by simp) rfl
        exact rnd_l ⟨_, hf.sub ⟨rfl, rfl, rfl, rfl, rfl, rfl, rfl, rfl, trivial⟩, y75, hp⟩
      replace h := ifF h hb
      refine wp_skip ?_
      refine ib_n ?_
      refine th_n ?_
      refine wp_reg ?_
      refine st_move hf rfl rfl (by decide) ?_
      clear hf; intro a ha hf; clear ha
      refine st_iadd hf (by decide) rfl rfl rfl ?_
      clear hf; intro a ha hf; clear ha
      refine st_assign hf rfl rfl (by decide) ?_
      clear hf; intro a ha hf; clear ha
      refine st_nil hf ?_
      obtain rfl := Option.some.inj h
      have hp : Hp _ _ _ (Res.obj 24 v7 [.int .i64 q5.1, .int .u32 q5.2.1, .int .u32 q5.2.2] :: Res.slx (Ek.pair Ek.c128 Ek.bool) 35 v17 q27 q11.2 :: ow) := Hp.sel (pre := [Res.sl Ek.bool 4 v55 q59, Res.slx (Ek.pair Ek.c128 Ek.bool) 35 v17 q27 q11.2, Res.obj 24 v7 [.int .i64 q5.1, .int .u32 q5.2.1, .int .u32 q5.2.2]]) (tail := ow) (rs' := [Res.obj 24 v7 [.int .i64 q5.1, .int .u32 q5.2.1, .int .u32 q5.2.2], Res.slx (Ek.pair Ek.c128 Ek.bool) 35 v17 q27 q11.2]) hp [2, 1] (by decide) (by simp) rfl
      exact rnd_l ⟨_, hf.sub ⟨rfl, rfl, rfl, rfl, rfl, rfl, rfl, rfl, trivial⟩, y46, hp⟩
    replace h := ifF h hb
    refine wp_exit ?_
    refine th_e ?_
    obtain rfl := Option.some.inj h
    exact rnd_r (by simp) ⟨rfl, _, hf.sub ⟨rfl, rfl, rfl, rfl, rfl, trivial⟩, y46, hp⟩
  clear hl hf hp
  intro e a w hne hO
  rcases q90 with q91 | q92
  · replace h := smL h
    obtain ⟨rfl, bb47, hf, y48, hp⟩ := hO
    refine ib_same ?_
    refine th_n ?_
    refine wp_seq ?_
    refine wp_reg ?_
    refine st_ldOA (m := 3) (us := [.int .i64 q5.1, .int .u32 q5.2.1, .int .u32 q5.2.2]) hf (by decide) (by kernel_rfl) rfl rfl (hp.ob (i := 0) rfl) rfl rfl ?_
    clear hf; intro a ha hf; clear ha
    obtain ⟨q93, hcall94, h⟩ := bnd h
    refine st_call hf (by decide) Try.func14 rfl rfl rfl rfl rfl (f_foghornlaw23_code_c hp _ _ _ hcall94) ?_
    rintro _ w ⟨rfl, hp0⟩
    clear hp; have hp := hp0; clear hp0
    replace hp : Hp _ _ _ (Res.obj 24 v7 [.int .i64 q5.1, .int .u32 q5.2.1, .int .u32 q5.2.2] :: Res.slx (Ek.pair Ek.c128 Ek.bool) 35 v17 q27 q11.2 :: ow) := hp
    refine ⟨_, rfl, ?_⟩
    clear hf; intro a hf
    refine st_move hf rfl rfl (by decide) ?_
    clear hf; intro a ha hf; clear ha
    obtain ⟨q95, hcall96, h⟩ := bnd h
    obtain ⟨S97, hp98, rd99, up100, bk101⟩ := Hp.lendS hp (i := 1) rfl
    refine st_call hf (by decide) Try.func24 rfl rfl rfl rfl rfl (f_soft_Margin_c hp98 _ _ _ _ _ rd99 hcall96) ?_
    rintro _ w ⟨v102, rfl, y103, hp0⟩
    have hp0 := bk101 _ _ hp0
    clear hp; have hp := hp0; clear hp0
    replace hp : Hp _ _ _ (Res.slx (Ek.pair Ek.c128 Ek.bool) 35 v17 q27 q11.2 :: Res.obj 24 v7 [.int .i64 q5.1, .int .u32 q5.2.1, .int .u32 q5.2.2] :: ow) := hp
    refine ⟨_, rfl, ?_⟩
    clear hf; intro a hf
    refine st_move hf rfl rfl (by decide) ?_
    clear hf; intro a ha hf; clear ha
    refine st_extract hf (by decide) rfl rfl rfl ?_
    clear hf; intro a ha hf; clear ha
    refine st_extract hf (by decide) rfl rfl rfl ?_
    clear hf; intro a ha hf; clear ha
    refine st_assign hf rfl rfl (by decide) ?_
    clear hf; intro a ha hf; clear ha
    refine st_assign hf rfl rfl (by decide) ?_
    clear hf; intro a ha hf; clear ha
    refine st_nil hf ?_
    refine th_n ?_
    refine wp_seq ?_
    refine wp_seq ?_
    refine wp_reg ?_
    refine st_move hf rfl rfl (by decide) ?_
    clear hf; intro a ha hf; clear ha
    refine st_not hf (by decide) rfl rfl ?_
    clear hf; intro a ha hf; clear ha
    refine st_nil hf ?_
    refine th_n ?_
    refine wp_if hf rfl (fun hb => ?_) (fun hb => ?_)
    · replace h := ifT h hb
      refine wp_seq ?_
      refine wp_reg ?_
      refine st_move hf rfl rfl (by decide) ?_
      clear hf; intro a ha hf; clear ha
      refine st_ieql hf (by decide) rfl rfl rfl ?_
      clear hf; intro a ha hf; clear ha
      refine st_assign hf rfl rfl (by decide) ?_
      clear hf; intro a ha hf; clear ha
      refine st_nil hf ?_
      refine th_n ?_
      refine wp_ret ?_
      refine th_r ?_
      obtain rfl := Option.some.inj h
      have hp : Hp _ _ _ (ow) := Hp.sel (pre := [Res.slx (Ek.pair Ek.c128 Ek.bool) 35 v17 q27 q11.2, Res.obj 24 v7 [.int .i64 q5.1, .int .u32 q5.2.1, .int .u32 q5.2.2]]) (tail := ow) (rs' := []) hp [] (by decide) (by simp) rfl
      exact ⟨rfl, ⟨hf.sub ⟨rfl, trivial⟩, hp⟩⟩
    replace h := ifF h hb
    refine wp_skip ?_
    refine th_n ?_
    refine wp_seq ?_
    refine wp_reg ?_
    refine st_move hf rfl rfl (by decide) ?_
    clear hf; intro a ha hf; clear ha
    refine st_ieql hf (by decide) rfl rfl rfl ?_
    clear hf; intro a ha hf; clear ha
    refine st_move hf rfl rfl (by decide) ?_
    clear hf; intro a ha hf; clear ha
    refine wpList_cut 6 (fun a w => Fr 185 a [(184, .bool ((q95.2 == (0 : Int)) && (feq q95.1 (fsub q91.1 q30.2.1))))] ∧ Hp S w0 w (Res.slx (Ek.pair Ek.c128 Ek.bool) 35 v17 q27 q11.2 :: Res.obj 24 v7 [.int .i64 q5.1, .int .u32 q5.2.1, .int .u32 q5.2.2] :: ow)) ?_ ?_
    · rcases Bool.eq_false_or_eq_true (q95.2 == (0 : Int)) with hb105 | hb105
      · skip
        refine st_move hf (wantY hf rfl rfl hb105) rfl (by decide) ?_
        clear hf; intro a ha hf; clear ha
        refine st_move hf (wantY hf rfl rfl hb105) rfl (by decide) ?_
        clear hf; intro a ha hf; clear ha
        refine st_move hf (wantY hf rfl rfl hb105) rfl (by decide) ?_
        clear hf; intro a ha hf; clear ha
        refine st_farith (op := .sub) rfl hf (by decide) hp (wantY hf rfl rfl hb105) rfl rfl (show Fl.rep bb47 q91.1 from y48) (show Fl.rep v38 q30.2.1 from y39) ?_
        clear hf; intro a w bb106 y107 hf hp0; clear hp; have hp := hp0; clear hp0
        replace hp : Hp _ _ _ (Res.slx (Ek.pair Ek.c128 Ek.bool) 35 v17 q27 q11.2 :: Res.obj 24 v7 [.int .i64 q5.1, .int .u32 q5.2.1, .int .u32 q5.2.2] :: ow) := hp
        refine st_fcmp (r_feq (fx := q95.1) (fy := (fsub q91.1 q30.2.1)) y103 y107) hf (by decide) (wantY hf rfl rfl hb105) rfl rfl ?_
        clear hf; intro a ha hf; clear ha
        refine st_pick (v := .bool (feq q95.1 (fsub q91.1 q30.2.1))) hf rfl rfl (fun hb' => ?_) (fun hb' => ?_) (by decide) ?_
        · rfl
        · exact absurd (hb105.symm.trans hb') (by decide)
        clear hf; intro a ha hf; clear ha
        refine st_nil hf (th_n ?_)
        exact ⟨hf.sub ⟨(by rw [hb105]; rfl), trivial⟩, hp⟩
      refine st_skip hf (wantN hf rfl rfl hb105) rfl (by decide) ?_ rfl
      clear hf; intro a hf
      refine st_skip hf (wantN hf rfl rfl hb105) rfl (by decide) ?_ rfl
      clear hf; intro a hf
      refine st_skip hf (wantN hf rfl rfl hb105) rfl (by decide) ?_ rfl
      clear hf; intro a hf
      refine st_skip hf (wantN hf rfl rfl hb105) rfl (by decide) ?_ rfl
      clear hf; intro a hf
      refine st_skip hf (wantN hf rfl rfl hb105) rfl (by decide) ?_ rfl
      clear hf; intro a hf
      refine st_pick (v := .bool false) hf rfl rfl (fun hb' => ?_) (fun hb' => ?_) (by decide) ?_
      · exact absurd (hb105.symm.trans hb') (by decide)
      · rfl
      clear hf; intro a ha hf; clear ha
      refine st_nil hf (th_n ?_)
      exact ⟨hf.sub ⟨(by rw [hb105]; rfl), trivial⟩, hp⟩
    rintro a w ⟨hf, hp⟩
    refine st_assign hf rfl rfl (by decide) ?_
    clear hf; intro a ha hf; clear ha
    refine st_nil hf ?_
    refine th_n ?_
    refine wp_ret ?_
    obtain rfl := Option.some.inj h
    have hp : Hp _ _ _ (ow) := Hp.sel (pre := [Res.slx (Ek.pair Ek.c128 Ek.bool) 35 v17 q27 q11.2, Res.obj 24 v7 [.int .i64 q5.1, .int .u32 q5.2.1, .int .u32 q5.2.2]]) (tail := ow) (rs' := []) hp [] (by decide) (by simp) rfl
    exact ⟨rfl, ⟨hf.sub ⟨rfl, trivial⟩, hp⟩⟩
  replace h := smR h
  obtain ⟨rfl, hf, hp⟩ := hO
  refine ib_r ?_
  refine th_r ?_
  obtain rfl := Option.some.inj h
  exact ⟨rfl, ⟨hf.sub ⟨rfl, trivial⟩, hp⟩⟩

end Go.Proofs.Ytcooefnbolobaaa
