/- The functions foghorn foghornlaw23.SoftDecides: what each answers, as a plain function, and that its call answers it; printed by gen.py. -/
import Derived.Test.YtcooefnbolobaaaProg
import Derived.Test.YtcooefnbolobaaaGlUd
import Derived.KernelRfl
set_option linter.unusedVariables false
set_option linter.unusedSimpArgs false
set_option maxRecDepth 100000
set_option maxHeartbeats 4000000
namespace Go.Proofs.Ytcooefnbolobaaa
open GL
theorem eltv94 : ElT Try.prog Ek.val 94 24 (.slice none 0 0) := ElT.of (z := .slice none 0 0) (by kernel_rfl) ⟨rfl, rfl⟩
theorem elt4 : ElT Try.prog Ek.bool 4 1 false := ElT.of (z := .bool false) (by kernel_rfl) rfl
theorem elt29 : ElT Try.prog Ek.f64 29 8 (Fl.bits 0) := ElT.of (z := .float .f64 0) (by kernel_rfl) ⟨_, rfl, rfl⟩
theorem elt35 : ElT Try.prog (Ek.pair Ek.c128 Ek.bool) 35 24 ((Fl.bits 0, Fl.bits 0), false) := ElT.of (z := .agg #[.complex .f64 0 0, .bool false]) (by kernel_rfl) ⟨[.complex .f64 0 0], [.bool false], rfl, ⟨_, _, rfl, rfl, rfl⟩, rfl⟩
theorem elt62 : ElT Try.prog (Ek.pair (Ek.int .i32) (Ek.pair (Ek.int .i32) Ek.bool)) 62 12 ((0 : Int), (0 : Int), false) := ElT.of (z := .agg #[.int .i32 0, .int .i32 0, .bool false]) (by kernel_rfl) ⟨[.int .i32 0], [.int .i32 0, .bool false], rfl, rfl, ⟨[.int .i32 0], [.bool false], rfl, rfl, rfl⟩⟩
theorem elt87 (bs : List Nat) : ElT Try.prog (Ek.pair (Ek.wp bs) (Ek.wp bs)) 87 16 ((none : Option Nat), (none : Option Nat)) := ElT.of (z := .agg #[.pointer none, .pointer none]) (by kernel_rfl) ⟨[.pointer none], [.pointer none], rfl, ⟨_, rfl, WP.nil _⟩, ⟨_, rfl, WP.nil _⟩⟩
theorem elt88 (bs : List Nat) : ElT Try.prog (Ek.pair (Ek.wp bs) (Ek.wp bs)) 88 16 ((none : Option Nat), (none : Option Nat)) := ElT.of (z := .agg #[.pointer none, .pointer none]) (by kernel_rfl) ⟨[.pointer none], [.pointer none], rfl, ⟨_, rfl, WP.nil _⟩, ⟨_, rfl, WP.nil _⟩⟩
theorem elt98 (bs : List FZ) : ElT Try.prog (Ek.pair (Ek.fz bs) Ek.f64) 98 32 (([] : List Bool), (Fl.bits 0)) := ElT.of (z := .agg #[.slice none 0 0, .float .f64 0]) (by kernel_rfl) ⟨[.slice none 0 0], [.float .f64 0], rfl, ⟨_, rfl, FzP.nil _⟩, ⟨_, rfl, rfl⟩⟩
theorem pl3 : Plain Try.prog 3 := ⟨⟨_, Try.underlying3, trivial⟩⟩
theorem pl4 : Plain Try.prog 4 := ⟨⟨_, Try.underlying4, trivial⟩⟩
theorem pl21 : Plain Try.prog 21 := ⟨⟨_, Try.underlying21, trivial⟩⟩
theorem pl22 : Plain Try.prog 22 := ⟨⟨_, Try.underlying22, trivial⟩⟩
theorem pl25 : Plain Try.prog 25 := ⟨⟨_, Try.underlying25, trivial⟩⟩
theorem pl29 : Plain Try.prog 29 := ⟨⟨_, Try.underlying29, trivial⟩⟩
theorem pl33 : Plain Try.prog 33 := ⟨⟨_, Try.underlying33, trivial⟩⟩
theorem pl86 : Plain Try.prog 86 := ⟨⟨_, Try.underlying86, trivial⟩⟩
theorem pl94 : Plain Try.prog 94 := ⟨⟨_, Try.underlying94, trivial⟩⟩
noncomputable def f_foghornlaw23_samples.s1c (l0 : (List (Int × Int × Bool))) (out3 : (List ((Fl × Fl) × Bool))) (i4 : Int) : Option (((List ((Fl × Fl) × Bool)) × Int) ⊕ (List ((Fl × Fl) × Bool))) := (if (decide (i4 < (l0.length : Int))) = true then (if 0 ≤ i4 ∧ i4 < (l0.length : Int) then ((farithS .quo (fofi ((gt l0 i4).1)) (Fl.bits 4661225614328463360)).bind fun q6 => (if 0 ≤ i4 ∧ i4 < (l0.length : Int) then ((farithS .quo (fofi ((gt l0 i4).2.1)) (Fl.bits 4661225614328463360)).bind fun q9 => (if 0 ≤ i4 ∧ i4 < (l0.length : Int) then (if (out3.length + ([((q6, q9), (gt l0 i4).2.2)]).length) * 24 ≤ 140737488355328 then (some (Sum.inl ((out3 ++ [((q6, q9), (gt l0 i4).2.2)]), (IntKind.i64.wrap (i4 + (1 : Int)))))) else none) else none)) else none)) else none) else (some (Sum.inr out3)))
noncomputable def f_foghornlaw23_samples.s1 (l0 : (List (Int × Int × Bool))) (s : ((List ((Fl × Fl) × Bool)) × Int)) : Option (((List ((Fl × Fl) × Bool)) × Int) ⊕ (List ((Fl × Fl) × Bool))) := f_foghornlaw23_samples.s1c l0 s.1 s.2
noncomputable def f_foghornlaw23_samples (l0 : (List (Int × Int × Bool))) : Option ((List ((Fl × Fl) × Bool)) × (List ((Fl × Fl) × Bool))) := ((loop (f_foghornlaw23_samples.s1 l0) ([], (0 : Int))).bind (fun q16 => (if (q16.length + ([((Fl.bits 4651892959631900672, Fl.bits 0), false)]).length) * 24 ≤ 140737488355328 then (if 0 ≤ (q16.length : Int) ∧ (q16.length : Int) ≤ (((q16 ++ [((Fl.bits 4651892959631900672, Fl.bits 0), false)]) ++ ([] : List ((Fl × Fl) × Bool))).length : Int) then (some ((((q16 ++ [((Fl.bits 4651892959631900672, Fl.bits 0), false)]) ++ ([] : List ((Fl × Fl) × Bool))).take (((q16.length : Int)).toNat)), (((q16 ++ [((Fl.bits 4651892959631900672, Fl.bits 0), false)]) ++ ([] : List ((Fl × Fl) × Bool))).drop (((q16.length : Int)).toNat)))) else none) else none)))
theorem f_foghornlaw23_samples_c {S : Nat → Prop} {w0 w : World} {ow : List Res} (hp : Hp S w0 w ow) (vl0 : Value) (l0 : (List (Int × Int × Bool))) (hl0 : RdS (Ek.pair (Ek.int .i32) (Ek.pair (Ek.int .i32) Ek.bool)) S w0 vl0 l0) {r : ((List ((Fl × Fl) × Bool)) × (List ((Fl × Fl) × Bool)))} (h : f_foghornlaw23_samples l0 = some r) :
   Calls Try.prog 9 #[vl0] w (fun e w' => ∃ (u0 : Value), e = .returned (u0) ∧ Hp S w0 w' (Res.slx (Ek.pair Ek.c128 Ek.bool) 35 u0 r.1 r.2 :: ow)) := by
  unfold f_foghornlaw23_samples at h
  refine enter (n := 44) (args := [vl0]) Try.func9 rfl rfl (Nat.le_of_ble_eq_true rfl) fun a hf => ?_
  replace hf : Fr 44 a [(0, vl0)] := hf
  refine wp_mono (Q := fun e a w => e = .ret ∧ ∃ (u0 : Value), Fr 44 a [(2, u0)] ∧ Hp S w0 w (Res.slx (Ek.pair Ek.c128 Ek.bool) 35 u0 r.1 r.2 :: ow)) ?_ ?_
  rotate_left
  ·
   rintro e a w ⟨rfl, x0, hf, hp⟩
   exact ret1 hf rfl rfl ⟨x0, rfl, hp⟩
  refine wp_seq ?_
  refine wp_reg ?_
  refine st_assign hf rfl rfl (by decide) ?_
  clear hf; intro a ha hf; clear ha
  refine st_nil hf ?_
  refine th_n ?_
  refine wp_seq ?_
  refine wp_reg ?_
  refine st_assign hf rfl rfl (by decide) ?_
  clear hf; intro a ha hf; clear ha
  refine st_nil hf ?_
  refine th_n ?_
  refine wp_seq ?_
  refine wp_seq ?_
  refine wp_reg ?_
  refine st_assign hf rfl rfl (by decide) ?_
  clear hf; intro a ha hf; clear ha
  refine st_nil hf ?_
  refine th_n ?_
  refine wp_block ?_
  obtain ⟨q16, hl, h⟩ := bnd h
  have hp := hp.nil (Ek.pair Ek.c128 Ek.bool) 35
  refine wp_loop_pure (f := (f_foghornlaw23_samples.s1 l0)) (s := ([], (0 : Int))) (fun s a w => ∃ (v1 : Value), Fr 44 a [(0, vl0), (3, v1), (4, .int .i64 s.2)] ∧ Hp S w0 w (Res.sl (Ek.pair Ek.c128 Ek.bool) 35 v1 s.1 :: ow)) (fun q e a w => e = .exit 0 ∧ ∃ (v3 : Value), Fr 44 a [(3, v3)] ∧ Hp S w0 w (Res.sl (Ek.pair Ek.c128 Ek.bool) 35 v3 q :: ow)) ?_ hl ⟨_, hf.sub ⟨rfl, rfl, rfl, trivial⟩, hp⟩ ?_
  ·
   clear hl hf hp
   intro s x a w h hI
   obtain ⟨out3, i4⟩ := s
   obtain ⟨v1, hf, hp⟩ : ∃ (v1 : Value), Fr 44 a [(0, vl0), (3, v1), (4, .int .i64 i4)] ∧ Hp S w0 w (Res.sl (Ek.pair Ek.c128 Ek.bool) 35 v1 out3 :: ow) := hI
   replace h : f_foghornlaw23_samples.s1c l0 out3 i4 = some x := h
   unfold f_foghornlaw23_samples.s1c at h
   refine wp_seq ?_
   refine wp_seq ?_
   refine wp_reg ?_
   refine st_move hf rfl rfl (by decide) ?_
   clear hf; intro a ha hf; clear ha
   refine st_move hf rfl rfl (by decide) ?_
   clear hf; intro a ha hf; clear ha
   refine st_len (E := (Ek.pair (Ek.int .i32) (Ek.pair (Ek.int .i32) Ek.bool))) hf (by decide) Try.underlying26 rfl rfl (hl0.sl hp) ?_
   clear hf; intro a ha hf; clear ha
   refine st_ilss hf (by decide) rfl rfl rfl ?_
   clear hf; intro a ha hf; clear ha
   refine st_nil hf ?_
   refine th_n ?_
   refine wp_if hf rfl (fun hb => ?_) (fun hb => ?_)
   ·
    replace h := ifT h hb
    refine wp_skip ?_
    refine th_n ?_
    refine wp_seq ?_
    refine wp_block ?_
    obtain ⟨hc5, h⟩ := chk h
    obtain ⟨q6, hq7, h⟩ := bnd h
    obtain ⟨hc8, h⟩ := chk h
    obtain ⟨q9, hq10, h⟩ := bnd h
    obtain ⟨hc11, h⟩ := chk h
    obtain ⟨hc14, h⟩ := chk h
    refine wp_cutN (fun a w => ∃ (v12 : Value) (v15 : Value), Fr 44 a [(0, vl0), (3, v15), (4, .int .i64 i4)] ∧ Hp S w0 w (Res.sl (Ek.pair Ek.c128 Ek.bool) 35 v12 ([((q6, q9), (gt l0 i4).2.2)]) :: Res.sl (Ek.pair Ek.c128 Ek.bool) 35 v15 (out3 ++ [((q6, q9), (gt l0 i4).2.2)]) :: ow)) ?_ ?_
    ·
     have hp := hp.same (Same.drew w)
     refine dr_begin' _ (fun w' => ∃ l, Hp S w0 w' l) [] (by kernel_rfl) ?_
     refine dr_takeK 0 (v1) rfl hf rfl (fun w ⟨_, hp⟩ => ?_) ⟨_, hp⟩ ?_
     · exact st_move hf rfl rfl (by decide) tk
     clear hf; intro a hf
     refine dr_takeK 1 (vl0) rfl hf rfl (fun w ⟨_, hp⟩ => ?_) ⟨_, hp⟩ ?_
     · exact st_move hf rfl rfl (by decide) tk
     clear hf; intro a hf
     refine dr_takeK 2 (.int .i64 i4) rfl hf rfl (fun w ⟨_, hp⟩ => ?_) ⟨_, hp⟩ ?_
     · exact st_move hf rfl rfl (by decide) tk
     clear hf; intro a hf
     refine dr_takeK 3 (eptr vl0 i4 3) rfl hf rfl (fun w ⟨_, hp⟩ => ?_) ⟨_, hp⟩ ?_
     · exact st_index (E := (Ek.pair (Ek.int .i32) (Ek.pair (Ek.int .i32) Ek.bool))) hf (by decide) Try.underlying26 elt62 rfl rfl rfl (hl0.sl hp) hc5.1 hc5.2 tk
     clear hf; intro a hf
     refine dr_takeK 4 (optr (eptr vl0 i4 3) 0) rfl hf rfl (fun w ⟨_, hp⟩ => ?_) ⟨_, hp⟩ ?_
     · exact st_faP (off := 0) (sz := 1) hf (by decide) (by kernel_rfl) (by decide) rfl rfl (Sl.isP (hl0.sl hp) hc5.1 hc5.2) tk
     clear hf; intro a hf
     refine dr_takeK 5 (.int .i32 ((gt l0 i4).1)) rfl hf rfl (fun w ⟨_, hp⟩ => ?_) ⟨_, hp⟩ ?_
     · exact st_ldQ (F := (Ek.int .i32)) (yv := (gt l0 i4).1) hf (by decide) pl21 (fun x => .int .i32 x) (fun _ _ h => h) rfl rfl (Sl.part (E := (Ek.pair (Ek.int .i32) (Ek.pair (Ek.int .i32) Ek.bool))) (F := (Ek.int .i32)) (o := 0) (Sub.fst (E := (Ek.int .i32)) (F := (Ek.pair (Ek.int .i32) Ek.bool))) (hl0.sl hp) hc5.1 hc5.2) tk
     clear hf; intro a hf
     refine dr_takeK 6 (.float .f64 (FloatKind.f64.nearest ((gt l0 i4).1))) rfl hf rfl (fun w ⟨_, hp⟩ => ?_) ⟨_, hp⟩ ?_
     · exact st_conv_if Try.underlying21 Try.underlying29 hf (by decide) rfl rfl tk
     clear hf; intro a hf
     refine dr_takeK 7 (.float .f64 (flb q6)) rfl hf rfl (fun w ⟨_, hp⟩ => ?_) ⟨_, hp⟩ ?_
     · exact st_fs (op := .quo) rfl hf (by decide) rfl rfl rfl (show Fl.rep (FloatKind.f64.nearest ((gt l0 i4).1)) (fofi ((gt l0 i4).1)) from rfl) (show Fl.rep 4661225614328463360 (Fl.bits 4661225614328463360) from rfl) hq7 tk
     clear hf; intro a hf
     refine dr_takeK 8 (vl0) rfl hf rfl (fun w ⟨_, hp⟩ => ?_) ⟨_, hp⟩ ?_
     · exact st_move hf rfl rfl (by decide) tk
     clear hf; intro a hf
     refine dr_takeK 9 (.int .i64 i4) rfl hf rfl (fun w ⟨_, hp⟩ => ?_) ⟨_, hp⟩ ?_
     · exact st_move hf rfl rfl (by decide) tk
     clear hf; intro a hf
     refine dr_takeK 10 (eptr vl0 i4 3) rfl hf rfl (fun w ⟨_, hp⟩ => ?_) ⟨_, hp⟩ ?_
     · exact st_index (E := (Ek.pair (Ek.int .i32) (Ek.pair (Ek.int .i32) Ek.bool))) hf (by decide) Try.underlying26 elt62 rfl rfl rfl (hl0.sl hp) hc8.1 hc8.2 tk
     clear hf; intro a hf
     refine dr_takeK 11 (optr (eptr vl0 i4 3) 1) rfl hf rfl (fun w ⟨_, hp⟩ => ?_) ⟨_, hp⟩ ?_
     · exact st_faP (off := 1) (sz := 1) hf (by decide) (by kernel_rfl) (by decide) rfl rfl (Sl.isP (hl0.sl hp) hc8.1 hc8.2) tk
     clear hf; intro a hf
     refine dr_takeK 12 (.int .i32 ((gt l0 i4).2.1)) rfl hf rfl (fun w ⟨_, hp⟩ => ?_) ⟨_, hp⟩ ?_
     · exact st_ldQ (F := (Ek.int .i32)) (yv := (gt l0 i4).2.1) hf (by decide) pl21 (fun x => .int .i32 x) (fun _ _ h => h) rfl rfl (Sl.part (E := (Ek.pair (Ek.int .i32) (Ek.pair (Ek.int .i32) Ek.bool))) (F := (Ek.int .i32)) (o := 1) (Sub.comp (Sub.snd (E := (Ek.int .i32)) (F := (Ek.pair (Ek.int .i32) Ek.bool))) (Sub.fst (E := (Ek.int .i32)) (F := Ek.bool))) (hl0.sl hp) hc8.1 hc8.2) tk
     clear hf; intro a hf
     refine dr_takeK 13 (.float .f64 (FloatKind.f64.nearest ((gt l0 i4).2.1))) rfl hf rfl (fun w ⟨_, hp⟩ => ?_) ⟨_, hp⟩ ?_
     · exact st_conv_if Try.underlying21 Try.underlying29 hf (by decide) rfl rfl tk
     clear hf; intro a hf
     refine dr_takeK 14 (.float .f64 (flb q9)) rfl hf rfl (fun w ⟨_, hp⟩ => ?_) ⟨_, hp⟩ ?_
     · exact st_fs (op := .quo) rfl hf (by decide) rfl rfl rfl (show Fl.rep (FloatKind.f64.nearest ((gt l0 i4).2.1)) (fofi ((gt l0 i4).2.1)) from rfl) (show Fl.rep 4661225614328463360 (Fl.bits 4661225614328463360) from rfl) hq10 tk
     clear hf; intro a hf
     refine dr_takeK 15 (.complex .f64 (flb q6) (flb q9)) rfl hf rfl (fun w ⟨_, hp⟩ => ?_) ⟨_, hp⟩ ?_
     · exact st_complex hf (by decide) rfl rfl rfl tk
     clear hf; intro a hf
     refine dr_takeK 16 (vl0) rfl hf rfl (fun w ⟨_, hp⟩ => ?_) ⟨_, hp⟩ ?_
     · exact st_move hf rfl rfl (by decide) tk
     clear hf; intro a hf
     refine dr_takeK 17 (.int .i64 i4) rfl hf rfl (fun w ⟨_, hp⟩ => ?_) ⟨_, hp⟩ ?_
     · exact st_move hf rfl rfl (by decide) tk
     clear hf; intro a hf
     refine dr_takeK 18 (eptr vl0 i4 3) rfl hf rfl (fun w ⟨_, hp⟩ => ?_) ⟨_, hp⟩ ?_
     · exact st_index (E := (Ek.pair (Ek.int .i32) (Ek.pair (Ek.int .i32) Ek.bool))) hf (by decide) Try.underlying26 elt62 rfl rfl rfl (hl0.sl hp) hc11.1 hc11.2 tk
     clear hf; intro a hf
     refine dr_takeK 19 (optr (eptr vl0 i4 3) 2) rfl hf rfl (fun w ⟨_, hp⟩ => ?_) ⟨_, hp⟩ ?_
     · exact st_faP (off := 2) (sz := 1) hf (by decide) (by kernel_rfl) (by decide) rfl rfl (Sl.isP (hl0.sl hp) hc11.1 hc11.2) tk
     clear hf; intro a hf
     refine dr_takeK 20 (.bool ((gt l0 i4).2.2)) rfl hf rfl (fun w ⟨_, hp⟩ => ?_) ⟨_, hp⟩ ?_
     · exact st_ldQ (F := Ek.bool) (yv := (gt l0 i4).2.2) hf (by decide) pl4 (fun x => .bool x) (fun _ _ h => h) rfl rfl (Sl.part (E := (Ek.pair (Ek.int .i32) (Ek.pair (Ek.int .i32) Ek.bool))) (F := Ek.bool) (o := 2) (Sub.comp (Sub.snd (E := (Ek.int .i32)) (F := (Ek.pair (Ek.int .i32) Ek.bool))) (Sub.snd (E := (Ek.int .i32)) (F := Ek.bool))) (hl0.sl hp) hc11.1 hc11.2) tk
     clear hf; intro a hf
     refine dr_takeK 21 (.agg #[.complex .f64 (flb q6) (flb q9), .bool ((gt l0 i4).2.2)]) rfl hf rfl (fun w ⟨_, hp⟩ => ?_) ⟨_, hp⟩ ?_
     · exact st_buildA (vals := [(0, .complex .f64 (flb q6) (flb q9)), (1, .bool ((gt l0 i4).2.2))]) (cells := [.complex .f64 (flb q6) (flb q9), .bool ((gt l0 i4).2.2)]) hf (by decide) rfl (by simp [hf.ev (x := (Operand.tmp 27)) rfl, hf.ev (x := (Operand.tmp 32)) rfl]) (fun w => by kernel_rfl) tk
     clear hf; intro a hf
     refine dr_one 22 rfl (by kernel_rfl) ?_
     refine st_build (E := (Ek.pair Ek.c128 Ek.bool)) (xs := [((q6, q9), (gt l0 i4).2.2)]) hf (by decide) elt35 Try.underlying27 hp (vals := #[(0, .agg #[.complex .f64 (flb q6) (flb q9), .bool ((gt l0 i4).2.2)])]) (cells := #[.complex .f64 (flb q6) (flb q9), .bool ((gt l0 i4).2.2)]) rfl (by simp [hf.ev (x := (Operand.tmp 33)) rfl]) (Nat.le_of_ble_eq_true rfl) (Nat.le_of_ble_eq_true rfl) (z := .agg #[.complex .f64 0 0, .bool false]) (by kernel_rfl) (by kernel_rfl) rfl (reps_cons (cs := [.complex .f64 (flb q6) (flb q9), .bool ((gt l0 i4).2.2)]) ⟨[.complex .f64 (flb q6) (flb q9)], [.bool ((gt l0 i4).2.2)], rfl, (show Ek.c128.rep [.complex .f64 (flb q6) (flb q9)] (q6, q9) from ⟨_, _, rfl, (farithS_rep hq7), (farithS_rep hq10)⟩), rfl⟩ (reps_nil _)) ?_
     clear hf; intro a w v12 hf hp0; clear hp; have hp := hp0; clear hp0
     replace hp : Hp _ _ _ (Res.sl (Ek.pair Ek.c128 Ek.bool) 35 v12 ([((q6, q9), (gt l0 i4).2.2)]) :: Res.sl (Ek.pair Ek.c128 Ek.bool) 35 v1 out3 :: ow) := hp
     refine nx hf (fun _ _ => ⟨_, hp⟩) ?_
     refine dr_one 23 rfl (by kernel_rfl) ?_
     refine st_append (E := (Ek.pair Ek.c128 Ek.bool)) hf (by decide) elt35 Try.underlying27 (by decide) hp (i := 1) rfl rfl rfl rfl (hp.sl (i := 0) rfl) hc14 ?_
     clear hf; intro a w v15 hf hp0; clear hp; have hp := hp0; clear hp0
     replace hp : Hp _ _ _ (_ :: Res.sl (Ek.pair Ek.c128 Ek.bool) 35 v15 (out3 ++ [((q6, q9), (gt l0 i4).2.2)]) :: ow) := hp
     refine nx hf (fun _ _ => ⟨_, hp⟩) ?_
     refine dr_takeK 24 (v15) rfl hf rfl (fun w ⟨_, hp⟩ => ?_) ⟨_, hp⟩ ?_
     · exact st_assign hf rfl rfl (by decide) tk
     clear hf; intro a hf
     refine dr_end (by kernel_rfl) ?_ _
     exact ⟨v12, v15, hf.sub ⟨rfl, rfl, rfl, trivial⟩, hp⟩
    rintro a w ⟨v12, v15, hf, hp⟩
    refine ib_n ?_
    refine th_n ?_
    refine wp_reg ?_
    refine st_move hf rfl rfl (by decide) ?_
    clear hf; intro a ha hf; clear ha
    refine st_iadd hf (by decide) rfl rfl rfl ?_
    clear hf; intro a ha hf; clear ha
    refine st_assign hf rfl rfl (by decide) ?_
    clear hf; intro a ha hf; clear ha
    refine st_nil hf ?_
    obtain rfl := Option.some.inj h
    have hp : Hp _ _ _ (_ :: ow) := Hp.sel (pre := [Res.sl (Ek.pair Ek.c128 Ek.bool) 35 v12 ([((q6, q9), (gt l0 i4).2.2)]), Res.sl (Ek.pair Ek.c128 Ek.bool) 35 v15 (out3 ++ [((q6, q9), (gt l0 i4).2.2)])]) (tail := ow) (rs' := [Res.sl (Ek.pair Ek.c128 Ek.bool) 35 v15 (out3 ++ [((q6, q9), (gt l0 i4).2.2)])]) hp [1] (by decide) (by simp) rfl
    exact rnd_l ⟨_, hf.sub ⟨rfl, rfl, rfl, trivial⟩, hp⟩
   replace h := ifF h hb
   refine wp_exit ?_
   refine th_e ?_
   obtain rfl := Option.some.inj h
   exact rnd_r (by simp) ⟨rfl, _, hf.sub ⟨rfl, trivial⟩, hp⟩
  clear hl hf hp
  intro e a w hne hO
  obtain ⟨rfl, v3, hf, hp⟩ := hO
  refine ib_same ?_
  refine th_n ?_
  refine wp_seq ?_
  refine wp_reg ?_
  refine st_move hf rfl rfl (by decide) ?_
  clear hf; intro a ha hf; clear ha
  refine st_len (E := (Ek.pair Ek.c128 Ek.bool)) hf (by decide) Try.underlying27 rfl rfl (hp.sl (i := 0) rfl) ?_
  clear hf; intro a ha hf; clear ha
  refine st_assign hf rfl rfl (by decide) ?_
  clear hf; intro a ha hf; clear ha
  refine st_nil hf ?_
  refine th_n ?_
  refine wp_seq ?_
  refine wp_reg ?_
  refine st_move hf rfl rfl (by decide) ?_
  clear hf; intro a ha hf; clear ha
  refine st_buildA (vals := [(0, .complex .f64 4651892959631900672 0)]) (cells := [.complex .f64 4651892959631900672 0, .bool false]) hf (by decide) rfl (by simp [hf.ev (x := (Operand.const (.complex .f64 4651892959631900672 0))) rfl]) (fun w => by kernel_rfl) ?_
  clear hf; intro a ha hf; clear ha
  refine st_build (E := (Ek.pair Ek.c128 Ek.bool)) (xs := [((Fl.bits 4651892959631900672, Fl.bits 0), false)]) hf (by decide) elt35 Try.underlying27 hp (vals := #[(0, .agg #[.complex .f64 4651892959631900672 0, .bool false])]) (cells := #[.complex .f64 4651892959631900672 0, .bool false]) rfl (by simp [hf.ev (x := (Operand.tmp 39)) rfl]) (Nat.le_of_ble_eq_true rfl) (Nat.le_of_ble_eq_true rfl) (z := .agg #[.complex .f64 0 0, .bool false]) (by kernel_rfl) (by kernel_rfl) rfl (reps_cons (cs := [.complex .f64 4651892959631900672 0, .bool false]) ⟨[.complex .f64 4651892959631900672 0], [.bool false], rfl, (show Ek.c128.rep [.complex .f64 4651892959631900672 0] (Fl.bits 4651892959631900672, Fl.bits 0) from ⟨_, _, rfl, rfl, rfl⟩), rfl⟩ (reps_nil _)) ?_
  clear hf; intro a w v18 hf hp0; clear hp; have hp := hp0; clear hp0
  replace hp : Hp _ _ _ (Res.sl (Ek.pair Ek.c128 Ek.bool) 35 v18 ([((Fl.bits 4651892959631900672, Fl.bits 0), false)]) :: Res.sl (Ek.pair Ek.c128 Ek.bool) 35 v3 q16 :: ow) := hp
  obtain ⟨hc20, h⟩ := chk h
  refine st_append (E := (Ek.pair Ek.c128 Ek.bool)) hf (by decide) elt35 Try.underlying27 (by decide) hp (i := 1) rfl rfl rfl rfl (hp.sl (i := 0) rfl) hc20 ?_
  clear hf; intro a w v21 hf hp0; clear hp; have hp := hp0; clear hp0
  replace hp : Hp _ _ _ (_ :: Res.sl (Ek.pair Ek.c128 Ek.bool) 35 v21 (q16 ++ [((Fl.bits 4651892959631900672, Fl.bits 0), false)]) :: ow) := hp
  refine st_move hf rfl rfl (by decide) ?_
  clear hf; intro a ha hf; clear ha
  obtain ⟨hc22, h⟩ := chk h
  have hc23 : 0 ≤ ((q16.length : Int)).toNat := by omega
  have hc24 : ((q16.length : Int)).toNat ≤ ((q16 ++ [((Fl.bits 4651892959631900672, Fl.bits 0), false)]) ++ ([] : List ((Fl × Fl) × Bool))).length := by omega
  refine st_cutX (E := (Ek.pair Ek.c128 Ek.bool)) hf (by decide) Try.underlying27 elt35 hp (i := 1) rfl rfl rfl (.inl ⟨rfl, rfl⟩) (.inr ⟨_, _, rfl, evI rfl (by omega)⟩) hc23 hc24 ?_
  clear hf; intro a ha hf; clear ha
  replace hp : Hp _ _ _ (_ :: Res.slx (Ek.pair Ek.c128 Ek.bool) 35 (GL.cut v21 0 (((q16.length : Int)).toNat) 2) (((q16 ++ [((Fl.bits 4651892959631900672, Fl.bits 0), false)]) ++ ([] : List ((Fl × Fl) × Bool))).take (((q16.length : Int)).toNat)) (((q16 ++ [((Fl.bits 4651892959631900672, Fl.bits 0), false)]) ++ ([] : List ((Fl × Fl) × Bool))).drop (((q16.length : Int)).toNat)) :: ow) := hp.cutOwn (i := 1) rfl hc24
  refine st_assign hf rfl rfl (by decide) ?_
  clear hf; intro a ha hf; clear ha
  refine st_nil hf ?_
  refine th_n ?_
  refine wp_ret ?_
  obtain rfl := Option.some.inj h
  have hp : Hp _ _ _ (_ :: ow) := Hp.sel (pre := [Res.sl (Ek.pair Ek.c128 Ek.bool) 35 v18 ([((Fl.bits 4651892959631900672, Fl.bits 0), false)]), Res.slx (Ek.pair Ek.c128 Ek.bool) 35 (GL.cut v21 0 (((q16.length : Int)).toNat) 2) (((q16 ++ [((Fl.bits 4651892959631900672, Fl.bits 0), false)]) ++ ([] : List ((Fl × Fl) × Bool))).take (((q16.length : Int)).toNat)) (((q16 ++ [((Fl.bits 4651892959631900672, Fl.bits 0), false)]) ++ ([] : List ((Fl × Fl) × Bool))).drop (((q16.length : Int)).toNat))]) (tail := ow) (rs' := [Res.slx (Ek.pair Ek.c128 Ek.bool) 35 (GL.cut v21 0 (((q16.length : Int)).toNat) 2) (((q16 ++ [((Fl.bits 4651892959631900672, Fl.bits 0), false)]) ++ ([] : List ((Fl × Fl) × Bool))).take (((q16.length : Int)).toNat)) (((q16 ++ [((Fl.bits 4651892959631900672, Fl.bits 0), false)]) ++ ([] : List ((Fl × Fl) × Bool))).drop (((q16.length : Int)).toNat))]) hp [1] (by decide) (by simp) rfl
  exact ⟨rfl, ⟨_, hf.sub ⟨rfl, trivial⟩, hp⟩⟩

noncomputable def f_foghornref21_May (cx0_Length : Int) (cx0_One : Int) (cx0_Two : Int) : Option Bool := (if ((decide (cx0_Length < (2 : Int))) || (decide ((7 : Int) < cx0_Length))) = true then (some false) else (if 0 ≤ cx0_Length then (some (((((decide ((1 : Int) ≤ cx0_One)) && (decide (cx0_One < (ishl .u32 (1 : Int) cx0_Length)))) && (decide ((1 : Int) ≤ cx0_Two))) && (decide (cx0_Two < (ishl .u32 (1 : Int) cx0_Length)))) && ((decide ((IntKind.u32.wrap (((ishl .u32 (1 : Int) cx0_Length)).tdiv (2 : Int))) ≤ cx0_One)) || (decide ((IntKind.u32.wrap (((ishl .u32 (1 : Int) cx0_Length)).tdiv (2 : Int))) ≤ cx0_Two))))) else none))
theorem f_foghornref21_May_c {S : Nat → Prop} {w0 w : World} {ow : List Res} (hp : Hp S w0 w ow) (cx0_Length : Int) (cx0_One : Int) (cx0_Two : Int) {r : Bool} (h : f_foghornref21_May cx0_Length cx0_One cx0_Two = some r) :
    Calls Try.prog 41 #[.agg #[.int .i64 cx0_Length, .int .u32 cx0_One, .int .u32 cx0_Two]] w (fun e w' => e = .returned (.bool r) ∧ Hp S w0 w' (ow)) := by
  unfold f_foghornref21_May at h
  refine enter (n := 49) (args := [.agg #[.int .i64 cx0_Length, .int .u32 cx0_One, .int .u32 cx0_Two]]) Try.func41 rfl rfl (Nat.le_of_ble_eq_true rfl) fun a hf => ?_
  replace hf : Fr 49 a [(0, .agg #[.int .i64 cx0_Length, .int .u32 cx0_One, .int .u32 cx0_Two])] := hf
  refine wp_mono (Q := fun e a w => e = .ret ∧ Fr 49 a [(2, .bool r)] ∧ Hp S w0 w (ow)) ?_ ?_
  rotate_left
  · rintro e a w ⟨rfl, hf, hp⟩
    exact ret1 hf rfl rfl ⟨rfl, hp⟩
  refine wp_seq ?_
  refine wp_reg ?_
  refine st_boxO (cs := [.int .i64 cx0_Length, .int .u32 cx0_One, .int .u32 cx0_Two]) hf (by decide) hp rfl rfl rfl ?_
  clear hf; intro a w v1 hf hp0; clear hp; have hp := hp0; clear hp0
  replace hp : Hp _ _ _ (Res.obj 24 v1 [.int .i64 cx0_Length, .int .u32 cx0_One, .int .u32 cx0_Two] :: ow) := hp
  refine st_assign hf rfl rfl (by decide) ?_
  clear hf; intro a ha hf; clear ha
  refine st_nil hf ?_
  refine th_n ?_
  refine wp_seq ?_
  refine wp_seq ?_
  refine wp_reg ?_
  refine st_fa (o' := 0) hf (by decide) (off := 0) (sz := 1) (by kernel_rfl) (by decide) rfl rfl (hp.ob (i := 0) rfl) rfl ?_
  clear hf; intro a ha hf; clear ha
  refine st_ldO (u := .int .i64 cx0_Length) hf (by decide) pl3 rfl rfl (hp.ob (i := 0) rfl) rfl ?_
  clear hf; intro a ha hf; clear ha
  refine st_ilss hf (by decide) rfl rfl rfl ?_
  clear hf; intro a ha hf; clear ha
  refine st_move hf rfl rfl (by decide) ?_
  clear hf; intro a ha hf; clear ha
  refine wpList_cut 4 (fun a w => Fr 49 a [(1, optr v1 0), (11, .bool ((decide (cx0_Length < (2 : Int))) || (decide ((7 : Int) < cx0_Length))))] ∧ Hp S w0 w (Res.obj 24 v1 [.int .i64 cx0_Length, .int .u32 cx0_One, .int .u32 cx0_Two] :: ow)) ?_ ?_
  · rcases Bool.eq_false_or_eq_true (decide (cx0_Length < (2 : Int))) with hb4 | hb4
    · skip
      refine st_skip hf (wantN hf rfl rfl hb4) rfl (by decide) ?_ rfl
      clear hf; intro a hf
      refine st_skip hf (wantN hf rfl rfl hb4) rfl (by decide) ?_ rfl
      clear hf; intro a hf
      refine st_skip hf (wantN hf rfl rfl hb4) rfl (by decide) ?_ rfl
      clear hf; intro a hf
      refine st_pick (v := .bool true) hf rfl rfl (fun hb' => ?_) (fun hb' => ?_) (by decide) ?_
      · rfl
      · exact absurd (hb4.symm.trans hb') (by decide)
      clear hf; intro a ha hf; clear ha
      refine st_nil hf (th_n ?_)
      exact ⟨hf.sub ⟨rfl, (by rw [hb4]; rfl), trivial⟩, hp⟩
    refine st_fa (o' := 0) hf (by decide) (off := 0) (sz := 1) (by kernel_rfl) (by decide) (wantY hf rfl rfl hb4) rfl (hp.ob (i := 0) rfl) rfl ?_
    clear hf; intro a ha hf; clear ha
    refine st_ldO (u := .int .i64 cx0_Length) hf (by decide) pl3 (wantY hf rfl rfl hb4) rfl (hp.ob (i := 0) rfl) rfl ?_
    clear hf; intro a ha hf; clear ha
    refine st_igtr hf (by decide) (wantY hf rfl rfl hb4) rfl rfl ?_
    clear hf; intro a ha hf; clear ha
    refine st_pick (v := .bool (decide ((7 : Int) < cx0_Length))) hf rfl rfl (fun hb' => ?_) (fun hb' => ?_) (by decide) ?_
    · exact absurd (hb4.symm.trans hb') (by decide)
    · rfl
    clear hf; intro a ha hf; clear ha
    refine st_nil hf (th_n ?_)
    exact ⟨hf.sub ⟨rfl, (by rw [hb4]; rfl), trivial⟩, hp⟩
  rintro a w ⟨hf, hp⟩
  refine st_nil hf ?_
  refine th_n ?_
  refine wp_if hf rfl (fun hb => ?_) (fun hb => ?_)
  · replace h := ifT h hb
    refine wp_seq ?_
    refine wp_reg ?_
    refine st_assign hf rfl rfl (by decide) ?_
    clear hf; intro a ha hf; clear ha
    refine st_nil hf ?_
    refine th_n ?_
    refine wp_ret ?_
    refine th_r ?_
    obtain rfl := Option.some.inj h
    have hp : Hp _ _ _ (ow) := Hp.sel (pre := [Res.obj 24 v1 [.int .i64 cx0_Length, .int .u32 cx0_One, .int .u32 cx0_Two]]) (tail := ow) (rs' := []) hp [] (by decide) (by simp) rfl
    exact ⟨rfl, ⟨hf.sub ⟨rfl, trivial⟩, hp⟩⟩
  replace h := ifF h hb
  refine wp_skip ?_
  refine th_n ?_
  refine wp_seq ?_
  refine wp_reg ?_
  refine st_fa (o' := 0) hf (by decide) (off := 0) (sz := 1) (by kernel_rfl) (by decide) rfl rfl (hp.ob (i := 0) rfl) rfl ?_
  clear hf; intro a ha hf; clear ha
  refine st_ldO (u := .int .i64 cx0_Length) hf (by decide) pl3 rfl rfl (hp.ob (i := 0) rfl) rfl ?_
  clear hf; intro a ha hf; clear ha
  obtain ⟨hc5, h⟩ := chk h
  refine st_ishl hf (by decide) rfl rfl rfl hc5 ?_
  clear hf; intro a ha hf; clear ha
  refine st_assign hf rfl rfl (by decide) ?_
  clear hf; intro a ha hf; clear ha
  refine st_nil hf ?_
  refine th_n ?_
  refine wp_seq ?_
  refine wp_reg ?_
  refine st_fa (o' := 1) hf (by decide) (off := 1) (sz := 1) (by kernel_rfl) (by decide) rfl rfl (hp.ob (i := 0) rfl) rfl ?_
  clear hf; intro a ha hf; clear ha
  refine st_ldO (u := .int .u32 cx0_One) hf (by decide) pl22 rfl rfl (hp.ob (i := 0) rfl) rfl ?_
  clear hf; intro a ha hf; clear ha
  refine st_igeq hf (by decide) rfl rfl rfl ?_
  clear hf; intro a ha hf; clear ha
  refine st_move hf rfl rfl (by decide) ?_
  clear hf; intro a ha hf; clear ha
  refine wpList_cut 5 (fun a w => Fr 49 a [(1, optr v1 0), (3, .int .u32 (ishl .u32 (1 : Int) cx0_Length)), (23, .bool ((decide ((1 : Int) ≤ cx0_One)) && (decide (cx0_One < (ishl .u32 (1 : Int) cx0_Length)))))] ∧ Hp S w0 w (Res.obj 24 v1 [.int .i64 cx0_Length, .int .u32 cx0_One, .int .u32 cx0_Two] :: ow)) ?_ ?_
  · rcases Bool.eq_false_or_eq_true (decide ((1 : Int) ≤ cx0_One)) with hb7 | hb7
    · skip
      refine st_fa (o' := 1) hf (by decide) (off := 1) (sz := 1) (by kernel_rfl) (by decide) (wantY hf rfl rfl hb7) rfl (hp.ob (i := 0) rfl) rfl ?_
      clear hf; intro a ha hf; clear ha
      refine st_ldO (u := .int .u32 cx0_One) hf (by decide) pl22 (wantY hf rfl rfl hb7) rfl (hp.ob (i := 0) rfl) rfl ?_
      clear hf; intro a ha hf; clear ha
      refine st_move hf (wantY hf rfl rfl hb7) rfl (by decide) ?_
      clear hf; intro a ha hf; clear ha
      refine st_ilss hf (by decide) (wantY hf rfl rfl hb7) rfl rfl ?_
      clear hf; intro a ha hf; clear ha
      refine st_pick (v := .bool (decide (cx0_One < (ishl .u32 (1 : Int) cx0_Length)))) hf rfl rfl (fun hb' => ?_) (fun hb' => ?_) (by decide) ?_
      · rfl
      · exact absurd (hb7.symm.trans hb') (by decide)
      clear hf; intro a ha hf; clear ha
      refine st_nil hf (th_n ?_)
      exact ⟨hf.sub ⟨rfl, rfl, (by rw [hb7]; rfl), trivial⟩, hp⟩
    refine st_skip hf (wantN hf rfl rfl hb7) rfl (by decide) ?_ rfl
    clear hf; intro a hf
    refine st_skip hf (wantN hf rfl rfl hb7) rfl (by decide) ?_ rfl
    clear hf; intro a hf
    refine st_skip hf (wantN hf rfl rfl hb7) rfl (by decide) ?_ rfl
    clear hf; intro a hf
    refine st_skip hf (wantN hf rfl rfl hb7) rfl (by decide) ?_ rfl
    clear hf; intro a hf
    refine st_pick (v := .bool false) hf rfl rfl (fun hb' => ?_) (fun hb' => ?_) (by decide) ?_
    · exact absurd (hb7.symm.trans hb') (by decide)
    · rfl
    clear hf; intro a ha hf; clear ha
    refine st_nil hf (th_n ?_)
    exact ⟨hf.sub ⟨rfl, rfl, (by rw [hb7]; rfl), trivial⟩, hp⟩
  rintro a w ⟨hf, hp⟩
  refine st_move hf rfl rfl (by decide) ?_
  clear hf; intro a ha hf; clear ha
  refine wpList_cut 4 (fun a w => Fr 49 a [(1, optr v1 0), (3, .int .u32 (ishl .u32 (1 : Int) cx0_Length)), (28, .bool (((decide ((1 : Int) ≤ cx0_One)) && (decide (cx0_One < (ishl .u32 (1 : Int) cx0_Length)))) && (decide ((1 : Int) ≤ cx0_Two))))] ∧ Hp S w0 w (Res.obj 24 v1 [.int .i64 cx0_Length, .int .u32 cx0_One, .int .u32 cx0_Two] :: ow)) ?_ ?_
  · rcases Bool.eq_false_or_eq_true ((decide ((1 : Int) ≤ cx0_One)) && (decide (cx0_One < (ishl .u32 (1 : Int) cx0_Length)))) with hb9 | hb9
    · skip
      refine st_fa (o' := 2) hf (by decide) (off := 2) (sz := 1) (by kernel_rfl) (by decide) (wantY hf rfl rfl hb9) rfl (hp.ob (i := 0) rfl) rfl ?_
      clear hf; intro a ha hf; clear ha
      refine st_ldO (u := .int .u32 cx0_Two) hf (by decide) pl22 (wantY hf rfl rfl hb9) rfl (hp.ob (i := 0) rfl) rfl ?_
      clear hf; intro a ha hf; clear ha
      refine st_igeq hf (by decide) (wantY hf rfl rfl hb9) rfl rfl ?_
      clear hf; intro a ha hf; clear ha
      refine st_pick (v := .bool (decide ((1 : Int) ≤ cx0_Two))) hf rfl rfl (fun hb' => ?_) (fun hb' => ?_) (by decide) ?_
      · rfl
      · exact absurd (hb9.symm.trans hb') (by decide)
      clear hf; intro a ha hf; clear ha
      refine st_nil hf (th_n ?_)
      exact ⟨hf.sub ⟨rfl, rfl, (by rw [hb9]; rfl), trivial⟩, hp⟩
    refine st_skip hf (wantN hf rfl rfl hb9) rfl (by decide) ?_ rfl
    clear hf; intro a hf
    refine st_skip hf (wantN hf rfl rfl hb9) rfl (by decide) ?_ rfl
    clear hf; intro a hf
    refine st_skip hf (wantN hf rfl rfl hb9) rfl (by decide) ?_ rfl
    clear hf; intro a hf
    refine st_pick (v := .bool false) hf rfl rfl (fun hb' => ?_) (fun hb' => ?_) (by decide) ?_
    · exact absurd (hb9.symm.trans hb') (by decide)
    · rfl
    clear hf; intro a ha hf; clear ha
    refine st_nil hf (th_n ?_)
    exact ⟨hf.sub ⟨rfl, rfl, (by rw [hb9]; rfl), trivial⟩, hp⟩
  rintro a w ⟨hf, hp⟩
  refine st_move hf rfl rfl (by decide) ?_
  clear hf; intro a ha hf; clear ha
  refine wpList_cut 5 (fun a w => Fr 49 a [(1, optr v1 0), (3, .int .u32 (ishl .u32 (1 : Int) cx0_Length)), (34, .bool ((((decide ((1 : Int) ≤ cx0_One)) && (decide (cx0_One < (ishl .u32 (1 : Int) cx0_Length)))) && (decide ((1 : Int) ≤ cx0_Two))) && (decide (cx0_Two < (ishl .u32 (1 : Int) cx0_Length)))))] ∧ Hp S w0 w (Res.obj 24 v1 [.int .i64 cx0_Length, .int .u32 cx0_One, .int .u32 cx0_Two] :: ow)) ?_ ?_
  · rcases Bool.eq_false_or_eq_true (((decide ((1 : Int) ≤ cx0_One)) && (decide (cx0_One < (ishl .u32 (1 : Int) cx0_Length)))) && (decide ((1 : Int) ≤ cx0_Two))) with hb11 | hb11
    · skip
      refine st_fa (o' := 2) hf (by decide) (off := 2) (sz := 1) (by kernel_rfl) (by decide) (wantY hf rfl rfl hb11) rfl (hp.ob (i := 0) rfl) rfl ?_
      clear hf; intro a ha hf; clear ha
      refine st_ldO (u := .int .u32 cx0_Two) hf (by decide) pl22 (wantY hf rfl rfl hb11) rfl (hp.ob (i := 0) rfl) rfl ?_
      clear hf; intro a ha hf; clear ha
      refine st_move hf (wantY hf rfl rfl hb11) rfl (by decide) ?_
      clear hf; intro a ha hf; clear ha
      refine st_ilss hf (by decide) (wantY hf rfl rfl hb11) rfl rfl ?_
      clear hf; intro a ha hf; clear ha
      refine st_pick (v := .bool (decide (cx0_Two < (ishl .u32 (1 : Int) cx0_Length)))) hf rfl rfl (fun hb' => ?_) (fun hb' => ?_) (by decide) ?_
      · rfl
      · exact absurd (hb11.symm.trans hb') (by decide)
      clear hf; intro a ha hf; clear ha
      refine st_nil hf (th_n ?_)
      exact ⟨hf.sub ⟨rfl, rfl, (by rw [hb11]; rfl), trivial⟩, hp⟩
    refine st_skip hf (wantN hf rfl rfl hb11) rfl (by decide) ?_ rfl
    clear hf; intro a hf
    refine st_skip hf (wantN hf rfl rfl hb11) rfl (by decide) ?_ rfl
    clear hf; intro a hf
    refine st_skip hf (wantN hf rfl rfl hb11) rfl (by decide) ?_ rfl
    clear hf; intro a hf
    refine st_skip hf (wantN hf rfl rfl hb11) rfl (by decide) ?_ rfl
    clear hf; intro a hf
    refine st_pick (v := .bool false) hf rfl rfl (fun hb' => ?_) (fun hb' => ?_) (by decide) ?_
    · exact absurd (hb11.symm.trans hb') (by decide)
    · rfl
    clear hf; intro a ha hf; clear ha
    refine st_nil hf (th_n ?_)
    exact ⟨hf.sub ⟨rfl, rfl, (by rw [hb11]; rfl), trivial⟩, hp⟩
  rintro a w ⟨hf, hp⟩
  refine st_move hf rfl rfl (by decide) ?_
  clear hf; intro a ha hf; clear ha
  refine wpList_cut 13 (fun a w => Fr 49 a [(48, .bool (((((decide ((1 : Int) ≤ cx0_One)) && (decide (cx0_One < (ishl .u32 (1 : Int) cx0_Length)))) && (decide ((1 : Int) ≤ cx0_Two))) && (decide (cx0_Two < (ishl .u32 (1 : Int) cx0_Length)))) && ((decide ((IntKind.u32.wrap (((ishl .u32 (1 : Int) cx0_Length)).tdiv (2 : Int))) ≤ cx0_One)) || (decide ((IntKind.u32.wrap (((ishl .u32 (1 : Int) cx0_Length)).tdiv (2 : Int))) ≤ cx0_Two)))))] ∧ Hp S w0 w (Res.obj 24 v1 [.int .i64 cx0_Length, .int .u32 cx0_One, .int .u32 cx0_Two] :: ow)) ?_ ?_
  · rcases Bool.eq_false_or_eq_true ((((decide ((1 : Int) ≤ cx0_One)) && (decide (cx0_One < (ishl .u32 (1 : Int) cx0_Length)))) && (decide ((1 : Int) ≤ cx0_Two))) && (decide (cx0_Two < (ishl .u32 (1 : Int) cx0_Length)))) with hb13 | hb13
    · skip
      refine st_fa (o' := 1) hf (by decide) (off := 1) (sz := 1) (by kernel_rfl) (by decide) (wantY hf rfl rfl hb13) rfl (hp.ob (i := 0) rfl) rfl ?_
      clear hf; intro a ha hf; clear ha
      refine st_ldO (u := .int .u32 cx0_One) hf (by decide) pl22 (wantY hf rfl rfl hb13) rfl (hp.ob (i := 0) rfl) rfl ?_
      clear hf; intro a ha hf; clear ha
      refine st_move hf (wantY hf rfl rfl hb13) rfl (by decide) ?_
      clear hf; intro a ha hf; clear ha
      refine st_iquo hf (by decide) (wantY hf rfl rfl hb13) rfl rfl (by decide) ?_
      clear hf; intro a ha hf; clear ha
      refine st_igeq hf (by decide) (wantY hf rfl rfl hb13) rfl rfl ?_
      clear hf; intro a ha hf; clear ha
      refine st_move hf (wantY hf rfl rfl hb13) rfl (by decide) ?_
      clear hf; intro a ha hf; clear ha
      refine wpList_cut 6 (fun a w => Fr 49 a [(35, .bool ((((decide ((1 : Int) ≤ cx0_One)) && (decide (cx0_One < (ishl .u32 (1 : Int) cx0_Length)))) && (decide ((1 : Int) ≤ cx0_Two))) && (decide (cx0_Two < (ishl .u32 (1 : Int) cx0_Length))))), (47, .bool ((decide ((IntKind.u32.wrap (((ishl .u32 (1 : Int) cx0_Length)).tdiv (2 : Int))) ≤ cx0_One)) || (decide ((IntKind.u32.wrap (((ishl .u32 (1 : Int) cx0_Length)).tdiv (2 : Int))) ≤ cx0_Two))))] ∧ Hp S w0 w (Res.obj 24 v1 [.int .i64 cx0_Length, .int .u32 cx0_One, .int .u32 cx0_Two] :: ow)) ?_ ?_
      · rcases Bool.eq_false_or_eq_true (decide ((IntKind.u32.wrap (((ishl .u32 (1 : Int) cx0_Length)).tdiv (2 : Int))) ≤ cx0_One)) with hb15 | hb15
        · skip
          refine st_skip hf (wantN hf rfl rfl hb15) rfl (by decide) ?_ rfl
          clear hf; intro a hf
          refine st_skip hf (wantN hf rfl rfl hb15) rfl (by decide) ?_ rfl
          clear hf; intro a hf
          refine st_skip hf (wantN hf rfl rfl hb15) rfl (by decide) ?_ rfl
          clear hf; intro a hf
          refine st_skip hf (wantN hf rfl rfl hb15) rfl (by decide) ?_ rfl
          clear hf; intro a hf
          refine st_skip hf (wantN hf rfl rfl hb15) rfl (by decide) ?_ rfl
          clear hf; intro a hf
          refine st_pick (v := .bool true) hf (wantY hf rfl rfl hb13) rfl (fun hb' => ?_) (fun hb' => ?_) (by decide) ?_
          · rfl
          · exact absurd (hb15.symm.trans hb') (by decide)
          clear hf; intro a ha hf; clear ha
          refine st_nil hf (th_n ?_)
          exact ⟨hf.sub ⟨rfl, (by rw [hb15]; rfl), trivial⟩, hp⟩
        refine st_fa (o' := 2) hf (by decide) (off := 2) (sz := 1) (by kernel_rfl) (by decide) (wantY hf rfl rfl hb15) rfl (hp.ob (i := 0) rfl) rfl ?_
        clear hf; intro a ha hf; clear ha
        refine st_ldO (u := .int .u32 cx0_Two) hf (by decide) pl22 (wantY hf rfl rfl hb15) rfl (hp.ob (i := 0) rfl) rfl ?_
        clear hf; intro a ha hf; clear ha
        refine st_move hf (wantY hf rfl rfl hb15) rfl (by decide) ?_
        clear hf; intro a ha hf; clear ha
        refine st_iquo hf (by decide) (wantY hf rfl rfl hb15) rfl rfl (by decide) ?_
        clear hf; intro a ha hf; clear ha
        refine st_igeq hf (by decide) (wantY hf rfl rfl hb15) rfl rfl ?_
        clear hf; intro a ha hf; clear ha
        refine st_pick (v := .bool (decide ((IntKind.u32.wrap (((ishl .u32 (1 : Int) cx0_Length)).tdiv (2 : Int))) ≤ cx0_Two))) hf (wantY hf rfl rfl hb13) rfl (fun hb' => ?_) (fun hb' => ?_) (by decide) ?_
        · exact absurd (hb15.symm.trans hb') (by decide)
        · rfl
        clear hf; intro a ha hf; clear ha
        refine st_nil hf (th_n ?_)
        exact ⟨hf.sub ⟨rfl, (by rw [hb15]; rfl), trivial⟩, hp⟩
      rintro a w ⟨hf, hp⟩
      refine st_pick (v := .bool ((decide ((IntKind.u32.wrap (((ishl .u32 (1 : Int) cx0_Length)).tdiv (2 : Int))) ≤ cx0_One)) || (decide ((IntKind.u32.wrap (((ishl .u32 (1 : Int) cx0_Length)).tdiv (2 : Int))) ≤ cx0_Two)))) hf rfl rfl (fun hb' => ?_) (fun hb' => ?_) (by decide) ?_
      · rfl
      · exact absurd (hb13.symm.trans hb') (by decide)
      clear hf; intro a ha hf; clear ha
      refine st_nil hf (th_n ?_)
      exact ⟨hf.sub ⟨(by rw [hb13]; rfl), trivial⟩, hp⟩
    refine st_skip hf (wantN hf rfl rfl hb13) rfl (by decide) ?_ rfl
    clear hf; intro a hf
    refine st_skip hf (wantN hf rfl rfl hb13) rfl (by decide) ?_ rfl
    clear hf; intro a hf
    refine st_skip hf (wantN hf rfl rfl hb13) rfl (by decide) ?_ rfl
    clear hf; intro a hf
    refine st_skip hf (wantN hf rfl rfl hb13) rfl (by decide) ?_ rfl
    clear hf; intro a hf
    refine st_skip hf (wantN hf rfl rfl hb13) rfl (by decide) ?_ rfl
    clear hf; intro a hf
    refine st_skipU hf (wantN hf rfl rfl hb13) rfl (by decide) ?_
    clear hf; intro a hf
    refine st_skip hf (wantU hf rfl rfl) rfl (by decide) ?_ rfl
    clear hf; intro a hf
    refine st_skip hf (wantU hf rfl rfl) rfl (by decide) ?_ rfl
    clear hf; intro a hf
    refine st_skip hf (wantU hf rfl rfl) rfl (by decide) ?_ rfl
    clear hf; intro a hf
    refine st_skip hf (wantU hf rfl rfl) rfl (by decide) ?_ rfl
    clear hf; intro a hf
    refine st_skip hf (wantU hf rfl rfl) rfl (by decide) ?_ rfl
    clear hf; intro a hf
    refine st_skip hf (wantN hf rfl rfl hb13) rfl (by decide) ?_ rfl
    clear hf; intro a hf
    refine st_pick (v := .bool false) hf rfl rfl (fun hb' => ?_) (fun hb' => ?_) (by decide) ?_
    · exact absurd (hb13.symm.trans hb') (by decide)
    · rfl
    clear hf; intro a ha hf; clear ha
    refine st_nil hf (th_n ?_)
    exact ⟨hf.sub ⟨(by rw [hb13]; rfl), trivial⟩, hp⟩
  rintro a w ⟨hf, hp⟩
  refine st_assign hf rfl rfl (by decide) ?_
  clear hf; intro a ha hf; clear ha
  refine st_nil hf ?_
  refine th_n ?_
  refine wp_ret ?_
  obtain rfl := Option.some.inj h
  have hp : Hp _ _ _ (ow) := Hp.sel (pre := [Res.obj 24 v1 [.int .i64 cx0_Length, .int .u32 cx0_One, .int .u32 cx0_Two]]) (tail := ow) (rs' := []) hp [] (by decide) (by simp) rfl
  exact ⟨rfl, ⟨hf.sub ⟨rfl, trivial⟩, hp⟩⟩

noncomputable def f_foghornref02_On (xx0 : Fl) : Option Bool := (if (!((fge xx0 (Fl.bits 13875590451928498176)) && (fle xx0 (Fl.bits 4652218415073722368)))) = true then (some false) else ((ftoi .i64 (fmul xx0 (Fl.bits 4661225614328463360))).bind fun q5 => (some (feq (fofi q5) (fmul xx0 (Fl.bits 4661225614328463360))))))
theorem f_foghornref02_On_c {S : Nat → Prop} {w0 w : World} {ow : List Res} (hp : Hp S w0 w ow) (bxx0 : Nat) (xx0 : Fl) (hxx0 : xx0.rep bxx0) {r : Bool} (h : f_foghornref02_On xx0 = some r) :
    Calls Try.prog 55 #[.float .f64 bxx0] w (fun e w' => e = .returned (.bool r) ∧ Hp S w0 w' (ow)) := by
  unfold f_foghornref02_On at h
  refine enter (n := 18) (args := [.float .f64 bxx0]) Try.func55 rfl rfl (Nat.le_of_ble_eq_true rfl) fun a hf => ?_
  replace hf : Fr 18 a [(0, .float .f64 bxx0)] := hf
  refine wp_mono (Q := fun e a w => e = .ret ∧ Fr 18 a [(2, .bool r)] ∧ Hp S w0 w (ow)) ?_ ?_
  rotate_left
  · rintro e a w ⟨rfl, hf, hp⟩
    exact ret1 hf rfl rfl ⟨rfl, hp⟩
  refine wp_seq ?_
  refine wp_reg ?_
  refine st_assign hf rfl rfl (by decide) ?_
  clear hf; intro a ha hf; clear ha
  refine st_nil hf ?_
  refine th_n ?_
  refine wp_seq ?_
  refine wp_seq ?_
  refine wp_reg ?_
  refine st_move hf rfl rfl (by decide) ?_
  clear hf; intro a ha hf; clear ha
  refine st_fcmp (r_fge (fx := xx0) (fy := (Fl.bits 13875590451928498176)) hxx0 rfl) hf (by decide) rfl rfl rfl ?_
  clear hf; intro a ha hf; clear ha
  refine st_move hf rfl rfl (by decide) ?_
  clear hf; intro a ha hf; clear ha
  refine wpList_cut 3 (fun a w => Fr 18 a [(0, .float .f64 bxx0), (9, .bool ((fge xx0 (Fl.bits 13875590451928498176)) && (fle xx0 (Fl.bits 4652218415073722368))))] ∧ Hp S w0 w (ow)) ?_ ?_
  · rcases Bool.eq_false_or_eq_true (fge xx0 (Fl.bits 13875590451928498176)) with hb2 | hb2
    · skip
      refine st_move hf (wantY hf rfl rfl hb2) rfl (by decide) ?_
      clear hf; intro a ha hf; clear ha
      refine st_fcmp (r_fle (fx := xx0) (fy := (Fl.bits 4652218415073722368)) hxx0 rfl) hf (by decide) (wantY hf rfl rfl hb2) rfl rfl ?_
      clear hf; intro a ha hf; clear ha
      refine st_pick (v := .bool (fle xx0 (Fl.bits 4652218415073722368))) hf rfl rfl (fun hb' => ?_) (fun hb' => ?_) (by decide) ?_
      · rfl
      · exact absurd (hb2.symm.trans hb') (by decide)
      clear hf; intro a ha hf; clear ha
      refine st_nil hf (th_n ?_)
      exact ⟨hf.sub ⟨rfl, (by rw [hb2]; rfl), trivial⟩, hp⟩
    refine st_skip hf (wantN hf rfl rfl hb2) rfl (by decide) ?_ rfl
    clear hf; intro a hf
    refine st_skip hf (wantN hf rfl rfl hb2) rfl (by decide) ?_ rfl
    clear hf; intro a hf
    refine st_pick (v := .bool false) hf rfl rfl (fun hb' => ?_) (fun hb' => ?_) (by decide) ?_
    · exact absurd (hb2.symm.trans hb') (by decide)
    · rfl
    clear hf; intro a ha hf; clear ha
    refine st_nil hf (th_n ?_)
    exact ⟨hf.sub ⟨rfl, (by rw [hb2]; rfl), trivial⟩, hp⟩
  rintro a w ⟨hf, hp⟩
  refine st_not hf (by decide) rfl rfl ?_
  clear hf; intro a ha hf; clear ha
  refine st_nil hf ?_
  refine th_n ?_
  refine wp_if hf rfl (fun hb => ?_) (fun hb => ?_)
  · replace h := ifT h hb
    refine wp_seq ?_
    refine wp_reg ?_
    refine st_assign hf rfl rfl (by decide) ?_
    clear hf; intro a ha hf; clear ha
    refine st_nil hf ?_
    refine th_n ?_
    refine wp_ret ?_
    refine th_r ?_
    obtain rfl := Option.some.inj h
    exact ⟨rfl, ⟨hf.sub ⟨rfl, trivial⟩, hp⟩⟩
  replace h := ifF h hb
  refine wp_skip ?_
  refine th_n ?_
  refine wp_seq ?_
  refine wp_reg ?_
  refine st_move hf rfl rfl (by decide) ?_
  clear hf; intro a ha hf; clear ha
  refine st_farith (op := .mul) rfl hf (by decide) hp rfl rfl rfl (show Fl.rep bxx0 xx0 from hxx0) (show Fl.rep 4661225614328463360 (Fl.bits 4661225614328463360) from rfl) ?_
  clear hf; intro a w bb3 y4 hf hp0; clear hp; have hp := hp0; clear hp0
  replace hp : Hp _ _ _ (ow) := hp
  refine st_assign hf rfl rfl (by decide) ?_
  clear hf; intro a ha hf; clear ha
  refine st_nil hf ?_
  refine th_n ?_
  refine wp_seq ?_
  refine wp_reg ?_
  refine st_move hf rfl rfl (by decide) ?_
  clear hf; intro a ha hf; clear ha
  obtain ⟨q5, hq6, h⟩ := bnd h
  refine st_conv_fi (by rw [Try.underlying29]; rfl) Try.underlying2 hf (by decide) rfl rfl (show Fl.rep bb3 (fmul xx0 (Fl.bits 4661225614328463360)) from y4) hq6 ?_
  clear hf; intro a ha hf; clear ha
  refine st_conv_if Try.underlying2 Try.underlying29 hf (by decide) rfl rfl ?_
  clear hf; intro a ha hf; clear ha
  refine st_move hf rfl rfl (by decide) ?_
  clear hf; intro a ha hf; clear ha
  refine st_fcmp (r_feq (fx := (fofi q5)) (fy := (fmul xx0 (Fl.bits 4661225614328463360))) rfl y4) hf (by decide) rfl rfl rfl ?_
  clear hf; intro a ha hf; clear ha
  refine st_assign hf rfl rfl (by decide) ?_
  clear hf; intro a ha hf; clear ha
  refine st_nil hf ?_
  refine th_n ?_
  refine wp_ret ?_
  obtain rfl := Option.some.inj h
  exact ⟨rfl, ⟨hf.sub ⟨rfl, trivial⟩, hp⟩⟩

noncomputable def f_foghornref02_May (sx0_V : (Fl × Fl)) (sx0_Lost : Bool) : Option Bool := (if sx0_Lost = true then (some ((feq sx0_V.1 (Fl.bits 0)) && (feq sx0_V.2 (Fl.bits 0)))) else ((f_foghornref02_On sx0_V.1).bind fun q5 => ((if q5 = true then ((f_foghornref02_On sx0_V.2).bind fun q10 => (some q10)) else (some false)).bind fun z9 => (some z9))))
theorem f_foghornref02_May_c {S : Nat → Prop} {w0 w : World} {ow : List Res} (hp : Hp S w0 w ow) (bsx0_V csx0_V : Nat) (sx0_V : Fl × Fl) (hsx0_V : sx0_V.1.rep bsx0_V) (ksx0_V : sx0_V.2.rep csx0_V) (sx0_Lost : Bool) {r : Bool} (h : f_foghornref02_May sx0_V sx0_Lost = some r) :
    Calls Try.prog 33 #[.agg #[.complex .f64 bsx0_V csx0_V, .bool sx0_Lost]] w (fun e w' => e = .returned (.bool r) ∧ Hp S w0 w' (ow)) := by
  unfold f_foghornref02_May at h
  refine enter (n := 25) (args := [.agg #[.complex .f64 bsx0_V csx0_V, .bool sx0_Lost]]) Try.func33 rfl rfl (Nat.le_of_ble_eq_true rfl) fun a hf => ?_
  replace hf : Fr 25 a [(0, .agg #[.complex .f64 bsx0_V csx0_V, .bool sx0_Lost])] := hf
  refine wp_mono (Q := fun e a w => e = .ret ∧ Fr 25 a [(2, .bool r)] ∧ Hp S w0 w (ow)) ?_ ?_
  rotate_left
  · rintro e a w ⟨rfl, hf, hp⟩
    exact ret1 hf rfl rfl ⟨rfl, hp⟩
  refine wp_seq ?_
  refine wp_reg ?_
  refine st_boxO (cs := [.complex .f64 bsx0_V csx0_V, .bool sx0_Lost]) hf (by decide) hp rfl rfl rfl ?_
  clear hf; intro a w v1 hf hp0; clear hp; have hp := hp0; clear hp0
  replace hp : Hp _ _ _ (Res.obj 35 v1 [.complex .f64 bsx0_V csx0_V, .bool sx0_Lost] :: ow) := hp
  refine st_assign hf rfl rfl (by decide) ?_
  clear hf; intro a ha hf; clear ha
  refine st_nil hf ?_
  refine th_n ?_
  refine wp_seq ?_
  refine wp_seq ?_
  refine wp_reg ?_
  refine st_fa (o' := 1) hf (by decide) (off := 1) (sz := 1) (by kernel_rfl) (by decide) rfl rfl (hp.ob (i := 0) rfl) rfl ?_
  clear hf; intro a ha hf; clear ha
  refine st_ldO (u := .bool sx0_Lost) hf (by decide) pl4 rfl rfl (hp.ob (i := 0) rfl) rfl ?_
  clear hf; intro a ha hf; clear ha
  refine st_nil hf ?_
  refine th_n ?_
  refine wp_if hf rfl (fun hb => ?_) (fun hb => ?_)
  · replace h := ifT h hb
    refine wp_seq ?_
    refine wp_reg ?_
    refine st_fa (o' := 0) hf (by decide) (off := 0) (sz := 1) (by kernel_rfl) (by decide) rfl rfl (hp.ob (i := 0) rfl) rfl ?_
    clear hf; intro a ha hf; clear ha
    refine st_ldO (u := .complex .f64 bsx0_V csx0_V) hf (by decide) pl33 rfl rfl (hp.ob (i := 0) rfl) rfl ?_
    clear hf; intro a ha hf; clear ha
    refine st_real hf (by decide) rfl rfl ?_
    clear hf; intro a ha hf; clear ha
    refine st_fcmp (r_feq (fx := sx0_V.1) (fy := (Fl.bits 0)) hsx0_V rfl) hf (by decide) rfl rfl rfl ?_
    clear hf; intro a ha hf; clear ha
    refine st_move hf rfl rfl (by decide) ?_
    clear hf; intro a ha hf; clear ha
    refine wpList_cut 5 (fun a w => Fr 25 a [(14, .bool ((feq sx0_V.1 (Fl.bits 0)) && (feq sx0_V.2 (Fl.bits 0))))] ∧ Hp S w0 w (Res.obj 35 v1 [.complex .f64 bsx0_V csx0_V, .bool sx0_Lost] :: ow)) ?_ ?_
    · rcases Bool.eq_false_or_eq_true (feq sx0_V.1 (Fl.bits 0)) with hb4 | hb4
      · skip
        refine st_fa (o' := 0) hf (by decide) (off := 0) (sz := 1) (by kernel_rfl) (by decide) (wantY hf rfl rfl hb4) rfl (hp.ob (i := 0) rfl) rfl ?_
        clear hf; intro a ha hf; clear ha
        refine st_ldO (u := .complex .f64 bsx0_V csx0_V) hf (by decide) pl33 (wantY hf rfl rfl hb4) rfl (hp.ob (i := 0) rfl) rfl ?_
        clear hf; intro a ha hf; clear ha
        refine st_imag hf (by decide) (wantY hf rfl rfl hb4) rfl ?_
        clear hf; intro a ha hf; clear ha
        refine st_fcmp (r_feq (fx := sx0_V.2) (fy := (Fl.bits 0)) ksx0_V rfl) hf (by decide) (wantY hf rfl rfl hb4) rfl rfl ?_
        clear hf; intro a ha hf; clear ha
        refine st_pick (v := .bool (feq sx0_V.2 (Fl.bits 0))) hf rfl rfl (fun hb' => ?_) (fun hb' => ?_) (by decide) ?_
        · rfl
        · exact absurd (hb4.symm.trans hb') (by decide)
        clear hf; intro a ha hf; clear ha
        refine st_nil hf (th_n ?_)
        exact ⟨hf.sub ⟨(by rw [hb4]; rfl), trivial⟩, hp⟩
      refine st_skip hf (wantN hf rfl rfl hb4) rfl (by decide) ?_ rfl
      clear hf; intro a hf
      refine st_skip hf (wantN hf rfl rfl hb4) rfl (by decide) ?_ rfl
      clear hf; intro a hf
      refine st_skip hf (wantN hf rfl rfl hb4) rfl (by decide) ?_ rfl
      clear hf; intro a hf
      refine st_skip hf (wantN hf rfl rfl hb4) rfl (by decide) ?_ rfl
      clear hf; intro a hf
      refine st_pick (v := .bool false) hf rfl rfl (fun hb' => ?_) (fun hb' => ?_) (by decide) ?_
      · exact absurd (hb4.symm.trans hb') (by decide)
      · rfl
      clear hf; intro a ha hf; clear ha
      refine st_nil hf (th_n ?_)
      exact ⟨hf.sub ⟨(by rw [hb4]; rfl), trivial⟩, hp⟩
    rintro a w ⟨hf, hp⟩
    refine st_assign hf rfl rfl (by decide) ?_
    clear hf; intro a ha hf; clear ha
    refine st_nil hf ?_
    refine th_n ?_
    refine wp_ret ?_
    refine th_r ?_
    obtain rfl := Option.some.inj h
    have hp : Hp _ _ _ (ow) := Hp.sel (pre := [Res.obj 35 v1 [.complex .f64 bsx0_V csx0_V, .bool sx0_Lost]]) (tail := ow) (rs' := []) hp [] (by decide) (by simp) rfl
    exact ⟨rfl, ⟨hf.sub ⟨rfl, trivial⟩, hp⟩⟩
  replace h := ifF h hb
  refine wp_skip ?_
  refine th_n ?_
  refine wp_seq ?_
  refine wp_reg ?_
  refine st_fa (o' := 0) hf (by decide) (off := 0) (sz := 1) (by kernel_rfl) (by decide) rfl rfl (hp.ob (i := 0) rfl) rfl ?_
  clear hf; intro a ha hf; clear ha
  refine st_ldO (u := .complex .f64 bsx0_V csx0_V) hf (by decide) pl33 rfl rfl (hp.ob (i := 0) rfl) rfl ?_
  clear hf; intro a ha hf; clear ha
  refine st_real hf (by decide) rfl rfl ?_
  clear hf; intro a ha hf; clear ha
  obtain ⟨q5, hcall6, h⟩ := bnd h
  refine st_call hf (by decide) Try.func55 rfl rfl rfl rfl rfl (f_foghornref02_On_c hp _ _ (show Fl.rep bsx0_V sx0_V.1 from hsx0_V) hcall6) ?_
  rintro _ w ⟨rfl, hp0⟩
  clear hp; have hp := hp0; clear hp0
  replace hp : Hp _ _ _ (Res.obj 35 v1 [.complex .f64 bsx0_V csx0_V, .bool sx0_Lost] :: ow) := hp
  refine ⟨_, rfl, ?_⟩
  clear hf; intro a hf
  refine st_move hf rfl rfl (by decide) ?_
  clear hf; intro a ha hf; clear ha
  obtain ⟨z9, hz7, h⟩ := bnd h
  refine wpList_cut 5 (fun a w => Fr 25 a [(24, .bool z9)] ∧ Hp S w0 w (Res.obj 35 v1 [.complex .f64 bsx0_V csx0_V, .bool sx0_Lost] :: ow)) ?_ ?_
  · rcases Bool.eq_false_or_eq_true q5 with hb8 | hb8
    · skip
      replace hz7 := ifT hz7 hb8
      refine st_fa (o' := 0) hf (by decide) (off := 0) (sz := 1) (by kernel_rfl) (by decide) (wantY hf rfl rfl hb8) rfl (hp.ob (i := 0) rfl) rfl ?_
      clear hf; intro a ha hf; clear ha
      refine st_ldO (u := .complex .f64 bsx0_V csx0_V) hf (by decide) pl33 (wantY hf rfl rfl hb8) rfl (hp.ob (i := 0) rfl) rfl ?_
      clear hf; intro a ha hf; clear ha
      refine st_imag hf (by decide) (wantY hf rfl rfl hb8) rfl ?_
      clear hf; intro a ha hf; clear ha
      obtain ⟨q10, hcall11, hz7⟩ := bnd hz7
      refine st_call hf (by decide) Try.func55 rfl rfl (wantY hf rfl rfl hb8) rfl rfl (f_foghornref02_On_c hp _ _ (show Fl.rep csx0_V sx0_V.2 from ksx0_V) hcall11) ?_
      rintro _ w ⟨rfl, hp0⟩
      clear hp; have hp := hp0; clear hp0
      replace hp : Hp _ _ _ (Res.obj 35 v1 [.complex .f64 bsx0_V csx0_V, .bool sx0_Lost] :: ow) := hp
      refine ⟨_, rfl, ?_⟩
      clear hf; intro a hf
      obtain rfl := Option.some.inj hz7
      refine st_pick (v := .bool q10) hf rfl rfl (fun hb' => ?_) (fun hb' => ?_) (by decide) ?_
      · rfl
      · exact absurd (hb8.symm.trans hb') (by decide)
      clear hf; intro a ha hf; clear ha
      refine st_nil hf (th_n ?_)
      exact ⟨hf.sub ⟨rfl, trivial⟩, hp⟩
    replace hz7 := ifF hz7 hb8
    refine st_skip hf (wantN hf rfl rfl hb8) rfl (by decide) ?_ rfl
    clear hf; intro a hf
    refine st_skip hf (wantN hf rfl rfl hb8) rfl (by decide) ?_ rfl
    clear hf; intro a hf
    refine st_skip hf (wantN hf rfl rfl hb8) rfl (by decide) ?_ rfl
    clear hf; intro a hf
    refine st_skip hf (wantN hf rfl rfl hb8) rfl (by decide) ?_ rfl
    clear hf; intro a hf
    obtain rfl := Option.some.inj hz7
    refine st_pick (v := .bool false) hf rfl rfl (fun hb' => ?_) (fun hb' => ?_) (by decide) ?_
    · exact absurd (hb8.symm.trans hb') (by decide)
    · rfl
    clear hf; intro a ha hf; clear ha
    refine st_nil hf (th_n ?_)
    exact ⟨hf.sub ⟨rfl, trivial⟩, hp⟩
  rintro a w ⟨hf, hp⟩
  refine st_assign hf rfl rfl (by decide) ?_
  clear hf; intro a ha hf; clear ha
  refine st_nil hf ?_
  refine th_n ?_
  refine wp_ret ?_
  obtain rfl := Option.some.inj h
  have hp : Hp _ _ _ (ow) := Hp.sel (pre := [Res.obj 35 v1 [.complex .f64 bsx0_V csx0_V, .bool sx0_Lost]]) (tail := ow) (rs' := []) hp [] (by decide) (by simp) rfl
  exact ⟨rfl, ⟨hf.sub ⟨rfl, trivial⟩, hp⟩⟩

noncomputable def f_foghornref23_grid.s1c (l0 : (List ((Fl × Fl) × Bool))) (i3 : Int) : Option (Int ⊕ (Unit ⊕ Bool)) := (if (decide (i3 < (l0.length : Int))) = true then (if 0 ≤ i3 ∧ i3 < (l0.length : Int) then ((f_foghornref02_May ((gt l0 i3).1) ((gt l0 i3).2)).bind fun q8 => (if (!q8) = true then (some (Sum.inr (Sum.inr false))) else (some (Sum.inl (IntKind.i64.wrap (i3 + (1 : Int))))))) else none) else (some (Sum.inr (Sum.inl ()))))
noncomputable def f_foghornref23_grid.s1 (l0 : (List ((Fl × Fl) × Bool))) (s : Int) : Option (Int ⊕ (Unit ⊕ Bool)) := f_foghornref23_grid.s1c l0 s
noncomputable def f_foghornref23_grid (l0 : (List ((Fl × Fl) × Bool))) : Option Bool := ((loop (f_foghornref23_grid.s1 l0) (0 : Int)).bind (fun q10 => sm q10 (fun q11 => (some true)) (fun q12 => (some q12))))
theorem f_foghornref23_grid_c {S : Nat → Prop} {w0 w : World} {ow : List Res} (hp : Hp S w0 w ow) (vl0 : Value) (l0 : (List ((Fl × Fl) × Bool))) (hl0 : RdS (Ek.pair Ek.c128 Ek.bool) S w0 vl0 l0) {r : Bool} (h : f_foghornref23_grid l0 = some r) :
    Calls Try.prog 42 #[vl0] w (fun e w' => e = .returned (.bool r) ∧ Hp S w0 w' (ow)) := by
  unfold f_foghornref23_grid at h
  refine enter (n := 16) (args := [vl0]) Try.func42 rfl rfl (Nat.le_of_ble_eq_true rfl) fun a hf => ?_
  replace hf : Fr 16 a [(0, vl0)] := hf
  refine wp_mono (Q := fun e a w => e = .ret ∧ Fr 16 a [(2, .bool r)] ∧ Hp S w0 w (ow)) ?_ ?_
  rotate_left
  · rintro e a w ⟨rfl, hf, hp⟩
    exact ret1 hf rfl rfl ⟨rfl, hp⟩
  refine wp_seq ?_
  refine wp_reg ?_
  refine st_assign hf rfl rfl (by decide) ?_
  clear hf; intro a ha hf; clear ha
  refine st_nil hf ?_
  refine th_n ?_
  refine wp_seq ?_
  refine wp_seq ?_
  refine wp_reg ?_
  refine st_assign hf rfl rfl (by decide) ?_
  clear hf; intro a ha hf; clear ha
  refine st_nil hf ?_
  refine th_n ?_
  refine wp_block ?_
  obtain ⟨q10, hl, h⟩ := bnd h
  refine wp_loop_pure (f := (f_foghornref23_grid.s1 l0)) (s := (0 : Int)) (fun s a w => Fr 16 a [(0, vl0), (3, .int .i64 s)] ∧ Hp S w0 w (ow)) (fun q e a w => match q with | (Sum.inl q) => e = .exit 0 ∧ Fr 16 a [] ∧ Hp S w0 w (ow) | (Sum.inr q) => e = .ret ∧ Fr 16 a [(2, .bool q)] ∧ Hp S w0 w (ow)) ?_ hl ⟨hf.sub ⟨rfl, rfl, trivial⟩, hp⟩ ?_
  · clear hl hf hp
    intro s x a w h hI
    obtain ⟨i3, hs⟩ : ∃ z, z = s := ⟨s, rfl⟩; subst hs
    obtain ⟨hf, hp⟩ : Fr 16 a [(0, vl0), (3, .int .i64 i3)] ∧ Hp S w0 w (ow) := hI
    replace h : f_foghornref23_grid.s1c l0 i3 = some x := h
    unfold f_foghornref23_grid.s1c at h
    refine wp_seq ?_
    refine wp_seq ?_
    refine wp_reg ?_
    refine st_move hf rfl rfl (by decide) ?_
    clear hf; intro a ha hf; clear ha
    refine st_move hf rfl rfl (by decide) ?_
    clear hf; intro a ha hf; clear ha
    refine st_len (E := (Ek.pair Ek.c128 Ek.bool)) hf (by decide) Try.underlying27 rfl rfl (hl0.sl hp) ?_
    clear hf; intro a ha hf; clear ha
    refine st_ilss hf (by decide) rfl rfl rfl ?_
    clear hf; intro a ha hf; clear ha
    refine st_nil hf ?_
    refine th_n ?_
    refine wp_if hf rfl (fun hb => ?_) (fun hb => ?_)
    · replace h := ifT h hb
      refine wp_skip ?_
      refine th_n ?_
      refine wp_seq ?_
      refine wp_block ?_
      refine wp_seq ?_
      refine wp_reg ?_
      refine st_move hf rfl rfl (by decide) ?_
      clear hf; intro a ha hf; clear ha
      refine st_move hf rfl rfl (by decide) ?_
      clear hf; intro a ha hf; clear ha
      obtain ⟨hc1, h⟩ := chk h
      refine st_index (E := (Ek.pair Ek.c128 Ek.bool)) hf (by decide) Try.underlying27 elt35 rfl rfl rfl (hl0.sl hp) hc1.1 hc1.2 ?_
      clear hf; intro a ha hf; clear ha
      refine st_ldQA (F := (Ek.pair Ek.c128 Ek.bool)) (yv := (gt l0 i3)) (m := 2) hf (by decide) (by kernel_rfl) rfl rfl rfl (Part.whole (hl0.sl hp) hc1.1 hc1.2) ?_
      clear hf; intro a cs2 hr3 ha hf; clear ha
      obtain ⟨_, _, rfl, ⟨bb4, bb5, rfl, y6, y7⟩, rfl⟩ := hr3
      replace hf : Fr _ _ ((13, .agg #[.complex .f64 bb4 bb5, .bool ((gt l0 i3).2)]) :: _) := hf
      obtain ⟨q8, hcall9, h⟩ := bnd h
      refine st_call hf (by decide) Try.func33 rfl rfl rfl rfl rfl (f_foghornref02_May_c hp _ _ _ (show Fl.rep bb4 ((gt l0 i3).1).1 from y6) (show Fl.rep bb5 ((gt l0 i3).1).2 from y7) _ hcall9) ?_
      rintro _ w ⟨rfl, hp0⟩
      clear hp; have hp := hp0; clear hp0
      replace hp : Hp _ _ _ (ow) := hp
      refine ⟨_, rfl, ?_⟩
      clear hf; intro a hf
      refine st_not hf (by decide) rfl rfl ?_
      clear hf; intro a ha hf; clear ha
      refine st_nil hf ?_
      refine th_n ?_
      refine wp_if hf rfl (fun hb => ?_) (fun hb => ?_)
      · replace h := ifT h hb
        refine wp_seq ?_
        refine wp_reg ?_
        refine st_assign hf rfl rfl (by decide) ?_
        clear hf; intro a ha hf; clear ha
        refine st_nil hf ?_
        refine th_n ?_
        refine wp_ret ?_
        refine ib_r ?_
        refine th_r ?_
        obtain rfl := Option.some.inj h
        exact rnd_r (by simp) ⟨rfl, ⟨hf.sub ⟨rfl, trivial⟩, hp⟩⟩
      replace h := ifF h hb
      refine wp_skip ?_
      refine ib_n ?_
      refine th_n ?_
      refine wp_reg ?_
      refine st_move hf rfl rfl (by decide) ?_
      clear hf; intro a ha hf; clear ha
      refine st_iadd hf (by decide) rfl rfl rfl ?_
      clear hf; intro a ha hf; clear ha
      refine st_assign hf rfl rfl (by decide) ?_
      clear hf; intro a ha hf; clear ha
      refine st_nil hf ?_
      obtain rfl := Option.some.inj h
      exact rnd_l ⟨hf.sub ⟨rfl, rfl, trivial⟩, hp⟩
    replace h := ifF h hb
    refine wp_exit ?_
    refine th_e ?_
    obtain rfl := Option.some.inj h
    exact rnd_r (by simp) ⟨rfl, hf.sub trivial, hp⟩
  clear hl hf hp
  intro e a w hne hO
  rcases q10 with q11 | q12
  · replace h := smL h
    obtain ⟨rfl, hf, hp⟩ := hO
    refine ib_same ?_
    refine th_n ?_
    refine wp_seq ?_
    refine wp_reg ?_
    refine st_assign hf rfl rfl (by decide) ?_
    clear hf; intro a ha hf; clear ha
    refine st_nil hf ?_
    refine th_n ?_
    refine wp_ret ?_
    obtain rfl := Option.some.inj h
    exact ⟨rfl, ⟨hf.sub ⟨rfl, trivial⟩, hp⟩⟩
  replace h := smR h
  obtain ⟨rfl, hf, hp⟩ := hO
  refine ib_r ?_
  refine th_r ?_
  obtain rfl := Option.some.inj h
  exact ⟨rfl, ⟨hf.sub ⟨rfl, trivial⟩, hp⟩⟩

noncomputable def f_foghornref23_wrong (cx0_Length : Int) (cx0_One : Int) (cx0_Two : Int) (l1 : (List ((Fl × Fl) × Bool))) (least2 : Int) : Option Int := ((f_foghornref21_May cx0_Length cx0_One cx0_Two).bind fun q3 => (if (((!q3) || (decide ((16384 : Int) < (l1.length : Int)))) || (decide ((l1.length : Int) < least2))) = true then (some (1 : Int)) else ((f_foghornref23_grid l1).bind fun q9 => (if (!q9) = true then (some (7 : Int)) else (some (0 : Int))))))
theorem f_foghornref23_wrong_c {S : Nat → Prop} {w0 w : World} {ow : List Res} (hp : Hp S w0 w ow) (cx0_Length : Int) (cx0_One : Int) (cx0_Two : Int) (vl1 : Value) (l1 : (List ((Fl × Fl) × Bool))) (hl1 : RdS (Ek.pair Ek.c128 Ek.bool) S w0 vl1 l1) (least2 : Int) {r : Int} (h : f_foghornref23_wrong cx0_Length cx0_One cx0_Two l1 least2 = some r) :
    Calls Try.prog 48 #[.agg #[.int .i64 cx0_Length, .int .u32 cx0_One, .int .u32 cx0_Two], vl1, .int .i64 least2] w (fun e w' => e = .returned (.int .i64 r) ∧ Hp S w0 w' (ow)) := by
  unfold f_foghornref23_wrong at h
  refine enter (n := 24) (args := [.agg #[.int .i64 cx0_Length, .int .u32 cx0_One, .int .u32 cx0_Two], vl1, .int .i64 least2]) Try.func48 rfl rfl (Nat.le_of_ble_eq_true rfl) fun a hf => ?_
  replace hf : Fr 24 a [(0, .agg #[.int .i64 cx0_Length, .int .u32 cx0_One, .int .u32 cx0_Two]), (1, vl1), (2, .int .i64 least2)] := hf
  refine wp_mono (Q := fun e a w => e = .ret ∧ Fr 24 a [(6, .int .i64 r)] ∧ Hp S w0 w (ow)) ?_ ?_
  rotate_left
  · rintro e a w ⟨rfl, hf, hp⟩
    exact ret1 hf rfl rfl ⟨rfl, hp⟩
  refine wp_seq ?_
  refine wp_reg ?_
  refine st_boxO (cs := [.int .i64 cx0_Length, .int .u32 cx0_One, .int .u32 cx0_Two]) hf (by decide) hp rfl rfl rfl ?_
  clear hf; intro a w v1 hf hp0; clear hp; have hp := hp0; clear hp0
  replace hp : Hp _ _ _ (Res.obj 24 v1 [.int .i64 cx0_Length, .int .u32 cx0_One, .int .u32 cx0_Two] :: ow) := hp
  refine st_assign hf rfl rfl (by decide) ?_
  clear hf; intro a ha hf; clear ha
  refine st_nil hf ?_
  refine th_n ?_
  refine wp_seq ?_
  refine wp_seq ?_
  refine wp_reg ?_
  refine st_ldOA (m := 3) (us := [.int .i64 cx0_Length, .int .u32 cx0_One, .int .u32 cx0_Two]) hf (by decide) (by kernel_rfl) rfl rfl (hp.ob (i := 0) rfl) rfl rfl ?_
  clear hf; intro a ha hf; clear ha
  obtain ⟨q3, hcall4, h⟩ := bnd h
  refine st_call hf (by decide) Try.func41 rfl rfl rfl rfl rfl (f_foghornref21_May_c hp _ _ _ hcall4) ?_
  rintro _ w ⟨rfl, hp0⟩
  clear hp; have hp := hp0; clear hp0
  replace hp : Hp _ _ _ (Res.obj 24 v1 [.int .i64 cx0_Length, .int .u32 cx0_One, .int .u32 cx0_Two] :: ow) := hp
  refine ⟨_, rfl, ?_⟩
  clear hf; intro a hf
  refine st_not hf (by decide) rfl rfl ?_
  clear hf; intro a ha hf; clear ha
  refine st_move hf rfl rfl (by decide) ?_
  clear hf; intro a ha hf; clear ha
  refine wpList_cut 4 (fun a w => Fr 24 a [(1, vl1), (2, .int .i64 least2), (14, .bool ((!q3) || (decide ((16384 : Int) < (l1.length : Int)))))] ∧ Hp S w0 w (Res.obj 24 v1 [.int .i64 cx0_Length, .int .u32 cx0_One, .int .u32 cx0_Two] :: ow)) ?_ ?_
  · rcases Bool.eq_false_or_eq_true (!q3) with hb6 | hb6
    · skip
      refine st_skip hf (wantN hf rfl rfl hb6) rfl (by decide) ?_ rfl
      clear hf; intro a hf
      refine st_skip hf (wantN hf rfl rfl hb6) rfl (by decide) ?_ rfl
      clear hf; intro a hf
      refine st_skip hf (wantN hf rfl rfl hb6) rfl (by decide) ?_ rfl
      clear hf; intro a hf
      refine st_pick (v := .bool true) hf rfl rfl (fun hb' => ?_) (fun hb' => ?_) (by decide) ?_
      · rfl
      · exact absurd (hb6.symm.trans hb') (by decide)
      clear hf; intro a ha hf; clear ha
      refine st_nil hf (th_n ?_)
      exact ⟨hf.sub ⟨rfl, rfl, (by rw [hb6]; rfl), trivial⟩, hp⟩
    refine st_move hf (wantY hf rfl rfl hb6) rfl (by decide) ?_
    clear hf; intro a ha hf; clear ha
    refine st_len (E := (Ek.pair Ek.c128 Ek.bool)) hf (by decide) Try.underlying27 (wantY hf rfl rfl hb6) rfl (hl1.sl hp) ?_
    clear hf; intro a ha hf; clear ha
    refine st_igtr hf (by decide) (wantY hf rfl rfl hb6) rfl rfl ?_
    clear hf; intro a ha hf; clear ha
    refine st_pick (v := .bool (decide ((16384 : Int) < (l1.length : Int)))) hf rfl rfl (fun hb' => ?_) (fun hb' => ?_) (by decide) ?_
    · exact absurd (hb6.symm.trans hb') (by decide)
    · rfl
    clear hf; intro a ha hf; clear ha
    refine st_nil hf (th_n ?_)
    exact ⟨hf.sub ⟨rfl, rfl, (by rw [hb6]; rfl), trivial⟩, hp⟩
  rintro a w ⟨hf, hp⟩
  refine st_move hf rfl rfl (by decide) ?_
  clear hf; intro a ha hf; clear ha
  refine wpList_cut 5 (fun a w => Fr 24 a [(1, vl1), (20, .bool (((!q3) || (decide ((16384 : Int) < (l1.length : Int)))) || (decide ((l1.length : Int) < least2))))] ∧ Hp S w0 w (Res.obj 24 v1 [.int .i64 cx0_Length, .int .u32 cx0_One, .int .u32 cx0_Two] :: ow)) ?_ ?_
  · rcases Bool.eq_false_or_eq_true ((!q3) || (decide ((16384 : Int) < (l1.length : Int)))) with hb8 | hb8
    · skip
      refine st_skip hf (wantN hf rfl rfl hb8) rfl (by decide) ?_ rfl
      clear hf; intro a hf
      refine st_skip hf (wantN hf rfl rfl hb8) rfl (by decide) ?_ rfl
      clear hf; intro a hf
      refine st_skip hf (wantN hf rfl rfl hb8) rfl (by decide) ?_ rfl
      clear hf; intro a hf
      refine st_skip hf (wantN hf rfl rfl hb8) rfl (by decide) ?_ rfl
      clear hf; intro a hf
      refine st_pick (v := .bool true) hf rfl rfl (fun hb' => ?_) (fun hb' => ?_) (by decide) ?_
      · rfl
      · exact absurd (hb8.symm.trans hb') (by decide)
      clear hf; intro a ha hf; clear ha
      refine st_nil hf (th_n ?_)
      exact ⟨hf.sub ⟨rfl, (by rw [hb8]; rfl), trivial⟩, hp⟩
    refine st_move hf (wantY hf rfl rfl hb8) rfl (by decide) ?_
    clear hf; intro a ha hf; clear ha
    refine st_len (E := (Ek.pair Ek.c128 Ek.bool)) hf (by decide) Try.underlying27 (wantY hf rfl rfl hb8) rfl (hl1.sl hp) ?_
    clear hf; intro a ha hf; clear ha
    refine st_move hf (wantY hf rfl rfl hb8) rfl (by decide) ?_
    clear hf; intro a ha hf; clear ha
    refine st_ilss hf (by decide) (wantY hf rfl rfl hb8) rfl rfl ?_
    clear hf; intro a ha hf; clear ha
    refine st_pick (v := .bool (decide ((l1.length : Int) < least2))) hf rfl rfl (fun hb' => ?_) (fun hb' => ?_) (by decide) ?_
    · exact absurd (hb8.symm.trans hb') (by decide)
    · rfl
    clear hf; intro a ha hf; clear ha
    refine st_nil hf (th_n ?_)
    exact ⟨hf.sub ⟨rfl, (by rw [hb8]; rfl), trivial⟩, hp⟩
  rintro a w ⟨hf, hp⟩
  refine st_nil hf ?_
  refine th_n ?_
  refine wp_if hf rfl (fun hb => ?_) (fun hb => ?_)
  · replace h := ifT h hb
    refine wp_seq ?_
    refine wp_reg ?_
    refine st_assign hf rfl rfl (by decide) ?_
    clear hf; intro a ha hf; clear ha
    refine st_nil hf ?_
    refine th_n ?_
    refine wp_ret ?_
    refine th_r ?_
    obtain rfl := Option.some.inj h
    have hp : Hp _ _ _ (ow) := Hp.sel (pre := [Res.obj 24 v1 [.int .i64 cx0_Length, .int .u32 cx0_One, .int .u32 cx0_Two]]) (tail := ow) (rs' := []) hp [] (by decide) (by simp) rfl
    exact ⟨rfl, ⟨hf.sub ⟨rfl, trivial⟩, hp⟩⟩
  replace h := ifF h hb
  refine wp_skip ?_
  refine th_n ?_
  refine wp_seq ?_
  refine wp_seq ?_
  refine wp_reg ?_
  refine st_move hf rfl rfl (by decide) ?_
  clear hf; intro a ha hf; clear ha
  obtain ⟨q9, hcall10, h⟩ := bnd h
  refine st_call hf (by decide) Try.func42 rfl rfl rfl rfl rfl (f_foghornref23_grid_c hp _ _ hl1 hcall10) ?_
  rintro _ w ⟨rfl, hp0⟩
  clear hp; have hp := hp0; clear hp0
  replace hp : Hp _ _ _ (Res.obj 24 v1 [.int .i64 cx0_Length, .int .u32 cx0_One, .int .u32 cx0_Two] :: ow) := hp
  refine ⟨_, rfl, ?_⟩
  clear hf; intro a hf
  refine st_not hf (by decide) rfl rfl ?_
  clear hf; intro a ha hf; clear ha
  refine st_nil hf ?_
  refine th_n ?_
  refine wp_if hf rfl (fun hb => ?_) (fun hb => ?_)
  · replace h := ifT h hb
    refine wp_seq ?_
    refine wp_reg ?_
    refine st_assign hf rfl rfl (by decide) ?_
    clear hf; intro a ha hf; clear ha
    refine st_nil hf ?_
    refine th_n ?_
    refine wp_ret ?_
    refine th_r ?_
    obtain rfl := Option.some.inj h
    have hp : Hp _ _ _ (ow) := Hp.sel (pre := [Res.obj 24 v1 [.int .i64 cx0_Length, .int .u32 cx0_One, .int .u32 cx0_Two]]) (tail := ow) (rs' := []) hp [] (by decide) (by simp) rfl
    exact ⟨rfl, ⟨hf.sub ⟨rfl, trivial⟩, hp⟩⟩
  replace h := ifF h hb
  refine wp_skip ?_
  refine th_n ?_
  refine wp_seq ?_
  refine wp_reg ?_
  refine st_assign hf rfl rfl (by decide) ?_
  clear hf; intro a ha hf; clear ha
  refine st_nil hf ?_
  refine th_n ?_
  refine wp_ret ?_
  obtain rfl := Option.some.inj h
  have hp : Hp _ _ _ (ow) := Hp.sel (pre := [Res.obj 24 v1 [.int .i64 cx0_Length, .int .u32 cx0_One, .int .u32 cx0_Two]]) (tail := ow) (rs' := []) hp [] (by decide) (by simp) rfl
  exact ⟨rfl, ⟨hf.sub ⟨rfl, trivial⟩, hp⟩⟩

noncomputable def f_foghornref21_States (cx0_Length : Int) (cx0_One : Int) (cx0_Two : Int) : Option (Int × Int) := ((f_foghornref21_May cx0_Length cx0_One cx0_Two).bind fun q3 => (if (!q3) = true then (some ((0 : Int), (1 : Int))) else (if 0 ≤ (IntKind.i64.wrap (cx0_Length - (1 : Int))) then (some ((ishl .i64 (1 : Int) (IntKind.i64.wrap (cx0_Length - (1 : Int)))), (0 : Int))) else none)))
theorem f_foghornref21_States_c {S : Nat → Prop} {w0 w : World} {ow : List Res} (hp : Hp S w0 w ow) (cx0_Length : Int) (cx0_One : Int) (cx0_Two : Int) {r : (Int × Int)} (h : f_foghornref21_States cx0_Length cx0_One cx0_Two = some r) :
    Calls Try.prog 65 #[.agg #[.int .i64 cx0_Length, .int .u32 cx0_One, .int .u32 cx0_Two]] w (fun e w' => e = .returned (.tuple #[.int .i64 r.1, .int .i64 r.2]) ∧ Hp S w0 w' (ow)) := by
  unfold f_foghornref21_States at h
  refine enter (n := 11) (args := [.agg #[.int .i64 cx0_Length, .int .u32 cx0_One, .int .u32 cx0_Two]]) Try.func65 rfl rfl (Nat.le_of_ble_eq_true rfl) fun a hf => ?_
  replace hf : Fr 11 a [(0, .agg #[.int .i64 cx0_Length, .int .u32 cx0_One, .int .u32 cx0_Two])] := hf
  refine wp_mono (Q := fun e a w => e = .ret ∧ Fr 11 a [(2, .int .i64 r.1), (3, .int .i64 r.2)] ∧ Hp S w0 w (ow)) ?_ ?_
  rotate_left
  · rintro e a w ⟨rfl, hf, hp⟩
    exact ret2 hf rfl rfl rfl ⟨rfl, hp⟩
  refine wp_seq ?_
  refine wp_reg ?_
  refine st_boxO (cs := [.int .i64 cx0_Length, .int .u32 cx0_One, .int .u32 cx0_Two]) hf (by decide) hp rfl rfl rfl ?_
  clear hf; intro a w v1 hf hp0; clear hp; have hp := hp0; clear hp0
  replace hp : Hp _ _ _ (Res.obj 24 v1 [.int .i64 cx0_Length, .int .u32 cx0_One, .int .u32 cx0_Two] :: ow) := hp
  refine st_assign hf rfl rfl (by decide) ?_
  clear hf; intro a ha hf; clear ha
  refine st_assign hf rfl rfl (by decide) ?_
  clear hf; intro a ha hf; clear ha
  refine st_nil hf ?_
  refine th_n ?_
  refine wp_seq ?_
  refine wp_seq ?_
  refine wp_reg ?_
  refine st_ldOA (m := 3) (us := [.int .i64 cx0_Length, .int .u32 cx0_One, .int .u32 cx0_Two]) hf (by decide) (by kernel_rfl) rfl rfl (hp.ob (i := 0) rfl) rfl rfl ?_
  clear hf; intro a ha hf; clear ha
  obtain ⟨q3, hcall4, h⟩ := bnd h
  refine st_call hf (by decide) Try.func41 rfl rfl rfl rfl rfl (f_foghornref21_May_c hp _ _ _ hcall4) ?_
  rintro _ w ⟨rfl, hp0⟩
  clear hp; have hp := hp0; clear hp0
  replace hp : Hp _ _ _ (Res.obj 24 v1 [.int .i64 cx0_Length, .int .u32 cx0_One, .int .u32 cx0_Two] :: ow) := hp
  refine ⟨_, rfl, ?_⟩
  clear hf; intro a hf
  refine st_not hf (by decide) rfl rfl ?_
  clear hf; intro a ha hf; clear ha
  refine st_nil hf ?_
  refine th_n ?_
  refine wp_if hf rfl (fun hb => ?_) (fun hb => ?_)
  · replace h := ifT h hb
    refine wp_seq ?_
    refine wp_reg ?_
    refine st_assign hf rfl rfl (by decide) ?_
    clear hf; intro a ha hf; clear ha
    refine st_assign hf rfl rfl (by decide) ?_
    clear hf; intro a ha hf; clear ha
    refine st_nil hf ?_
    refine th_n ?_
    refine wp_ret ?_
    refine th_r ?_
    obtain rfl := Option.some.inj h
    have hp : Hp _ _ _ (ow) := Hp.sel (pre := [Res.obj 24 v1 [.int .i64 cx0_Length, .int .u32 cx0_One, .int .u32 cx0_Two]]) (tail := ow) (rs' := []) hp [] (by decide) (by simp) rfl
    exact ⟨rfl, ⟨hf.sub ⟨rfl, rfl, trivial⟩, hp⟩⟩
  replace h := ifF h hb
  refine wp_skip ?_
  refine th_n ?_
  refine wp_seq ?_
  refine wp_reg ?_
  refine st_fa (o' := 0) hf (by decide) (off := 0) (sz := 1) (by kernel_rfl) (by decide) rfl rfl (hp.ob (i := 0) rfl) rfl ?_
  clear hf; intro a ha hf; clear ha
  refine st_ldO (u := .int .i64 cx0_Length) hf (by decide) pl3 rfl rfl (hp.ob (i := 0) rfl) rfl ?_
  clear hf; intro a ha hf; clear ha
  refine st_isub hf (by decide) rfl rfl rfl ?_
  clear hf; intro a ha hf; clear ha
  obtain ⟨hc5, h⟩ := chk h
  refine st_ishl hf (by decide) rfl rfl rfl hc5 ?_
  clear hf; intro a ha hf; clear ha
  refine st_assign hf rfl rfl (by decide) ?_
  clear hf; intro a ha hf; clear ha
  refine st_assign hf rfl rfl (by decide) ?_
  clear hf; intro a ha hf; clear ha
  refine st_nil hf ?_
  refine th_n ?_
  refine wp_ret ?_
  obtain rfl := Option.some.inj h
  have hp : Hp _ _ _ (ow) := Hp.sel (pre := [Res.obj 24 v1 [.int .i64 cx0_Length, .int .u32 cx0_One, .int .u32 cx0_Two]]) (tail := ow) (rs' := []) hp [] (by decide) (by simp) rfl
  exact ⟨rfl, ⟨hf.sub ⟨rfl, rfl, trivial⟩, hp⟩⟩

noncomputable def f_foghornref21_odd.s1c (ax0 : Int) (bx1 : Int) (is5 : Bool) (i6 : Int) : Option ((Bool × Int) ⊕ Bool) := (if (decide (i6 < (32 : Int))) = true then (if 0 ≤ i6 then ((if ((iand .u32 (ishr .u32 ax0 i6) (1 : Int)) == (1 : Int)) = true then (if 0 ≤ i6 then (some ((iand .u32 (ishr .u32 bx1 i6) (1 : Int)) == (1 : Int))) else none) else (some false)).bind fun z4 => (if z4 = true then (some (Sum.inl ((!is5), (IntKind.i64.wrap (i6 + (1 : Int)))))) else (some (Sum.inl (is5, (IntKind.i64.wrap (i6 + (1 : Int)))))))) else none) else (some (Sum.inr is5)))
noncomputable def f_foghornref21_odd.s1 (ax0 : Int) (bx1 : Int) (s : (Bool × Int)) : Option ((Bool × Int) ⊕ Bool) := f_foghornref21_odd.s1c ax0 bx1 s.1 s.2
noncomputable def f_foghornref21_odd (ax0 : Int) (bx1 : Int) : Option Bool := ((loop (f_foghornref21_odd.s1 ax0 bx1) (false, (0 : Int))).bind (fun q6 => (some q6)))
theorem f_foghornref21_odd_c {S : Nat → Prop} {w0 w : World} {ow : List Res} (hp : Hp S w0 w ow) (ax0 : Int) (bx1 : Int) {r : Bool} (h : f_foghornref21_odd ax0 bx1 = some r) :
    Calls Try.prog 60 #[.int .u32 ax0, .int .u32 bx1] w (fun e w' => e = .returned (.bool r) ∧ Hp S w0 w' (ow)) := by
  unfold f_foghornref21_odd at h
  refine enter (n := 26) (args := [.int .u32 ax0, .int .u32 bx1]) Try.func60 rfl rfl (Nat.le_of_ble_eq_true rfl) fun a hf => ?_
  replace hf : Fr 26 a [(0, .int .u32 ax0), (1, .int .u32 bx1)] := hf
  refine wp_mono (Q := fun e a w => e = .ret ∧ Fr 26 a [(4, .bool r)] ∧ Hp S w0 w (ow)) ?_ ?_
  rotate_left
  · rintro e a w ⟨rfl, hf, hp⟩
    exact ret1 hf rfl rfl ⟨rfl, hp⟩
  refine wp_seq ?_
  refine wp_reg ?_
  refine st_assign hf rfl rfl (by decide) ?_
  clear hf; intro a ha hf; clear ha
  refine st_nil hf ?_
  refine th_n ?_
  refine wp_seq ?_
  refine wp_reg ?_
  refine st_assign hf rfl rfl (by decide) ?_
  clear hf; intro a ha hf; clear ha
  refine st_nil hf ?_
  refine th_n ?_
  refine wp_seq ?_
  refine wp_seq ?_
  refine wp_reg ?_
  refine st_assign hf rfl rfl (by decide) ?_
  clear hf; intro a ha hf; clear ha
  refine st_nil hf ?_
  refine th_n ?_
  refine wp_block ?_
  obtain ⟨q6, hl, h⟩ := bnd h
  refine wp_loop_pure (f := (f_foghornref21_odd.s1 ax0 bx1)) (s := (false, (0 : Int))) (fun s a w => Fr 26 a [(0, .int .u32 ax0), (1, .int .u32 bx1), (5, .bool s.1), (6, .int .i64 s.2)] ∧ Hp S w0 w (ow)) (fun q e a w => e = .exit 0 ∧ Fr 26 a [(5, .bool q)] ∧ Hp S w0 w (ow)) ?_ hl ⟨hf.sub ⟨rfl, rfl, rfl, rfl, trivial⟩, hp⟩ ?_
  · clear hl hf hp
    intro s x a w h hI
    obtain ⟨is5, i6⟩ := s
    obtain ⟨hf, hp⟩ : Fr 26 a [(0, .int .u32 ax0), (1, .int .u32 bx1), (5, .bool is5), (6, .int .i64 i6)] ∧ Hp S w0 w (ow) := hI
    replace h : f_foghornref21_odd.s1c ax0 bx1 is5 i6 = some x := h
    unfold f_foghornref21_odd.s1c at h
    refine wp_seq ?_
    refine wp_seq ?_
    refine wp_reg ?_
    refine st_move hf rfl rfl (by decide) ?_
    clear hf; intro a ha hf; clear ha
    refine st_ilss hf (by decide) rfl rfl rfl ?_
    clear hf; intro a ha hf; clear ha
    refine st_nil hf ?_
    refine th_n ?_
    refine wp_if hf rfl (fun hb => ?_) (fun hb => ?_)
    · replace h := ifT h hb
      refine wp_skip ?_
      refine th_n ?_
      refine wp_seq ?_
      refine wp_block ?_
      refine wp_seq ?_
      refine wp_reg ?_
      refine st_move hf rfl rfl (by decide) ?_
      clear hf; intro a ha hf; clear ha
      refine st_move hf rfl rfl (by decide) ?_
      clear hf; intro a ha hf; clear ha
      obtain ⟨hc1, h⟩ := chk h
      refine st_ishr hf (by decide) rfl rfl rfl hc1 ?_
      clear hf; intro a ha hf; clear ha
      refine st_iand hf (by decide) rfl rfl rfl ?_
      clear hf; intro a ha hf; clear ha
      refine st_ieql hf (by decide) rfl rfl rfl ?_
      clear hf; intro a ha hf; clear ha
      refine st_move hf rfl rfl (by decide) ?_
      clear hf; intro a ha hf; clear ha
      obtain ⟨z4, hz2, h⟩ := bnd h
      refine wpList_cut 6 (fun a w => Fr 26 a [(0, .int .u32 ax0), (1, .int .u32 bx1), (5, .bool is5), (6, .int .i64 i6), (22, .bool z4)] ∧ Hp S w0 w (ow)) ?_ ?_
      · rcases Bool.eq_false_or_eq_true ((iand .u32 (ishr .u32 ax0 i6) (1 : Int)) == (1 : Int)) with hb3 | hb3
        · skip
          replace hz2 := ifT hz2 hb3
          refine st_move hf (wantY hf rfl rfl hb3) rfl (by decide) ?_
          clear hf; intro a ha hf; clear ha
          refine st_move hf (wantY hf rfl rfl hb3) rfl (by decide) ?_
          clear hf; intro a ha hf; clear ha
          obtain ⟨hc5, hz2⟩ := chk hz2
          refine st_ishr hf (by decide) (wantY hf rfl rfl hb3) rfl rfl hc5 ?_
          clear hf; intro a ha hf; clear ha
          refine st_iand hf (by decide) (wantY hf rfl rfl hb3) rfl rfl ?_
          clear hf; intro a ha hf; clear ha
          refine st_ieql hf (by decide) (wantY hf rfl rfl hb3) rfl rfl ?_
          clear hf; intro a ha hf; clear ha
          obtain rfl := Option.some.inj hz2
          refine st_pick (v := .bool ((iand .u32 (ishr .u32 bx1 i6) (1 : Int)) == (1 : Int))) hf rfl rfl (fun hb' => ?_) (fun hb' => ?_) (by decide) ?_
          · rfl
          · exact absurd (hb3.symm.trans hb') (by decide)
          clear hf; intro a ha hf; clear ha
          refine st_nil hf (th_n ?_)
          exact ⟨hf.sub ⟨rfl, rfl, rfl, rfl, rfl, trivial⟩, hp⟩
        replace hz2 := ifF hz2 hb3
        refine st_skip hf (wantN hf rfl rfl hb3) rfl (by decide) ?_ rfl
        clear hf; intro a hf
        refine st_skip hf (wantN hf rfl rfl hb3) rfl (by decide) ?_ rfl
        clear hf; intro a hf
        refine st_skip hf (wantN hf rfl rfl hb3) rfl (by decide) ?_ rfl
        clear hf; intro a hf
        refine st_skip hf (wantN hf rfl rfl hb3) rfl (by decide) ?_ rfl
        clear hf; intro a hf
        refine st_skip hf (wantN hf rfl rfl hb3) rfl (by decide) ?_ rfl
        clear hf; intro a hf
        obtain rfl := Option.some.inj hz2
        refine st_pick (v := .bool false) hf rfl rfl (fun hb' => ?_) (fun hb' => ?_) (by decide) ?_
        · exact absurd (hb3.symm.trans hb') (by decide)
        · rfl
        clear hf; intro a ha hf; clear ha
        refine st_nil hf (th_n ?_)
        exact ⟨hf.sub ⟨rfl, rfl, rfl, rfl, rfl, trivial⟩, hp⟩
      rintro a w ⟨hf, hp⟩
      refine st_nil hf ?_
      refine th_n ?_
      refine wp_if hf rfl (fun hb => ?_) (fun hb => ?_)
      · replace h := ifT h hb
        refine wp_reg ?_
        refine st_move hf rfl rfl (by decide) ?_
        clear hf; intro a ha hf; clear ha
        refine st_not hf (by decide) rfl rfl ?_
        clear hf; intro a ha hf; clear ha
        refine st_assign hf rfl rfl (by decide) ?_
        clear hf; intro a ha hf; clear ha
        refine st_nil hf ?_
        refine ib_n ?_
        refine th_n ?_
        refine wp_reg ?_
        refine st_move hf rfl rfl (by decide) ?_
        clear hf; intro a ha hf; clear ha
        refine st_iadd hf (by decide) rfl rfl rfl ?_
        clear hf; intro a ha hf; clear ha
        refine st_assign hf rfl rfl (by decide) ?_
        clear hf; intro a ha hf; clear ha
        refine st_nil hf ?_
        obtain rfl := Option.some.inj h
        exact rnd_l ⟨hf.sub ⟨rfl, rfl, rfl, rfl, trivial⟩, hp⟩
      replace h := ifF h hb
      refine wp_skip ?_
      refine ib_n ?_
      refine th_n ?_
      refine wp_reg ?_
      refine st_move hf rfl rfl (by decide) ?_
      clear hf; intro a ha hf; clear ha
      refine st_iadd hf (by decide) rfl rfl rfl ?_
      clear hf; intro a ha hf; clear ha
      refine st_assign hf rfl rfl (by decide) ?_
      clear hf; intro a ha hf; clear ha
      refine st_nil hf ?_
      obtain rfl := Option.some.inj h
      exact rnd_l ⟨hf.sub ⟨rfl, rfl, rfl, rfl, trivial⟩, hp⟩
    replace h := ifF h hb
    refine wp_exit ?_
    refine th_e ?_
    obtain rfl := Option.some.inj h
    exact rnd_r (by simp) ⟨rfl, hf.sub ⟨rfl, trivial⟩, hp⟩
  clear hl hf hp
  intro e a w hne hO
  obtain ⟨rfl, hf, hp⟩ := hO
  refine ib_same ?_
  refine th_n ?_
  refine wp_seq ?_
  refine wp_reg ?_
  refine st_move hf rfl rfl (by decide) ?_
  clear hf; intro a ha hf; clear ha
  refine st_assign hf rfl rfl (by decide) ?_
  clear hf; intro a ha hf; clear ha
  refine st_nil hf ?_
  refine th_n ?_
  refine wp_ret ?_
  obtain rfl := Option.some.inj h
  exact ⟨rfl, ⟨hf.sub ⟨rfl, trivial⟩, hp⟩⟩

noncomputable def f_foghornref21_Go.j1 (cx0_One : Int) (cx0_Two : Int) (all9 : Int) : Option (Int × Bool × Bool) := ((f_foghornref21_odd all9 cx0_One).bind fun q9 => ((f_foghornref21_odd all9 cx0_Two).bind fun q11 => (some ((IntKind.i64.wrap (IntKind.u32.wrap ((all9).tdiv (2 : Int)))), q9, q11))))
noncomputable def f_foghornref21_Go (cx0_Length : Int) (cx0_One : Int) (cx0_Two : Int) (state1 : Int) (bit2 : Bool) : Option (Int × Bool × Bool) := (if bit2 = true then (if 0 ≤ (IntKind.i64.wrap (cx0_Length - (1 : Int))) then (f_foghornref21_Go.j1 cx0_One cx0_Two (IntKind.u32.wrap ((IntKind.u32.wrap state1) + (ishl .u32 (1 : Int) (IntKind.i64.wrap (cx0_Length - (1 : Int))))))) else none) else (f_foghornref21_Go.j1 cx0_One cx0_Two (IntKind.u32.wrap state1)))
theorem f_foghornref21_Go_c {S : Nat → Prop} {w0 w : World} {ow : List Res} (hp : Hp S w0 w ow) (cx0_Length : Int) (cx0_One : Int) (cx0_Two : Int) (state1 : Int) (bit2 : Bool) {r : (Int × Bool × Bool)} (h : f_foghornref21_Go cx0_Length cx0_One cx0_Two state1 bit2 = some r) :
    Calls Try.prog 43 #[.agg #[.int .i64 cx0_Length, .int .u32 cx0_One, .int .u32 cx0_Two], .int .i64 state1, .bool bit2] w (fun e w' => e = .returned (.tuple #[.int .i64 r.1, .bool r.2.1, .bool r.2.2]) ∧ Hp S w0 w' (ow)) := by
  unfold f_foghornref21_Go at h
  refine enter (n := 30) (args := [.agg #[.int .i64 cx0_Length, .int .u32 cx0_One, .int .u32 cx0_Two], .int .i64 state1, .bool bit2]) Try.func43 rfl rfl (Nat.le_of_ble_eq_true rfl) fun a hf => ?_
  replace hf : Fr 30 a [(0, .agg #[.int .i64 cx0_Length, .int .u32 cx0_One, .int .u32 cx0_Two]), (1, .int .i64 state1), (2, .bool bit2)] := hf
  refine wp_mono (Q := fun e a w => e = .ret ∧ Fr 30 a [(6, .int .i64 r.1), (7, .bool r.2.1), (8, .bool r.2.2)] ∧ Hp S w0 w (ow)) ?_ ?_
  rotate_left
  · rintro e a w ⟨rfl, hf, hp⟩
    exact ret3 hf rfl rfl rfl rfl ⟨rfl, hp⟩
  refine wp_seq ?_
  refine wp_reg ?_
  refine st_boxO (cs := [.int .i64 cx0_Length, .int .u32 cx0_One, .int .u32 cx0_Two]) hf (by decide) hp rfl rfl rfl ?_
  clear hf; intro a w v1 hf hp0; clear hp; have hp := hp0; clear hp0
  replace hp : Hp _ _ _ (Res.obj 24 v1 [.int .i64 cx0_Length, .int .u32 cx0_One, .int .u32 cx0_Two] :: ow) := hp
  refine st_assign hf rfl rfl (by decide) ?_
  clear hf; intro a ha hf; clear ha
  refine st_assign hf rfl rfl (by decide) ?_
  clear hf; intro a ha hf; clear ha
  refine st_assign hf rfl rfl (by decide) ?_
  clear hf; intro a ha hf; clear ha
  refine st_nil hf ?_
  refine th_n ?_
  refine wp_seq ?_
  refine wp_reg ?_
  refine st_move hf rfl rfl (by decide) ?_
  clear hf; intro a ha hf; clear ha
  refine st_conv_ii hf (by decide) (by rw [Try.underlying3]; rfl) Try.underlying22 rfl rfl ?_
  clear hf; intro a ha hf; clear ha
  refine st_assign hf rfl rfl (by decide) ?_
  clear hf; intro a ha hf; clear ha
  refine st_nil hf ?_
  refine th_n ?_
  refine wp_seq_cut (fun a w => ∃ (all9 : Int), f_foghornref21_Go.j1 cx0_One cx0_Two all9 = some r ∧ Fr 30 a [(3, optr v1 0), (9, .int .u32 all9)] ∧ Hp S w0 w (Res.obj 24 v1 [.int .i64 cx0_Length, .int .u32 cx0_One, .int .u32 cx0_Two] :: ow)) ?_ ?_
  · skip
    refine wp_seq ?_
    refine wp_reg ?_
    refine st_move hf rfl rfl (by decide) ?_
    clear hf; intro a ha hf; clear ha
    refine st_nil hf ?_
    refine th_n ?_
    refine wp_if hf rfl (fun hb => ?_) (fun hb => ?_)
    · replace h := ifT h hb
      refine wp_reg ?_
      refine st_move hf rfl rfl (by decide) ?_
      clear hf; intro a ha hf; clear ha
      refine st_fa (o' := 0) hf (by decide) (off := 0) (sz := 1) (by kernel_rfl) (by decide) rfl rfl (hp.ob (i := 0) rfl) rfl ?_
      clear hf; intro a ha hf; clear ha
      refine st_ldO (u := .int .i64 cx0_Length) hf (by decide) pl3 rfl rfl (hp.ob (i := 0) rfl) rfl ?_
      clear hf; intro a ha hf; clear ha
      refine st_isub hf (by decide) rfl rfl rfl ?_
      clear hf; intro a ha hf; clear ha
      obtain ⟨hc13, h⟩ := chk h
      refine st_ishl hf (by decide) rfl rfl rfl hc13 ?_
      clear hf; intro a ha hf; clear ha
      refine st_iadd hf (by decide) rfl rfl rfl ?_
      clear hf; intro a ha hf; clear ha
      refine st_assign hf rfl rfl (by decide) ?_
      clear hf; intro a ha hf; clear ha
      refine st_nil hf ?_
      refine th_n ?_
      exact ⟨_, h, hf.sub ⟨rfl, rfl, trivial⟩, hp⟩
    replace h := ifF h hb
    refine wp_skip ?_
    refine th_n ?_
    exact ⟨_, h, hf.sub ⟨rfl, rfl, trivial⟩, hp⟩
  rintro a w ⟨all9, h, hf, hp⟩
  unfold f_foghornref21_Go.j1 at h
  refine wp_seq ?_
  obtain ⟨S3, hp4, rd5, up6, bk7⟩ := Hp.lendO hp (i := 0) rfl
  have rl8 := rd5
  obtain ⟨q9, hcall10, h⟩ := bnd h
  obtain ⟨q11, hcall12, h⟩ := bnd h
  refine wp_cutN (fun a w => Fr 30 a [(6, .int .i64 (IntKind.i64.wrap (IntKind.u32.wrap ((all9).tdiv (2 : Int))))), (7, .bool q9), (8, .bool q11)] ∧ Hp S w0 w (Res.obj 24 v1 [.int .i64 cx0_Length, .int .u32 cx0_One, .int .u32 cx0_Two] :: ow)) ?_ ?_
  · have hp := hp4.same (Same.drew w)
    refine dr_begin' (fun a w => Fr 30 a [(6, .int .i64 (IntKind.i64.wrap (IntKind.u32.wrap ((all9).tdiv (2 : Int))))), (7, .bool q9), (8, .bool q11)] ∧ Hp S w0 w (Res.obj 24 v1 [.int .i64 cx0_Length, .int .u32 cx0_One, .int .u32 cx0_Two] :: ow)) (fun w' => ∃ l, Hp S3 w w' l) [] (by kernel_rfl) ?_
    refine dr_take 0 (.int .u32 all9) rfl (by kernel_rfl) (by kernel_rfl) (by kernel_rfl) (by kernel_rfl) rfl rfl hf (by decide) rfl (fun w hp => ?_) ⟨_, hp⟩ ?_
    · obtain ⟨_, hp⟩ := hp
      refine st_move hf rfl rfl (by decide) ?_
      clear hf; intro a ha hf
      exact st_nil hf (th_n ⟨ha, rfl⟩)
    clear hf; intro a hf
    refine dr_take 1 (.int .u32 (IntKind.u32.wrap ((all9).tdiv (2 : Int)))) rfl (by kernel_rfl) (by kernel_rfl) (by kernel_rfl) (by kernel_rfl) rfl rfl hf (by decide) rfl (fun w hp => ?_) ⟨_, hp⟩ ?_
    · obtain ⟨_, hp⟩ := hp
      refine st_iquo hf (by decide) rfl rfl rfl (by decide) ?_
      clear hf; intro a ha hf
      exact st_nil hf (th_n ⟨ha, rfl⟩)
    clear hf; intro a hf
    refine dr_take 2 (.int .i64 (IntKind.i64.wrap (IntKind.u32.wrap ((all9).tdiv (2 : Int))))) rfl (by kernel_rfl) (by kernel_rfl) (by kernel_rfl) (by kernel_rfl) rfl rfl hf (by decide) rfl (fun w hp => ?_) ⟨_, hp⟩ ?_
    · obtain ⟨_, hp⟩ := hp
      refine st_conv_ii hf (by decide) (by rw [Try.underlying22]; rfl) Try.underlying3 rfl rfl ?_
      clear hf; intro a ha hf
      exact st_nil hf (th_n ⟨ha, rfl⟩)
    clear hf; intro a hf
    refine dr_take 3 (.int .u32 all9) rfl (by kernel_rfl) (by kernel_rfl) (by kernel_rfl) (by kernel_rfl) rfl rfl hf (by decide) rfl (fun w hp => ?_) ⟨_, hp⟩ ?_
    · obtain ⟨_, hp⟩ := hp
      refine st_move hf rfl rfl (by decide) ?_
      clear hf; intro a ha hf
      exact st_nil hf (th_n ⟨ha, rfl⟩)
    clear hf; intro a hf
    refine dr_take 4 (optr v1 1) rfl (by kernel_rfl) (by kernel_rfl) (by kernel_rfl) (by kernel_rfl) rfl rfl hf (by decide) rfl (fun w hp => ?_) ⟨_, hp⟩ ?_
    · obtain ⟨_, hp⟩ := hp
      refine st_fa (o' := 1) hf (by decide) (off := 1) (sz := 1) (by kernel_rfl) (by decide) rfl rfl (rl8.ob hp) rfl ?_
      clear hf; intro a ha hf
      exact st_nil hf (th_n ⟨ha, rfl⟩)
    clear hf; intro a hf
    refine dr_take 5 (.int .u32 cx0_One) rfl (by kernel_rfl) (by kernel_rfl) (by kernel_rfl) (by kernel_rfl) rfl rfl hf (by decide) rfl (fun w hp => ?_) ⟨_, hp⟩ ?_
    · obtain ⟨_, hp⟩ := hp
      refine st_ldO (u := .int .u32 cx0_One) hf (by decide) pl22 rfl rfl (rl8.ob hp) rfl ?_
      clear hf; intro a ha hf
      exact st_nil hf (th_n ⟨ha, rfl⟩)
    clear hf; intro a hf
    refine dr_take 7 (.int .u32 all9) rfl (by kernel_rfl) (by kernel_rfl) (by kernel_rfl) (by kernel_rfl) rfl rfl hf (by decide) rfl (fun w hp => ?_) ⟨_, hp⟩ ?_
    · obtain ⟨_, hp⟩ := hp
      refine st_move hf rfl rfl (by decide) ?_
      clear hf; intro a ha hf
      exact st_nil hf (th_n ⟨ha, rfl⟩)
    clear hf; intro a hf
    refine dr_take 8 (optr v1 2) rfl (by kernel_rfl) (by kernel_rfl) (by kernel_rfl) (by kernel_rfl) rfl rfl hf (by decide) rfl (fun w hp => ?_) ⟨_, hp⟩ ?_
    · obtain ⟨_, hp⟩ := hp
      refine st_fa (o' := 2) hf (by decide) (off := 2) (sz := 1) (by kernel_rfl) (by decide) rfl rfl (rl8.ob hp) rfl ?_
      clear hf; intro a ha hf
      exact st_nil hf (th_n ⟨ha, rfl⟩)
    clear hf; intro a hf
    refine dr_take 9 (.int .u32 cx0_Two) rfl (by kernel_rfl) (by kernel_rfl) (by kernel_rfl) (by kernel_rfl) rfl rfl hf (by decide) rfl (fun w hp => ?_) ⟨_, hp⟩ ?_
    · obtain ⟨_, hp⟩ := hp
      refine st_ldO (u := .int .u32 cx0_Two) hf (by decide) pl22 rfl rfl (rl8.ob hp) rfl ?_
      clear hf; intro a ha hf
      exact st_nil hf (th_n ⟨ha, rfl⟩)
    clear hf; intro a hf
    refine dr_one 6 rfl (by kernel_rfl) ?_
    refine st_call hf (by decide) Try.func60 rfl rfl rfl rfl rfl (f_foghornref21_odd_c hp _ _ hcall10) ?_
    rintro _ w ⟨rfl, hp0⟩
    clear hp; have hp := hp0; clear hp0
    replace hp : Hp _ _ _ (ow) := hp
    refine ⟨_, rfl, ?_⟩
    clear hf; intro a hf
    refine st_nil hf (th_n ⟨fun _ _ => ⟨_, hp⟩, ?_⟩)
    refine dr_one 10 rfl (by kernel_rfl) ?_
    refine st_call hf (by decide) Try.func60 rfl rfl rfl rfl rfl (f_foghornref21_odd_c hp _ _ hcall12) ?_
    rintro _ w ⟨rfl, hp0⟩
    clear hp; have hp := hp0; clear hp0
    replace hp : Hp _ _ _ (ow) := hp
    refine ⟨_, rfl, ?_⟩
    clear hf; intro a hf
    refine st_nil hf (th_n ⟨fun _ _ => ⟨_, hp⟩, ?_⟩)
    refine dr_take 11 (.int .i64 (IntKind.i64.wrap (IntKind.u32.wrap ((all9).tdiv (2 : Int))))) rfl (by kernel_rfl) (by kernel_rfl) (by kernel_rfl) (by kernel_rfl) rfl rfl hf (by decide) rfl (fun w hp => ?_) ⟨_, hp⟩ ?_
    · obtain ⟨_, hp⟩ := hp
      refine st_assign hf rfl rfl (by decide) ?_
      clear hf; intro a ha hf
      exact st_nil hf (th_n ⟨ha, rfl⟩)
    clear hf; intro a hf
    refine dr_take 12 (.bool q9) rfl (by kernel_rfl) (by kernel_rfl) (by kernel_rfl) (by kernel_rfl) rfl rfl hf (by decide) rfl (fun w hp => ?_) ⟨_, hp⟩ ?_
    · obtain ⟨_, hp⟩ := hp
      refine st_assign hf rfl rfl (by decide) ?_
      clear hf; intro a ha hf
      exact st_nil hf (th_n ⟨ha, rfl⟩)
    clear hf; intro a hf
    refine dr_take 13 (.bool q11) rfl (by kernel_rfl) (by kernel_rfl) (by kernel_rfl) (by kernel_rfl) rfl rfl hf (by decide) rfl (fun w hp => ?_) ⟨_, hp⟩ ?_
    · obtain ⟨_, hp⟩ := hp
      refine st_assign hf rfl rfl (by decide) ?_
      clear hf; intro a ha hf
      exact st_nil hf (th_n ⟨ha, rfl⟩)
    clear hf; intro a hf
    refine dr_end (by kernel_rfl) ?_ _
    have hp := bk7 _ _ hp
    exact ⟨hf.sub ⟨rfl, rfl, rfl, trivial⟩, hp⟩
  rintro a w ⟨hf, hp⟩
  refine th_n ?_
  refine wp_ret ?_
  obtain rfl := Option.some.inj h
  have hp : Hp _ _ _ (ow) := Hp.sel (pre := [Res.obj 24 v1 [.int .i64 cx0_Length, .int .u32 cx0_One, .int .u32 cx0_Two]]) (tail := ow) (rs' := []) hp [] (by decide) (by simp) rfl
  exact ⟨rfl, ⟨hf.sub ⟨rfl, rfl, rfl, trivial⟩, hp⟩⟩

noncomputable def f_foghornref23_sign (bx0 : Bool) : Option Fl := (if bx0 = true then (some (Fl.bits 4607182418800017408)) else (some (Fl.bits 13830554455654793216)))
theorem f_foghornref23_sign_c {S : Nat → Prop} {w0 w : World} {ow : List Res} (hp : Hp S w0 w ow) (bx0 : Bool) {r : Fl} (h : f_foghornref23_sign bx0 = some r) :
    Calls Try.prog 40 #[.bool bx0] w (fun e w' => ∃ (b0 : Nat), e = .returned (.float .f64 b0) ∧ Fl.rep b0 r ∧ Hp S w0 w' (ow)) := by
  unfold f_foghornref23_sign at h
  refine enter (n := 4) (args := [.bool bx0]) Try.func40 rfl rfl (Nat.le_of_ble_eq_true rfl) fun a hf => ?_
  replace hf : Fr 4 a [(0, .bool bx0)] := hf
  refine wp_mono (Q := fun e a w => e = .ret ∧ ∃ (b0 : Nat), Fr 4 a [(2, .float .f64 b0)] ∧ Fl.rep b0 r ∧ Hp S w0 w (ow)) ?_ ?_
  rotate_left
  · rintro e a w ⟨rfl, x0, hf, y0, hp⟩
    exact ret1 hf rfl rfl ⟨x0, rfl, y0, hp⟩
  refine wp_seq ?_
  refine wp_reg ?_
  refine st_assign hf rfl rfl (by decide) ?_
  clear hf; intro a ha hf; clear ha
  refine st_nil hf ?_
  refine th_n ?_
  refine wp_seq ?_
  refine wp_seq ?_
  refine wp_reg ?_
  refine st_move hf rfl rfl (by decide) ?_
  clear hf; intro a ha hf; clear ha
  refine st_nil hf ?_
  refine th_n ?_
  refine wp_if hf rfl (fun hb => ?_) (fun hb => ?_)
  · replace h := ifT h hb
    refine wp_seq ?_
    refine wp_reg ?_
    refine st_assign hf rfl rfl (by decide) ?_
    clear hf; intro a ha hf; clear ha
    refine st_nil hf ?_
    refine th_n ?_
    refine wp_ret ?_
    refine th_r ?_
    obtain rfl := Option.some.inj h
    exact ⟨rfl, ⟨_, hf.sub ⟨rfl, trivial⟩, rfl, hp⟩⟩
  replace h := ifF h hb
  refine wp_skip ?_
  refine th_n ?_
  refine wp_seq ?_
  refine wp_reg ?_
  refine st_assign hf rfl rfl (by decide) ?_
  clear hf; intro a ha hf; clear ha
  refine st_nil hf ?_
  refine th_n ?_
  refine wp_ret ?_
  obtain rfl := Option.some.inj h
  exact ⟨rfl, ⟨_, hf.sub ⟨rfl, trivial⟩, rfl, hp⟩⟩

noncomputable def f_foghornref23_cost (one0 : Bool) (two1 : Bool) (sx2_V : (Fl × Fl)) (sx2_Lost : Bool) : Option Fl := (if sx2_Lost = true then (some (Fl.bits 0)) else ((f_foghornref23_sign one0).bind fun q9 => ((farithS .mul q9 sx2_V.1).bind fun q13 => ((f_foghornref23_sign two1).bind fun q15 => ((farithS .mul q15 sx2_V.2).bind fun q19 => ((farithS .add q13 q19).bind fun q21 => ((farithS .mul (Fl.bits 4611686018427387904) q21).bind fun q23 => ((farithS .sub (Fl.bits 4611686018427387904) q23).bind fun q25 => (some q25)))))))))
theorem f_foghornref23_cost_c {S : Nat → Prop} {w0 w : World} {ow : List Res} (hp : Hp S w0 w ow) (one0 : Bool) (two1 : Bool) (bsx2_V csx2_V : Nat) (sx2_V : Fl × Fl) (hsx2_V : sx2_V.1.rep bsx2_V) (ksx2_V : sx2_V.2.rep csx2_V) (sx2_Lost : Bool) {r : Fl} (h : f_foghornref23_cost one0 two1 sx2_V sx2_Lost = some r) :
    Calls Try.prog 34 #[.bool one0, .bool two1, .agg #[.complex .f64 bsx2_V csx2_V, .bool sx2_Lost]] w (fun e w' => ∃ (b0 : Nat), e = .returned (.float .f64 b0) ∧ Fl.rep b0 r ∧ Hp S w0 w' (ow)) := by
  unfold f_foghornref23_cost at h
  refine enter (n := 24) (args := [.bool one0, .bool two1, .agg #[.complex .f64 bsx2_V csx2_V, .bool sx2_Lost]]) Try.func34 rfl rfl (Nat.le_of_ble_eq_true rfl) fun a hf => ?_
  replace hf : Fr 24 a [(0, .bool one0), (1, .bool two1), (2, .agg #[.complex .f64 bsx2_V csx2_V, .bool sx2_Lost])] := hf
  refine wp_mono (Q := fun e a w => e = .ret ∧ ∃ (b0 : Nat), Fr 24 a [(6, .float .f64 b0)] ∧ Fl.rep b0 r ∧ Hp S w0 w (ow)) ?_ ?_
  rotate_left
  · rintro e a w ⟨rfl, x0, hf, y0, hp⟩
    exact ret1 hf rfl rfl ⟨x0, rfl, y0, hp⟩
  refine wp_seq ?_
  refine wp_reg ?_
  refine st_boxO (cs := [.complex .f64 bsx2_V csx2_V, .bool sx2_Lost]) hf (by decide) hp rfl rfl rfl ?_
  clear hf; intro a w v1 hf hp0; clear hp; have hp := hp0; clear hp0
  replace hp : Hp _ _ _ (Res.obj 35 v1 [.complex .f64 bsx2_V csx2_V, .bool sx2_Lost] :: ow) := hp
  refine st_assign hf rfl rfl (by decide) ?_
  clear hf; intro a ha hf; clear ha
  refine st_nil hf ?_
  refine th_n ?_
  refine wp_seq ?_
  refine wp_seq ?_
  refine wp_reg ?_
  refine st_fa (o' := 1) hf (by decide) (off := 1) (sz := 1) (by kernel_rfl) (by decide) rfl rfl (hp.ob (i := 0) rfl) rfl ?_
  clear hf; intro a ha hf; clear ha
  refine st_ldO (u := .bool sx2_Lost) hf (by decide) pl4 rfl rfl (hp.ob (i := 0) rfl) rfl ?_
  clear hf; intro a ha hf; clear ha
  refine st_nil hf ?_
  refine th_n ?_
  refine wp_if hf rfl (fun hb => ?_) (fun hb => ?_)
  · replace h := ifT h hb
    refine wp_seq ?_
    refine wp_reg ?_
    refine st_assign hf rfl rfl (by decide) ?_
    clear hf; intro a ha hf; clear ha
    refine st_nil hf ?_
    refine th_n ?_
    refine wp_ret ?_
    refine th_r ?_
    obtain rfl := Option.some.inj h
    have hp : Hp _ _ _ (ow) := Hp.sel (pre := [Res.obj 35 v1 [.complex .f64 bsx2_V csx2_V, .bool sx2_Lost]]) (tail := ow) (rs' := []) hp [] (by decide) (by simp) rfl
    exact ⟨rfl, ⟨_, hf.sub ⟨rfl, trivial⟩, rfl, hp⟩⟩
  replace h := ifF h hb
  refine wp_skip ?_
  refine th_n ?_
  refine wp_seq ?_
  obtain ⟨S3, hp4, rd5, up6, bk7⟩ := Hp.lendO hp (i := 0) rfl
  have rl8 := rd5
  obtain ⟨q9, hcall10, h⟩ := bnd h
  obtain ⟨q13, hq14, h⟩ := bnd h
  obtain ⟨q15, hcall16, h⟩ := bnd h
  obtain ⟨q19, hq20, h⟩ := bnd h
  obtain ⟨q21, hq22, h⟩ := bnd h
  obtain ⟨q23, hq24, h⟩ := bnd h
  obtain ⟨q25, hq26, h⟩ := bnd h
  refine wp_cutN (fun a w => Fr 24 a [(6, .float .f64 (flb q25))] ∧ Hp S w0 w (Res.obj 35 v1 [.complex .f64 bsx2_V csx2_V, .bool sx2_Lost] :: ow)) ?_ ?_
  · have hp := hp4.same (Same.drew w)
    refine dr_begin' (fun a w => Fr 24 a [(6, .float .f64 (flb q25))] ∧ Hp S w0 w (Res.obj 35 v1 [.complex .f64 bsx2_V csx2_V, .bool sx2_Lost] :: ow)) (fun w' => ∃ l, Hp S3 w w' l) [] (by kernel_rfl) ?_
    refine dr_take 0 (.bool one0) rfl (by kernel_rfl) (by kernel_rfl) (by kernel_rfl) (by kernel_rfl) rfl rfl hf (by decide) rfl (fun w hp => ?_) ⟨_, hp⟩ ?_
    · obtain ⟨_, hp⟩ := hp
      refine st_move hf rfl rfl (by decide) ?_
      clear hf; intro a ha hf
      exact st_nil hf (th_n ⟨ha, rfl⟩)
    clear hf; intro a hf
    refine dr_take 2 (optr v1 0) rfl (by kernel_rfl) (by kernel_rfl) (by kernel_rfl) (by kernel_rfl) rfl rfl hf (by decide) rfl (fun w hp => ?_) ⟨_, hp⟩ ?_
    · obtain ⟨_, hp⟩ := hp
      refine st_fa (o' := 0) hf (by decide) (off := 0) (sz := 1) (by kernel_rfl) (by decide) rfl rfl (rl8.ob hp) rfl ?_
      clear hf; intro a ha hf
      exact st_nil hf (th_n ⟨ha, rfl⟩)
    clear hf; intro a hf
    refine dr_take 3 (.complex .f64 bsx2_V csx2_V) rfl (by kernel_rfl) (by kernel_rfl) (by kernel_rfl) (by kernel_rfl) rfl rfl hf (by decide) rfl (fun w hp => ?_) ⟨_, hp⟩ ?_
    · obtain ⟨_, hp⟩ := hp
      refine st_ldO (u := .complex .f64 bsx2_V csx2_V) hf (by decide) pl33 rfl rfl (rl8.ob hp) rfl ?_
      clear hf; intro a ha hf
      exact st_nil hf (th_n ⟨ha, rfl⟩)
    clear hf; intro a hf
    refine dr_take 4 (.float .f64 bsx2_V) rfl (by kernel_rfl) (by kernel_rfl) (by kernel_rfl) (by kernel_rfl) rfl rfl hf (by decide) rfl (fun w hp => ?_) ⟨_, hp⟩ ?_
    · obtain ⟨_, hp⟩ := hp
      refine st_real hf (by decide) rfl rfl ?_
      clear hf; intro a ha hf
      exact st_nil hf (th_n ⟨ha, rfl⟩)
    clear hf; intro a hf
    refine dr_take 6 (.bool two1) rfl (by kernel_rfl) (by kernel_rfl) (by kernel_rfl) (by kernel_rfl) rfl rfl hf (by decide) rfl (fun w hp => ?_) ⟨_, hp⟩ ?_
    · obtain ⟨_, hp⟩ := hp
      refine st_move hf rfl rfl (by decide) ?_
      clear hf; intro a ha hf
      exact st_nil hf (th_n ⟨ha, rfl⟩)
    clear hf; intro a hf
    refine dr_take 8 (optr v1 0) rfl (by kernel_rfl) (by kernel_rfl) (by kernel_rfl) (by kernel_rfl) rfl rfl hf (by decide) rfl (fun w hp => ?_) ⟨_, hp⟩ ?_
    · obtain ⟨_, hp⟩ := hp
      refine st_fa (o' := 0) hf (by decide) (off := 0) (sz := 1) (by kernel_rfl) (by decide) rfl rfl (rl8.ob hp) rfl ?_
      clear hf; intro a ha hf
      exact st_nil hf (th_n ⟨ha, rfl⟩)
    clear hf; intro a hf
    refine dr_take 9 (.complex .f64 bsx2_V csx2_V) rfl (by kernel_rfl) (by kernel_rfl) (by kernel_rfl) (by kernel_rfl) rfl rfl hf (by decide) rfl (fun w hp => ?_) ⟨_, hp⟩ ?_
    · obtain ⟨_, hp⟩ := hp
      refine st_ldO (u := .complex .f64 bsx2_V csx2_V) hf (by decide) pl33 rfl rfl (rl8.ob hp) rfl ?_
      clear hf; intro a ha hf
      exact st_nil hf (th_n ⟨ha, rfl⟩)
    clear hf; intro a hf
    refine dr_take 10 (.float .f64 csx2_V) rfl (by kernel_rfl) (by kernel_rfl) (by kernel_rfl) (by kernel_rfl) rfl rfl hf (by decide) rfl (fun w hp => ?_) ⟨_, hp⟩ ?_
    · obtain ⟨_, hp⟩ := hp
      refine st_imag hf (by decide) rfl rfl ?_
      clear hf; intro a ha hf
      exact st_nil hf (th_n ⟨ha, rfl⟩)
    clear hf; intro a hf
    refine dr_one 1 rfl (by kernel_rfl) ?_
    refine st_call hf (by decide) Try.func40 rfl rfl rfl rfl rfl (f_foghornref23_sign_c hp _ hcall10) ?_
    rintro _ w ⟨v11, rfl, y12, hp0⟩
    clear hp; have hp := hp0; clear hp0
    replace hp : Hp _ _ _ (ow) := hp
    refine ⟨_, rfl, ?_⟩
    clear hf; intro a hf
    refine st_nil hf (th_n ⟨fun _ _ => ⟨_, hp⟩, ?_⟩)
    refine dr_take 5 (.float .f64 (flb q13)) rfl (by kernel_rfl) (by kernel_rfl) (by kernel_rfl) (by kernel_rfl) rfl rfl hf (by decide) rfl (fun w hp => ?_) ⟨_, hp⟩ ?_
    · obtain ⟨_, hp⟩ := hp
      refine st_fs (op := .mul) rfl hf (by decide) rfl rfl rfl (show Fl.rep v11 q9 from y12) (show Fl.rep bsx2_V sx2_V.1 from hsx2_V) hq14 ?_
      clear hf; intro a ha hf
      exact st_nil hf (th_n ⟨ha, rfl⟩)
    clear hf; intro a hf
    refine dr_one 7 rfl (by kernel_rfl) ?_
    refine st_call hf (by decide) Try.func40 rfl rfl rfl rfl rfl (f_foghornref23_sign_c hp _ hcall16) ?_
    rintro _ w ⟨v17, rfl, y18, hp0⟩
    clear hp; have hp := hp0; clear hp0
    replace hp : Hp _ _ _ (ow) := hp
    refine ⟨_, rfl, ?_⟩
    clear hf; intro a hf
    refine st_nil hf (th_n ⟨fun _ _ => ⟨_, hp⟩, ?_⟩)
    refine dr_take 11 (.float .f64 (flb q19)) rfl (by kernel_rfl) (by kernel_rfl) (by kernel_rfl) (by kernel_rfl) rfl rfl hf (by decide) rfl (fun w hp => ?_) ⟨_, hp⟩ ?_
    · obtain ⟨_, hp⟩ := hp
      refine st_fs (op := .mul) rfl hf (by decide) rfl rfl rfl (show Fl.rep v17 q15 from y18) (show Fl.rep csx2_V sx2_V.2 from ksx2_V) hq20 ?_
      clear hf; intro a ha hf
      exact st_nil hf (th_n ⟨ha, rfl⟩)
    clear hf; intro a hf
    refine dr_take 12 (.float .f64 (flb q21)) rfl (by kernel_rfl) (by kernel_rfl) (by kernel_rfl) (by kernel_rfl) rfl rfl hf (by decide) rfl (fun w hp => ?_) ⟨_, hp⟩ ?_
    · obtain ⟨_, hp⟩ := hp
      refine st_fs (op := .add) rfl hf (by decide) rfl rfl rfl (show Fl.rep (flb q13) q13 from (farithS_rep hq14)) (show Fl.rep (flb q19) q19 from (farithS_rep hq20)) hq22 ?_
      clear hf; intro a ha hf
      exact st_nil hf (th_n ⟨ha, rfl⟩)
    clear hf; intro a hf
    refine dr_take 13 (.float .f64 (flb q23)) rfl (by kernel_rfl) (by kernel_rfl) (by kernel_rfl) (by kernel_rfl) rfl rfl hf (by decide) rfl (fun w hp => ?_) ⟨_, hp⟩ ?_
    · obtain ⟨_, hp⟩ := hp
      refine st_fs (op := .mul) rfl hf (by decide) rfl rfl rfl (show Fl.rep 4611686018427387904 (Fl.bits 4611686018427387904) from rfl) (show Fl.rep (flb q21) q21 from (farithS_rep hq22)) hq24 ?_
      clear hf; intro a ha hf
      exact st_nil hf (th_n ⟨ha, rfl⟩)
    clear hf; intro a hf
    refine dr_take 14 (.float .f64 (flb q25)) rfl (by kernel_rfl) (by kernel_rfl) (by kernel_rfl) (by kernel_rfl) rfl rfl hf (by decide) rfl (fun w hp => ?_) ⟨_, hp⟩ ?_
    · obtain ⟨_, hp⟩ := hp
      refine st_fs (op := .sub) rfl hf (by decide) rfl rfl rfl (show Fl.rep 4611686018427387904 (Fl.bits 4611686018427387904) from rfl) (show Fl.rep (flb q23) q23 from (farithS_rep hq24)) hq26 ?_
      clear hf; intro a ha hf
      exact st_nil hf (th_n ⟨ha, rfl⟩)
    clear hf; intro a hf
    refine dr_take 15 (.float .f64 (flb q25)) rfl (by kernel_rfl) (by kernel_rfl) (by kernel_rfl) (by kernel_rfl) rfl rfl hf (by decide) rfl (fun w hp => ?_) ⟨_, hp⟩ ?_
    · obtain ⟨_, hp⟩ := hp
      refine st_assign hf rfl rfl (by decide) ?_
      clear hf; intro a ha hf
      exact st_nil hf (th_n ⟨ha, rfl⟩)
    clear hf; intro a hf
    refine dr_end (by kernel_rfl) ?_ _
    have hp := bk7 _ _ hp
    exact ⟨hf.sub ⟨rfl, trivial⟩, hp⟩
  rintro a w ⟨hf, hp⟩
  refine th_n ?_
  refine wp_ret ?_
  obtain rfl := Option.some.inj h
  have hp : Hp _ _ _ (ow) := Hp.sel (pre := [Res.obj 35 v1 [.complex .f64 bsx2_V csx2_V, .bool sx2_Lost]]) (tail := ow) (rs' := []) hp [] (by decide) (by simp) rfl
  exact ⟨rfl, ⟨_, hf.sub ⟨rfl, trivial⟩, (farithS_rep hq26), hp⟩⟩

noncomputable def f_foghornref23_ahead.s1c (ax0_bits : (List Bool)) (bx1_bits : (List Bool)) (i5 : Int) : Option (Int ⊕ (Unit ⊕ Bool)) := (if (decide (i5 < (ax0_bits.length : Int))) = true then (if 0 ≤ i5 ∧ i5 < (ax0_bits.length : Int) then (if 0 ≤ i5 ∧ i5 < (bx1_bits.length : Int) then (if ((gt ax0_bits i5) != (gt bx1_bits i5)) = true then (if 0 ≤ i5 ∧ i5 < (ax0_bits.length : Int) then (some (Sum.inr (Sum.inr (!(gt ax0_bits i5))))) else none) else (some (Sum.inl (IntKind.i64.wrap (i5 + (1 : Int)))))) else none) else none) else (some (Sum.inr (Sum.inl ()))))
noncomputable def f_foghornref23_ahead.s1 (ax0_bits : (List Bool)) (bx1_bits : (List Bool)) (s : Int) : Option (Int ⊕ (Unit ⊕ Bool)) := f_foghornref23_ahead.s1c ax0_bits bx1_bits s
noncomputable def f_foghornref23_ahead (ax0_bits : (List Bool)) (ax0_cost : Fl) (bx1_bits : (List Bool)) (bx1_cost : Fl) : Option Bool := (if (fne ax0_cost bx1_cost) = true then (some (flt ax0_cost bx1_cost)) else ((loop (f_foghornref23_ahead.s1 ax0_bits bx1_bits) (0 : Int)).bind (fun q21 => sm q21 (fun q22 => (some false)) (fun q23 => (some q23)))))
theorem f_foghornref23_ahead_c {S : Nat → Prop} {w0 w : World} {ow : List Res} (hp : Hp S w0 w ow) (bs : List FZ) (hA : RdF S w0 bs) (vax0_bits : Value) (ax0_bits : List Bool) (hax0_bits : FzP bs vax0_bits ax0_bits) (bax0_cost : Nat) (ax0_cost : Fl) (hax0_cost : ax0_cost.rep bax0_cost) (vbx1_bits : Value) (bx1_bits : List Bool) (hbx1_bits : FzP bs vbx1_bits bx1_bits) (bbx1_cost : Nat) (bx1_cost : Fl) (hbx1_cost : bx1_cost.rep bbx1_cost) {r : Bool} (h : f_foghornref23_ahead ax0_bits ax0_cost bx1_bits bx1_cost = some r) :
    Calls Try.prog 70 #[.agg #[vax0_bits, .float .f64 bax0_cost], .agg #[vbx1_bits, .float .f64 bbx1_cost]] w (fun e w' => e = .returned (.bool r) ∧ Hp S w0 w' (ow)) := by
  unfold f_foghornref23_ahead at h
  refine enter (n := 40) (args := [.agg #[vax0_bits, .float .f64 bax0_cost], .agg #[vbx1_bits, .float .f64 bbx1_cost]]) Try.func70 rfl rfl (Nat.le_of_ble_eq_true rfl) fun a hf => ?_
  replace hf : Fr 40 a [(0, .agg #[vax0_bits, .float .f64 bax0_cost]), (1, .agg #[vbx1_bits, .float .f64 bbx1_cost])] := hf
  refine wp_mono (Q := fun e a w => e = .ret ∧ Fr 40 a [(4, .bool r)] ∧ Hp S w0 w (ow)) ?_ ?_
  rotate_left
  · rintro e a w ⟨rfl, hf, hp⟩
    exact ret1 hf rfl rfl ⟨rfl, hp⟩
  refine wp_seq ?_
  refine wp_reg ?_
  refine st_boxO (cs := [vax0_bits, .float .f64 bax0_cost]) hf (by decide) hp rfl rfl rfl ?_
  clear hf; intro a w v1 hf hp0; clear hp; have hp := hp0; clear hp0
  replace hp : Hp _ _ _ (Res.obj 98 v1 [vax0_bits, .float .f64 bax0_cost] :: ow) := hp
  refine st_boxO (cs := [vbx1_bits, .float .f64 bbx1_cost]) hf (by decide) hp rfl rfl rfl ?_
  clear hf; intro a w v3 hf hp0; clear hp; have hp := hp0; clear hp0
  replace hp : Hp _ _ _ (Res.obj 98 v3 [vbx1_bits, .float .f64 bbx1_cost] :: Res.obj 98 v1 [vax0_bits, .float .f64 bax0_cost] :: ow) := hp
  refine st_assign hf rfl rfl (by decide) ?_
  clear hf; intro a ha hf; clear ha
  refine st_nil hf ?_
  refine th_n ?_
  refine wp_seq ?_
  refine wp_seq ?_
  refine wp_reg ?_
  refine st_fa (o' := 1) hf (by decide) (off := 1) (sz := 1) (by kernel_rfl) (by decide) rfl rfl (hp.ob (i := 1) rfl) rfl ?_
  clear hf; intro a ha hf; clear ha
  refine st_ldO (u := .float .f64 bax0_cost) hf (by decide) pl29 rfl rfl (hp.ob (i := 1) rfl) rfl ?_
  clear hf; intro a ha hf; clear ha
  refine st_fa (o' := 1) hf (by decide) (off := 1) (sz := 1) (by kernel_rfl) (by decide) rfl rfl (hp.ob (i := 0) rfl) rfl ?_
  clear hf; intro a ha hf; clear ha
  refine st_ldO (u := .float .f64 bbx1_cost) hf (by decide) pl29 rfl rfl (hp.ob (i := 0) rfl) rfl ?_
  clear hf; intro a ha hf; clear ha
  refine st_fcmp (r_fne (fx := ax0_cost) (fy := bx1_cost) hax0_cost hbx1_cost) hf (by decide) rfl rfl rfl ?_
  clear hf; intro a ha hf; clear ha
  refine st_nil hf ?_
  refine th_n ?_
  refine wp_if hf rfl (fun hb => ?_) (fun hb => ?_)
  · replace h := ifT h hb
    refine wp_seq ?_
    refine wp_reg ?_
    refine st_fa (o' := 1) hf (by decide) (off := 1) (sz := 1) (by kernel_rfl) (by decide) rfl rfl (hp.ob (i := 1) rfl) rfl ?_
    clear hf; intro a ha hf; clear ha
    refine st_ldO (u := .float .f64 bax0_cost) hf (by decide) pl29 rfl rfl (hp.ob (i := 1) rfl) rfl ?_
    clear hf; intro a ha hf; clear ha
    refine st_fa (o' := 1) hf (by decide) (off := 1) (sz := 1) (by kernel_rfl) (by decide) rfl rfl (hp.ob (i := 0) rfl) rfl ?_
    clear hf; intro a ha hf; clear ha
    refine st_ldO (u := .float .f64 bbx1_cost) hf (by decide) pl29 rfl rfl (hp.ob (i := 0) rfl) rfl ?_
    clear hf; intro a ha hf; clear ha
    refine st_fcmp (r_flt (fx := ax0_cost) (fy := bx1_cost) hax0_cost hbx1_cost) hf (by decide) rfl rfl rfl ?_
    clear hf; intro a ha hf; clear ha
    refine st_assign hf rfl rfl (by decide) ?_
    clear hf; intro a ha hf; clear ha
    refine st_nil hf ?_
    refine th_n ?_
    refine wp_ret ?_
    refine th_r ?_
    obtain rfl := Option.some.inj h
    have hp : Hp _ _ _ (ow) := Hp.sel (pre := [Res.obj 98 v3 [vbx1_bits, .float .f64 bbx1_cost], Res.obj 98 v1 [vax0_bits, .float .f64 bax0_cost]]) (tail := ow) (rs' := []) hp [] (by decide) (by simp) rfl
    exact ⟨rfl, ⟨hf.sub ⟨rfl, trivial⟩, hp⟩⟩
  replace h := ifF h hb
  refine wp_skip ?_
  refine th_n ?_
  refine wp_seq ?_
  refine wp_seq ?_
  refine wp_reg ?_
  refine st_assign hf rfl rfl (by decide) ?_
  clear hf; intro a ha hf; clear ha
  refine st_nil hf ?_
  refine th_n ?_
  refine wp_block ?_
  obtain ⟨q21, hl, h⟩ := bnd h
  have hp : Hp _ _ _ (Res.obj 98 v1 [vax0_bits, .float .f64 bax0_cost] :: Res.obj 98 v3 [vbx1_bits, .float .f64 bbx1_cost] :: ow) := Hp.sel (pre := [Res.obj 98 v3 [vbx1_bits, .float .f64 bbx1_cost], Res.obj 98 v1 [vax0_bits, .float .f64 bax0_cost]]) (tail := ow) (rs' := [Res.obj 98 v1 [vax0_bits, .float .f64 bax0_cost], Res.obj 98 v3 [vbx1_bits, .float .f64 bbx1_cost]]) hp [1, 0] (by decide) (by simp) rfl
  refine wp_loop_pure (f := (f_foghornref23_ahead.s1 ax0_bits bx1_bits)) (s := (0 : Int)) (fun s a w => Fr 40 a [(2, optr v1 0), (3, optr v3 0), (5, .int .i64 s)] ∧ Hp S w0 w (Res.obj 98 v1 [vax0_bits, .float .f64 bax0_cost] :: Res.obj 98 v3 [vbx1_bits, .float .f64 bbx1_cost] :: ow)) (fun q e a w => match q with | (Sum.inl q) => e = .exit 0 ∧ Fr 40 a [] ∧ Hp S w0 w (ow) | (Sum.inr q) => e = .ret ∧ Fr 40 a [(4, .bool q)] ∧ Hp S w0 w (ow)) ?_ hl ⟨hf.sub ⟨rfl, rfl, rfl, trivial⟩, hp⟩ ?_
  · clear hl hf hp
    intro s x a w h hI
    obtain ⟨i5, hs⟩ : ∃ z, z = s := ⟨s, rfl⟩; subst hs
    obtain ⟨hf, hp⟩ : Fr 40 a [(2, optr v1 0), (3, optr v3 0), (5, .int .i64 i5)] ∧ Hp S w0 w (Res.obj 98 v1 [vax0_bits, .float .f64 bax0_cost] :: Res.obj 98 v3 [vbx1_bits, .float .f64 bbx1_cost] :: ow) := hI
    replace h : f_foghornref23_ahead.s1c ax0_bits bx1_bits i5 = some x := h
    unfold f_foghornref23_ahead.s1c at h
    refine wp_seq ?_
    refine wp_seq ?_
    refine wp_reg ?_
    refine st_move hf rfl rfl (by decide) ?_
    clear hf; intro a ha hf; clear ha
    refine st_fa (o' := 0) hf (by decide) (off := 0) (sz := 1) (by kernel_rfl) (by decide) rfl rfl (hp.ob (i := 0) rfl) rfl ?_
    clear hf; intro a ha hf; clear ha
    refine st_ldO (u := vax0_bits) hf (by decide) pl25 rfl rfl (hp.ob (i := 0) rfl) rfl ?_
    clear hf; intro a ha hf; clear ha
    refine st_len (E := Ek.bool) hf (by decide) Try.underlying25 rfl rfl (FzP.rd hax0_bits (hA.ara hp)) ?_
    clear hf; intro a ha hf; clear ha
    refine st_ilss hf (by decide) rfl rfl rfl ?_
    clear hf; intro a ha hf; clear ha
    refine st_nil hf ?_
    refine th_n ?_
    refine wp_if hf rfl (fun hb => ?_) (fun hb => ?_)
    · replace h := ifT h hb
      refine wp_skip ?_
      refine th_n ?_
      refine wp_seq ?_
      refine wp_block ?_
      refine wp_seq ?_
      obtain ⟨S5, hp6, rd7, up8, bk9⟩ := Hp.lendO hp (i := 0) rfl
      obtain ⟨S10, hp11, rd12, up13, bk14⟩ := Hp.lendO hp6 (i := 0) rfl
      have rl15 := ((((hA.now hp).mono up8).now hp6).mono up13)
      have rl16 := ((rd7.now hp6).mono up13)
      have rl17 := rd12
      obtain ⟨hc18, h⟩ := chk h
      obtain ⟨hc19, h⟩ := chk h
      refine wp_cutN (fun a w => Fr 40 a [(2, optr v1 0), (3, optr v3 0), (5, .int .i64 i5), (33, .bool ((gt ax0_bits i5) != (gt bx1_bits i5)))] ∧ Hp S w0 w (Res.obj 98 v1 [vax0_bits, .float .f64 bax0_cost] :: Res.obj 98 v3 [vbx1_bits, .float .f64 bbx1_cost] :: ow)) ?_ ?_
      · have hp := hp11.same (Same.drew w)
        refine dr_begin' (fun a w => Fr 40 a [(2, optr v1 0), (3, optr v3 0), (5, .int .i64 i5), (33, .bool ((gt ax0_bits i5) != (gt bx1_bits i5)))] ∧ Hp S w0 w (Res.obj 98 v1 [vax0_bits, .float .f64 bax0_cost] :: Res.obj 98 v3 [vbx1_bits, .float .f64 bbx1_cost] :: ow)) (fun w' => ∃ l, Hp S10 w w' l) [] (by kernel_rfl) ?_
        refine dr_take 0 (optr v1 0) rfl (by kernel_rfl) (by kernel_rfl) (by kernel_rfl) (by kernel_rfl) rfl rfl hf (by decide) rfl (fun w hp => ?_) ⟨_, hp⟩ ?_
        · obtain ⟨_, hp⟩ := hp
          refine st_fa (o' := 0) hf (by decide) (off := 0) (sz := 1) (by kernel_rfl) (by decide) rfl rfl (rl16.ob hp) rfl ?_
          clear hf; intro a ha hf
          exact st_nil hf (th_n ⟨ha, rfl⟩)
        clear hf; intro a hf
        refine dr_take 1 (vax0_bits) rfl (by kernel_rfl) (by kernel_rfl) (by kernel_rfl) (by kernel_rfl) rfl rfl hf (by decide) rfl (fun w hp => ?_) ⟨_, hp⟩ ?_
        · obtain ⟨_, hp⟩ := hp
          refine st_ldO (u := vax0_bits) hf (by decide) pl25 rfl rfl (rl16.ob hp) rfl ?_
          clear hf; intro a ha hf
          exact st_nil hf (th_n ⟨ha, rfl⟩)
        clear hf; intro a hf
        refine dr_take 2 (.int .i64 i5) rfl (by kernel_rfl) (by kernel_rfl) (by kernel_rfl) (by kernel_rfl) rfl rfl hf (by decide) rfl (fun w hp => ?_) ⟨_, hp⟩ ?_
        · obtain ⟨_, hp⟩ := hp
          refine st_move hf rfl rfl (by decide) ?_
          clear hf; intro a ha hf
          exact st_nil hf (th_n ⟨ha, rfl⟩)
        clear hf; intro a hf
        refine dr_take 3 (eptr vax0_bits i5 1) rfl (by kernel_rfl) (by kernel_rfl) (by kernel_rfl) (by kernel_rfl) rfl rfl hf (by decide) rfl (fun w hp => ?_) ⟨_, hp⟩ ?_
        · obtain ⟨_, hp⟩ := hp
          refine st_index (E := Ek.bool) hf (by decide) Try.underlying25 elt4 rfl rfl rfl (FzP.rd hax0_bits (rl15.ara hp)) hc18.1 hc18.2 ?_
          clear hf; intro a ha hf
          exact st_nil hf (th_n ⟨ha, rfl⟩)
        clear hf; intro a hf
        refine dr_take 4 (.bool (gt ax0_bits i5)) rfl (by kernel_rfl) (by kernel_rfl) (by kernel_rfl) (by kernel_rfl) rfl rfl hf (by decide) rfl (fun w hp => ?_) ⟨_, hp⟩ ?_
        · obtain ⟨_, hp⟩ := hp
          refine st_ldB hf (by decide) pl4 rfl rfl (FzP.rd hax0_bits (rl15.ara hp)) hc18.1 hc18.2 ?_
          clear hf; intro a ha hf
          exact st_nil hf (th_n ⟨ha, rfl⟩)
        clear hf; intro a hf
        refine dr_take 5 (optr v3 0) rfl (by kernel_rfl) (by kernel_rfl) (by kernel_rfl) (by kernel_rfl) rfl rfl hf (by decide) rfl (fun w hp => ?_) ⟨_, hp⟩ ?_
        · obtain ⟨_, hp⟩ := hp
          refine st_fa (o' := 0) hf (by decide) (off := 0) (sz := 1) (by kernel_rfl) (by decide) rfl rfl (rl17.ob hp) rfl ?_
          clear hf; intro a ha hf
          exact st_nil hf (th_n ⟨ha, rfl⟩)
        clear hf; intro a hf
        refine dr_take 6 (vbx1_bits) rfl (by kernel_rfl) (by kernel_rfl) (by kernel_rfl) (by kernel_rfl) rfl rfl hf (by decide) rfl (fun w hp => ?_) ⟨_, hp⟩ ?_
        · obtain ⟨_, hp⟩ := hp
          refine st_ldO (u := vbx1_bits) hf (by decide) pl25 rfl rfl (rl17.ob hp) rfl ?_
          clear hf; intro a ha hf
          exact st_nil hf (th_n ⟨ha, rfl⟩)
        clear hf; intro a hf
        refine dr_take 7 (.int .i64 i5) rfl (by kernel_rfl) (by kernel_rfl) (by kernel_rfl) (by kernel_rfl) rfl rfl hf (by decide) rfl (fun w hp => ?_) ⟨_, hp⟩ ?_
        · obtain ⟨_, hp⟩ := hp
          refine st_move hf rfl rfl (by decide) ?_
          clear hf; intro a ha hf
          exact st_nil hf (th_n ⟨ha, rfl⟩)
        clear hf; intro a hf
        refine dr_take 8 (eptr vbx1_bits i5 1) rfl (by kernel_rfl) (by kernel_rfl) (by kernel_rfl) (by kernel_rfl) rfl rfl hf (by decide) rfl (fun w hp => ?_) ⟨_, hp⟩ ?_
        · obtain ⟨_, hp⟩ := hp
          refine st_index (E := Ek.bool) hf (by decide) Try.underlying25 elt4 rfl rfl rfl (FzP.rd hbx1_bits (rl15.ara hp)) hc19.1 hc19.2 ?_
          clear hf; intro a ha hf
          exact st_nil hf (th_n ⟨ha, rfl⟩)
        clear hf; intro a hf
        refine dr_take 9 (.bool (gt bx1_bits i5)) rfl (by kernel_rfl) (by kernel_rfl) (by kernel_rfl) (by kernel_rfl) rfl rfl hf (by decide) rfl (fun w hp => ?_) ⟨_, hp⟩ ?_
        · obtain ⟨_, hp⟩ := hp
          refine st_ldB hf (by decide) pl4 rfl rfl (FzP.rd hbx1_bits (rl15.ara hp)) hc19.1 hc19.2 ?_
          clear hf; intro a ha hf
          exact st_nil hf (th_n ⟨ha, rfl⟩)
        clear hf; intro a hf
        refine dr_take 10 (.bool ((gt ax0_bits i5) != (gt bx1_bits i5))) rfl (by kernel_rfl) (by kernel_rfl) (by kernel_rfl) (by kernel_rfl) rfl rfl hf (by decide) rfl (fun w hp => ?_) ⟨_, hp⟩ ?_
        · obtain ⟨_, hp⟩ := hp
          refine st_bneq hf (by decide) Try.underlying4 rfl rfl rfl ?_
          clear hf; intro a ha hf
          exact st_nil hf (th_n ⟨ha, rfl⟩)
        clear hf; intro a hf
        refine dr_end (by kernel_rfl) ?_ _
        have hp := bk14 _ _ hp
        have hp := bk9 _ _ hp
        exact ⟨hf.sub ⟨rfl, rfl, rfl, rfl, trivial⟩, hp⟩
      rintro a w ⟨hf, hp⟩
      refine th_n ?_
      refine wp_if hf rfl (fun hb => ?_) (fun hb => ?_)
      · replace h := ifT h hb
        refine wp_seq ?_
        refine wp_reg ?_
        refine st_fa (o' := 0) hf (by decide) (off := 0) (sz := 1) (by kernel_rfl) (by decide) rfl rfl (hp.ob (i := 0) rfl) rfl ?_
        clear hf; intro a ha hf; clear ha
        refine st_ldO (u := vax0_bits) hf (by decide) pl25 rfl rfl (hp.ob (i := 0) rfl) rfl ?_
        clear hf; intro a ha hf; clear ha
        refine st_move hf rfl rfl (by decide) ?_
        clear hf; intro a ha hf; clear ha
        obtain ⟨hc20, h⟩ := chk h
        refine st_index (E := Ek.bool) hf (by decide) Try.underlying25 elt4 rfl rfl rfl (FzP.rd hax0_bits (hA.ara hp)) hc20.1 hc20.2 ?_
        clear hf; intro a ha hf; clear ha
        refine st_ldB hf (by decide) pl4 rfl rfl (FzP.rd hax0_bits (hA.ara hp)) hc20.1 hc20.2 ?_
        clear hf; intro a ha hf; clear ha
        refine st_not hf (by decide) rfl rfl ?_
        clear hf; intro a ha hf; clear ha
        refine st_assign hf rfl rfl (by decide) ?_
        clear hf; intro a ha hf; clear ha
        refine st_nil hf ?_
        refine th_n ?_
        refine wp_ret ?_
        refine ib_r ?_
        refine th_r ?_
        obtain rfl := Option.some.inj h
        have hp : Hp _ _ _ (ow) := Hp.sel (pre := [Res.obj 98 v1 [vax0_bits, .float .f64 bax0_cost], Res.obj 98 v3 [vbx1_bits, .float .f64 bbx1_cost]]) (tail := ow) (rs' := []) hp [] (by decide) (by simp) rfl
        exact rnd_r (by simp) ⟨rfl, ⟨hf.sub ⟨rfl, trivial⟩, hp⟩⟩
      replace h := ifF h hb
      refine wp_skip ?_
      refine ib_n ?_
      refine th_n ?_
      refine wp_reg ?_
      refine st_move hf rfl rfl (by decide) ?_
      clear hf; intro a ha hf; clear ha
      refine st_iadd hf (by decide) rfl rfl rfl ?_
      clear hf; intro a ha hf; clear ha
      refine st_assign hf rfl rfl (by decide) ?_
      clear hf; intro a ha hf; clear ha
      refine st_nil hf ?_
      obtain rfl := Option.some.inj h
      exact rnd_l ⟨hf.sub ⟨rfl, rfl, rfl, trivial⟩, hp⟩
    replace h := ifF h hb
    refine wp_exit ?_
    refine th_e ?_
    obtain rfl := Option.some.inj h
    have hp : Hp _ _ _ (ow) := Hp.sel (pre := [Res.obj 98 v1 [vax0_bits, .float .f64 bax0_cost], Res.obj 98 v3 [vbx1_bits, .float .f64 bbx1_cost]]) (tail := ow) (rs' := []) hp [] (by decide) (by simp) rfl
    exact rnd_r (by simp) ⟨rfl, hf.sub trivial, hp⟩
  clear hl hf hp
  intro e a w hne hO
  rcases q21 with q22 | q23
  · replace h := smL h
    obtain ⟨rfl, hf, hp⟩ := hO
    refine ib_same ?_
    refine th_n ?_
    refine wp_seq ?_
    refine wp_reg ?_
    refine st_assign hf rfl rfl (by decide) ?_
    clear hf; intro a ha hf; clear ha
    refine st_nil hf ?_
    refine th_n ?_
    refine wp_ret ?_
    obtain rfl := Option.some.inj h
    exact ⟨rfl, ⟨hf.sub ⟨rfl, trivial⟩, hp⟩⟩
  replace h := smR h
  obtain ⟨rfl, hf, hp⟩ := hO
  refine ib_r ?_
  refine th_r ?_
  obtain rfl := Option.some.inj h
  exact ⟨rfl, ⟨hf.sub ⟨rfl, trivial⟩, hp⟩⟩

noncomputable def f_foghornref23_put.j1 (l0 : (List ((List Bool) × Fl))) (i7 : Int) (out5 : (List ((List Bool) × Fl))) (done6 : Bool) : Option (((List ((List Bool) × Fl)) × Bool × Int) ⊕ ((List ((List Bool) × Fl)) × Bool)) := (if 0 ≤ i7 ∧ i7 < (l0.length : Int) then (if (out5.length + ([((gt l0 i7).1, (gt l0 i7).2)]).length) * 32 ≤ 140737488355328 then (some (Sum.inl ((out5 ++ [((gt l0 i7).1, (gt l0 i7).2)]), done6, (IntKind.i64.wrap (i7 + (1 : Int)))))) else none) else none)
noncomputable def f_foghornref23_put.s1c (l0 : (List ((List Bool) × Fl))) (wx1_bits : (List Bool)) (wx1_cost : Fl) (out5 : (List ((List Bool) × Fl))) (done6 : Bool) (i7 : Int) : Option (((List ((List Bool) × Fl)) × Bool × Int) ⊕ ((List ((List Bool) × Fl)) × Bool)) := (if (decide (i7 < (l0.length : Int))) = true then ((if (!done6) = true then (if 0 ≤ i7 ∧ i7 < (l0.length : Int) then ((f_foghornref23_ahead wx1_bits wx1_cost ((gt l0 i7).1) ((gt l0 i7).2)).bind fun q38 => (some q38)) else none) else (some false)).bind fun z40 => (if z40 = true then (if (out5.length + ([(wx1_bits, wx1_cost)]).length) * 32 ≤ 140737488355328 then (f_foghornref23_put.j1 l0 i7 (out5 ++ [(wx1_bits, wx1_cost)]) true) else none) else (f_foghornref23_put.j1 l0 i7 out5 done6))) else (some (Sum.inr (out5, done6))))
noncomputable def f_foghornref23_put.s1 (l0 : (List ((List Bool) × Fl))) (wx1_bits : (List Bool)) (wx1_cost : Fl) (s : ((List ((List Bool) × Fl)) × Bool × Int)) : Option (((List ((List Bool) × Fl)) × Bool × Int) ⊕ ((List ((List Bool) × Fl)) × Bool)) := f_foghornref23_put.s1c l0 wx1_bits wx1_cost s.1 s.2.1 s.2.2
noncomputable def f_foghornref23_put.j2 (out5 : (List ((List Bool) × Fl))) : Option (List ((List Bool) × Fl)) := (if (decide ((2 : Int) < (out5.length : Int))) = true then (if 0 ≤ (2 : Int) ∧ (2 : Int) ≤ ((out5 ++ ([] : List ((List Bool) × Fl))).length : Int) then (some ((out5 ++ ([] : List ((List Bool) × Fl))).take (((2 : Int)).toNat))) else none) else (some out5))
noncomputable def f_foghornref23_put (l0 : (List ((List Bool) × Fl))) (wx1_bits : (List Bool)) (wx1_cost : Fl) : Option (List ((List Bool) × Fl)) := ((loop (f_foghornref23_put.s1 l0 wx1_bits wx1_cost) ([], false, (0 : Int))).bind (fun q45 => (if (!q45.2) = true then (if (q45.1.length + ([(wx1_bits, wx1_cost)]).length) * 32 ≤ 140737488355328 then (f_foghornref23_put.j2 (q45.1 ++ [(wx1_bits, wx1_cost)])) else none) else (f_foghornref23_put.j2 q45.1))))
theorem f_foghornref23_put_c {S : Nat → Prop} {w0 w : World} {ow : List Res} (hp : Hp S w0 w ow) (bs : List FZ) (hA : RdF S w0 bs) (vl0 : Value) (l0 : (List ((List Bool) × Fl))) (hl0 : RdS (Ek.pair (Ek.fz bs) Ek.f64) S w0 vl0 l0) (vwx1_bits : Value) (wx1_bits : List Bool) (hwx1_bits : FzP bs vwx1_bits wx1_bits) (bwx1_cost : Nat) (wx1_cost : Fl) (hwx1_cost : wx1_cost.rep bwx1_cost) {r : (List ((List Bool) × Fl))} (h : f_foghornref23_put l0 wx1_bits wx1_cost = some r) :
   Calls Try.prog 66 #[vl0, .agg #[vwx1_bits, .float .f64 bwx1_cost]] w (fun e w' => ∃ (u0 : Value), e = .returned (u0) ∧ Hp S w0 w' (Res.sl (Ek.pair (Ek.fz bs) Ek.f64) 98 u0 r :: ow)) := by
  unfold f_foghornref23_put at h
  refine enter (n := 47) (args := [vl0, .agg #[vwx1_bits, .float .f64 bwx1_cost]]) Try.func66 rfl rfl (Nat.le_of_ble_eq_true rfl) fun a hf => ?_
  replace hf : Fr 47 a [(0, vl0), (1, .agg #[vwx1_bits, .float .f64 bwx1_cost])] := hf
  refine wp_mono (Q := fun e a w => e = .ret ∧ ∃ (u0 : Value), Fr 47 a [(4, u0)] ∧ Hp S w0 w (Res.sl (Ek.pair (Ek.fz bs) Ek.f64) 98 u0 r :: ow)) ?_ ?_
  rotate_left
  ·
   rintro e a w ⟨rfl, x0, hf, hp⟩
   exact ret1 hf rfl rfl ⟨x0, rfl, hp⟩
  refine wp_seq ?_
  refine wp_reg ?_
  refine st_boxO (cs := [vwx1_bits, .float .f64 bwx1_cost]) hf (by decide) hp rfl rfl rfl ?_
  clear hf; intro a w v1 hf hp0; clear hp; have hp := hp0; clear hp0
  replace hp : Hp _ _ _ (Res.obj 98 v1 [vwx1_bits, .float .f64 bwx1_cost] :: ow) := hp
  refine st_assign hf rfl rfl (by decide) ?_
  clear hf; intro a ha hf; clear ha
  refine st_nil hf ?_
  refine th_n ?_
  refine wp_seq ?_
  refine wp_reg ?_
  refine st_assign hf rfl rfl (by decide) ?_
  clear hf; intro a ha hf; clear ha
  refine st_nil hf ?_
  refine th_n ?_
  refine wp_seq ?_
  refine wp_reg ?_
  refine st_assign hf rfl rfl (by decide) ?_
  clear hf; intro a ha hf; clear ha
  refine st_nil hf ?_
  refine th_n ?_
  refine wp_seq ?_
  refine wp_seq ?_
  refine wp_reg ?_
  refine st_assign hf rfl rfl (by decide) ?_
  clear hf; intro a ha hf; clear ha
  refine st_nil hf ?_
  refine th_n ?_
  refine wp_block ?_
  obtain ⟨q45, hl, h⟩ := bnd h
  have hp := hp.nil (Ek.pair (Ek.fz bs) Ek.f64) 98
  refine wp_loop_pure (f := (f_foghornref23_put.s1 l0 wx1_bits wx1_cost)) (s := ([], false, (0 : Int))) (fun s a w => ∃ (v3 : Value), Fr 47 a [(0, vl0), (3, optr v1 0), (5, v3), (6, .bool s.2.1), (7, .int .i64 s.2.2)] ∧ Hp S w0 w (Res.sl (Ek.pair (Ek.fz bs) Ek.f64) 98 v3 s.1 :: Res.obj 98 v1 [vwx1_bits, .float .f64 bwx1_cost] :: ow)) (fun q e a w => e = .exit 0 ∧ ∃ (v5 : Value), Fr 47 a [(3, optr v1 0), (5, v5), (6, .bool q.2)] ∧ Hp S w0 w (Res.sl (Ek.pair (Ek.fz bs) Ek.f64) 98 v5 q.1 :: Res.obj 98 v1 [vwx1_bits, .float .f64 bwx1_cost] :: ow)) ?_ hl ⟨_, hf.sub ⟨rfl, rfl, rfl, rfl, rfl, trivial⟩, hp⟩ ?_
  ·
   clear hl hf hp
   intro s x a w h hI
   obtain ⟨out5, done6, i7⟩ := s
   obtain ⟨v3, hf, hp⟩ : ∃ (v3 : Value), Fr 47 a [(0, vl0), (3, optr v1 0), (5, v3), (6, .bool done6), (7, .int .i64 i7)] ∧ Hp S w0 w (Res.sl (Ek.pair (Ek.fz bs) Ek.f64) 98 v3 out5 :: Res.obj 98 v1 [vwx1_bits, .float .f64 bwx1_cost] :: ow) := hI
   replace h : f_foghornref23_put.s1c l0 wx1_bits wx1_cost out5 done6 i7 = some x := h
   unfold f_foghornref23_put.s1c at h
   refine wp_seq ?_
   refine wp_seq ?_
   refine wp_reg ?_
   refine st_move hf rfl rfl (by decide) ?_
   clear hf; intro a ha hf; clear ha
   refine st_move hf rfl rfl (by decide) ?_
   clear hf; intro a ha hf; clear ha
   refine st_len (E := (Ek.pair (Ek.fz bs) Ek.f64)) hf (by decide) Try.underlying94 rfl rfl (hl0.sl hp) ?_
   clear hf; intro a ha hf; clear ha
   refine st_ilss hf (by decide) rfl rfl rfl ?_
   clear hf; intro a ha hf; clear ha
   refine st_nil hf ?_
   refine th_n ?_
   refine wp_if hf rfl (fun hb => ?_) (fun hb => ?_)
   ·
    replace h := ifT h hb
    refine wp_skip ?_
    refine th_n ?_
    refine wp_seq ?_
    refine wp_block ?_
    refine wp_seq_cut (fun a w => ∃ (out5 : (List ((List Bool) × Fl))) (done6 : Bool) (v7 : Value), f_foghornref23_put.j1 l0 i7 out5 done6 = some x ∧ Fr 47 a [(0, vl0), (3, optr v1 0), (5, v7), (6, .bool done6), (7, .int .i64 i7)] ∧ Hp S w0 w (Res.sl (Ek.pair (Ek.fz bs) Ek.f64) 98 v7 out5 :: Res.obj 98 v1 [vwx1_bits, .float .f64 bwx1_cost] :: ow)) ?_ ?_
    ·
     refine wp_seq ?_
     obtain ⟨S20, hp21, rd22, up23, bk24⟩ := Hp.lendO hp (i := 1) rfl
     have rl25 := ((hA.now hp).mono up23)
     have rl26 := ((hl0.now hp).mono up23)
     have rl27 := rd22
     obtain ⟨z40, hz28, h⟩ := bnd h
     refine wp_cutN (fun a w => Fr 47 a [(0, vl0), (3, optr v1 0), (5, v3), (6, .bool done6), (7, .int .i64 i7), (23, .bool z40)] ∧ Hp S w0 w (Res.obj 98 v1 [vwx1_bits, .float .f64 bwx1_cost] :: Res.sl (Ek.pair (Ek.fz bs) Ek.f64) 98 v3 out5 :: ow)) ?_ ?_
     ·
      have hp := hp21.same (Same.drew w)
      rcases Bool.eq_false_or_eq_true (!done6) with hb29 | hb29
      ·
       replace hz28 := ifT hz28 hb29
       obtain ⟨hc30, hz28⟩ := chk hz28
       obtain ⟨ds32, hr37, hl31⟩ := RdS.pinWhole (p := i7) rl26 hc30.1 hc30.2
       obtain ⟨_, _, rfl, ⟨v33, rfl, y34⟩, ⟨bb35, rfl, y36⟩⟩ := hr37
       obtain ⟨q38, hcall39, hz28⟩ := bnd hz28
       replace hz28 := Option.some.inj hz28
       refine dr_begin' _ (fun w' => ∃ l, Hp S20 w w' l) [] (by kernel_rfl) ?_
       refine dr_takeK 0 (.bool done6) rfl hf rfl (fun w ⟨_, hp⟩ => ?_) ⟨_, hp⟩ ?_
       · exact st_move hf rfl rfl (by decide) tk
       clear hf; intro a hf
       refine dr_takeK 1 (.bool (!done6)) rfl hf rfl (fun w ⟨_, hp⟩ => ?_) ⟨_, hp⟩ ?_
       · exact st_not hf (by decide) rfl rfl tk
       clear hf; intro a hf
       refine dr_takeK 2 (.bool (!done6)) rfl hf rfl (fun w ⟨_, hp⟩ => ?_) ⟨_, hp⟩ ?_
       · exact st_move hf rfl rfl (by decide) tk
       clear hf; intro a hf
       refine dr_takeK 3 (.agg #[vwx1_bits, .float .f64 bwx1_cost]) rfl hf (wantY hf rfl rfl hb29) (fun w ⟨_, hp⟩ => ?_) ⟨_, hp⟩ ?_
       · exact st_ldOA (m := 2) (us := [vwx1_bits, .float .f64 bwx1_cost]) hf (by decide) (by kernel_rfl) (wantY hf rfl rfl hb29) rfl (rl27.ob hp) rfl rfl tk
       clear hf; intro a hf
       refine dr_takeK 4 (vl0) rfl hf (wantY hf rfl rfl hb29) (fun w ⟨_, hp⟩ => ?_) ⟨_, hp⟩ ?_
       · exact st_move hf (wantY hf rfl rfl hb29) rfl (by decide) tk
       clear hf; intro a hf
       refine dr_takeK 5 (.int .i64 i7) rfl hf (wantY hf rfl rfl hb29) (fun w ⟨_, hp⟩ => ?_) ⟨_, hp⟩ ?_
       · exact st_move hf (wantY hf rfl rfl hb29) rfl (by decide) tk
       clear hf; intro a hf
       refine dr_takeK 6 (eptr vl0 i7 2) rfl hf (wantY hf rfl rfl hb29) (fun w ⟨_, hp⟩ => ?_) ⟨_, hp⟩ ?_
       · exact st_index (E := (Ek.pair (Ek.fz bs) Ek.f64)) hf (by decide) Try.underlying94 (elt98 bs) (wantY hf rfl rfl hb29) rfl rfl (rl26.sl hp) hc30.1 hc30.2 tk
       clear hf; intro a hf
       refine dr_takeK 7 (.agg #[v33, .float .f64 bb35]) rfl hf (wantY hf rfl rfl hb29) (fun w ⟨_, hp⟩ => ?_) ⟨_, hp⟩ ?_
       · exact st_ldPA (us := [v33, .float .f64 bb35]) hf (by decide) (by kernel_rfl) rfl (wantY hf rfl rfl hb29) rfl (hl31 _ _ hp) tk
       clear hf; intro a hf
       refine dr_one 8 rfl (by kernel_rfl) ?_
       refine st_call hf (by decide) Try.func70 rfl rfl (wantY hf rfl rfl hb29) rfl rfl (f_foghornref23_ahead_c hp _ rl25 _ _ hwx1_bits _ _ (show Fl.rep bwx1_cost wx1_cost from hwx1_cost) _ _ y34 _ _ (show Fl.rep bb35 ((gt l0 i7).2) from y36) hcall39) ?_
       rintro _ w ⟨rfl, hp0⟩
       clear hp; have hp := hp0; clear hp0
       replace hp : Hp _ _ _ (Res.sl (Ek.pair (Ek.fz bs) Ek.f64) 98 v3 out5 :: ow) := hp
       refine ⟨_, rfl, ?_⟩
       clear hf; intro a hf
       refine nx hf (fun _ _ => ⟨_, hp⟩) ?_
       refine dr_takeK 9 (.bool z40) rfl hf rfl (fun w ⟨_, hp⟩ => ?_) ⟨_, hp⟩ ?_
       · exact st_pick (v := .bool z40) hf rfl rfl (fun _ => by rw [← hz28]; rfl) (fun hb' => absurd (hb29.symm.trans hb') (by decide)) (by decide) tk
       clear hf; intro a hf
       refine dr_end (by kernel_rfl) ?_ _
       have hp := bk24 _ _ hp
       exact ⟨hf.sub ⟨rfl, rfl, rfl, rfl, rfl, rfl, trivial⟩, hp⟩
      skip
      replace hz28 := ifF hz28 hb29
      replace hz28 := Option.some.inj hz28
      refine dr_begin' _ (fun w' => ∃ l, Hp S20 w w' l) [] (by kernel_rfl) ?_
      refine dr_takeK 0 (.bool done6) rfl hf rfl (fun w ⟨_, hp⟩ => ?_) ⟨_, hp⟩ ?_
      · exact st_move hf rfl rfl (by decide) tk
      clear hf; intro a hf
      refine dr_takeK 1 (.bool (!done6)) rfl hf rfl (fun w ⟨_, hp⟩ => ?_) ⟨_, hp⟩ ?_
      · exact st_not hf (by decide) rfl rfl tk
      clear hf; intro a hf
      refine dr_takeK 2 (.bool (!done6)) rfl hf rfl (fun w ⟨_, hp⟩ => ?_) ⟨_, hp⟩ ?_
      · exact st_move hf rfl rfl (by decide) tk
      clear hf; intro a hf
      refine dr_outK 3 rfl hf rfl (wantN hf rfl rfl hb29) ⟨_, hp⟩ ?_
      clear hf; intro a hf
      refine dr_outK 4 rfl hf rfl (wantN hf rfl rfl hb29) ⟨_, hp⟩ ?_
      clear hf; intro a hf
      refine dr_outK 5 rfl hf rfl (wantN hf rfl rfl hb29) ⟨_, hp⟩ ?_
      clear hf; intro a hf
      refine dr_outK 6 rfl hf rfl (wantN hf rfl rfl hb29) ⟨_, hp⟩ ?_
      clear hf; intro a hf
      refine dr_outK 7 rfl hf rfl (wantN hf rfl rfl hb29) ⟨_, hp⟩ ?_
      clear hf; intro a hf
      refine dr_outK 8 rfl hf rfl (wantN hf rfl rfl hb29) ⟨_, hp⟩ ?_
      clear hf; intro a hf
      refine dr_takeK 9 (.bool z40) rfl hf rfl (fun w ⟨_, hp⟩ => ?_) ⟨_, hp⟩ ?_
      · exact st_pick (v := .bool z40) hf rfl rfl (fun hb' => absurd (hb29.symm.trans hb') (by decide)) (fun _ => by rw [← hz28]; rfl) (by decide) tk
      clear hf; intro a hf
      refine dr_end (by kernel_rfl) ?_ _
      have hp := bk24 _ _ hp
      exact ⟨hf.sub ⟨rfl, rfl, rfl, rfl, rfl, rfl, trivial⟩, hp⟩
     rintro a w ⟨hf, hp⟩
     refine th_n ?_
     refine wp_if hf rfl (fun hb => ?_) (fun hb => ?_)
     ·
      replace h := ifT h hb
      refine wp_seq ?_
      refine wp_reg ?_
      refine st_move hf rfl rfl (by decide) ?_
      clear hf; intro a ha hf; clear ha
      refine st_ldOA (m := 2) (us := [vwx1_bits, .float .f64 bwx1_cost]) hf (by decide) (by kernel_rfl) rfl rfl (hp.ob (i := 0) rfl) rfl rfl ?_
      clear hf; intro a ha hf; clear ha
      refine st_build (E := (Ek.pair (Ek.fz bs) Ek.f64)) (xs := [(wx1_bits, wx1_cost)]) hf (by decide) (elt98 bs) Try.underlying94 hp (vals := #[(0, .agg #[vwx1_bits, .float .f64 bwx1_cost])]) (cells := #[vwx1_bits, .float .f64 bwx1_cost]) rfl (by simp [hf.ev (x := (Operand.tmp 25)) rfl]) (Nat.le_of_ble_eq_true rfl) (Nat.le_of_ble_eq_true rfl) (z := .agg #[.slice none 0 0, .float .f64 0]) (by kernel_rfl) (by kernel_rfl) rfl (reps_cons (cs := [vwx1_bits, .float .f64 bwx1_cost]) ⟨[vwx1_bits], [.float .f64 bwx1_cost], rfl, ⟨_, rfl, hwx1_bits⟩, (show Ek.f64.rep [.float .f64 bwx1_cost] wx1_cost from ⟨_, rfl, hwx1_cost⟩)⟩ (reps_nil _)) ?_
      clear hf; intro a w v41 hf hp0; clear hp; have hp := hp0; clear hp0
      replace hp : Hp _ _ _ (Res.sl (Ek.pair (Ek.fz bs) Ek.f64) 98 v41 ([(wx1_bits, wx1_cost)]) :: Res.obj 98 v1 [vwx1_bits, .float .f64 bwx1_cost] :: _ :: ow) := hp
      obtain ⟨hc43, h⟩ := chk h
      refine st_append (E := (Ek.pair (Ek.fz bs) Ek.f64)) hf (by decide) (elt98 bs) Try.underlying94 (by decide) hp (i := 2) rfl rfl rfl rfl (hp.sl (i := 0) rfl) hc43 ?_
      clear hf; intro a w v44 hf hp0; clear hp; have hp := hp0; clear hp0
      replace hp : Hp _ _ _ (_ :: _ :: Res.sl (Ek.pair (Ek.fz bs) Ek.f64) 98 v44 (out5 ++ [(wx1_bits, wx1_cost)]) :: ow) := hp
      refine st_assign hf rfl rfl (by decide) ?_
      clear hf; intro a ha hf; clear ha
      refine st_nil hf ?_
      refine th_n ?_
      refine wp_reg ?_
      refine st_assign hf rfl rfl (by decide) ?_
      clear hf; intro a ha hf; clear ha
      refine st_nil hf ?_
      have hp : Hp _ _ _ (_ :: _ :: ow) := Hp.sel (pre := [Res.sl (Ek.pair (Ek.fz bs) Ek.f64) 98 v41 ([(wx1_bits, wx1_cost)]), Res.obj 98 v1 [vwx1_bits, .float .f64 bwx1_cost], Res.sl (Ek.pair (Ek.fz bs) Ek.f64) 98 v44 (out5 ++ [(wx1_bits, wx1_cost)])]) (tail := ow) (rs' := [Res.sl (Ek.pair (Ek.fz bs) Ek.f64) 98 v44 (out5 ++ [(wx1_bits, wx1_cost)]), Res.obj 98 v1 [vwx1_bits, .float .f64 bwx1_cost]]) hp [2, 1] (by decide) (by simp) rfl
      refine th_n ?_
      exact ⟨_, _, _, h, hf.sub ⟨rfl, rfl, rfl, rfl, rfl, trivial⟩, hp⟩
     replace h := ifF h hb
     refine wp_skip ?_
     have hp : Hp _ _ _ (Res.sl (Ek.pair (Ek.fz bs) Ek.f64) 98 v3 out5 :: _ :: ow) := Hp.sel (pre := [Res.obj 98 v1 [vwx1_bits, .float .f64 bwx1_cost], Res.sl (Ek.pair (Ek.fz bs) Ek.f64) 98 v3 out5]) (tail := ow) (rs' := [Res.sl (Ek.pair (Ek.fz bs) Ek.f64) 98 v3 out5, Res.obj 98 v1 [vwx1_bits, .float .f64 bwx1_cost]]) hp [1, 0] (by decide) (by simp) rfl
     refine th_n ?_
     exact ⟨_, _, _, h, hf.sub ⟨rfl, rfl, rfl, rfl, rfl, trivial⟩, hp⟩
    rintro a w ⟨out5, done6, v7, h, hf, hp⟩
    unfold f_foghornref23_put.j1 at h
    refine wp_reg ?_
    refine st_move hf rfl rfl (by decide) ?_
    clear hf; intro a ha hf; clear ha
    refine st_move hf rfl rfl (by decide) ?_
    clear hf; intro a ha hf; clear ha
    refine st_move hf rfl rfl (by decide) ?_
    clear hf; intro a ha hf; clear ha
    obtain ⟨hc9, h⟩ := chk h
    refine st_index (E := (Ek.pair (Ek.fz bs) Ek.f64)) hf (by decide) Try.underlying94 (elt98 bs) rfl rfl rfl (hl0.sl hp) hc9.1 hc9.2 ?_
    clear hf; intro a ha hf; clear ha
    refine st_ldQA (F := (Ek.pair (Ek.fz bs) Ek.f64)) (yv := (gt l0 i7)) (m := 2) hf (by decide) (by kernel_rfl) rfl rfl rfl (Part.whole (hl0.sl hp) hc9.1 hc9.2) ?_
    clear hf; intro a cs10 hr11 ha hf; clear ha
    obtain ⟨_, _, rfl, ⟨v12, rfl, y13⟩, ⟨bb14, rfl, y15⟩⟩ := hr11
    replace hf : Fr _ _ ((32, .agg #[v12, .float .f64 bb14]) :: _) := hf
    refine st_build (E := (Ek.pair (Ek.fz bs) Ek.f64)) (xs := [((gt l0 i7).1, (gt l0 i7).2)]) hf (by decide) (elt98 bs) Try.underlying94 hp (vals := #[(0, .agg #[v12, .float .f64 bb14])]) (cells := #[v12, .float .f64 bb14]) rfl (by simp [hf.ev (x := (Operand.tmp 32)) rfl]) (Nat.le_of_ble_eq_true rfl) (Nat.le_of_ble_eq_true rfl) (z := .agg #[.slice none 0 0, .float .f64 0]) (by kernel_rfl) (by kernel_rfl) rfl (reps_cons (cs := [v12, .float .f64 bb14]) ⟨[v12], [.float .f64 bb14], rfl, ⟨_, rfl, y13⟩, (show Ek.f64.rep [.float .f64 bb14] ((gt l0 i7).2) from ⟨_, rfl, y15⟩)⟩ (reps_nil _)) ?_
    clear hf; intro a w v16 hf hp0; clear hp; have hp := hp0; clear hp0
    replace hp : Hp _ _ _ (Res.sl (Ek.pair (Ek.fz bs) Ek.f64) 98 v16 ([((gt l0 i7).1, (gt l0 i7).2)]) :: Res.sl (Ek.pair (Ek.fz bs) Ek.f64) 98 v7 out5 :: _ :: ow) := hp
    obtain ⟨hc18, h⟩ := chk h
    refine st_append (E := (Ek.pair (Ek.fz bs) Ek.f64)) hf (by decide) (elt98 bs) Try.underlying94 (by decide) hp (i := 1) rfl rfl rfl rfl (hp.sl (i := 0) rfl) hc18 ?_
    clear hf; intro a w v19 hf hp0; clear hp; have hp := hp0; clear hp0
    replace hp : Hp _ _ _ (_ :: Res.sl (Ek.pair (Ek.fz bs) Ek.f64) 98 v19 (out5 ++ [((gt l0 i7).1, (gt l0 i7).2)]) :: _ :: ow) := hp
    refine st_assign hf rfl rfl (by decide) ?_
    clear hf; intro a ha hf; clear ha
    refine st_nil hf ?_
    refine ib_n ?_
    refine th_n ?_
    refine wp_reg ?_
    refine st_move hf rfl rfl (by decide) ?_
    clear hf; intro a ha hf; clear ha
    refine st_iadd hf (by decide) rfl rfl rfl ?_
    clear hf; intro a ha hf; clear ha
    refine st_assign hf rfl rfl (by decide) ?_
    clear hf; intro a ha hf; clear ha
    refine st_nil hf ?_
    obtain rfl := Option.some.inj h
    have hp : Hp _ _ _ (_ :: _ :: ow) := Hp.sel (pre := [Res.sl (Ek.pair (Ek.fz bs) Ek.f64) 98 v16 ([((gt l0 i7).1, (gt l0 i7).2)]), Res.sl (Ek.pair (Ek.fz bs) Ek.f64) 98 v19 (out5 ++ [((gt l0 i7).1, (gt l0 i7).2)]), Res.obj 98 v1 [vwx1_bits, .float .f64 bwx1_cost]]) (tail := ow) (rs' := [Res.sl (Ek.pair (Ek.fz bs) Ek.f64) 98 v19 (out5 ++ [((gt l0 i7).1, (gt l0 i7).2)]), Res.obj 98 v1 [vwx1_bits, .float .f64 bwx1_cost]]) hp [1, 2] (by decide) (by simp) rfl
    exact rnd_l ⟨_, hf.sub ⟨rfl, rfl, rfl, rfl, rfl, trivial⟩, hp⟩
   replace h := ifF h hb
   refine wp_exit ?_
   refine th_e ?_
   obtain rfl := Option.some.inj h
   exact rnd_r (by simp) ⟨rfl, _, hf.sub ⟨rfl, rfl, rfl, trivial⟩, hp⟩
  clear hl hf hp
  intro e a w hne hO
  obtain ⟨rfl, v5, hf, hp⟩ := hO
  refine ib_same ?_
  refine th_n ?_
  refine wp_seq_cut (fun a w => ∃ (out5 : (List ((List Bool) × Fl))) (v47 : Value), f_foghornref23_put.j2 out5 = some r ∧ Fr 47 a [(5, v47)] ∧ Hp S w0 w (Res.sl (Ek.pair (Ek.fz bs) Ek.f64) 98 v47 out5 :: ow)) ?_ ?_
  ·
   refine wp_seq ?_
   refine wp_reg ?_
   refine st_move hf rfl rfl (by decide) ?_
   clear hf; intro a ha hf; clear ha
   refine st_not hf (by decide) rfl rfl ?_
   clear hf; intro a ha hf; clear ha
   refine st_nil hf ?_
   refine th_n ?_
   refine wp_if hf rfl (fun hb => ?_) (fun hb => ?_)
   ·
    replace h := ifT h hb
    refine wp_reg ?_
    refine st_move hf rfl rfl (by decide) ?_
    clear hf; intro a ha hf; clear ha
    refine st_ldOA (m := 2) (us := [vwx1_bits, .float .f64 bwx1_cost]) hf (by decide) (by kernel_rfl) rfl rfl (hp.ob (i := 1) rfl) rfl rfl ?_
    clear hf; intro a ha hf; clear ha
    refine st_build (E := (Ek.pair (Ek.fz bs) Ek.f64)) (xs := [(wx1_bits, wx1_cost)]) hf (by decide) (elt98 bs) Try.underlying94 hp (vals := #[(0, .agg #[vwx1_bits, .float .f64 bwx1_cost])]) (cells := #[vwx1_bits, .float .f64 bwx1_cost]) rfl (by simp [hf.ev (x := (Operand.tmp 38)) rfl]) (Nat.le_of_ble_eq_true rfl) (Nat.le_of_ble_eq_true rfl) (z := .agg #[.slice none 0 0, .float .f64 0]) (by kernel_rfl) (by kernel_rfl) rfl (reps_cons (cs := [vwx1_bits, .float .f64 bwx1_cost]) ⟨[vwx1_bits], [.float .f64 bwx1_cost], rfl, ⟨_, rfl, hwx1_bits⟩, (show Ek.f64.rep [.float .f64 bwx1_cost] wx1_cost from ⟨_, rfl, hwx1_cost⟩)⟩ (reps_nil _)) ?_
    clear hf; intro a w v52 hf hp0; clear hp; have hp := hp0; clear hp0
    replace hp : Hp _ _ _ (Res.sl (Ek.pair (Ek.fz bs) Ek.f64) 98 v52 ([(wx1_bits, wx1_cost)]) :: Res.sl (Ek.pair (Ek.fz bs) Ek.f64) 98 v5 q45.1 :: _ :: ow) := hp
    obtain ⟨hc54, h⟩ := chk h
    refine st_append (E := (Ek.pair (Ek.fz bs) Ek.f64)) hf (by decide) (elt98 bs) Try.underlying94 (by decide) hp (i := 1) rfl rfl rfl rfl (hp.sl (i := 0) rfl) hc54 ?_
    clear hf; intro a w v55 hf hp0; clear hp; have hp := hp0; clear hp0
    replace hp : Hp _ _ _ (_ :: Res.sl (Ek.pair (Ek.fz bs) Ek.f64) 98 v55 (q45.1 ++ [(wx1_bits, wx1_cost)]) :: _ :: ow) := hp
    refine st_assign hf rfl rfl (by decide) ?_
    clear hf; intro a ha hf; clear ha
    refine st_nil hf ?_
    have hp : Hp _ _ _ (_ :: ow) := Hp.sel (pre := [Res.sl (Ek.pair (Ek.fz bs) Ek.f64) 98 v52 ([(wx1_bits, wx1_cost)]), Res.sl (Ek.pair (Ek.fz bs) Ek.f64) 98 v55 (q45.1 ++ [(wx1_bits, wx1_cost)]), Res.obj 98 v1 [vwx1_bits, .float .f64 bwx1_cost]]) (tail := ow) (rs' := [Res.sl (Ek.pair (Ek.fz bs) Ek.f64) 98 v55 (q45.1 ++ [(wx1_bits, wx1_cost)])]) hp [1] (by decide) (by simp) rfl
    refine th_n ?_
    exact ⟨_, _, h, hf.sub ⟨rfl, trivial⟩, hp⟩
   replace h := ifF h hb
   refine wp_skip ?_
   have hp : Hp _ _ _ (Res.sl (Ek.pair (Ek.fz bs) Ek.f64) 98 v5 q45.1 :: ow) := Hp.sel (pre := [Res.sl (Ek.pair (Ek.fz bs) Ek.f64) 98 v5 q45.1, Res.obj 98 v1 [vwx1_bits, .float .f64 bwx1_cost]]) (tail := ow) (rs' := [Res.sl (Ek.pair (Ek.fz bs) Ek.f64) 98 v5 q45.1]) hp [0] (by decide) (by simp) rfl
   refine th_n ?_
   exact ⟨_, _, h, hf.sub ⟨rfl, trivial⟩, hp⟩
  rintro a w ⟨out5, v47, h, hf, hp⟩
  unfold f_foghornref23_put.j2 at h
  refine wp_seq ?_
  refine wp_seq ?_
  refine wp_reg ?_
  refine st_move hf rfl rfl (by decide) ?_
  clear hf; intro a ha hf; clear ha
  refine st_len (E := (Ek.pair (Ek.fz bs) Ek.f64)) hf (by decide) Try.underlying94 rfl rfl (hp.sl (i := 0) rfl) ?_
  clear hf; intro a ha hf; clear ha
  refine st_igtr hf (by decide) rfl rfl rfl ?_
  clear hf; intro a ha hf; clear ha
  refine st_nil hf ?_
  refine th_n ?_
  refine wp_if hf rfl (fun hb => ?_) (fun hb => ?_)
  ·
   replace h := ifT h hb
   refine wp_reg ?_
   refine st_move hf rfl rfl (by decide) ?_
   clear hf; intro a ha hf; clear ha
   obtain ⟨hc49, h⟩ := chk h
   have hc50 : 0 ≤ ((2 : Int)).toNat := by omega
   have hc51 : ((2 : Int)).toNat ≤ (out5 ++ ([] : List ((List Bool) × Fl))).length := by omega
   refine st_cutX (E := (Ek.pair (Ek.fz bs) Ek.f64)) hf (by decide) Try.underlying94 (elt98 bs) hp (i := 0) rfl rfl rfl (.inl ⟨rfl, rfl⟩) (.inr ⟨_, _, rfl, evI rfl (by omega)⟩) hc50 hc51 ?_
   clear hf; intro a ha hf; clear ha
   replace hp : Hp _ _ _ (Res.slx (Ek.pair (Ek.fz bs) Ek.f64) 98 (GL.cut v47 0 (((2 : Int)).toNat) 2) ((out5 ++ ([] : List ((List Bool) × Fl))).take (((2 : Int)).toNat)) ((out5 ++ ([] : List ((List Bool) × Fl))).drop (((2 : Int)).toNat)) :: ow) := hp.cutOwn (i := 0) rfl hc51
   refine st_assign hf rfl rfl (by decide) ?_
   clear hf; intro a ha hf; clear ha
   refine st_nil hf ?_
   refine th_n ?_
   refine wp_seq ?_
   refine wp_reg ?_
   refine st_move hf rfl rfl (by decide) ?_
   clear hf; intro a ha hf; clear ha
   refine st_assign hf rfl rfl (by decide) ?_
   clear hf; intro a ha hf; clear ha
   refine st_nil hf ?_
   refine th_n ?_
   refine wp_ret ?_
   obtain rfl := Option.some.inj h
   replace hp : Hp _ _ _ (Res.sl (Ek.pair (Ek.fz bs) Ek.f64) 98 (GL.cut v47 0 (((2 : Int)).toNat) 2) ((out5 ++ ([] : List ((List Bool) × Fl))).take (((2 : Int)).toNat)) :: ow) := hp.forget (i := 0) rfl
   exact ⟨rfl, ⟨_, hf.sub ⟨rfl, trivial⟩, hp⟩⟩
  replace h := ifF h hb
  refine wp_skip ?_
  refine th_n ?_
  refine wp_seq ?_
  refine wp_reg ?_
  refine st_move hf rfl rfl (by decide) ?_
  clear hf; intro a ha hf; clear ha
  refine st_assign hf rfl rfl (by decide) ?_
  clear hf; intro a ha hf; clear ha
  refine st_nil hf ?_
  refine th_n ?_
  refine wp_ret ?_
  obtain rfl := Option.some.inj h
  exact ⟨rfl, ⟨_, hf.sub ⟨rfl, trivial⟩, hp⟩⟩

noncomputable def f_foghornref23_run.s4c (cx0_Length : Int) (cx0_One : Int) (cx0_Two : Int) (l1 : (List ((Fl × Fl) × Bool))) (last2 : Int) (now9 : (List (List ((List Bool) × Fl)))) (i10 : Int) (sx12 : Int) (k13 : Int) (then11 : (List (List ((List Bool) × Fl)))) (bx14 : Int) : Option (((List (List ((List Bool) × Fl))) × Int) ⊕ (List (List ((List Bool) × Fl)))) := (if (decide (bx14 < (2 : Int))) = true then (if ((bx14 == (1 : Int)) && (decide ((IntKind.i64.wrap ((l1.length : Int) - last2)) ≤ i10))) = true then (some (Sum.inl (then11, (IntKind.i64.wrap (bx14 + (1 : Int)))))) else ((f_foghornref21_Go cx0_Length cx0_One cx0_Two sx12 (bx14 == (1 : Int))).bind fun q58 => (if 0 ≤ sx12 ∧ sx12 < (now9.length : Int) then (if 0 ≤ k13 ∧ k13 < ((gt now9 sx12).length : Int) then (if 0 ≤ i10 ∧ i10 < (l1.length : Int) then ((f_foghornref23_cost q58.2.1 q58.2.2 ((gt l1 i10).1) ((gt l1 i10).2)).bind fun q82 => (if 0 ≤ sx12 ∧ sx12 < (now9.length : Int) then (if 0 ≤ k13 ∧ k13 < ((gt now9 sx12).length : Int) then (if (([] : List Bool).length + ((gt (gt now9 sx12) k13).1).length) * 1 ≤ 140737488355328 then (if ((([] : List Bool) ++ (gt (gt now9 sx12) k13).1).length + ([(bx14 == (1 : Int))]).length) * 1 ≤ 140737488355328 then (if 0 ≤ q58.1 ∧ q58.1 < (then11.length : Int) then ((f_foghornref23_put (gt then11 q58.1) ((([] : List Bool) ++ (gt (gt now9 sx12) k13).1) ++ [(bx14 == (1 : Int))]) (fadd ((gt (gt now9 sx12) k13).2) q82)).bind fun q117 => (if 0 ≤ q58.1 ∧ q58.1 < (then11.length : Int) then (some (Sum.inl ((then11.set (q58.1).toNat (q117 : (List ((List Bool) × Fl)))), (IntKind.i64.wrap (bx14 + (1 : Int)))))) else none)) else none) else none) else none) else none) else none)) else none) else none) else none))) else (some (Sum.inr then11)))
noncomputable def f_foghornref23_run.s4 (cx0_Length : Int) (cx0_One : Int) (cx0_Two : Int) (l1 : (List ((Fl × Fl) × Bool))) (last2 : Int) (now9 : (List (List ((List Bool) × Fl)))) (i10 : Int) (sx12 : Int) (k13 : Int) (s : ((List (List ((List Bool) × Fl))) × Int)) : Option (((List (List ((List Bool) × Fl))) × Int) ⊕ (List (List ((List Bool) × Fl)))) := f_foghornref23_run.s4c cx0_Length cx0_One cx0_Two l1 last2 now9 i10 sx12 k13 s.1 s.2
noncomputable def f_foghornref23_run.s3c (cx0_Length : Int) (cx0_One : Int) (cx0_Two : Int) (l1 : (List ((Fl × Fl) × Bool))) (last2 : Int) (now9 : (List (List ((List Bool) × Fl)))) (i10 : Int) (sx12 : Int) (then11 : (List (List ((List Bool) × Fl)))) (k13 : Int) : Option (((List (List ((List Bool) × Fl))) × Int) ⊕ (List (List ((List Bool) × Fl)))) := (if 0 ≤ sx12 ∧ sx12 < (now9.length : Int) then (if (decide (k13 < ((gt now9 sx12).length : Int))) = true then ((loop (f_foghornref23_run.s4 cx0_Length cx0_One cx0_Two l1 last2 now9 i10 sx12 k13) (then11, (0 : Int))).bind (fun q127 => (some (Sum.inl (q127, (IntKind.i64.wrap (k13 + (1 : Int)))))))) else (some (Sum.inr then11))) else none)
noncomputable def f_foghornref23_run.s3 (cx0_Length : Int) (cx0_One : Int) (cx0_Two : Int) (l1 : (List ((Fl × Fl) × Bool))) (last2 : Int) (now9 : (List (List ((List Bool) × Fl)))) (i10 : Int) (sx12 : Int) (s : ((List (List ((List Bool) × Fl))) × Int)) : Option (((List (List ((List Bool) × Fl))) × Int) ⊕ (List (List ((List Bool) × Fl)))) := f_foghornref23_run.s3c cx0_Length cx0_One cx0_Two l1 last2 now9 i10 sx12 s.1 s.2
noncomputable def f_foghornref23_run.s2c (cx0_Length : Int) (cx0_One : Int) (cx0_Two : Int) (l1 : (List ((Fl × Fl) × Bool))) (last2 : Int) (q4 : (Int × Int)) (now9 : (List (List ((List Bool) × Fl)))) (i10 : Int) (then11 : (List (List ((List Bool) × Fl)))) (sx12 : Int) : Option (((List (List ((List Bool) × Fl))) × Int) ⊕ (List (List ((List Bool) × Fl)))) := (if (decide (sx12 < q4.1)) = true then ((loop (f_foghornref23_run.s3 cx0_Length cx0_One cx0_Two l1 last2 now9 i10 sx12) (then11, (0 : Int))).bind (fun q128 => (some (Sum.inl (q128, (IntKind.i64.wrap (sx12 + (1 : Int)))))))) else (some (Sum.inr then11)))
noncomputable def f_foghornref23_run.s2 (cx0_Length : Int) (cx0_One : Int) (cx0_Two : Int) (l1 : (List ((Fl × Fl) × Bool))) (last2 : Int) (q4 : (Int × Int)) (now9 : (List (List ((List Bool) × Fl)))) (i10 : Int) (s : ((List (List ((List Bool) × Fl))) × Int)) : Option (((List (List ((List Bool) × Fl))) × Int) ⊕ (List (List ((List Bool) × Fl)))) := f_foghornref23_run.s2c cx0_Length cx0_One cx0_Two l1 last2 q4 now9 i10 s.1 s.2
noncomputable def f_foghornref23_run.s1c (cx0_Length : Int) (cx0_One : Int) (cx0_Two : Int) (l1 : (List ((Fl × Fl) × Bool))) (last2 : Int) (q4 : (Int × Int)) (now9 : (List (List ((List Bool) × Fl)))) (i10 : Int) : Option (((List (List ((List Bool) × Fl))) × Int) ⊕ (List (List ((List Bool) × Fl)))) := (if (decide (i10 < (l1.length : Int))) = true then (if 0 ≤ q4.1 ∧ q4.1 ≤ q4.1 ∧ q4.1 * 24 ≤ 281474976710656 then ((loop (f_foghornref23_run.s2 cx0_Length cx0_One cx0_Two l1 last2 q4 now9 i10) ((List.replicate (q4.1).toNat ([] : (List ((List Bool) × Fl)))), (0 : Int))).bind (fun q129 => (some (Sum.inl (q129, (IntKind.i64.wrap (i10 + (1 : Int)))))))) else none) else (some (Sum.inr now9)))
noncomputable def f_foghornref23_run.s1 (cx0_Length : Int) (cx0_One : Int) (cx0_Two : Int) (l1 : (List ((Fl × Fl) × Bool))) (last2 : Int) (q4 : (Int × Int)) (s : ((List (List ((List Bool) × Fl))) × Int)) : Option (((List (List ((List Bool) × Fl))) × Int) ⊕ (List (List ((List Bool) × Fl)))) := f_foghornref23_run.s1c cx0_Length cx0_One cx0_Two l1 last2 q4 s.1 s.2
noncomputable def f_foghornref23_run (cx0_Length : Int) (cx0_One : Int) (cx0_Two : Int) (l1 : (List ((Fl × Fl) × Bool))) (last2 : Int) : Option (List (List ((List Bool) × Fl))) := ((f_foghornref21_States cx0_Length cx0_One cx0_Two).bind fun q4 => (if 0 ≤ q4.1 ∧ q4.1 ≤ q4.1 ∧ q4.1 * 24 ≤ 281474976710656 then (if 0 ≤ (0 : Int) ∧ (0 : Int) < ((List.replicate (q4.1).toNat ([] : (List ((List Bool) × Fl)))).length : Int) then ((loop (f_foghornref23_run.s1 cx0_Length cx0_One cx0_Two l1 last2 q4) (((List.replicate (q4.1).toNat ([] : (List ((List Bool) × Fl)))).set ((0 : Int)).toNat ([([], (Fl.bits 0))] : (List ((List Bool) × Fl)))), (0 : Int))).bind (fun q130 => (some q130))) else none) else none))
theorem f_foghornref23_run_c {S : Nat → Prop} {w0 w : World} {ow : List Res} (hp : Hp S w0 w ow) (cx0_Length : Int) (cx0_One : Int) (cx0_Two : Int) (vl1 : Value) (l1 : (List ((Fl × Fl) × Bool))) (hl1 : RdS (Ek.pair Ek.c128 Ek.bool) S w0 vl1 l1) (last2 : Int) {r : (List (List ((List Bool) × Fl)))} (h : f_foghornref23_run cx0_Length cx0_One cx0_Two l1 last2 = some r) :
   Calls Try.prog 49 #[.agg #[.int .i64 cx0_Length, .int .u32 cx0_One, .int .u32 cx0_Two], vl1, .int .i64 last2] w (fun e w' => ∃ (u0 : List FZ) (u1 : Value) (u2 : List Value), e = .returned (u1) ∧ Hp S w0 w' (Res.rows (RowK.sl (Ek.pair (Ek.fz u0) Ek.f64) 98) 94 u1 u2 r :: Res.fz 4 u0 :: ow)) := by
  unfold f_foghornref23_run at h
  refine enter (n := 118) (args := [.agg #[.int .i64 cx0_Length, .int .u32 cx0_One, .int .u32 cx0_Two], vl1, .int .i64 last2]) Try.func49 rfl rfl (Nat.le_of_ble_eq_true rfl) fun a hf => ?_
  replace hf : Fr 118 a [(0, .agg #[.int .i64 cx0_Length, .int .u32 cx0_One, .int .u32 cx0_Two]), (1, vl1), (2, .int .i64 last2)] := hf
  refine wp_mono (Q := fun e a w => e = .ret ∧ ∃ (u0 : List FZ) (u1 : Value) (u2 : List Value), Fr 118 a [(6, u1)] ∧ Hp S w0 w (Res.rows (RowK.sl (Ek.pair (Ek.fz u0) Ek.f64) 98) 94 u1 u2 r :: Res.fz 4 u0 :: ow)) ?_ ?_
  rotate_left
  ·
   rintro e a w ⟨rfl, x0, x1, x2, hf, hp⟩
   exact ret1 hf rfl rfl ⟨x0, x1, x2, rfl, hp⟩
  have hp := hp.fzNil 4
  refine wp_seq ?_
  refine wp_reg ?_
  refine st_boxO (cs := [.int .i64 cx0_Length, .int .u32 cx0_One, .int .u32 cx0_Two]) hf (by decide) hp rfl rfl rfl ?_
  clear hf; intro a w v2 hf hp0; clear hp; have hp := hp0; clear hp0
  replace hp : Hp _ _ _ (Res.obj 24 v2 [.int .i64 cx0_Length, .int .u32 cx0_One, .int .u32 cx0_Two] :: Res.fz 4 ([] : List FZ) :: ow) := hp
  refine st_assign hf rfl rfl (by decide) ?_
  clear hf; intro a ha hf; clear ha
  refine st_nil hf ?_
  refine th_n ?_
  refine wp_seq ?_
  refine wp_reg ?_
  refine st_ldOA (m := 3) (us := [.int .i64 cx0_Length, .int .u32 cx0_One, .int .u32 cx0_Two]) hf (by decide) (by kernel_rfl) rfl rfl (hp.ob (i := 0) rfl) rfl rfl ?_
  clear hf; intro a ha hf; clear ha
  obtain ⟨q4, hcall5, h⟩ := bnd h
  refine st_call hf (by decide) Try.func65 rfl rfl rfl rfl rfl (f_foghornref21_States_c hp _ _ _ hcall5) ?_
  rintro _ w ⟨rfl, hp0⟩
  clear hp; have hp := hp0; clear hp0
  replace hp : Hp _ _ _ (_ :: _ :: ow) := hp
  refine ⟨_, rfl, ?_⟩
  clear hf; intro a hf
  refine st_move hf rfl rfl (by decide) ?_
  clear hf; intro a ha hf; clear ha
  refine st_extract hf (by decide) rfl rfl rfl ?_
  clear hf; intro a ha hf; clear ha
  refine st_extract hf (by decide) rfl rfl rfl ?_
  clear hf; intro a ha hf; clear ha
  refine st_assign hf rfl rfl (by decide) ?_
  clear hf; intro a ha hf; clear ha
  refine st_assign hf rfl rfl (by decide) ?_
  clear hf; intro a ha hf; clear ha
  refine st_nil hf ?_
  refine th_n ?_
  refine wp_seq ?_
  refine wp_reg ?_
  refine st_move hf rfl rfl (by decide) ?_
  clear hf; intro a ha hf; clear ha
  obtain ⟨hc6, h⟩ := chk h
  refine st_make (E := Ek.val) hf (by decide) eltv94 Try.underlying95 (by decide) hp rfl rfl rfl hc6.1 hc6.2.1 hc6.2.2 ?_
  clear hf; intro a w v7 hf hp0; clear hp; have hp := hp0; clear hp0
  replace hp : Hp _ _ _ (Res.rows (RowK.sl (Ek.pair (Ek.fz ([] : List FZ)) Ek.f64) 98) 94 v7 (List.replicate (q4.1).toNat (Value.slice none 0 0)) (List.replicate (q4.1).toNat ([] : (List ((List Bool) × Fl)))) :: _ :: _ :: ow) := hp.rowsMade (RowK.sl (Ek.pair (Ek.fz ([] : List FZ)) Ek.f64) 98) ([] : (List ((List Bool) × Fl))) (fun w => .inl ⟨rfl, rfl, rfl, fun _ h => h⟩)
  refine st_assign hf rfl rfl (by decide) ?_
  clear hf; intro a ha hf; clear ha
  refine st_nil hf ?_
  refine th_n ?_
  refine wp_seq ?_
  refine wp_reg ?_
  refine st_move hf rfl rfl (by decide) ?_
  clear hf; intro a ha hf; clear ha
  refine st_buildA (vals := []) (cells := [.slice none 0 0, .float .f64 0]) hf (by decide) rfl (by simp []) (fun w => by kernel_rfl) ?_
  clear hf; intro a ha hf; clear ha
  refine st_build (E := (Ek.pair (Ek.fz ([] : List FZ)) Ek.f64)) (xs := [([], (Fl.bits 0))]) hf (by decide) (elt98 ([] : List FZ)) Try.underlying94 hp (vals := #[(0, .agg #[.slice none 0 0, .float .f64 0])]) (cells := #[.slice none 0 0, .float .f64 0]) rfl (by simp [hf.ev (x := (Operand.tmp 27)) rfl]) (Nat.le_of_ble_eq_true rfl) (Nat.le_of_ble_eq_true rfl) (z := .agg #[.slice none 0 0, .float .f64 0]) (by kernel_rfl) (by kernel_rfl) rfl (reps_cons (cs := [.slice none 0 0, .float .f64 0]) ⟨[.slice none 0 0], [.float .f64 0], rfl, ⟨_, rfl, FzP.nil _⟩, (show Ek.f64.rep [.float .f64 0] (Fl.bits 0) from ⟨_, rfl, rfl⟩)⟩ (reps_nil _)) ?_
  clear hf; intro a w v9 hf hp0; clear hp; have hp := hp0; clear hp0
  replace hp : Hp _ _ _ (Res.sl (Ek.pair (Ek.fz ([] : List FZ)) Ek.f64) 98 v9 ([([], (Fl.bits 0))]) :: _ :: _ :: _ :: ow) := hp
  obtain ⟨hc11, h⟩ := chk h
  refine st_indexV (E := Ek.val) (m := (List.replicate (q4.1).toNat ([] : (List ((List Bool) × Fl)))).length) hf (by decide) Try.underlying95 eltv94 rfl rfl rfl (hp.rd (i := 1) rfl).shapeNY hc11.1 hc11.2 ?_
  clear hf; intro a ha hf; clear ha
  have hp : Hp _ _ _ (_ :: _ :: _ :: _ :: ow) := Hp.sel (pre := [Res.sl (Ek.pair (Ek.fz ([] : List FZ)) Ek.f64) 98 v9 ([([], (Fl.bits 0))]), Res.rows (RowK.sl (Ek.pair (Ek.fz ([] : List FZ)) Ek.f64) 98) 94 v7 (List.replicate (q4.1).toNat (Value.slice none 0 0)) (List.replicate (q4.1).toNat ([] : (List ((List Bool) × Fl)))), Res.obj 24 v2 [.int .i64 cx0_Length, .int .u32 cx0_One, .int .u32 cx0_Two], Res.fz 4 ([] : List FZ)]) (tail := ow) (rs' := [Res.rows (RowK.sl (Ek.pair (Ek.fz ([] : List FZ)) Ek.f64) 98) 94 v7 (List.replicate (q4.1).toNat (Value.slice none 0 0)) (List.replicate (q4.1).toNat ([] : (List ((List Bool) × Fl)))), Res.sl (Ek.pair (Ek.fz ([] : List FZ)) Ek.f64) 98 v9 ([([], (Fl.bits 0))]), Res.obj 24 v2 [.int .i64 cx0_Length, .int .u32 cx0_One, .int .u32 cx0_Two], Res.fz 4 ([] : List FZ)]) hp [1, 0, 2, 3] (by decide) (by simp) rfl
  refine st_storeR (K := (RowK.sl (Ek.pair (Ek.fz ([] : List FZ)) Ek.f64) 98)) (b := ([([], (Fl.bits 0))] : (List ((List Bool) × Fl)))) hf eltv94 hp (hp.sl (i := 1) rfl).shapeV rfl rfl rfl hc11.1 (by simp only [List.length_set, List.length_map]; exact hc11.2) ?_
  clear hf; intro a w hf hp0; clear hp; have hp := hp0; clear hp0
  rw [fill2] at hp
  replace hp : Hp _ _ _ (Res.rows (RowK.sl (Ek.pair (Ek.fz ([] : List FZ)) Ek.f64) 98) 94 v7 ((List.replicate (q4.1).toNat (Value.slice none 0 0)).set ((0 : Int)).toNat v9) ((List.replicate (q4.1).toNat ([] : (List ((List Bool) × Fl)))).set ((0 : Int)).toNat ([([], (Fl.bits 0))] : (List ((List Bool) × Fl)))) :: _ :: _ :: ow) := hp
  refine st_nil hf ?_
  refine th_n ?_
  refine wp_seq ?_
  refine wp_seq ?_
  refine wp_reg ?_
  refine st_assign hf rfl rfl (by decide) ?_
  clear hf; intro a ha hf; clear ha
  refine st_nil hf ?_
  refine th_n ?_
  refine wp_block ?_
  obtain ⟨q130, hl, h⟩ := bnd h
  have hp : Hp _ _ _ (_ :: _ :: _ :: ow) := Hp.sel (pre := [Res.rows (RowK.sl (Ek.pair (Ek.fz ([] : List FZ)) Ek.f64) 98) 94 v7 ((List.replicate (q4.1).toNat (Value.slice none 0 0)).set ((0 : Int)).toNat v9) ((List.replicate (q4.1).toNat ([] : (List ((List Bool) × Fl)))).set ((0 : Int)).toNat ([([], (Fl.bits 0))] : (List ((List Bool) × Fl)))), Res.obj 24 v2 [.int .i64 cx0_Length, .int .u32 cx0_One, .int .u32 cx0_Two], Res.fz 4 ([] : List FZ)]) (tail := ow) (rs' := [Res.fz 4 ([] : List FZ), Res.rows (RowK.sl (Ek.pair (Ek.fz ([] : List FZ)) Ek.f64) 98) 94 v7 ((List.replicate (q4.1).toNat (Value.slice none 0 0)).set ((0 : Int)).toNat v9) ((List.replicate (q4.1).toNat ([] : (List ((List Bool) × Fl)))).set ((0 : Int)).toNat ([([], (Fl.bits 0))] : (List ((List Bool) × Fl)))), Res.obj 24 v2 [.int .i64 cx0_Length, .int .u32 cx0_One, .int .u32 cx0_Two]]) hp [2, 0, 1] (by decide) (by simp) rfl
  refine wp_loop_pure (f := (f_foghornref23_run.s1 cx0_Length cx0_One cx0_Two l1 last2 q4)) (s := (((List.replicate (q4.1).toNat ([] : (List ((List Bool) × Fl)))).set ((0 : Int)).toNat ([([], (Fl.bits 0))] : (List ((List Bool) × Fl)))), (0 : Int))) (fun s a w => ∃ (bs13 : List FZ) (v14 : Value) (vs15 : List Value), Fr 118 a [(1, vl1), (2, .int .i64 last2), (3, optr v2 0), (7, .int .i64 q4.1), (9, v14), (10, .int .i64 s.2)] ∧ Hp S w0 w (Res.fz 4 bs13 :: Res.rows (RowK.sl (Ek.pair (Ek.fz bs13) Ek.f64) 98) 94 v14 vs15 s.1 :: Res.obj 24 v2 [.int .i64 cx0_Length, .int .u32 cx0_One, .int .u32 cx0_Two] :: ow)) (fun q e a w => e = .exit 0 ∧ ∃ (bs18 : List FZ) (v19 : Value) (vs20 : List Value), Fr 118 a [(9, v19)] ∧ Hp S w0 w (Res.fz 4 bs18 :: Res.rows (RowK.sl (Ek.pair (Ek.fz bs18) Ek.f64) 98) 94 v19 vs20 q :: ow)) ?_ hl ⟨_, _, _, hf.sub ⟨rfl, rfl, rfl, rfl, rfl, rfl, trivial⟩, hp⟩ ?_
  ·
   clear hl hf hp
   intro s x a w h hI
   obtain ⟨now9, i10⟩ := s
   obtain ⟨bs13, v14, vs15, hf, hp⟩ : ∃ (bs13 : List FZ) (v14 : Value) (vs15 : List Value), Fr 118 a [(1, vl1), (2, .int .i64 last2), (3, optr v2 0), (7, .int .i64 q4.1), (9, v14), (10, .int .i64 i10)] ∧ Hp S w0 w (Res.fz 4 bs13 :: Res.rows (RowK.sl (Ek.pair (Ek.fz bs13) Ek.f64) 98) 94 v14 vs15 now9 :: Res.obj 24 v2 [.int .i64 cx0_Length, .int .u32 cx0_One, .int .u32 cx0_Two] :: ow) := hI
   replace h : f_foghornref23_run.s1c cx0_Length cx0_One cx0_Two l1 last2 q4 now9 i10 = some x := h
   unfold f_foghornref23_run.s1c at h
   refine wp_seq ?_
   refine wp_seq ?_
   refine wp_reg ?_
   refine st_move hf rfl rfl (by decide) ?_
   clear hf; intro a ha hf; clear ha
   refine st_move hf rfl rfl (by decide) ?_
   clear hf; intro a ha hf; clear ha
   refine st_len (E := (Ek.pair Ek.c128 Ek.bool)) hf (by decide) Try.underlying27 rfl rfl (hl1.sl hp) ?_
   clear hf; intro a ha hf; clear ha
   refine st_ilss hf (by decide) rfl rfl rfl ?_
   clear hf; intro a ha hf; clear ha
   refine st_nil hf ?_
   refine th_n ?_
   refine wp_if hf rfl (fun hb => ?_) (fun hb => ?_)
   ·
    replace h := ifT h hb
    refine wp_skip ?_
    refine th_n ?_
    refine wp_seq ?_
    refine wp_block ?_
    refine wp_seq ?_
    refine wp_reg ?_
    refine st_move hf rfl rfl (by decide) ?_
    clear hf; intro a ha hf; clear ha
    obtain ⟨hc22, h⟩ := chk h
    refine st_make (E := Ek.val) hf (by decide) eltv94 Try.underlying95 (by decide) hp rfl rfl rfl hc22.1 hc22.2.1 hc22.2.2 ?_
    clear hf; intro a w v23 hf hp0; clear hp; have hp := hp0; clear hp0
    replace hp : Hp _ _ _ (Res.rows (RowK.sl (Ek.pair (Ek.fz bs13) Ek.f64) 98) 94 v23 (List.replicate (q4.1).toNat (Value.slice none 0 0)) (List.replicate (q4.1).toNat ([] : (List ((List Bool) × Fl)))) :: Res.fz 4 bs13 :: Res.rows (RowK.sl (Ek.pair (Ek.fz bs13) Ek.f64) 98) 94 v14 vs15 now9 :: _ :: ow) := hp.rowsMade (RowK.sl (Ek.pair (Ek.fz bs13) Ek.f64) 98) ([] : (List ((List Bool) × Fl))) (fun w => .inl ⟨rfl, rfl, rfl, fun _ h => h⟩)
    refine st_assign hf rfl rfl (by decide) ?_
    clear hf; intro a ha hf; clear ha
    refine st_nil hf ?_
    refine th_n ?_
    refine wp_seq ?_
    refine wp_seq ?_
    refine wp_reg ?_
    refine st_assign hf rfl rfl (by decide) ?_
    clear hf; intro a ha hf; clear ha
    refine st_nil hf ?_
    refine th_n ?_
    refine wp_block ?_
    obtain ⟨q129, hl, h⟩ := bnd h
    have hp : Hp _ _ _ (_ :: _ :: _ :: _ :: ow) := Hp.sel (pre := [Res.rows (RowK.sl (Ek.pair (Ek.fz bs13) Ek.f64) 98) 94 v23 (List.replicate (q4.1).toNat (Value.slice none 0 0)) (List.replicate (q4.1).toNat ([] : (List ((List Bool) × Fl)))), Res.fz 4 bs13, Res.rows (RowK.sl (Ek.pair (Ek.fz bs13) Ek.f64) 98) 94 v14 vs15 now9, Res.obj 24 v2 [.int .i64 cx0_Length, .int .u32 cx0_One, .int .u32 cx0_Two]]) (tail := ow) (rs' := [Res.fz 4 bs13, Res.rows (RowK.sl (Ek.pair (Ek.fz bs13) Ek.f64) 98) 94 v23 (List.replicate (q4.1).toNat (Value.slice none 0 0)) (List.replicate (q4.1).toNat ([] : (List ((List Bool) × Fl)))), Res.obj 24 v2 [.int .i64 cx0_Length, .int .u32 cx0_One, .int .u32 cx0_Two], Res.rows (RowK.sl (Ek.pair (Ek.fz bs13) Ek.f64) 98) 94 v14 vs15 now9]) hp [1, 0, 3, 2] (by decide) (by simp) rfl
    refine wp_loop_pure (f := (f_foghornref23_run.s2 cx0_Length cx0_One cx0_Two l1 last2 q4 now9 i10)) (s := ((List.replicate (q4.1).toNat ([] : (List ((List Bool) × Fl)))), (0 : Int))) (fun s a w => ∃ (bs26 : List FZ) (v27 : Value) (vs28 : List Value), Fr 118 a [(1, vl1), (2, .int .i64 last2), (3, optr v2 0), (7, .int .i64 q4.1), (9, v14), (10, .int .i64 i10), (11, v27), (12, .int .i64 s.2)] ∧ Hp S w0 w (Res.fz 4 bs26 :: Res.rows (RowK.sl (Ek.pair (Ek.fz bs26) Ek.f64) 98) 94 v27 vs28 s.1 :: Res.obj 24 v2 [.int .i64 cx0_Length, .int .u32 cx0_One, .int .u32 cx0_Two] :: Res.rows (RowK.sl (Ek.pair (Ek.fz bs26) Ek.f64) 98) 94 v14 vs15 now9 :: ow)) (fun q e a w => e = .exit 2 ∧ ∃ (bs31 : List FZ) (v32 : Value) (vs33 : List Value), Fr 118 a [(1, vl1), (2, .int .i64 last2), (3, optr v2 0), (7, .int .i64 q4.1), (10, .int .i64 i10), (11, v32)] ∧ Hp S w0 w (Res.fz 4 bs31 :: Res.rows (RowK.sl (Ek.pair (Ek.fz bs31) Ek.f64) 98) 94 v32 vs33 q :: Res.obj 24 v2 [.int .i64 cx0_Length, .int .u32 cx0_One, .int .u32 cx0_Two] :: ow)) ?_ hl ⟨_, _, _, hf.sub ⟨rfl, rfl, rfl, rfl, rfl, rfl, rfl, rfl, trivial⟩, hp⟩ ?_
    ·
     clear hl hf hp
     intro s x a w h hI
     obtain ⟨then11, sx12⟩ := s
     obtain ⟨bs26, v27, vs28, hf, hp⟩ : ∃ (bs26 : List FZ) (v27 : Value) (vs28 : List Value), Fr 118 a [(1, vl1), (2, .int .i64 last2), (3, optr v2 0), (7, .int .i64 q4.1), (9, v14), (10, .int .i64 i10), (11, v27), (12, .int .i64 sx12)] ∧ Hp S w0 w (Res.fz 4 bs26 :: Res.rows (RowK.sl (Ek.pair (Ek.fz bs26) Ek.f64) 98) 94 v27 vs28 then11 :: Res.obj 24 v2 [.int .i64 cx0_Length, .int .u32 cx0_One, .int .u32 cx0_Two] :: Res.rows (RowK.sl (Ek.pair (Ek.fz bs26) Ek.f64) 98) 94 v14 vs15 now9 :: ow) := hI
     replace h : f_foghornref23_run.s2c cx0_Length cx0_One cx0_Two l1 last2 q4 now9 i10 then11 sx12 = some x := h
     unfold f_foghornref23_run.s2c at h
     refine wp_seq ?_
     refine wp_seq ?_
     refine wp_reg ?_
     refine st_move hf rfl rfl (by decide) ?_
     clear hf; intro a ha hf; clear ha
     refine st_move hf rfl rfl (by decide) ?_
     clear hf; intro a ha hf; clear ha
     refine st_ilss hf (by decide) rfl rfl rfl ?_
     clear hf; intro a ha hf; clear ha
     refine st_nil hf ?_
     refine th_n ?_
     refine wp_if hf rfl (fun hb => ?_) (fun hb => ?_)
     ·
      replace h := ifT h hb
      refine wp_skip ?_
      refine th_n ?_
      refine wp_seq ?_
      refine wp_block ?_
      refine wp_seq ?_
      refine wp_reg ?_
      refine st_assign hf rfl rfl (by decide) ?_
      clear hf; intro a ha hf; clear ha
      refine st_nil hf ?_
      refine th_n ?_
      refine wp_block ?_
      obtain ⟨q128, hl, h⟩ := bnd h
      refine wp_loop_pure (f := (f_foghornref23_run.s3 cx0_Length cx0_One cx0_Two l1 last2 now9 i10 sx12)) (s := (then11, (0 : Int))) (fun s a w => ∃ (bs36 : List FZ) (v37 : Value) (vs38 : List Value), Fr 118 a [(1, vl1), (2, .int .i64 last2), (3, optr v2 0), (7, .int .i64 q4.1), (9, v14), (10, .int .i64 i10), (11, v37), (12, .int .i64 sx12), (13, .int .i64 s.2)] ∧ Hp S w0 w (Res.fz 4 bs36 :: Res.rows (RowK.sl (Ek.pair (Ek.fz bs36) Ek.f64) 98) 94 v37 vs38 s.1 :: Res.obj 24 v2 [.int .i64 cx0_Length, .int .u32 cx0_One, .int .u32 cx0_Two] :: Res.rows (RowK.sl (Ek.pair (Ek.fz bs36) Ek.f64) 98) 94 v14 vs15 now9 :: ow)) (fun q e a w => e = .exit 4 ∧ ∃ (bs41 : List FZ) (v42 : Value) (vs43 : List Value), Fr 118 a [(1, vl1), (2, .int .i64 last2), (3, optr v2 0), (7, .int .i64 q4.1), (9, v14), (10, .int .i64 i10), (11, v42), (12, .int .i64 sx12)] ∧ Hp S w0 w (Res.fz 4 bs41 :: Res.rows (RowK.sl (Ek.pair (Ek.fz bs41) Ek.f64) 98) 94 v42 vs43 q :: Res.obj 24 v2 [.int .i64 cx0_Length, .int .u32 cx0_One, .int .u32 cx0_Two] :: Res.rows (RowK.sl (Ek.pair (Ek.fz bs41) Ek.f64) 98) 94 v14 vs15 now9 :: ow)) ?_ hl ⟨_, _, _, hf.sub ⟨rfl, rfl, rfl, rfl, rfl, rfl, rfl, rfl, rfl, trivial⟩, hp⟩ ?_
      ·
       clear hl hf hp
       intro s x a w h hI
       obtain ⟨then11, k13⟩ := s
       obtain ⟨bs36, v37, vs38, hf, hp⟩ : ∃ (bs36 : List FZ) (v37 : Value) (vs38 : List Value), Fr 118 a [(1, vl1), (2, .int .i64 last2), (3, optr v2 0), (7, .int .i64 q4.1), (9, v14), (10, .int .i64 i10), (11, v37), (12, .int .i64 sx12), (13, .int .i64 k13)] ∧ Hp S w0 w (Res.fz 4 bs36 :: Res.rows (RowK.sl (Ek.pair (Ek.fz bs36) Ek.f64) 98) 94 v37 vs38 then11 :: Res.obj 24 v2 [.int .i64 cx0_Length, .int .u32 cx0_One, .int .u32 cx0_Two] :: Res.rows (RowK.sl (Ek.pair (Ek.fz bs36) Ek.f64) 98) 94 v14 vs15 now9 :: ow) := hI
       replace h : f_foghornref23_run.s3c cx0_Length cx0_One cx0_Two l1 last2 now9 i10 sx12 then11 k13 = some x := h
       unfold f_foghornref23_run.s3c at h
       refine wp_seq ?_
       refine wp_seq ?_
       refine wp_reg ?_
       refine st_move hf rfl rfl (by decide) ?_
       clear hf; intro a ha hf; clear ha
       refine st_move hf rfl rfl (by decide) ?_
       clear hf; intro a ha hf; clear ha
       refine st_move hf rfl rfl (by decide) ?_
       clear hf; intro a ha hf; clear ha
       obtain ⟨hc45, h⟩ := chk h
       refine st_indexV (E := Ek.val) (m := now9.length) hf (by decide) Try.underlying95 eltv94 rfl rfl rfl (hp.rd (i := 3) rfl).shapeNY hc45.1 hc45.2 ?_
       clear hf; intro a ha hf; clear ha
       refine st_ldRY hf (by decide) pl94 rfl rfl (hp.rd (i := 3) rfl) hc45.1 hc45.2 ?_
       clear hf; intro a ha hf; clear ha
       refine st_len (E := (Ek.pair (Ek.fz bs36) Ek.f64)) hf (by decide) Try.underlying94 rfl rfl (RdR.rowS (hp.rd (i := 3) rfl) hc45.1 hc45.2) ?_
       clear hf; intro a ha hf; clear ha
       refine st_ilss hf (by decide) rfl rfl rfl ?_
       clear hf; intro a ha hf; clear ha
       refine st_nil hf ?_
       refine th_n ?_
       refine wp_if hf rfl (fun hb => ?_) (fun hb => ?_)
       ·
        replace h := ifT h hb
        refine wp_skip ?_
        refine th_n ?_
        refine wp_seq ?_
        refine wp_block ?_
        refine wp_seq ?_
        refine wp_reg ?_
        refine st_assign hf rfl rfl (by decide) ?_
        clear hf; intro a ha hf; clear ha
        refine st_nil hf ?_
        refine th_n ?_
        refine wp_block ?_
        obtain ⟨q127, hl, h⟩ := bnd h
        refine wp_loop_pure (f := (f_foghornref23_run.s4 cx0_Length cx0_One cx0_Two l1 last2 now9 i10 sx12 k13)) (s := (then11, (0 : Int))) (fun s a w => ∃ (bs47 : List FZ) (v48 : Value) (vs49 : List Value), Fr 118 a [(1, vl1), (2, .int .i64 last2), (3, optr v2 0), (7, .int .i64 q4.1), (9, v14), (10, .int .i64 i10), (11, v48), (12, .int .i64 sx12), (13, .int .i64 k13), (14, .int .i64 s.2)] ∧ Hp S w0 w (Res.fz 4 bs47 :: Res.rows (RowK.sl (Ek.pair (Ek.fz bs47) Ek.f64) 98) 94 v48 vs49 s.1 :: Res.obj 24 v2 [.int .i64 cx0_Length, .int .u32 cx0_One, .int .u32 cx0_Two] :: Res.rows (RowK.sl (Ek.pair (Ek.fz bs47) Ek.f64) 98) 94 v14 vs15 now9 :: ow)) (fun q e a w => e = .exit 6 ∧ ∃ (bs52 : List FZ) (v53 : Value) (vs54 : List Value), Fr 118 a [(1, vl1), (2, .int .i64 last2), (3, optr v2 0), (7, .int .i64 q4.1), (9, v14), (10, .int .i64 i10), (11, v53), (12, .int .i64 sx12), (13, .int .i64 k13)] ∧ Hp S w0 w (Res.fz 4 bs52 :: Res.rows (RowK.sl (Ek.pair (Ek.fz bs52) Ek.f64) 98) 94 v53 vs54 q :: Res.obj 24 v2 [.int .i64 cx0_Length, .int .u32 cx0_One, .int .u32 cx0_Two] :: Res.rows (RowK.sl (Ek.pair (Ek.fz bs52) Ek.f64) 98) 94 v14 vs15 now9 :: ow)) ?_ hl ⟨_, _, _, hf.sub ⟨rfl, rfl, rfl, rfl, rfl, rfl, rfl, rfl, rfl, rfl, trivial⟩, hp⟩ ?_
        ·
         clear hl hf hp
         intro s x a w h hI
         obtain ⟨then11, bx14⟩ := s
         obtain ⟨bs47, v48, vs49, hf, hp⟩ : ∃ (bs47 : List FZ) (v48 : Value) (vs49 : List Value), Fr 118 a [(1, vl1), (2, .int .i64 last2), (3, optr v2 0), (7, .int .i64 q4.1), (9, v14), (10, .int .i64 i10), (11, v48), (12, .int .i64 sx12), (13, .int .i64 k13), (14, .int .i64 bx14)] ∧ Hp S w0 w (Res.fz 4 bs47 :: Res.rows (RowK.sl (Ek.pair (Ek.fz bs47) Ek.f64) 98) 94 v48 vs49 then11 :: Res.obj 24 v2 [.int .i64 cx0_Length, .int .u32 cx0_One, .int .u32 cx0_Two] :: Res.rows (RowK.sl (Ek.pair (Ek.fz bs47) Ek.f64) 98) 94 v14 vs15 now9 :: ow) := hI
         replace h : f_foghornref23_run.s4c cx0_Length cx0_One cx0_Two l1 last2 now9 i10 sx12 k13 then11 bx14 = some x := h
         unfold f_foghornref23_run.s4c at h
         refine wp_seq ?_
         refine wp_seq ?_
         refine wp_reg ?_
         refine st_move hf rfl rfl (by decide) ?_
         clear hf; intro a ha hf; clear ha
         refine st_ilss hf (by decide) rfl rfl rfl ?_
         clear hf; intro a ha hf; clear ha
         refine st_nil hf ?_
         refine th_n ?_
         refine wp_if hf rfl (fun hb => ?_) (fun hb => ?_)
         ·
          replace h := ifT h hb
          refine wp_skip ?_
          refine th_n ?_
          refine wp_seq ?_
          refine wp_block ?_
          refine wp_seq ?_
          refine wp_seq ?_
          refine wp_reg ?_
          refine st_move hf rfl rfl (by decide) ?_
          clear hf; intro a ha hf; clear ha
          refine st_ieql hf (by decide) rfl rfl rfl ?_
          clear hf; intro a ha hf; clear ha
          refine st_move hf rfl rfl (by decide) ?_
          clear hf; intro a ha hf; clear ha
          refine wpList_cut 7 (fun a w => Fr 118 a [(1, vl1), (2, .int .i64 last2), (3, optr v2 0), (7, .int .i64 q4.1), (9, v14), (10, .int .i64 i10), (11, v48), (12, .int .i64 sx12), (13, .int .i64 k13), (14, .int .i64 bx14), (65, .bool ((bx14 == (1 : Int)) && (decide ((IntKind.i64.wrap ((l1.length : Int) - last2)) ≤ i10))))] ∧ Hp S w0 w (Res.fz 4 bs47 :: Res.rows (RowK.sl (Ek.pair (Ek.fz bs47) Ek.f64) 98) 94 v48 vs49 then11 :: Res.obj 24 v2 [.int .i64 cx0_Length, .int .u32 cx0_One, .int .u32 cx0_Two] :: Res.rows (RowK.sl (Ek.pair (Ek.fz bs47) Ek.f64) 98) 94 v14 vs15 now9 :: ow)) ?_ ?_
          ·
           rcases Bool.eq_false_or_eq_true (bx14 == (1 : Int)) with hb57 | hb57
           ·
            refine st_move hf (wantY hf rfl rfl hb57) rfl (by decide) ?_
            clear hf; intro a ha hf; clear ha
            refine st_move hf (wantY hf rfl rfl hb57) rfl (by decide) ?_
            clear hf; intro a ha hf; clear ha
            refine st_len (E := (Ek.pair Ek.c128 Ek.bool)) hf (by decide) Try.underlying27 (wantY hf rfl rfl hb57) rfl (hl1.sl hp) ?_
            clear hf; intro a ha hf; clear ha
            refine st_move hf (wantY hf rfl rfl hb57) rfl (by decide) ?_
            clear hf; intro a ha hf; clear ha
            refine st_isub hf (by decide) (wantY hf rfl rfl hb57) rfl rfl ?_
            clear hf; intro a ha hf; clear ha
            refine st_igeq hf (by decide) (wantY hf rfl rfl hb57) rfl rfl ?_
            clear hf; intro a ha hf; clear ha
            refine st_pick (v := .bool (decide ((IntKind.i64.wrap ((l1.length : Int) - last2)) ≤ i10))) hf rfl rfl (fun hb' => ?_) (fun hb' => ?_) (by decide) ?_
            · rfl
            · exact absurd (hb57.symm.trans hb') (by decide)
            clear hf; intro a ha hf; clear ha
            refine st_nil hf (th_n ?_)
            exact ⟨hf.sub ⟨rfl, rfl, rfl, rfl, rfl, rfl, rfl, rfl, rfl, rfl, (by rw [hb57]; rfl), trivial⟩, hp⟩
           refine st_skip hf (wantN hf rfl rfl hb57) rfl (by decide) ?_ rfl
           clear hf; intro a hf
           refine st_skip hf (wantN hf rfl rfl hb57) rfl (by decide) ?_ rfl
           clear hf; intro a hf
           refine st_skip hf (wantN hf rfl rfl hb57) rfl (by decide) ?_ rfl
           clear hf; intro a hf
           refine st_skip hf (wantN hf rfl rfl hb57) rfl (by decide) ?_ rfl
           clear hf; intro a hf
           refine st_skip hf (wantN hf rfl rfl hb57) rfl (by decide) ?_ rfl
           clear hf; intro a hf
           refine st_skip hf (wantN hf rfl rfl hb57) rfl (by decide) ?_ rfl
           clear hf; intro a hf
           refine st_pick (v := .bool false) hf rfl rfl (fun hb' => ?_) (fun hb' => ?_) (by decide) ?_
           · exact absurd (hb57.symm.trans hb') (by decide)
           · rfl
           clear hf; intro a ha hf; clear ha
           refine st_nil hf (th_n ?_)
           exact ⟨hf.sub ⟨rfl, rfl, rfl, rfl, rfl, rfl, rfl, rfl, rfl, rfl, (by rw [hb57]; rfl), trivial⟩, hp⟩
          rintro a w ⟨hf, hp⟩
          refine st_nil hf ?_
          refine th_n ?_
          refine wp_if hf rfl (fun hb => ?_) (fun hb => ?_)
          ·
           replace h := ifT h hb
           refine wp_exit ?_
           refine th_e ?_
           refine ib_same ?_
           refine th_n ?_
           refine wp_reg ?_
           refine st_move hf rfl rfl (by decide) ?_
           clear hf; intro a ha hf; clear ha
           refine st_iadd hf (by decide) rfl rfl rfl ?_
           clear hf; intro a ha hf; clear ha
           refine st_assign hf rfl rfl (by decide) ?_
           clear hf; intro a ha hf; clear ha
           refine st_nil hf ?_
           obtain rfl := Option.some.inj h
           exact rnd_l ⟨_, _, _, hf.sub ⟨rfl, rfl, rfl, rfl, rfl, rfl, rfl, rfl, rfl, rfl, trivial⟩, hp⟩
          replace h := ifF h hb
          refine wp_skip ?_
          refine th_n ?_
          refine wp_seq ?_
          refine wp_reg ?_
          refine st_ldOA (m := 3) (us := [.int .i64 cx0_Length, .int .u32 cx0_One, .int .u32 cx0_Two]) hf (by decide) (by kernel_rfl) rfl rfl (hp.ob (i := 2) rfl) rfl rfl ?_
          clear hf; intro a ha hf; clear ha
          refine st_move hf rfl rfl (by decide) ?_
          clear hf; intro a ha hf; clear ha
          refine st_move hf rfl rfl (by decide) ?_
          clear hf; intro a ha hf; clear ha
          refine st_ieql hf (by decide) rfl rfl rfl ?_
          clear hf; intro a ha hf; clear ha
          obtain ⟨q58, hcall59, h⟩ := bnd h
          refine st_call hf (by decide) Try.func43 rfl rfl rfl rfl rfl (f_foghornref21_Go_c hp _ _ _ _ _ hcall59) ?_
          rintro _ w ⟨rfl, hp0⟩
          clear hp; have hp := hp0; clear hp0
          replace hp : Hp _ _ _ (Res.fz 4 bs47 :: Res.rows (RowK.sl (Ek.pair (Ek.fz bs47) Ek.f64) 98) 94 v48 vs49 then11 :: _ :: Res.rows (RowK.sl (Ek.pair (Ek.fz bs47) Ek.f64) 98) 94 v14 vs15 now9 :: ow) := hp
          refine ⟨_, rfl, ?_⟩
          clear hf; intro a hf
          refine st_move hf rfl rfl (by decide) ?_
          clear hf; intro a ha hf; clear ha
          refine st_extract hf (by decide) rfl rfl rfl ?_
          clear hf; intro a ha hf; clear ha
          refine st_extract hf (by decide) rfl rfl rfl ?_
          clear hf; intro a ha hf; clear ha
          refine st_extract hf (by decide) rfl rfl rfl ?_
          clear hf; intro a ha hf; clear ha
          refine st_assign hf rfl rfl (by decide) ?_
          clear hf; intro a ha hf; clear ha
          refine st_assign hf rfl rfl (by decide) ?_
          clear hf; intro a ha hf; clear ha
          refine st_assign hf rfl rfl (by decide) ?_
          clear hf; intro a ha hf; clear ha
          refine st_nil hf ?_
          refine th_n ?_
          refine wp_seq ?_
          obtain ⟨S60, hp61, rd62, up63, bk64⟩ := Hp.lendR hp (i := 3) rfl
          have rl65 := ((hl1.now hp).mono up63)
          have rl66 := rd62
          obtain ⟨hc67, h⟩ := chk h
          obtain ⟨hc68, h⟩ := chk h
          obtain ⟨bb70, y72, hl69⟩ := RdS.pinPF (p := k13) (o := 1) (Sub.snd (E := (Ek.fz bs47)) (F := Ek.f64)) (RdR.rowS rl66 hc67.1 hc67.2) hc68.1 hc68.2
          obtain ⟨hc74, h⟩ := chk h
          obtain ⟨ds76, hr81, hl75⟩ := RdS.pinWhole (p := i10) rl65 hc74.1 hc74.2
          obtain ⟨_, _, rfl, ⟨bb77, bb78, rfl, y79, y80⟩, rfl⟩ := hr81
          obtain ⟨q82, hcall83, h⟩ := bnd h
          refine wp_cutN (fun a w => ∃ (bb86 : Nat) (v88 : Value), Fl.rep bb86 (fadd ((gt (gt now9 sx12) k13).2) q82) ∧ Fr 118 a [(1, vl1), (2, .int .i64 last2), (3, optr v2 0), (7, .int .i64 q4.1), (9, v14), (10, .int .i64 i10), (11, v48), (12, .int .i64 sx12), (13, .int .i64 k13), (14, .int .i64 bx14), (15, .int .i64 q58.1), (18, optr v88 0)] ∧ Hp S w0 w (Res.rows (RowK.sl (Ek.pair (Ek.fz bs47) Ek.f64) 98) 94 v14 vs15 now9 :: Res.obj 98 v88 [.slice none 0 0, .float .f64 bb86] :: Res.fz 4 bs47 :: Res.rows (RowK.sl (Ek.pair (Ek.fz bs47) Ek.f64) 98) 94 v48 vs49 then11 :: Res.obj 24 v2 [.int .i64 cx0_Length, .int .u32 cx0_One, .int .u32 cx0_Two] :: ow)) ?_ ?_
          ·
           have hp := hp61.same (Same.drew w)
           refine dr_begin' _ (fun w' => ∃ l, Hp S60 w w' l) [] (by kernel_rfl) ?_
           refine dr_takeK 0 (v14) rfl hf rfl (fun w ⟨_, hp⟩ => ?_) ⟨_, hp⟩ ?_
           · exact st_move hf rfl rfl (by decide) tk
           clear hf; intro a hf
           refine dr_takeK 1 (.int .i64 sx12) rfl hf rfl (fun w ⟨_, hp⟩ => ?_) ⟨_, hp⟩ ?_
           · exact st_move hf rfl rfl (by decide) tk
           clear hf; intro a hf
           refine dr_takeK 2 (eptr v14 sx12 1) rfl hf rfl (fun w ⟨_, hp⟩ => ?_) ⟨_, hp⟩ ?_
           · exact st_indexV (E := Ek.val) (m := now9.length) hf (by decide) Try.underlying95 eltv94 rfl rfl rfl (rl66.ob hp).shapeNY hc67.1 hc67.2 tk
           clear hf; intro a hf
           refine dr_takeK 3 ((gtv vs15 sx12)) rfl hf rfl (fun w ⟨_, hp⟩ => ?_) ⟨_, hp⟩ ?_
           · exact st_ldRY hf (by decide) pl94 rfl rfl (rl66.ob hp) hc67.1 hc67.2 tk
           clear hf; intro a hf
           refine dr_takeK 4 (.int .i64 k13) rfl hf rfl (fun w ⟨_, hp⟩ => ?_) ⟨_, hp⟩ ?_
           · exact st_move hf rfl rfl (by decide) tk
           clear hf; intro a hf
           refine dr_takeK 5 (eptr (gtv vs15 sx12) k13 2) rfl hf rfl (fun w ⟨_, hp⟩ => ?_) ⟨_, hp⟩ ?_
           · exact st_index (E := (Ek.pair (Ek.fz bs47) Ek.f64)) hf (by decide) Try.underlying94 (elt98 bs47) rfl rfl rfl ((RdR.rowS rl66 hc67.1 hc67.2).sl hp) hc68.1 hc68.2 tk
           clear hf; intro a hf
           refine dr_takeK 6 (optr (eptr (gtv vs15 sx12) k13 2) 1) rfl hf rfl (fun w ⟨_, hp⟩ => ?_) ⟨_, hp⟩ ?_
           · exact st_faP (off := 1) (sz := 1) hf (by decide) (by kernel_rfl) (by decide) rfl rfl (Sl.isP ((RdR.rowS rl66 hc67.1 hc67.2).sl hp) hc68.1 hc68.2) tk
           clear hf; intro a hf
           refine dr_takeK 7 (.float .f64 bb70) rfl hf rfl (fun w ⟨_, hp⟩ => ?_) ⟨_, hp⟩ ?_
           · exact st_ldP hf (by decide) pl29 rfl rfl (hl69 _ _ hp) tk
           clear hf; intro a hf
           refine dr_takeK 8 (.bool q58.2.1) rfl hf rfl (fun w ⟨_, hp⟩ => ?_) ⟨_, hp⟩ ?_
           · exact st_move hf rfl rfl (by decide) tk
           clear hf; intro a hf
           refine dr_takeK 9 (.bool q58.2.2) rfl hf rfl (fun w ⟨_, hp⟩ => ?_) ⟨_, hp⟩ ?_
           · exact st_move hf rfl rfl (by decide) tk
           clear hf; intro a hf
           refine dr_takeK 10 (vl1) rfl hf rfl (fun w ⟨_, hp⟩ => ?_) ⟨_, hp⟩ ?_
           · exact st_move hf rfl rfl (by decide) tk
           clear hf; intro a hf
           refine dr_takeK 11 (.int .i64 i10) rfl hf rfl (fun w ⟨_, hp⟩ => ?_) ⟨_, hp⟩ ?_
           · exact st_move hf rfl rfl (by decide) tk
           clear hf; intro a hf
           refine dr_takeK 12 (eptr vl1 i10 2) rfl hf rfl (fun w ⟨_, hp⟩ => ?_) ⟨_, hp⟩ ?_
           · exact st_index (E := (Ek.pair Ek.c128 Ek.bool)) hf (by decide) Try.underlying27 elt35 rfl rfl rfl (rl65.sl hp) hc74.1 hc74.2 tk
           clear hf; intro a hf
           refine dr_takeK 13 (.agg #[.complex .f64 bb77 bb78, .bool ((gt l1 i10).2)]) rfl hf rfl (fun w ⟨_, hp⟩ => ?_) ⟨_, hp⟩ ?_
           · exact st_ldPA (us := [.complex .f64 bb77 bb78, .bool ((gt l1 i10).2)]) hf (by decide) (by kernel_rfl) rfl rfl rfl (hl75 _ _ hp) tk
           clear hf; intro a hf
           refine dr_two 14 17 rfl rfl (by kernel_rfl) ?_ ?_
           ·
            refine st_call hf (by decide) Try.func34 rfl rfl rfl rfl rfl (f_foghornref23_cost_c hp _ _ _ _ _ (show Fl.rep bb77 ((gt l1 i10).1).1 from y79) (show Fl.rep bb78 ((gt l1 i10).1).2 from y80) _ hcall83) ?_
            rintro _ w ⟨v84, rfl, y85, hp0⟩
            clear hp; have hp := hp0; clear hp0
            replace hp : Hp _ _ _ (_ :: _ :: _ :: ow) := hp
            refine ⟨_, rfl, ?_⟩
            clear hf; intro a hf
            refine nx hf (fun _ _ => ⟨_, hp⟩) ?_
            refine dr_two 15 17 rfl rfl (by kernel_rfl) ?_ ?_
            ·
             refine st_farith (op := .add) rfl hf (by decide) hp rfl rfl rfl (show Fl.rep bb70 ((gt (gt now9 sx12) k13).2) from y72) (show Fl.rep v84 q82 from y85) ?_
             clear hf; intro a w bb86 y87 hf hp0; clear hp; have hp := hp0; clear hp0
             replace hp : Hp _ _ _ (_ :: _ :: _ :: ow) := hp
             refine nx hf (fun _ _ => ⟨_, hp⟩) ?_
             refine dr_takeK 16 (.agg #[.slice none 0 0, .float .f64 bb86]) rfl hf rfl (fun w ⟨_, hp⟩ => ?_) ⟨_, hp⟩ ?_
             · exact st_buildA (vals := [(1, .float .f64 bb86)]) (cells := [.slice none 0 0, .float .f64 bb86]) hf (by decide) rfl (by simp [hf.ev (x := (Operand.tmp 90)) rfl]) (fun w => by kernel_rfl) tk
             clear hf; intro a hf
             refine dr_one 17 rfl (by kernel_rfl) ?_
             refine st_alloc (cs := [.slice none 0 0, .float .f64 0]) (zv := .agg #[.slice none 0 0, .float .f64 0]) hf (by decide) (by kernel_rfl) rfl hp rfl ?_
             clear hf; intro a w v88 hf hp0; clear hp; have hp := hp0; clear hp0
             replace hp : Hp _ _ _ (Res.obj 98 v88 [.slice none 0 0, .float .f64 0] :: _ :: _ :: _ :: ow) := hp
             refine nx hf (fun _ _ => ⟨_, hp⟩) ?_
             refine dr_one 18 rfl (by kernel_rfl) ?_
             refine st_stO (us := [.slice none 0 0, .float .f64 bb86]) hf hp (i := 0) rfl rfl rfl rfl rfl (by rfl) (by kernel_rfl) (Nat.le_of_ble_eq_true rfl) ?_
             clear hf; intro a w hf hp0; clear hp; have hp := hp0; clear hp0
             replace hp : Hp _ _ _ (Res.obj 98 v88 [.slice none 0 0, .float .f64 bb86] :: _ :: _ :: _ :: ow) := hp
             refine nx hf (fun _ _ => ⟨_, hp⟩) ?_
             refine dr_end (by kernel_rfl) ?_ _
             have hp := bk64 _ _ hp
             exact ⟨bb86, v88, y87, hf.sub ⟨rfl, rfl, rfl, rfl, rfl, rfl, rfl, rfl, rfl, rfl, rfl, rfl, trivial⟩, hp⟩
            ·
             refine st_alloc (cs := [.slice none 0 0, .float .f64 0]) (zv := .agg #[.slice none 0 0, .float .f64 0]) hf (by decide) (by kernel_rfl) rfl hp rfl ?_
             clear hf; intro a w v88 hf hp0; clear hp; have hp := hp0; clear hp0
             replace hp : Hp _ _ _ (Res.obj 98 v88 [.slice none 0 0, .float .f64 0] :: _ :: _ :: _ :: ow) := hp
             refine nx hf (fun _ _ => ⟨_, hp⟩) ?_
             refine dr_one 15 rfl (by kernel_rfl) ?_
             refine st_farith (op := .add) rfl hf (by decide) hp rfl rfl rfl (show Fl.rep bb70 ((gt (gt now9 sx12) k13).2) from y72) (show Fl.rep v84 q82 from y85) ?_
             clear hf; intro a w bb86 y87 hf hp0; clear hp; have hp := hp0; clear hp0
             replace hp : Hp _ _ _ (_ :: _ :: _ :: _ :: ow) := hp
             refine nx hf (fun _ _ => ⟨_, hp⟩) ?_
             refine dr_takeK 16 (.agg #[.slice none 0 0, .float .f64 bb86]) rfl hf rfl (fun w ⟨_, hp⟩ => ?_) ⟨_, hp⟩ ?_
             · exact st_buildA (vals := [(1, .float .f64 bb86)]) (cells := [.slice none 0 0, .float .f64 bb86]) hf (by decide) rfl (by simp [hf.ev (x := (Operand.tmp 90)) rfl]) (fun w => by kernel_rfl) tk
             clear hf; intro a hf
             refine dr_one 18 rfl (by kernel_rfl) ?_
             refine st_stO (us := [.slice none 0 0, .float .f64 bb86]) hf hp (i := 0) rfl rfl rfl rfl rfl (by rfl) (by kernel_rfl) (Nat.le_of_ble_eq_true rfl) ?_
             clear hf; intro a w hf hp0; clear hp; have hp := hp0; clear hp0
             replace hp : Hp _ _ _ (Res.obj 98 v88 [.slice none 0 0, .float .f64 bb86] :: _ :: _ :: _ :: ow) := hp
             refine nx hf (fun _ _ => ⟨_, hp⟩) ?_
             refine dr_end (by kernel_rfl) ?_ _
             have hp := bk64 _ _ hp
             exact ⟨bb86, v88, y87, hf.sub ⟨rfl, rfl, rfl, rfl, rfl, rfl, rfl, rfl, rfl, rfl, rfl, rfl, trivial⟩, hp⟩
           ·
            refine st_alloc (cs := [.slice none 0 0, .float .f64 0]) (zv := .agg #[.slice none 0 0, .float .f64 0]) hf (by decide) (by kernel_rfl) rfl hp rfl ?_
            clear hf; intro a w v88 hf hp0; clear hp; have hp := hp0; clear hp0
            replace hp : Hp _ _ _ (Res.obj 98 v88 [.slice none 0 0, .float .f64 0] :: _ :: _ :: _ :: ow) := hp
            refine nx hf (fun _ _ => ⟨_, hp⟩) ?_
            refine dr_one 14 rfl (by kernel_rfl) ?_
            refine st_call hf (by decide) Try.func34 rfl rfl rfl rfl rfl (f_foghornref23_cost_c hp _ _ _ _ _ (show Fl.rep bb77 ((gt l1 i10).1).1 from y79) (show Fl.rep bb78 ((gt l1 i10).1).2 from y80) _ hcall83) ?_
            rintro _ w ⟨v84, rfl, y85, hp0⟩
            clear hp; have hp := hp0; clear hp0
            replace hp : Hp _ _ _ (_ :: _ :: _ :: _ :: ow) := hp
            refine ⟨_, rfl, ?_⟩
            clear hf; intro a hf
            refine nx hf (fun _ _ => ⟨_, hp⟩) ?_
            refine dr_one 15 rfl (by kernel_rfl) ?_
            refine st_farith (op := .add) rfl hf (by decide) hp rfl rfl rfl (show Fl.rep bb70 ((gt (gt now9 sx12) k13).2) from y72) (show Fl.rep v84 q82 from y85) ?_
            clear hf; intro a w bb86 y87 hf hp0; clear hp; have hp := hp0; clear hp0
            replace hp : Hp _ _ _ (_ :: _ :: _ :: _ :: ow) := hp
            refine nx hf (fun _ _ => ⟨_, hp⟩) ?_
            refine dr_takeK 16 (.agg #[.slice none 0 0, .float .f64 bb86]) rfl hf rfl (fun w ⟨_, hp⟩ => ?_) ⟨_, hp⟩ ?_
            · exact st_buildA (vals := [(1, .float .f64 bb86)]) (cells := [.slice none 0 0, .float .f64 bb86]) hf (by decide) rfl (by simp [hf.ev (x := (Operand.tmp 90)) rfl]) (fun w => by kernel_rfl) tk
            clear hf; intro a hf
            refine dr_one 18 rfl (by kernel_rfl) ?_
            refine st_stO (us := [.slice none 0 0, .float .f64 bb86]) hf hp (i := 0) rfl rfl rfl rfl rfl (by rfl) (by kernel_rfl) (Nat.le_of_ble_eq_true rfl) ?_
            clear hf; intro a w hf hp0; clear hp; have hp := hp0; clear hp0
            replace hp : Hp _ _ _ (Res.obj 98 v88 [.slice none 0 0, .float .f64 bb86] :: _ :: _ :: _ :: ow) := hp
            refine nx hf (fun _ _ => ⟨_, hp⟩) ?_
            refine dr_end (by kernel_rfl) ?_ _
            have hp := bk64 _ _ hp
            exact ⟨bb86, v88, y87, hf.sub ⟨rfl, rfl, rfl, rfl, rfl, rfl, rfl, rfl, rfl, rfl, rfl, rfl, trivial⟩, hp⟩
          rintro a w ⟨bb86, v88, y87, hf, hp⟩
          refine th_n ?_
          refine wp_seq ?_
          refine wp_reg ?_
          refine st_build0 (E := Ek.bool) hf (by decide) elt4 Try.underlying25 hp rfl ?_
          clear hf; intro a w v90 hf hp0; clear hp; have hp := hp0; clear hp0
          replace hp : Hp _ _ _ (Res.sl Ek.bool 4 v90 ([] : List Bool) :: Res.rows (RowK.sl (Ek.pair (Ek.fz bs47) Ek.f64) 98) 94 v14 vs15 now9 :: _ :: _ :: _ :: _ :: ow) := hp
          refine st_move hf rfl rfl (by decide) ?_
          clear hf; intro a ha hf; clear ha
          refine st_move hf rfl rfl (by decide) ?_
          clear hf; intro a ha hf; clear ha
          obtain ⟨hc92, h⟩ := chk h
          refine st_indexV (E := Ek.val) (m := now9.length) hf (by decide) Try.underlying95 eltv94 rfl rfl rfl (hp.rd (i := 1) rfl).shapeNY hc92.1 hc92.2 ?_
          clear hf; intro a ha hf; clear ha
          refine st_ldRY hf (by decide) pl94 rfl rfl (hp.rd (i := 1) rfl) hc92.1 hc92.2 ?_
          clear hf; intro a ha hf; clear ha
          refine st_move hf rfl rfl (by decide) ?_
          clear hf; intro a ha hf; clear ha
          obtain ⟨hc93, h⟩ := chk h
          refine st_index (E := (Ek.pair (Ek.fz bs47) Ek.f64)) hf (by decide) Try.underlying94 (elt98 bs47) rfl rfl rfl (RdR.rowS (hp.rd (i := 1) rfl) hc92.1 hc92.2) hc93.1 hc93.2 ?_
          clear hf; intro a ha hf; clear ha
          refine st_faP (off := 0) (sz := 1) hf (by decide) (by kernel_rfl) (by decide) rfl rfl (Sl.isP (RdR.rowS (hp.rd (i := 1) rfl) hc92.1 hc92.2) hc93.1 hc93.2) ?_
          clear hf; intro a ha hf; clear ha
          refine st_ldQZ (bs := bs47) (yv := (gt (gt now9 sx12) k13).1) hf (by decide) pl25 rfl rfl (Sl.part (E := (Ek.pair (Ek.fz bs47) Ek.f64)) (F := (Ek.fz bs47)) (o := 0) (Sub.fst (E := (Ek.fz bs47)) (F := Ek.f64)) (RdR.rowS (hp.rd (i := 1) rfl) hc92.1 hc92.2) hc93.1 hc93.2) ?_
          clear hf; intro a v94 y95 ha hf; clear ha
          obtain ⟨hc96, h⟩ := chk h
          refine st_append (E := Ek.bool) hf (by decide) elt4 Try.underlying25 (by decide) hp (i := 0) rfl rfl rfl rfl (FzP.rd y95 (hp.fza (i := 3) rfl)) hc96 ?_
          clear hf; intro a w v97 hf hp0; clear hp; have hp := hp0; clear hp0
          replace hp : Hp _ _ _ (Res.sl Ek.bool 4 v97 (([] : List Bool) ++ (gt (gt now9 sx12) k13).1) :: _ :: _ :: _ :: _ :: _ :: ow) := hp
          refine st_move hf rfl rfl (by decide) ?_
          clear hf; intro a ha hf; clear ha
          refine st_ieql hf (by decide) rfl rfl rfl ?_
          clear hf; intro a ha hf; clear ha
          refine st_build (E := Ek.bool) (xs := [(bx14 == (1 : Int))]) hf (by decide) elt4 Try.underlying25 hp (vals := #[(0, .bool (bx14 == (1 : Int)))]) (cells := #[.bool (bx14 == (1 : Int))]) rfl (by simp [hf.ev (x := (Operand.tmp 103)) rfl]) (Nat.le_of_ble_eq_true rfl) (Nat.le_of_ble_eq_true rfl) (z := .bool false) (by kernel_rfl) (by kernel_rfl) rfl (reps_cons (cs := [.bool (bx14 == (1 : Int))]) rfl (reps_nil _)) ?_
          clear hf; intro a w v98 hf hp0; clear hp; have hp := hp0; clear hp0
          replace hp : Hp _ _ _ (Res.sl Ek.bool 4 v98 ([(bx14 == (1 : Int))]) :: _ :: _ :: _ :: _ :: _ :: _ :: ow) := hp
          obtain ⟨hc100, h⟩ := chk h
          refine st_append (E := Ek.bool) hf (by decide) elt4 Try.underlying25 (by decide) hp (i := 1) rfl rfl rfl rfl (hp.sl (i := 0) rfl) hc100 ?_
          clear hf; intro a w v101 hf hp0; clear hp; have hp := hp0; clear hp0
          replace hp : Hp _ _ _ (_ :: Res.sl Ek.bool 4 v101 ((([] : List Bool) ++ (gt (gt now9 sx12) k13).1) ++ [(bx14 == (1 : Int))]) :: _ :: _ :: _ :: _ :: _ :: ow) := hp
          refine st_fa (o' := 0) hf (by decide) (off := 0) (sz := 1) (by kernel_rfl) (by decide) rfl rfl (hp.ob (i := 3) rfl) rfl ?_
          clear hf; intro a ha hf; clear ha
          have hp : Hp _ _ _ (_ :: _ :: _ :: _ :: _ :: _ :: _ :: ow) := Hp.sel (pre := [Res.sl Ek.bool 4 v98 ([(bx14 == (1 : Int))]), Res.sl Ek.bool 4 v101 ((([] : List Bool) ++ (gt (gt now9 sx12) k13).1) ++ [(bx14 == (1 : Int))]), Res.rows (RowK.sl (Ek.pair (Ek.fz bs47) Ek.f64) 98) 94 v14 vs15 now9, Res.obj 98 v88 [.slice none 0 0, .float .f64 bb86], Res.fz 4 bs47, Res.rows (RowK.sl (Ek.pair (Ek.fz bs47) Ek.f64) 98) 94 v48 vs49 then11, Res.obj 24 v2 [.int .i64 cx0_Length, .int .u32 cx0_One, .int .u32 cx0_Two]]) (tail := ow) (rs' := [Res.sl Ek.bool 4 v101 ((([] : List Bool) ++ (gt (gt now9 sx12) k13).1) ++ [(bx14 == (1 : Int))]), Res.fz 4 bs47, Res.sl Ek.bool 4 v98 ([(bx14 == (1 : Int))]), Res.rows (RowK.sl (Ek.pair (Ek.fz bs47) Ek.f64) 98) 94 v14 vs15 now9, Res.obj 98 v88 [.slice none 0 0, .float .f64 bb86], Res.rows (RowK.sl (Ek.pair (Ek.fz bs47) Ek.f64) 98) 94 v48 vs49 then11, Res.obj 24 v2 [.int .i64 cx0_Length, .int .u32 cx0_One, .int .u32 cx0_Two]]) hp [1, 4, 0, 2, 3, 5, 6] (by decide) (by simp) rfl
          obtain ⟨y102, hp⟩ := Hp.freeze hp
          replace hp : Hp _ _ _ (Res.fz 4 (bs47 ++ [(v101, ((([] : List Bool) ++ (gt (gt now9 sx12) k13).1) ++ [(bx14 == (1 : Int))]))]) :: _ :: Res.rows (RowK.sl (Ek.pair (Ek.fz (bs47 ++ [(v101, ((([] : List Bool) ++ (gt (gt now9 sx12) k13).1) ++ [(bx14 == (1 : Int))]))])) Ek.f64) 98) 94 v14 vs15 now9 :: _ :: Res.rows (RowK.sl (Ek.pair (Ek.fz (bs47 ++ [(v101, ((([] : List Bool) ++ (gt (gt now9 sx12) k13).1) ++ [(bx14 == (1 : Int))]))])) Ek.f64) 98) 94 v48 vs49 then11 :: _ :: ow) := hp.impL (ImpL.same (ImpL.same (ImpL.rows rfl (pair_up (fz_up _) (fun _ _ h => h)) (ImpL.same (ImpL.rows rfl (pair_up (fz_up _) (fun _ _ h => h)) (ImpL.same (ImpL.refl ow)))))))
          refine st_stO (us := [v101]) hf hp (i := 3) rfl rfl rfl rfl (cells_sh (FzP.rd y102 (hp.fza (i := 0) rfl)).shapeV) (ones_sh (FzP.rd y102 (hp.fza (i := 0) rfl)).shapeV) (by kernel_rfl) (Nat.le_of_ble_eq_true rfl) ?_
          clear hf; intro a w hf hp0; clear hp; have hp := hp0; clear hp0
          replace hp : Hp _ _ _ (_ :: _ :: _ :: Res.obj 98 v88 [v101, .float .f64 bb86] :: _ :: _ :: ow) := hp
          refine st_nil hf ?_
          refine th_n ?_
          obtain ⟨S103, hp104, rd105, up106, bk107⟩ := Hp.lendR hp (i := 4) rfl
          obtain ⟨S108, hp109, rd110, up111, bk112⟩ := Hp.lendO hp104 (i := 3) rfl
          have rl113 := ((((hl1.now hp).mono up106).now hp104).mono up111)
          have rl114 := ((rd105.now hp104).mono up111)
          have rl115 := rd110
          obtain ⟨hc116, h⟩ := chk h
          obtain ⟨q117, hcall118, h⟩ := bnd h
          obtain ⟨hc126, h⟩ := chk h
          refine wp_cutN (fun a w => ∃ (v124 : Value), Fr 118 a [(1, vl1), (2, .int .i64 last2), (3, optr v2 0), (7, .int .i64 q4.1), (9, v14), (10, .int .i64 i10), (11, v48), (12, .int .i64 sx12), (13, .int .i64 k13), (14, .int .i64 bx14)] ∧ Hp S w0 w (Res.rows (RowK.sl (Ek.pair (Ek.fz (bs47 ++ [(v101, ((([] : List Bool) ++ (gt (gt now9 sx12) k13).1) ++ [(bx14 == (1 : Int))]))])) Ek.f64) 98) 94 v48 (vs49.set (q58.1).toNat v124) (then11.set (q58.1).toNat (q117 : (List ((List Bool) × Fl)))) :: Res.obj 98 v88 [v101, .float .f64 bb86] :: Res.fz 4 (bs47 ++ [(v101, ((([] : List Bool) ++ (gt (gt now9 sx12) k13).1) ++ [(bx14 == (1 : Int))]))]) :: Res.sl Ek.bool 4 v98 ([(bx14 == (1 : Int))]) :: Res.rows (RowK.sl (Ek.pair (Ek.fz (bs47 ++ [(v101, ((([] : List Bool) ++ (gt (gt now9 sx12) k13).1) ++ [(bx14 == (1 : Int))]))])) Ek.f64) 98) 94 v14 vs15 now9 :: Res.obj 24 v2 [.int .i64 cx0_Length, .int .u32 cx0_One, .int .u32 cx0_Two] :: ow)) ?_ ?_
          ·
           have hp := hp109.same (Same.drew w)
           refine dr_begin' _ (fun w' => ∃ l, Hp S108 w w' l) [9] (by kernel_rfl) ?_
           refine dr_takeP 0 (v48) rfl (by kernel_rfl) (by kernel_rfl) (by kernel_rfl) rfl rfl hf (by decide) rfl (fun w => ?_) ?_
           ·
            refine st_move hf rfl rfl (by decide) ?_
            clear hf; intro a ha hf
            exact st_nil hf (th_n ⟨ha, rfl⟩)
           clear hf; intro a hf
           refine dr_takeP 1 (.int .i64 q58.1) rfl (by kernel_rfl) (by kernel_rfl) (by kernel_rfl) rfl rfl hf (by decide) rfl (fun w => ?_) ?_
           ·
            refine st_move hf rfl rfl (by decide) ?_
            clear hf; intro a ha hf
            exact st_nil hf (th_n ⟨ha, rfl⟩)
           clear hf; intro a hf
           refine dr_takeP 2 (v48) rfl (by kernel_rfl) (by kernel_rfl) (by kernel_rfl) rfl rfl hf (by decide) rfl (fun w => ?_) ?_
           ·
            refine st_move hf rfl rfl (by decide) ?_
            clear hf; intro a ha hf
            exact st_nil hf (th_n ⟨ha, rfl⟩)
           clear hf; intro a hf
           refine dr_takeP 3 (.int .i64 q58.1) rfl (by kernel_rfl) (by kernel_rfl) (by kernel_rfl) rfl rfl hf (by decide) rfl (fun w => ?_) ?_
           ·
            refine st_move hf rfl rfl (by decide) ?_
            clear hf; intro a ha hf
            exact st_nil hf (th_n ⟨ha, rfl⟩)
           clear hf; intro a hf
           refine dr_takeP 4 (eptr v48 q58.1 1) rfl (by kernel_rfl) (by kernel_rfl) (by kernel_rfl) rfl rfl hf (by decide) rfl (fun w => ?_) ?_
           ·
            refine st_indexV (E := Ek.val) (m := then11.length) hf (by decide) Try.underlying95 eltv94 rfl rfl rfl rl114.shapeNY hc116.1 hc116.2 ?_
            clear hf; intro a ha hf
            exact st_nil hf (th_n ⟨ha, rfl⟩)
           clear hf; intro a hf
           refine dr_take2 5 ((gtv vs49 q58.1)) rfl (by kernel_rfl) (by kernel_rfl) (by kernel_rfl) (by kernel_rfl) (by kernel_rfl) rfl rfl hf (by decide) rfl (fun w hp => ?_) ⟨_, hp⟩ ?_
           ·
            obtain ⟨_, hp⟩ := hp
            refine st_ldRY hf (by decide) pl94 rfl rfl (rl114.ob hp) hc116.1 hc116.2 ?_
            clear hf; intro a ha hf
            exact st_nil hf (th_n ⟨ha, rfl⟩)
           clear hf; intro a hf
           refine dr_take2 6 (.agg #[v101, .float .f64 bb86]) rfl (by kernel_rfl) (by kernel_rfl) (by kernel_rfl) (by kernel_rfl) (by kernel_rfl) rfl rfl hf (by decide) rfl (fun w hp => ?_) ⟨_, hp⟩ ?_
           ·
            obtain ⟨_, hp⟩ := hp
            refine st_ldOA (m := 2) (us := [v101, .float .f64 bb86]) hf (by decide) (by kernel_rfl) rfl rfl (rl115.ob hp) rfl rfl ?_
            clear hf; intro a ha hf
            exact st_nil hf (th_n ⟨ha, rfl⟩)
           clear hf; intro a hf
           refine dr_one 7 rfl (by kernel_rfl) ?_
           obtain ⟨S119, hp120, rd121, up122, bk123⟩ := Hp.lendF hp (i := 0) rfl
           refine st_call hf (by decide) Try.func66 rfl rfl rfl rfl rfl (f_foghornref23_put_c hp120 _ rd121 _ _ (((RdR.rowS rl114 hc116.1 hc116.2).now hp).mono up122) _ _ y102 _ _ (show Fl.rep bb86 (fadd ((gt (gt now9 sx12) k13).2) q82) from y87) hcall118) ?_
           rintro _ w ⟨v124, rfl, hp0⟩
           have hp0 := bk123 _ _ hp0
           clear hp; have hp := hp0; clear hp0
           replace hp : Hp _ _ _ (_ :: Res.sl (Ek.pair (Ek.fz (bs47 ++ [(v101, ((([] : List Bool) ++ (gt (gt now9 sx12) k13).1) ++ [(bx14 == (1 : Int))]))])) Ek.f64) 98 v124 q117 :: _ :: _ :: _ :: ow) := hp
           refine ⟨_, rfl, ?_⟩
           clear hf; intro a hf
           refine nx hf (fun _ _ => ⟨_, hp⟩) ?_
           refine dr_takeP 8 (eptr v48 q58.1 1) rfl (by kernel_rfl) (by kernel_rfl) (by kernel_rfl) rfl rfl hf (by decide) rfl (fun w => ?_) ?_
           ·
            refine st_indexV (E := Ek.val) (m := then11.length) hf (by decide) Try.underlying95 eltv94 rfl rfl rfl rl114.shapeNY hc126.1 hc126.2 ?_
            clear hf; intro a ha hf
            exact st_nil hf (th_n ⟨ha, rfl⟩)
           clear hf; intro a hf
           have hp := bk112 _ _ hp
           have hp := bk107 _ _ hp
           refine dr_one 9 rfl (by kernel_rfl) ?_
           have hp : Hp _ _ _ (Res.rows (RowK.sl (Ek.pair (Ek.fz (bs47 ++ [(v101, ((([] : List Bool) ++ (gt (gt now9 sx12) k13).1) ++ [(bx14 == (1 : Int))]))])) Ek.f64) 98) 94 v48 vs49 then11 :: _ :: Res.obj 98 v88 [v101, .float .f64 bb86] :: _ :: _ :: _ :: _ :: ow) := Hp.sel (pre := [Res.rows (RowK.sl (Ek.pair (Ek.fz (bs47 ++ [(v101, ((([] : List Bool) ++ (gt (gt now9 sx12) k13).1) ++ [(bx14 == (1 : Int))]))])) Ek.f64) 98) 94 v48 vs49 then11, Res.obj 98 v88 [v101, .float .f64 bb86], Res.fz 4 (bs47 ++ [(v101, ((([] : List Bool) ++ (gt (gt now9 sx12) k13).1) ++ [(bx14 == (1 : Int))]))]), Res.sl (Ek.pair (Ek.fz (bs47 ++ [(v101, ((([] : List Bool) ++ (gt (gt now9 sx12) k13).1) ++ [(bx14 == (1 : Int))]))])) Ek.f64) 98 v124 q117, Res.sl Ek.bool 4 v98 ([(bx14 == (1 : Int))]), Res.rows (RowK.sl (Ek.pair (Ek.fz (bs47 ++ [(v101, ((([] : List Bool) ++ (gt (gt now9 sx12) k13).1) ++ [(bx14 == (1 : Int))]))])) Ek.f64) 98) 94 v14 vs15 now9, Res.obj 24 v2 [.int .i64 cx0_Length, .int .u32 cx0_One, .int .u32 cx0_Two]]) (tail := ow) (rs' := [Res.rows (RowK.sl (Ek.pair (Ek.fz (bs47 ++ [(v101, ((([] : List Bool) ++ (gt (gt now9 sx12) k13).1) ++ [(bx14 == (1 : Int))]))])) Ek.f64) 98) 94 v48 vs49 then11, Res.sl (Ek.pair (Ek.fz (bs47 ++ [(v101, ((([] : List Bool) ++ (gt (gt now9 sx12) k13).1) ++ [(bx14 == (1 : Int))]))])) Ek.f64) 98 v124 q117, Res.obj 98 v88 [v101, .float .f64 bb86], Res.fz 4 (bs47 ++ [(v101, ((([] : List Bool) ++ (gt (gt now9 sx12) k13).1) ++ [(bx14 == (1 : Int))]))]), Res.sl Ek.bool 4 v98 ([(bx14 == (1 : Int))]), Res.rows (RowK.sl (Ek.pair (Ek.fz (bs47 ++ [(v101, ((([] : List Bool) ++ (gt (gt now9 sx12) k13).1) ++ [(bx14 == (1 : Int))]))])) Ek.f64) 98) 94 v14 vs15 now9, Res.obj 24 v2 [.int .i64 cx0_Length, .int .u32 cx0_One, .int .u32 cx0_Two]]) hp [0, 3, 1, 2, 4, 5, 6] (by decide) (by simp) rfl
           refine st_storeR (K := (RowK.sl (Ek.pair (Ek.fz (bs47 ++ [(v101, ((([] : List Bool) ++ (gt (gt now9 sx12) k13).1) ++ [(bx14 == (1 : Int))]))])) Ek.f64) 98)) (b := (q117 : (List ((List Bool) × Fl)))) hf eltv94 hp (hp.sl (i := 1) rfl).shapeV rfl rfl rfl hc126.1 (by simp only [List.length_set, List.length_map]; exact hc126.2) ?_
           clear hf; intro a w hf hp0; clear hp; have hp := hp0; clear hp0
           rw [fill2] at hp
           replace hp : Hp _ _ _ (Res.rows (RowK.sl (Ek.pair (Ek.fz (bs47 ++ [(v101, ((([] : List Bool) ++ (gt (gt now9 sx12) k13).1) ++ [(bx14 == (1 : Int))]))])) Ek.f64) 98) 94 v48 (vs49.set (q58.1).toNat v124) (then11.set (q58.1).toNat (q117 : (List ((List Bool) × Fl)))) :: _ :: _ :: _ :: _ :: _ :: ow) := hp
           refine st_nil hf (th_n ⟨fun hn => absurd hn (by decide), ?_⟩)
           refine dr_end (by kernel_rfl) ?_ _
           exact ⟨v124, hf.sub ⟨rfl, rfl, rfl, rfl, rfl, rfl, rfl, rfl, rfl, rfl, trivial⟩, hp⟩
          rintro a w ⟨v124, hf, hp⟩
          refine ib_n ?_
          refine th_n ?_
          refine wp_reg ?_
          refine st_move hf rfl rfl (by decide) ?_
          clear hf; intro a ha hf; clear ha
          refine st_iadd hf (by decide) rfl rfl rfl ?_
          clear hf; intro a ha hf; clear ha
          refine st_assign hf rfl rfl (by decide) ?_
          clear hf; intro a ha hf; clear ha
          refine st_nil hf ?_
          obtain rfl := Option.some.inj h
          have hp : Hp _ _ _ (_ :: _ :: _ :: _ :: ow) := Hp.sel (pre := [Res.rows (RowK.sl (Ek.pair (Ek.fz (bs47 ++ [(v101, ((([] : List Bool) ++ (gt (gt now9 sx12) k13).1) ++ [(bx14 == (1 : Int))]))])) Ek.f64) 98) 94 v48 (vs49.set (q58.1).toNat v124) (then11.set (q58.1).toNat (q117 : (List ((List Bool) × Fl)))), Res.obj 98 v88 [v101, .float .f64 bb86], Res.fz 4 (bs47 ++ [(v101, ((([] : List Bool) ++ (gt (gt now9 sx12) k13).1) ++ [(bx14 == (1 : Int))]))]), Res.sl Ek.bool 4 v98 ([(bx14 == (1 : Int))]), Res.rows (RowK.sl (Ek.pair (Ek.fz (bs47 ++ [(v101, ((([] : List Bool) ++ (gt (gt now9 sx12) k13).1) ++ [(bx14 == (1 : Int))]))])) Ek.f64) 98) 94 v14 vs15 now9, Res.obj 24 v2 [.int .i64 cx0_Length, .int .u32 cx0_One, .int .u32 cx0_Two]]) (tail := ow) (rs' := [Res.fz 4 (bs47 ++ [(v101, ((([] : List Bool) ++ (gt (gt now9 sx12) k13).1) ++ [(bx14 == (1 : Int))]))]), Res.rows (RowK.sl (Ek.pair (Ek.fz (bs47 ++ [(v101, ((([] : List Bool) ++ (gt (gt now9 sx12) k13).1) ++ [(bx14 == (1 : Int))]))])) Ek.f64) 98) 94 v48 (vs49.set (q58.1).toNat v124) (then11.set (q58.1).toNat (q117 : (List ((List Bool) × Fl)))), Res.obj 24 v2 [.int .i64 cx0_Length, .int .u32 cx0_One, .int .u32 cx0_Two], Res.rows (RowK.sl (Ek.pair (Ek.fz (bs47 ++ [(v101, ((([] : List Bool) ++ (gt (gt now9 sx12) k13).1) ++ [(bx14 == (1 : Int))]))])) Ek.f64) 98) 94 v14 vs15 now9]) hp [2, 0, 5, 4] (by decide) (by simp) rfl
          exact rnd_l ⟨_, _, _, hf.sub ⟨rfl, rfl, rfl, rfl, rfl, rfl, rfl, rfl, rfl, rfl, trivial⟩, hp⟩
         replace h := ifF h hb
         refine wp_exit ?_
         refine th_e ?_
         obtain rfl := Option.some.inj h
         exact rnd_r (by simp) ⟨rfl, _, _, _, hf.sub ⟨rfl, rfl, rfl, rfl, rfl, rfl, rfl, rfl, rfl, trivial⟩, hp⟩
        clear hl hf hp
        intro e a w hne hO
        obtain ⟨rfl, bs52, v53, vs54, hf, hp⟩ := hO
        refine ib_same ?_
        refine ib_n ?_
        refine th_n ?_
        refine wp_reg ?_
        refine st_move hf rfl rfl (by decide) ?_
        clear hf; intro a ha hf; clear ha
        refine st_iadd hf (by decide) rfl rfl rfl ?_
        clear hf; intro a ha hf; clear ha
        refine st_assign hf rfl rfl (by decide) ?_
        clear hf; intro a ha hf; clear ha
        refine st_nil hf ?_
        obtain rfl := Option.some.inj h
        exact rnd_l ⟨_, _, _, hf.sub ⟨rfl, rfl, rfl, rfl, rfl, rfl, rfl, rfl, rfl, trivial⟩, hp⟩
       replace h := ifF h hb
       refine wp_exit ?_
       refine th_e ?_
       obtain rfl := Option.some.inj h
       exact rnd_r (by simp) ⟨rfl, _, _, _, hf.sub ⟨rfl, rfl, rfl, rfl, rfl, rfl, rfl, rfl, trivial⟩, hp⟩
      clear hl hf hp
      intro e a w hne hO
      obtain ⟨rfl, bs41, v42, vs43, hf, hp⟩ := hO
      refine ib_same ?_
      refine ib_n ?_
      refine th_n ?_
      refine wp_reg ?_
      refine st_move hf rfl rfl (by decide) ?_
      clear hf; intro a ha hf; clear ha
      refine st_iadd hf (by decide) rfl rfl rfl ?_
      clear hf; intro a ha hf; clear ha
      refine st_assign hf rfl rfl (by decide) ?_
      clear hf; intro a ha hf; clear ha
      refine st_nil hf ?_
      obtain rfl := Option.some.inj h
      exact rnd_l ⟨_, _, _, hf.sub ⟨rfl, rfl, rfl, rfl, rfl, rfl, rfl, rfl, trivial⟩, hp⟩
     replace h := ifF h hb
     refine wp_exit ?_
     refine th_e ?_
     obtain rfl := Option.some.inj h
     have hp : Hp _ _ _ (Res.fz 4 bs26 :: Res.rows (RowK.sl (Ek.pair (Ek.fz bs26) Ek.f64) 98) 94 v27 vs28 then11 :: _ :: ow) := Hp.sel (pre := [Res.fz 4 bs26, Res.rows (RowK.sl (Ek.pair (Ek.fz bs26) Ek.f64) 98) 94 v27 vs28 then11, Res.obj 24 v2 [.int .i64 cx0_Length, .int .u32 cx0_One, .int .u32 cx0_Two], Res.rows (RowK.sl (Ek.pair (Ek.fz bs26) Ek.f64) 98) 94 v14 vs15 now9]) (tail := ow) (rs' := [Res.fz 4 bs26, Res.rows (RowK.sl (Ek.pair (Ek.fz bs26) Ek.f64) 98) 94 v27 vs28 then11, Res.obj 24 v2 [.int .i64 cx0_Length, .int .u32 cx0_One, .int .u32 cx0_Two]]) hp [0, 1, 2] (by decide) (by simp) rfl
     exact rnd_r (by simp) ⟨rfl, _, _, _, hf.sub ⟨rfl, rfl, rfl, rfl, rfl, rfl, trivial⟩, hp⟩
    clear hl hf hp
    intro e a w hne hO
    obtain ⟨rfl, bs31, v32, vs33, hf, hp⟩ := hO
    refine ib_same ?_
    refine th_n ?_
    refine wp_reg ?_
    refine st_move hf rfl rfl (by decide) ?_
    clear hf; intro a ha hf; clear ha
    refine st_assign hf rfl rfl (by decide) ?_
    clear hf; intro a ha hf; clear ha
    refine st_nil hf ?_
    refine ib_n ?_
    refine th_n ?_
    refine wp_reg ?_
    refine st_move hf rfl rfl (by decide) ?_
    clear hf; intro a ha hf; clear ha
    refine st_iadd hf (by decide) rfl rfl rfl ?_
    clear hf; intro a ha hf; clear ha
    refine st_assign hf rfl rfl (by decide) ?_
    clear hf; intro a ha hf; clear ha
    refine st_nil hf ?_
    obtain rfl := Option.some.inj h
    exact rnd_l ⟨_, _, _, hf.sub ⟨rfl, rfl, rfl, rfl, rfl, rfl, trivial⟩, hp⟩
   replace h := ifF h hb
   refine wp_exit ?_
   refine th_e ?_
   obtain rfl := Option.some.inj h
   have hp : Hp _ _ _ (Res.fz 4 bs13 :: Res.rows (RowK.sl (Ek.pair (Ek.fz bs13) Ek.f64) 98) 94 v14 vs15 now9 :: ow) := Hp.sel (pre := [Res.fz 4 bs13, Res.rows (RowK.sl (Ek.pair (Ek.fz bs13) Ek.f64) 98) 94 v14 vs15 now9, Res.obj 24 v2 [.int .i64 cx0_Length, .int .u32 cx0_One, .int .u32 cx0_Two]]) (tail := ow) (rs' := [Res.fz 4 bs13, Res.rows (RowK.sl (Ek.pair (Ek.fz bs13) Ek.f64) 98) 94 v14 vs15 now9]) hp [0, 1] (by decide) (by simp) rfl
   exact rnd_r (by simp) ⟨rfl, _, _, _, hf.sub ⟨rfl, trivial⟩, hp⟩
  clear hl hf hp
  intro e a w hne hO
  obtain ⟨rfl, bs18, v19, vs20, hf, hp⟩ := hO
  refine ib_same ?_
  refine th_n ?_
  refine wp_seq ?_
  refine wp_reg ?_
  refine st_move hf rfl rfl (by decide) ?_
  clear hf; intro a ha hf; clear ha
  refine st_assign hf rfl rfl (by decide) ?_
  clear hf; intro a ha hf; clear ha
  refine st_nil hf ?_
  refine th_n ?_
  refine wp_ret ?_
  obtain rfl := Option.some.inj h
  have hp : Hp _ _ _ (Res.rows (RowK.sl (Ek.pair (Ek.fz bs18) Ek.f64) 98) 94 v19 vs20 q130 :: Res.fz 4 bs18 :: ow) := Hp.sel (pre := [Res.fz 4 bs18, Res.rows (RowK.sl (Ek.pair (Ek.fz bs18) Ek.f64) 98) 94 v19 vs20 q130]) (tail := ow) (rs' := [Res.rows (RowK.sl (Ek.pair (Ek.fz bs18) Ek.f64) 98) 94 v19 vs20 q130, Res.fz 4 bs18]) hp [1, 0] (by decide) (by simp) rfl
  exact ⟨rfl, ⟨_, _, _, hf.sub ⟨rfl, trivial⟩, hp⟩⟩

noncomputable def f_foghornref23_Decode (cx0_Length : Int) (cx0_One : Int) (cx0_Two : Int) (l1 : (List ((Fl × Fl) × Bool))) : Option ((List Bool) × Fl × Fl × Bool × Int) := ((f_foghornref23_wrong cx0_Length cx0_One cx0_Two l1 (IntKind.i64.wrap (cx0_Length - (1 : Int)))).bind fun q3 => (if (q3 != (0 : Int)) = true then (some ([], (Fl.bits 0), (Fl.bits 0), false, q3)) else ((f_foghornref23_run cx0_Length cx0_One cx0_Two l1 (IntKind.i64.wrap (cx0_Length - (1 : Int)))).bind fun q6 => (if 0 ≤ (0 : Int) ∧ (0 : Int) < (q6.length : Int) then (if 0 ≤ (0 : Int) ∧ (0 : Int) < ((gt q6 (0 : Int)).length : Int) then (if 0 ≤ (IntKind.i64.wrap ((IntKind.i64.wrap ((l1.length : Int) - cx0_Length)) + (1 : Int))) ∧ (IntKind.i64.wrap ((IntKind.i64.wrap ((l1.length : Int) - cx0_Length)) + (1 : Int))) ≤ (((gt (gt q6 (0 : Int)) (0 : Int)).1).length : Int) then (if (decide (((gt q6 (0 : Int)).length : Int) < (2 : Int))) = true then (if 0 ≤ (0 : Int) ∧ (0 : Int) < ((gt q6 (0 : Int)).length : Int) then (some (((((gt (gt q6 (0 : Int)) (0 : Int)).1).drop 0).take (((IntKind.i64.wrap ((IntKind.i64.wrap ((l1.length : Int) - cx0_Length)) + (1 : Int)))).toNat - 0)), (gt (gt q6 (0 : Int)) (0 : Int)).2, (Fl.bits 0), false, (0 : Int))) else none) else (if 0 ≤ (0 : Int) ∧ (0 : Int) < ((gt q6 (0 : Int)).length : Int) then (if 0 ≤ (1 : Int) ∧ (1 : Int) < ((gt q6 (0 : Int)).length : Int) then (if 0 ≤ (0 : Int) ∧ (0 : Int) < ((gt q6 (0 : Int)).length : Int) then (some (((((gt (gt q6 (0 : Int)) (0 : Int)).1).drop 0).take (((IntKind.i64.wrap ((IntKind.i64.wrap ((l1.length : Int) - cx0_Length)) + (1 : Int)))).toNat - 0)), (gt (gt q6 (0 : Int)) (0 : Int)).2, (fsub ((gt (gt q6 (0 : Int)) (1 : Int)).2) ((gt (gt q6 (0 : Int)) (0 : Int)).2)), true, (0 : Int))) else none) else none) else none)) else none) else none) else none))))
theorem f_foghornref23_Decode_c {S : Nat → Prop} {w0 w : World} {ow : List Res} (hp : Hp S w0 w ow) (cx0_Length : Int) (cx0_One : Int) (cx0_Two : Int) (vl1 : Value) (l1 : (List ((Fl × Fl) × Bool))) (hl1 : RdS (Ek.pair Ek.c128 Ek.bool) S w0 vl1 l1) {r : ((List Bool) × Fl × Fl × Bool × Int)} (h : f_foghornref23_Decode cx0_Length cx0_One cx0_Two l1 = some r) :
   Calls Try.prog 23 #[.agg #[.int .i64 cx0_Length, .int .u32 cx0_One, .int .u32 cx0_Two], vl1] w (fun e w' => ∃ (u0 : Value) (b1 : Nat) (b2 : Nat), e = .returned (.tuple #[u0, .float .f64 b1, .float .f64 b2, .bool r.2.2.2.1, .int .i64 r.2.2.2.2]) ∧ Fl.rep b1 r.2.1 ∧ Fl.rep b2 r.2.2.1 ∧ Hp S w0 w' (Res.sl Ek.bool 4 u0 r.1 :: ow)) := by
  unfold f_foghornref23_Decode at h
  refine enter (n := 62) (args := [.agg #[.int .i64 cx0_Length, .int .u32 cx0_One, .int .u32 cx0_Two], vl1]) Try.func23 rfl rfl (Nat.le_of_ble_eq_true rfl) fun a hf => ?_
  replace hf : Fr 62 a [(0, .agg #[.int .i64 cx0_Length, .int .u32 cx0_One, .int .u32 cx0_Two]), (1, vl1)] := hf
  refine wp_mono (Q := fun e a w => e = .ret ∧ ∃ (u0 : Value) (b1 : Nat) (b2 : Nat), Fr 62 a [(4, u0), (5, .float .f64 b1), (6, .float .f64 b2), (7, .bool r.2.2.2.1), (8, .int .i64 r.2.2.2.2)] ∧ Fl.rep b1 r.2.1 ∧ Fl.rep b2 r.2.2.1 ∧ Hp S w0 w (Res.sl Ek.bool 4 u0 r.1 :: ow)) ?_ ?_
  rotate_left
  ·
   rintro e a w ⟨rfl, x0, x1, x2, hf, y0, y1, hp⟩
   exact ret5 hf rfl rfl rfl rfl rfl rfl ⟨x0, x1, x2, rfl, y0, y1, hp⟩
  refine wp_seq ?_
  refine wp_reg ?_
  refine st_boxO (cs := [.int .i64 cx0_Length, .int .u32 cx0_One, .int .u32 cx0_Two]) hf (by decide) hp rfl rfl rfl ?_
  clear hf; intro a w v1 hf hp0; clear hp; have hp := hp0; clear hp0
  replace hp : Hp _ _ _ (Res.obj 24 v1 [.int .i64 cx0_Length, .int .u32 cx0_One, .int .u32 cx0_Two] :: ow) := hp
  refine st_assign hf rfl rfl (by decide) ?_
  clear hf; intro a ha hf; clear ha
  refine st_assign hf rfl rfl (by decide) ?_
  clear hf; intro a ha hf; clear ha
  refine st_assign hf rfl rfl (by decide) ?_
  clear hf; intro a ha hf; clear ha
  refine st_assign hf rfl rfl (by decide) ?_
  clear hf; intro a ha hf; clear ha
  refine st_assign hf rfl rfl (by decide) ?_
  clear hf; intro a ha hf; clear ha
  refine st_nil hf ?_
  refine th_n ?_
  refine wp_seq ?_
  refine wp_reg ?_
  refine st_ldOA (m := 3) (us := [.int .i64 cx0_Length, .int .u32 cx0_One, .int .u32 cx0_Two]) hf (by decide) (by kernel_rfl) rfl rfl (hp.ob (i := 0) rfl) rfl rfl ?_
  clear hf; intro a ha hf; clear ha
  refine st_move hf rfl rfl (by decide) ?_
  clear hf; intro a ha hf; clear ha
  refine st_fa (o' := 0) hf (by decide) (off := 0) (sz := 1) (by kernel_rfl) (by decide) rfl rfl (hp.ob (i := 0) rfl) rfl ?_
  clear hf; intro a ha hf; clear ha
  refine st_ldO (u := .int .i64 cx0_Length) hf (by decide) pl3 rfl rfl (hp.ob (i := 0) rfl) rfl ?_
  clear hf; intro a ha hf; clear ha
  refine st_isub hf (by decide) rfl rfl rfl ?_
  clear hf; intro a ha hf; clear ha
  obtain ⟨q3, hcall4, h⟩ := bnd h
  refine st_call hf (by decide) Try.func48 rfl rfl rfl rfl rfl (f_foghornref23_wrong_c hp _ _ _ _ _ hl1 _ hcall4) ?_
  rintro _ w ⟨rfl, hp0⟩
  clear hp; have hp := hp0; clear hp0
  replace hp : Hp _ _ _ (_ :: ow) := hp
  refine ⟨_, rfl, ?_⟩
  clear hf; intro a hf
  refine st_assign hf rfl rfl (by decide) ?_
  clear hf; intro a ha hf; clear ha
  refine st_nil hf ?_
  refine th_n ?_
  refine wp_seq ?_
  refine wp_seq ?_
  refine wp_reg ?_
  refine st_move hf rfl rfl (by decide) ?_
  clear hf; intro a ha hf; clear ha
  refine st_ineq hf (by decide) rfl rfl rfl ?_
  clear hf; intro a ha hf; clear ha
  refine st_nil hf ?_
  refine th_n ?_
  refine wp_if hf rfl (fun hb => ?_) (fun hb => ?_)
  ·
   replace h := ifT h hb
   refine wp_seq ?_
   refine wp_reg ?_
   refine st_move hf rfl rfl (by decide) ?_
   clear hf; intro a ha hf; clear ha
   refine st_assign hf rfl rfl (by decide) ?_
   clear hf; intro a ha hf; clear ha
   refine st_assign hf rfl rfl (by decide) ?_
   clear hf; intro a ha hf; clear ha
   refine st_assign hf rfl rfl (by decide) ?_
   clear hf; intro a ha hf; clear ha
   refine st_assign hf rfl rfl (by decide) ?_
   clear hf; intro a ha hf; clear ha
   refine st_assign hf rfl rfl (by decide) ?_
   clear hf; intro a ha hf; clear ha
   refine st_nil hf ?_
   refine th_n ?_
   refine wp_ret ?_
   refine th_r ?_
   obtain rfl := Option.some.inj h
   have hp := hp.nil Ek.bool 4
   have hp : Hp _ _ _ (Res.sl Ek.bool 4 (.slice none 0 0) ([]) :: ow) := Hp.sel (pre := [Res.sl Ek.bool 4 (.slice none 0 0) ([]), Res.obj 24 v1 [.int .i64 cx0_Length, .int .u32 cx0_One, .int .u32 cx0_Two]]) (tail := ow) (rs' := [Res.sl Ek.bool 4 (.slice none 0 0) ([])]) hp [0] (by decide) (by simp) rfl
   exact ⟨rfl, ⟨_, _, _, hf.sub ⟨rfl, rfl, rfl, rfl, rfl, trivial⟩, rfl, rfl, hp⟩⟩
  replace h := ifF h hb
  refine wp_skip ?_
  refine th_n ?_
  refine wp_seq ?_
  refine wp_reg ?_
  refine st_ldOA (m := 3) (us := [.int .i64 cx0_Length, .int .u32 cx0_One, .int .u32 cx0_Two]) hf (by decide) (by kernel_rfl) rfl rfl (hp.ob (i := 0) rfl) rfl rfl ?_
  clear hf; intro a ha hf; clear ha
  refine st_move hf rfl rfl (by decide) ?_
  clear hf; intro a ha hf; clear ha
  refine st_fa (o' := 0) hf (by decide) (off := 0) (sz := 1) (by kernel_rfl) (by decide) rfl rfl (hp.ob (i := 0) rfl) rfl ?_
  clear hf; intro a ha hf; clear ha
  refine st_ldO (u := .int .i64 cx0_Length) hf (by decide) pl3 rfl rfl (hp.ob (i := 0) rfl) rfl ?_
  clear hf; intro a ha hf; clear ha
  refine st_isub hf (by decide) rfl rfl rfl ?_
  clear hf; intro a ha hf; clear ha
  obtain ⟨q6, hcall7, h⟩ := bnd h
  refine st_call hf (by decide) Try.func49 rfl rfl rfl rfl rfl (f_foghornref23_run_c hp _ _ _ _ _ hl1 _ hcall7) ?_
  rintro _ w ⟨v8, v9, v10, rfl, hp0⟩
  clear hp; have hp := hp0; clear hp0
  replace hp : Hp _ _ _ (Res.rows (RowK.sl (Ek.pair (Ek.fz v8) Ek.f64) 98) 94 v9 v10 q6 :: Res.fz 4 v8 :: Res.obj 24 v1 [.int .i64 cx0_Length, .int .u32 cx0_One, .int .u32 cx0_Two] :: ow) := hp
  refine ⟨_, rfl, ?_⟩
  clear hf; intro a hf
  obtain ⟨hc13, h⟩ := chk h
  refine st_indexV (E := Ek.val) (m := q6.length) hf (by decide) Try.underlying95 eltv94 rfl rfl rfl (hp.rd (i := 0) rfl).shapeNY hc13.1 hc13.2 ?_
  clear hf; intro a ha hf; clear ha
  refine st_ldRY hf (by decide) pl94 rfl rfl (hp.rd (i := 0) rfl) hc13.1 hc13.2 ?_
  clear hf; intro a ha hf; clear ha
  refine st_assign hf rfl rfl (by decide) ?_
  clear hf; intro a ha hf; clear ha
  refine st_nil hf ?_
  refine th_n ?_
  refine wp_seq ?_
  obtain ⟨S14, hp15, rd16, up17, bk18⟩ := Hp.lendR hp (i := 0) rfl
  obtain ⟨S19, hp20, rd21, up22, bk23⟩ := Hp.lendO hp15 (i := 1) rfl
  obtain ⟨S24, hp25, rd26, up27, bk28⟩ := Hp.lendF hp20 (i := 0) rfl
  have rl29 := ((((((hl1.now hp).mono up17).now hp15).mono up22).now hp20).mono up27)
  have rl30 := ((rd21.now hp20).mono up27)
  have rl31 := rd26
  have rl32 := ((((rd16.now hp15).mono up22).now hp20).mono up27)
  have rl33 := (RdR.rowS ((((rd16.now hp15).mono up22).now hp20).mono up27) hc13.1 hc13.2)
  obtain ⟨hc34, h⟩ := chk h
  obtain ⟨v40, y38, hl35⟩ := RdS.pinPZ (p := (0 : Int)) (o := 0) (Sub.fst (E := (Ek.fz v8)) (F := Ek.f64)) rl33 hc34.1 hc34.2
  obtain ⟨hc41, h⟩ := chk h
  have hc42 : 0 ≤ ((IntKind.i64.wrap ((IntKind.i64.wrap ((l1.length : Int) - cx0_Length)) + (1 : Int)))).toNat := by omega
  have hc43 : ((IntKind.i64.wrap ((IntKind.i64.wrap ((l1.length : Int) - cx0_Length)) + (1 : Int)))).toNat ≤ ((gt (gt q6 (0 : Int)) (0 : Int)).1).length := by omega
  refine wp_cutN (fun a w => ∃ (v40 : Value), FzP v8 v40 (gt (gt q6 (0 : Int)) (0 : Int)).1 ∧ Fr 62 a [(10, (gtv v10 (0 : Int))), (11, (GL.cut v40 0 (((IntKind.i64.wrap ((IntKind.i64.wrap ((l1.length : Int) - cx0_Length)) + (1 : Int)))).toNat) 1))] ∧ Hp S w0 w (Res.rows (RowK.sl (Ek.pair (Ek.fz v8) Ek.f64) 98) 94 v9 v10 q6 :: Res.obj 24 v1 [.int .i64 cx0_Length, .int .u32 cx0_One, .int .u32 cx0_Two] :: Res.fz 4 v8 :: ow)) ?_ ?_
  ·
   have hp := hp25.same (Same.drew w)
   refine dr_begin' _ (fun w' => ∃ l, Hp S24 w w' l) [] (by kernel_rfl) ?_
   refine dr_takeK 0 ((gtv v10 (0 : Int))) rfl hf rfl (fun w ⟨_, hp⟩ => ?_) ⟨_, hp⟩ ?_
   · exact st_move hf rfl rfl (by decide) tk
   clear hf; intro a hf
   refine dr_takeK 1 (eptr (gtv v10 (0 : Int)) (0 : Int) 2) rfl hf rfl (fun w ⟨_, hp⟩ => ?_) ⟨_, hp⟩ ?_
   · exact st_index (E := (Ek.pair (Ek.fz v8) Ek.f64)) hf (by decide) Try.underlying94 (elt98 v8) rfl rfl rfl (rl33.sl hp) hc34.1 hc34.2 tk
   clear hf; intro a hf
   refine dr_takeK 2 (optr (eptr (gtv v10 (0 : Int)) (0 : Int) 2) 0) rfl hf rfl (fun w ⟨_, hp⟩ => ?_) ⟨_, hp⟩ ?_
   · exact st_faP (off := 0) (sz := 1) hf (by decide) (by kernel_rfl) (by decide) rfl rfl (Sl.isP (rl33.sl hp) hc34.1 hc34.2) tk
   clear hf; intro a hf
   refine dr_takeK 3 (v40) rfl hf rfl (fun w ⟨_, hp⟩ => ?_) ⟨_, hp⟩ ?_
   · exact st_ldP hf (by decide) pl25 rfl rfl (hl35 _ _ hp) tk
   clear hf; intro a hf
   refine dr_takeK 4 (vl1) rfl hf rfl (fun w ⟨_, hp⟩ => ?_) ⟨_, hp⟩ ?_
   · exact st_move hf rfl rfl (by decide) tk
   clear hf; intro a hf
   refine dr_takeK 5 (.int .i64 (l1.length : Int)) rfl hf rfl (fun w ⟨_, hp⟩ => ?_) ⟨_, hp⟩ ?_
   · exact st_len (E := (Ek.pair Ek.c128 Ek.bool)) hf (by decide) Try.underlying27 rfl rfl (rl29.sl hp) tk
   clear hf; intro a hf
   refine dr_takeK 6 (optr v1 0) rfl hf rfl (fun w ⟨_, hp⟩ => ?_) ⟨_, hp⟩ ?_
   · exact st_fa (o' := 0) hf (by decide) (off := 0) (sz := 1) (by kernel_rfl) (by decide) rfl rfl (rl30.ob hp) rfl tk
   clear hf; intro a hf
   refine dr_takeK 7 (.int .i64 cx0_Length) rfl hf rfl (fun w ⟨_, hp⟩ => ?_) ⟨_, hp⟩ ?_
   · exact st_ldO (u := .int .i64 cx0_Length) hf (by decide) pl3 rfl rfl (rl30.ob hp) rfl tk
   clear hf; intro a hf
   refine dr_takeK 8 (.int .i64 (IntKind.i64.wrap ((l1.length : Int) - cx0_Length))) rfl hf rfl (fun w ⟨_, hp⟩ => ?_) ⟨_, hp⟩ ?_
   · exact st_isub hf (by decide) rfl rfl rfl tk
   clear hf; intro a hf
   refine dr_takeK 9 (.int .i64 (IntKind.i64.wrap ((IntKind.i64.wrap ((l1.length : Int) - cx0_Length)) + (1 : Int)))) rfl hf rfl (fun w ⟨_, hp⟩ => ?_) ⟨_, hp⟩ ?_
   · exact st_iadd hf (by decide) rfl rfl rfl tk
   clear hf; intro a hf
   refine dr_takeK 10 ((GL.cut v40 0 (((IntKind.i64.wrap ((IntKind.i64.wrap ((l1.length : Int) - cx0_Length)) + (1 : Int)))).toNat) 1)) rfl hf rfl (fun w ⟨_, hp⟩ => ?_) ⟨_, hp⟩ ?_
   · exact st_cutS (E := Ek.bool) hf (by decide) Try.underlying25 elt4 rfl rfl (FzP.rd y38 (rl31.ara hp)) (.inl ⟨rfl, rfl⟩) (.inr ⟨_, _, rfl, evI rfl (by omega)⟩) hc42 hc43 tk
   clear hf; intro a hf
   refine dr_takeK 11 ((GL.cut v40 0 (((IntKind.i64.wrap ((IntKind.i64.wrap ((l1.length : Int) - cx0_Length)) + (1 : Int)))).toNat) 1)) rfl hf rfl (fun w ⟨_, hp⟩ => ?_) ⟨_, hp⟩ ?_
   · exact st_assign hf rfl rfl (by decide) tk
   clear hf; intro a hf
   refine dr_end (by kernel_rfl) ?_ _
   have hp := bk28 _ _ hp
   have hp := bk23 _ _ hp
   have hp := bk18 _ _ hp
   exact ⟨v40, y38, hf.sub ⟨rfl, rfl, trivial⟩, hp⟩
  rintro a w ⟨v40, y38, hf, hp⟩
  refine th_n ?_
  refine wp_seq ?_
  refine wp_seq ?_
  refine wp_reg ?_
  refine st_move hf rfl rfl (by decide) ?_
  clear hf; intro a ha hf; clear ha
  refine st_len (E := (Ek.pair (Ek.fz v8) Ek.f64)) hf (by decide) Try.underlying94 rfl rfl (RdR.rowS (hp.rd (i := 0) rfl) hc13.1 hc13.2) ?_
  clear hf; intro a ha hf; clear ha
  refine st_ilss hf (by decide) rfl rfl rfl ?_
  clear hf; intro a ha hf; clear ha
  refine st_nil hf ?_
  refine th_n ?_
  refine wp_if hf rfl (fun hb => ?_) (fun hb => ?_)
  ·
   replace h := ifT h hb
   refine wp_seq ?_
   obtain ⟨S44, hp45, rd46, up47, bk48⟩ := Hp.lendR hp (i := 0) rfl
   have rl49 := (RdR.rowS rd46 hc13.1 hc13.2)
   obtain ⟨hc50, h⟩ := chk h
   obtain ⟨bb52, y54, hl51⟩ := RdS.pinPF (p := (0 : Int)) (o := 1) (Sub.snd (E := (Ek.fz v8)) (F := Ek.f64)) rl49 hc50.1 hc50.2
   refine wp_cutN (fun a w => ∃ (bb52 : Nat), Fl.rep bb52 (gt (gt q6 (0 : Int)) (0 : Int)).2 ∧ Fr 62 a [(4, (GL.cut v40 0 (((IntKind.i64.wrap ((IntKind.i64.wrap ((l1.length : Int) - cx0_Length)) + (1 : Int)))).toNat) 1)), (5, .float .f64 bb52), (6, .float .f64 0), (7, .bool false), (8, .int .i64 (0 : Int))] ∧ Hp S w0 w (Res.rows (RowK.sl (Ek.pair (Ek.fz v8) Ek.f64) 98) 94 v9 v10 q6 :: Res.obj 24 v1 [.int .i64 cx0_Length, .int .u32 cx0_One, .int .u32 cx0_Two] :: Res.fz 4 v8 :: ow)) ?_ ?_
   ·
    have hp := hp45.same (Same.drew w)
    refine dr_begin' _ (fun w' => ∃ l, Hp S44 w w' l) [] (by kernel_rfl) ?_
    refine dr_takeK 0 ((GL.cut v40 0 (((IntKind.i64.wrap ((IntKind.i64.wrap ((l1.length : Int) - cx0_Length)) + (1 : Int)))).toNat) 1)) rfl hf rfl (fun w ⟨_, hp⟩ => ?_) ⟨_, hp⟩ ?_
    · exact st_move hf rfl rfl (by decide) tk
    clear hf; intro a hf
    refine dr_takeK 1 ((gtv v10 (0 : Int))) rfl hf rfl (fun w ⟨_, hp⟩ => ?_) ⟨_, hp⟩ ?_
    · exact st_move hf rfl rfl (by decide) tk
    clear hf; intro a hf
    refine dr_takeK 2 (eptr (gtv v10 (0 : Int)) (0 : Int) 2) rfl hf rfl (fun w ⟨_, hp⟩ => ?_) ⟨_, hp⟩ ?_
    · exact st_index (E := (Ek.pair (Ek.fz v8) Ek.f64)) hf (by decide) Try.underlying94 (elt98 v8) rfl rfl rfl (rl49.sl hp) hc50.1 hc50.2 tk
    clear hf; intro a hf
    refine dr_takeK 3 (optr (eptr (gtv v10 (0 : Int)) (0 : Int) 2) 1) rfl hf rfl (fun w ⟨_, hp⟩ => ?_) ⟨_, hp⟩ ?_
    · exact st_faP (off := 1) (sz := 1) hf (by decide) (by kernel_rfl) (by decide) rfl rfl (Sl.isP (rl49.sl hp) hc50.1 hc50.2) tk
    clear hf; intro a hf
    refine dr_takeK 4 (.float .f64 bb52) rfl hf rfl (fun w ⟨_, hp⟩ => ?_) ⟨_, hp⟩ ?_
    · exact st_ldP hf (by decide) pl29 rfl rfl (hl51 _ _ hp) tk
    clear hf; intro a hf
    refine dr_takeK 5 ((GL.cut v40 0 (((IntKind.i64.wrap ((IntKind.i64.wrap ((l1.length : Int) - cx0_Length)) + (1 : Int)))).toNat) 1)) rfl hf rfl (fun w ⟨_, hp⟩ => ?_) ⟨_, hp⟩ ?_
    · exact st_assign hf rfl rfl (by decide) tk
    clear hf; intro a hf
    refine dr_takeK 6 (.float .f64 bb52) rfl hf rfl (fun w ⟨_, hp⟩ => ?_) ⟨_, hp⟩ ?_
    · exact st_assign hf rfl rfl (by decide) tk
    clear hf; intro a hf
    refine dr_takeK 7 (.float .f64 0) rfl hf rfl (fun w ⟨_, hp⟩ => ?_) ⟨_, hp⟩ ?_
    · exact st_assign hf rfl rfl (by decide) tk
    clear hf; intro a hf
    refine dr_takeK 8 (.bool false) rfl hf rfl (fun w ⟨_, hp⟩ => ?_) ⟨_, hp⟩ ?_
    · exact st_assign hf rfl rfl (by decide) tk
    clear hf; intro a hf
    refine dr_takeK 9 (.int .i64 (0 : Int)) rfl hf rfl (fun w ⟨_, hp⟩ => ?_) ⟨_, hp⟩ ?_
    · exact st_assign hf rfl rfl (by decide) tk
    clear hf; intro a hf
    refine dr_end (by kernel_rfl) ?_ _
    have hp := bk48 _ _ hp
    exact ⟨bb52, y54, hf.sub ⟨rfl, rfl, rfl, rfl, rfl, trivial⟩, hp⟩
   rintro a w ⟨bb52, y54, hf, hp⟩
   refine th_n ?_
   refine wp_ret ?_
   refine th_r ?_
   obtain rfl := Option.some.inj h
   have hp : Hp _ _ _ (_ :: _ :: _ :: ow) := Hp.sel (pre := [Res.rows (RowK.sl (Ek.pair (Ek.fz v8) Ek.f64) 98) 94 v9 v10 q6, Res.obj 24 v1 [.int .i64 cx0_Length, .int .u32 cx0_One, .int .u32 cx0_Two], Res.fz 4 v8]) (tail := ow) (rs' := [Res.fz 4 v8, Res.rows (RowK.sl (Ek.pair (Ek.fz v8) Ek.f64) 98) 94 v9 v10 q6, Res.obj 24 v1 [.int .i64 cx0_Length, .int .u32 cx0_One, .int .u32 cx0_Two]]) hp [2, 0, 1] (by decide) (by simp) rfl
   replace hp : Hp _ _ _ (Res.sl Ek.bool 4 (GL.cut v40 0 (((IntKind.i64.wrap ((IntKind.i64.wrap ((l1.length : Int) - cx0_Length)) + (1 : Int)))).toNat) 1) ((((gt (gt q6 (0 : Int)) (0 : Int)).1).drop 0).take (((IntKind.i64.wrap ((IntKind.i64.wrap ((l1.length : Int) - cx0_Length)) + (1 : Int)))).toNat - 0)) :: _ :: _ :: ow) := hp.fzClaimCut y38 hc43
   have hp : Hp _ _ _ (_ :: ow) := Hp.sel (pre := [Res.sl Ek.bool 4 (GL.cut v40 0 (((IntKind.i64.wrap ((IntKind.i64.wrap ((l1.length : Int) - cx0_Length)) + (1 : Int)))).toNat) 1) ((((gt (gt q6 (0 : Int)) (0 : Int)).1).drop 0).take (((IntKind.i64.wrap ((IntKind.i64.wrap ((l1.length : Int) - cx0_Length)) + (1 : Int)))).toNat - 0)), Res.rows (RowK.sl (Ek.pair (Ek.fz v8) Ek.f64) 98) 94 v9 v10 q6, Res.obj 24 v1 [.int .i64 cx0_Length, .int .u32 cx0_One, .int .u32 cx0_Two]]) (tail := ow) (rs' := [Res.sl Ek.bool 4 (GL.cut v40 0 (((IntKind.i64.wrap ((IntKind.i64.wrap ((l1.length : Int) - cx0_Length)) + (1 : Int)))).toNat) 1) ((((gt (gt q6 (0 : Int)) (0 : Int)).1).drop 0).take (((IntKind.i64.wrap ((IntKind.i64.wrap ((l1.length : Int) - cx0_Length)) + (1 : Int)))).toNat - 0))]) hp [0] (by decide) (by simp) rfl
   exact ⟨rfl, ⟨_, _, _, hf.sub ⟨rfl, rfl, rfl, rfl, rfl, trivial⟩, y54, rfl, hp⟩⟩
  replace h := ifF h hb
  refine wp_skip ?_
  refine th_n ?_
  refine wp_seq ?_
  obtain ⟨S57, hp58, rd59, up60, bk61⟩ := Hp.lendR hp (i := 0) rfl
  have rl62 := (RdR.rowS rd59 hc13.1 hc13.2)
  obtain ⟨hc63, h⟩ := chk h
  obtain ⟨bb65, y67, hl64⟩ := RdS.pinPF (p := (0 : Int)) (o := 1) (Sub.snd (E := (Ek.fz v8)) (F := Ek.f64)) rl62 hc63.1 hc63.2
  obtain ⟨hc69, h⟩ := chk h
  obtain ⟨bb71, y73, hl70⟩ := RdS.pinPF (p := (1 : Int)) (o := 1) (Sub.snd (E := (Ek.fz v8)) (F := Ek.f64)) rl62 hc69.1 hc69.2
  obtain ⟨hc75, h⟩ := chk h
  obtain ⟨bb77, y79, hl76⟩ := RdS.pinPF (p := (0 : Int)) (o := 1) (Sub.snd (E := (Ek.fz v8)) (F := Ek.f64)) rl62 hc75.1 hc75.2
  refine wp_cutN (fun a w => ∃ (bb65 : Nat) (bb81 : Nat), Fl.rep bb65 (gt (gt q6 (0 : Int)) (0 : Int)).2 ∧ Fl.rep bb81 (fsub ((gt (gt q6 (0 : Int)) (1 : Int)).2) ((gt (gt q6 (0 : Int)) (0 : Int)).2)) ∧ Fr 62 a [(4, (GL.cut v40 0 (((IntKind.i64.wrap ((IntKind.i64.wrap ((l1.length : Int) - cx0_Length)) + (1 : Int)))).toNat) 1)), (5, .float .f64 bb65), (6, .float .f64 bb81), (7, .bool true), (8, .int .i64 (0 : Int))] ∧ Hp S w0 w (Res.rows (RowK.sl (Ek.pair (Ek.fz v8) Ek.f64) 98) 94 v9 v10 q6 :: Res.obj 24 v1 [.int .i64 cx0_Length, .int .u32 cx0_One, .int .u32 cx0_Two] :: Res.fz 4 v8 :: ow)) ?_ ?_
  ·
   have hp := hp58.same (Same.drew w)
   refine dr_begin' _ (fun w' => ∃ l, Hp S57 w w' l) [] (by kernel_rfl) ?_
   refine dr_takeK 0 ((GL.cut v40 0 (((IntKind.i64.wrap ((IntKind.i64.wrap ((l1.length : Int) - cx0_Length)) + (1 : Int)))).toNat) 1)) rfl hf rfl (fun w ⟨_, hp⟩ => ?_) ⟨_, hp⟩ ?_
   · exact st_move hf rfl rfl (by decide) tk
   clear hf; intro a hf
   refine dr_takeK 1 ((gtv v10 (0 : Int))) rfl hf rfl (fun w ⟨_, hp⟩ => ?_) ⟨_, hp⟩ ?_
   · exact st_move hf rfl rfl (by decide) tk
   clear hf; intro a hf
   refine dr_takeK 2 (eptr (gtv v10 (0 : Int)) (0 : Int) 2) rfl hf rfl (fun w ⟨_, hp⟩ => ?_) ⟨_, hp⟩ ?_
   · exact st_index (E := (Ek.pair (Ek.fz v8) Ek.f64)) hf (by decide) Try.underlying94 (elt98 v8) rfl rfl rfl (rl62.sl hp) hc63.1 hc63.2 tk
   clear hf; intro a hf
   refine dr_takeK 3 (optr (eptr (gtv v10 (0 : Int)) (0 : Int) 2) 1) rfl hf rfl (fun w ⟨_, hp⟩ => ?_) ⟨_, hp⟩ ?_
   · exact st_faP (off := 1) (sz := 1) hf (by decide) (by kernel_rfl) (by decide) rfl rfl (Sl.isP (rl62.sl hp) hc63.1 hc63.2) tk
   clear hf; intro a hf
   refine dr_takeK 4 (.float .f64 bb65) rfl hf rfl (fun w ⟨_, hp⟩ => ?_) ⟨_, hp⟩ ?_
   · exact st_ldP hf (by decide) pl29 rfl rfl (hl64 _ _ hp) tk
   clear hf; intro a hf
   refine dr_takeK 5 ((gtv v10 (0 : Int))) rfl hf rfl (fun w ⟨_, hp⟩ => ?_) ⟨_, hp⟩ ?_
   · exact st_move hf rfl rfl (by decide) tk
   clear hf; intro a hf
   refine dr_takeK 6 (eptr (gtv v10 (0 : Int)) (1 : Int) 2) rfl hf rfl (fun w ⟨_, hp⟩ => ?_) ⟨_, hp⟩ ?_
   · exact st_index (E := (Ek.pair (Ek.fz v8) Ek.f64)) hf (by decide) Try.underlying94 (elt98 v8) rfl rfl rfl (rl62.sl hp) hc69.1 hc69.2 tk
   clear hf; intro a hf
   refine dr_takeK 7 (optr (eptr (gtv v10 (0 : Int)) (1 : Int) 2) 1) rfl hf rfl (fun w ⟨_, hp⟩ => ?_) ⟨_, hp⟩ ?_
   · exact st_faP (off := 1) (sz := 1) hf (by decide) (by kernel_rfl) (by decide) rfl rfl (Sl.isP (rl62.sl hp) hc69.1 hc69.2) tk
   clear hf; intro a hf
   refine dr_takeK 8 (.float .f64 bb71) rfl hf rfl (fun w ⟨_, hp⟩ => ?_) ⟨_, hp⟩ ?_
   · exact st_ldP hf (by decide) pl29 rfl rfl (hl70 _ _ hp) tk
   clear hf; intro a hf
   refine dr_takeK 9 ((gtv v10 (0 : Int))) rfl hf rfl (fun w ⟨_, hp⟩ => ?_) ⟨_, hp⟩ ?_
   · exact st_move hf rfl rfl (by decide) tk
   clear hf; intro a hf
   refine dr_takeK 10 (eptr (gtv v10 (0 : Int)) (0 : Int) 2) rfl hf rfl (fun w ⟨_, hp⟩ => ?_) ⟨_, hp⟩ ?_
   · exact st_index (E := (Ek.pair (Ek.fz v8) Ek.f64)) hf (by decide) Try.underlying94 (elt98 v8) rfl rfl rfl (rl62.sl hp) hc75.1 hc75.2 tk
   clear hf; intro a hf
   refine dr_takeK 11 (optr (eptr (gtv v10 (0 : Int)) (0 : Int) 2) 1) rfl hf rfl (fun w ⟨_, hp⟩ => ?_) ⟨_, hp⟩ ?_
   · exact st_faP (off := 1) (sz := 1) hf (by decide) (by kernel_rfl) (by decide) rfl rfl (Sl.isP (rl62.sl hp) hc75.1 hc75.2) tk
   clear hf; intro a hf
   refine dr_takeK 12 (.float .f64 bb77) rfl hf rfl (fun w ⟨_, hp⟩ => ?_) ⟨_, hp⟩ ?_
   · exact st_ldP hf (by decide) pl29 rfl rfl (hl76 _ _ hp) tk
   clear hf; intro a hf
   refine dr_takeK 14 ((GL.cut v40 0 (((IntKind.i64.wrap ((IntKind.i64.wrap ((l1.length : Int) - cx0_Length)) + (1 : Int)))).toNat) 1)) rfl hf rfl (fun w ⟨_, hp⟩ => ?_) ⟨_, hp⟩ ?_
   · exact st_assign hf rfl rfl (by decide) tk
   clear hf; intro a hf
   refine dr_takeK 15 (.float .f64 bb65) rfl hf rfl (fun w ⟨_, hp⟩ => ?_) ⟨_, hp⟩ ?_
   · exact st_assign hf rfl rfl (by decide) tk
   clear hf; intro a hf
   refine dr_one 13 rfl (by kernel_rfl) ?_
   refine st_farith (op := .sub) rfl hf (by decide) hp rfl rfl rfl (show Fl.rep bb71 ((gt (gt q6 (0 : Int)) (1 : Int)).2) from y73) (show Fl.rep bb77 ((gt (gt q6 (0 : Int)) (0 : Int)).2) from y79) ?_
   clear hf; intro a w bb81 y82 hf hp0; clear hp; have hp := hp0; clear hp0
   replace hp : Hp _ _ _ (Res.obj 24 v1 [.int .i64 cx0_Length, .int .u32 cx0_One, .int .u32 cx0_Two] :: Res.fz 4 v8 :: ow) := hp
   refine nx hf (fun _ _ => ⟨_, hp⟩) ?_
   refine dr_takeK 16 (.float .f64 bb81) rfl hf rfl (fun w ⟨_, hp⟩ => ?_) ⟨_, hp⟩ ?_
   · exact st_assign hf rfl rfl (by decide) tk
   clear hf; intro a hf
   refine dr_takeK 17 (.bool true) rfl hf rfl (fun w ⟨_, hp⟩ => ?_) ⟨_, hp⟩ ?_
   · exact st_assign hf rfl rfl (by decide) tk
   clear hf; intro a hf
   refine dr_takeK 18 (.int .i64 (0 : Int)) rfl hf rfl (fun w ⟨_, hp⟩ => ?_) ⟨_, hp⟩ ?_
   · exact st_assign hf rfl rfl (by decide) tk
   clear hf; intro a hf
   refine dr_end (by kernel_rfl) ?_ _
   have hp := bk61 _ _ hp
   exact ⟨bb65, bb81, y67, y82, hf.sub ⟨rfl, rfl, rfl, rfl, rfl, trivial⟩, hp⟩
  rintro a w ⟨bb65, bb81, y67, y82, hf, hp⟩
  refine th_n ?_
  refine wp_ret ?_
  obtain rfl := Option.some.inj h
  have hp : Hp _ _ _ (_ :: Res.rows (RowK.sl (Ek.pair (Ek.fz v8) Ek.f64) 98) 94 v9 v10 q6 :: _ :: ow) := Hp.sel (pre := [Res.rows (RowK.sl (Ek.pair (Ek.fz v8) Ek.f64) 98) 94 v9 v10 q6, Res.obj 24 v1 [.int .i64 cx0_Length, .int .u32 cx0_One, .int .u32 cx0_Two], Res.fz 4 v8]) (tail := ow) (rs' := [Res.fz 4 v8, Res.rows (RowK.sl (Ek.pair (Ek.fz v8) Ek.f64) 98) 94 v9 v10 q6, Res.obj 24 v1 [.int .i64 cx0_Length, .int .u32 cx0_One, .int .u32 cx0_Two]]) hp [2, 0, 1] (by decide) (by simp) rfl
  replace hp : Hp _ _ _ (Res.sl Ek.bool 4 (GL.cut v40 0 (((IntKind.i64.wrap ((IntKind.i64.wrap ((l1.length : Int) - cx0_Length)) + (1 : Int)))).toNat) 1) ((((gt (gt q6 (0 : Int)) (0 : Int)).1).drop 0).take (((IntKind.i64.wrap ((IntKind.i64.wrap ((l1.length : Int) - cx0_Length)) + (1 : Int)))).toNat - 0)) :: _ :: _ :: ow) := hp.fzClaimCut y38 hc43
  have hp : Hp _ _ _ (_ :: ow) := Hp.sel (pre := [Res.sl Ek.bool 4 (GL.cut v40 0 (((IntKind.i64.wrap ((IntKind.i64.wrap ((l1.length : Int) - cx0_Length)) + (1 : Int)))).toNat) 1) ((((gt (gt q6 (0 : Int)) (0 : Int)).1).drop 0).take (((IntKind.i64.wrap ((IntKind.i64.wrap ((l1.length : Int) - cx0_Length)) + (1 : Int)))).toNat - 0)), Res.rows (RowK.sl (Ek.pair (Ek.fz v8) Ek.f64) 98) 94 v9 v10 q6, Res.obj 24 v1 [.int .i64 cx0_Length, .int .u32 cx0_One, .int .u32 cx0_Two]]) (tail := ow) (rs' := [Res.sl Ek.bool 4 (GL.cut v40 0 (((IntKind.i64.wrap ((IntKind.i64.wrap ((l1.length : Int) - cx0_Length)) + (1 : Int)))).toNat) 1) ((((gt (gt q6 (0 : Int)) (0 : Int)).1).drop 0).take (((IntKind.i64.wrap ((IntKind.i64.wrap ((l1.length : Int) - cx0_Length)) + (1 : Int)))).toNat - 0))]) hp [0] (by decide) (by simp) rfl
  exact ⟨rfl, ⟨_, _, _, hf.sub ⟨rfl, rfl, rfl, rfl, rfl, trivial⟩, y67, y82, hp⟩⟩

end Go.Proofs.Ytcooefnbolobaaa
