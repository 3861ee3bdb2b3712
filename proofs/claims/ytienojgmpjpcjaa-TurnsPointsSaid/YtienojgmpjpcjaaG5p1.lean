/- The functions foghorn foghornlaw06.TurnsPoints: what each answers, as a plain function, and that its call answers it; printed by gen.py. -/
import Derived.Test.YtienojgmpjpcjaaProg
import Derived.Test.YtienojgmpjpcjaaGlU
import Derived.KernelRfl
set_option linter.unusedVariables false
set_option linter.unusedSimpArgs false
set_option maxRecDepth 100000
set_option maxHeartbeats 4000000
namespace Go.Proofs.Ytienojgmpjpcjaa
open GL
theorem elt4 : ElT Try.prog Ek.bool 4 1 false := ElT.of (z := .bool false) (by kernel_rfl) rfl
theorem elt5 : ElT Try.prog (Ek.int .u8) 5 1 (0 : Int) := ElT.of (z := .int .u8 0) (by kernel_rfl) rfl
theorem elt37 : ElT Try.prog Ek.f64 37 8 (Fl.bits 0) := ElT.of (z := .float .f64 0) (by kernel_rfl) ⟨_, rfl, rfl⟩
theorem elt49 : ElT Try.prog Ek.c128 49 16 (Fl.bits 0, Fl.bits 0) := ElT.of (z := .complex .f64 0 0) (by kernel_rfl) ⟨_, _, rfl, rfl, rfl⟩
theorem elt51 : ElT Try.prog (Ek.pair Ek.c128 Ek.bool) 51 24 ((Fl.bits 0, Fl.bits 0), false) := ElT.of (z := .agg #[.complex .f64 0 0, .bool false]) (by kernel_rfl) ⟨[.complex .f64 0 0], [.bool false], rfl, ⟨_, _, rfl, rfl, rfl⟩, rfl⟩
theorem elt76 : ElT Try.prog (Ek.pair Ek.f64 (Ek.pair Ek.f64 Ek.bool)) 76 24 ((Fl.bits 0), (Fl.bits 0), false) := ElT.of (z := .agg #[.float .f64 0, .float .f64 0, .bool false]) (by kernel_rfl) ⟨[.float .f64 0], [.float .f64 0, .bool false], rfl, ⟨_, rfl, rfl⟩, ⟨[.float .f64 0], [.bool false], rfl, ⟨_, rfl, rfl⟩, rfl⟩⟩
theorem elt77 : ElT Try.prog (Ek.pair Ek.f64 Ek.f64) 77 16 ((Fl.bits 0), (Fl.bits 0)) := ElT.of (z := .agg #[.float .f64 0, .float .f64 0]) (by kernel_rfl) ⟨[.float .f64 0], [.float .f64 0], rfl, ⟨_, rfl, rfl⟩, ⟨_, rfl, rfl⟩⟩
theorem pl3 : Plain Try.prog 3 := ⟨⟨_, Try.underlying3, trivial⟩⟩
theorem pl4 : Plain Try.prog 4 := ⟨⟨_, Try.underlying4, trivial⟩⟩
theorem pl5 : Plain Try.prog 5 := ⟨⟨_, Try.underlying5, trivial⟩⟩
theorem pl22 : Plain Try.prog 22 := ⟨⟨_, Try.underlying22, trivial⟩⟩
theorem pl37 : Plain Try.prog 37 := ⟨⟨_, Try.underlying37, trivial⟩⟩
theorem pl38 : Plain Try.prog 38 := ⟨⟨_, Try.underlying38, trivial⟩⟩
theorem pl39 : Plain Try.prog 39 := ⟨⟨_, Try.underlying39, trivial⟩⟩
theorem pl49 : Plain Try.prog 49 := ⟨⟨_, Try.underlying49, trivial⟩⟩
noncomputable def f_foghornlaw06_samples.s1c (l0 : (List (Fl × Fl × Bool))) (out3 : (List ((Fl × Fl) × Bool))) (i4 : Int) : Option (((List ((Fl × Fl) × Bool)) × Int) ⊕ (List ((Fl × Fl) × Bool))) := (if (decide (i4 < (l0.length : Int))) = true then (if 0 ≤ i4 ∧ i4 < (l0.length : Int) then (if 0 ≤ i4 ∧ i4 < (l0.length : Int) then (if 0 ≤ i4 ∧ i4 < (l0.length : Int) then (if (out3.length + ([(((gt l0 i4).1, (gt l0 i4).2.1), (gt l0 i4).2.2)]).length) * 24 ≤ 140737488355328 then (some (Sum.inl ((out3 ++ [(((gt l0 i4).1, (gt l0 i4).2.1), (gt l0 i4).2.2)]), (IntKind.i64.wrap (i4 + (1 : Int)))))) else none) else none) else none) else none) else (some (Sum.inr out3)))
noncomputable def f_foghornlaw06_samples.s1 (l0 : (List (Fl × Fl × Bool))) (s : ((List ((Fl × Fl) × Bool)) × Int)) : Option (((List ((Fl × Fl) × Bool)) × Int) ⊕ (List ((Fl × Fl) × Bool))) := f_foghornlaw06_samples.s1c l0 s.1 s.2
noncomputable def f_foghornlaw06_samples (l0 : (List (Fl × Fl × Bool))) : Option (List ((Fl × Fl) × Bool)) := ((loop (f_foghornlaw06_samples.s1 l0) ([], (0 : Int))).bind (fun q22 => (some q22)))
theorem f_foghornlaw06_samples_c {S : Nat → Prop} {w0 w : World} {ow : List Res} (hp : Hp S w0 w ow) (vl0 : Value) (l0 : (List (Fl × Fl × Bool))) (hl0 : RdS (Ek.pair Ek.f64 (Ek.pair Ek.f64 Ek.bool)) S w0 vl0 l0) {r : (List ((Fl × Fl) × Bool))} (h : f_foghornlaw06_samples l0 = some r) :
    Calls Try.prog 18 #[vl0] w (fun e w' => ∃ (u0 : Value), e = .returned (u0) ∧ Hp S w0 w' (Res.sl (Ek.pair Ek.c128 Ek.bool) 51 u0 r :: ow)) := by
  unfold f_foghornlaw06_samples at h
  refine enter (n := 32) (args := [vl0]) Try.func18 rfl rfl (Nat.le_of_ble_eq_true rfl) fun a hf => ?_
  replace hf : Fr 32 a [(0, vl0)] := hf
  refine wp_mono (Q := fun e a w => e = .ret ∧ ∃ (u0 : Value), Fr 32 a [(2, u0)] ∧ Hp S w0 w (Res.sl (Ek.pair Ek.c128 Ek.bool) 51 u0 r :: ow)) ?_ ?_
  rotate_left
  · rintro e a w ⟨rfl, x0, hf, hp⟩
    exact ret1 hf rfl rfl ⟨x0, rfl, hp⟩
  refine wp_seq ?_
  refine wp_reg ?_
  refine st_assign hf rfl rfl (by decide) ?_
  clear hf; intro a ha hf; clear ha
  refine st_nil hf ?_
  refine th_n ?_
  refine wp_seq ?_
  refine wp_reg ?_
  refine st_assign hf rfl rfl (by decide) ?_
  clear hf; intro a ha hf; clear ha
  refine st_nil hf ?_
  refine th_n ?_
  refine wp_seq ?_
  refine wp_seq ?_
  refine wp_reg ?_
  refine st_assign hf rfl rfl (by decide) ?_
  clear hf; intro a ha hf; clear ha
  refine st_nil hf ?_
  refine th_n ?_
  refine wp_block ?_
  obtain ⟨q22, hl, h⟩ := bnd h
  have hp := hp.nil (Ek.pair Ek.c128 Ek.bool) 51
  refine wp_loop_pure (f := (f_foghornlaw06_samples.s1 l0)) (s := ([], (0 : Int))) (fun s a w => ∃ (v1 : Value), Fr 32 a [(0, vl0), (3, v1), (4, .int .i64 s.2)] ∧ Hp S w0 w (Res.sl (Ek.pair Ek.c128 Ek.bool) 51 v1 s.1 :: ow)) (fun q e a w => e = .exit 0 ∧ ∃ (v3 : Value), Fr 32 a [(3, v3)] ∧ Hp S w0 w (Res.sl (Ek.pair Ek.c128 Ek.bool) 51 v3 q :: ow)) ?_ hl ⟨_, hf.sub ⟨rfl, rfl, rfl, trivial⟩, hp⟩ ?_
  · clear hl hf hp
    intro s x a w h hI
    obtain ⟨out3, i4⟩ := s
    obtain ⟨v1, hf, hp⟩ : ∃ (v1 : Value), Fr 32 a [(0, vl0), (3, v1), (4, .int .i64 i4)] ∧ Hp S w0 w (Res.sl (Ek.pair Ek.c128 Ek.bool) 51 v1 out3 :: ow) := hI
    replace h : f_foghornlaw06_samples.s1c l0 out3 i4 = some x := h
    unfold f_foghornlaw06_samples.s1c at h
    refine wp_seq ?_
    refine wp_seq ?_
    refine wp_reg ?_
    refine st_move hf rfl rfl (by decide) ?_
    clear hf; intro a ha hf; clear ha
    refine st_move hf rfl rfl (by decide) ?_
    clear hf; intro a ha hf; clear ha
    refine st_len (E := (Ek.pair Ek.f64 (Ek.pair Ek.f64 Ek.bool))) hf (by decide) Try.underlying38 rfl rfl (hl0.sl hp) ?_
    clear hf; intro a ha hf; clear ha
    refine st_ilss hf (by decide) rfl rfl rfl ?_
    clear hf; intro a ha hf; clear ha
    refine st_nil hf ?_
    refine th_n ?_
    refine wp_if hf rfl (fun hb => ?_) (fun hb => ?_)
    · replace h := ifT h hb
      refine wp_skip ?_
      refine th_n ?_
      refine wp_seq ?_
      refine wp_block ?_
      obtain ⟨hc5, h⟩ := chk h
      obtain ⟨bb7, y9, hl6⟩ := RdS.pinPF (p := i4) (o := 0) (Sub.fst (E := Ek.f64) (F := (Ek.pair Ek.f64 Ek.bool))) hl0 hc5.1 hc5.2
      obtain ⟨hc11, h⟩ := chk h
      obtain ⟨bb13, y15, hl12⟩ := RdS.pinPF (p := i4) (o := 1) (Sub.comp (Sub.snd (E := Ek.f64) (F := (Ek.pair Ek.f64 Ek.bool))) (Sub.fst (E := Ek.f64) (F := Ek.bool))) hl0 hc11.1 hc11.2
      obtain ⟨hc17, h⟩ := chk h
      obtain ⟨hc20, h⟩ := chk h
      refine wp_cutN (fun a w => ∃ (v18 : Value) (v21 : Value), Fr 32 a [(0, vl0), (3, v21), (4, .int .i64 i4)] ∧ Hp S w0 w (Res.sl (Ek.pair Ek.c128 Ek.bool) 51 v18 ([(((gt l0 i4).1, (gt l0 i4).2.1), (gt l0 i4).2.2)]) :: Res.sl (Ek.pair Ek.c128 Ek.bool) 51 v21 (out3 ++ [(((gt l0 i4).1, (gt l0 i4).2.1), (gt l0 i4).2.2)]) :: ow)) ?_ ?_
      · have hp := hp.same (Same.drew w)
        refine dr_begin' (fun a w => ∃ (v18 : Value) (v21 : Value), Fr 32 a [(0, vl0), (3, v21), (4, .int .i64 i4)] ∧ Hp S w0 w (Res.sl (Ek.pair Ek.c128 Ek.bool) 51 v18 ([(((gt l0 i4).1, (gt l0 i4).2.1), (gt l0 i4).2.2)]) :: Res.sl (Ek.pair Ek.c128 Ek.bool) 51 v21 (out3 ++ [(((gt l0 i4).1, (gt l0 i4).2.1), (gt l0 i4).2.2)]) :: ow)) (fun w' => ∃ l, Hp S w0 w' l) [] (by kernel_rfl) ?_
        refine dr_take 0 (v1) rfl (by kernel_rfl) (by kernel_rfl) (by kernel_rfl) (by kernel_rfl) rfl rfl hf (by decide) rfl (fun w hp => ?_) ⟨_, hp⟩ ?_
        · obtain ⟨_, hp⟩ := hp
          refine st_move hf rfl rfl (by decide) ?_
          clear hf; intro a ha hf
          exact st_nil hf (th_n ⟨ha, rfl⟩)
        clear hf; intro a hf
        refine dr_take 1 (vl0) rfl (by kernel_rfl) (by kernel_rfl) (by kernel_rfl) (by kernel_rfl) rfl rfl hf (by decide) rfl (fun w hp => ?_) ⟨_, hp⟩ ?_
        · obtain ⟨_, hp⟩ := hp
          refine st_move hf rfl rfl (by decide) ?_
          clear hf; intro a ha hf
          exact st_nil hf (th_n ⟨ha, rfl⟩)
        clear hf; intro a hf
        refine dr_take 2 (.int .i64 i4) rfl (by kernel_rfl) (by kernel_rfl) (by kernel_rfl) (by kernel_rfl) rfl rfl hf (by decide) rfl (fun w hp => ?_) ⟨_, hp⟩ ?_
        · obtain ⟨_, hp⟩ := hp
          refine st_move hf rfl rfl (by decide) ?_
          clear hf; intro a ha hf
          exact st_nil hf (th_n ⟨ha, rfl⟩)
        clear hf; intro a hf
        refine dr_take 3 (eptr vl0 i4 3) rfl (by kernel_rfl) (by kernel_rfl) (by kernel_rfl) (by kernel_rfl) rfl rfl hf (by decide) rfl (fun w hp => ?_) ⟨_, hp⟩ ?_
        · obtain ⟨_, hp⟩ := hp
          refine st_index (E := (Ek.pair Ek.f64 (Ek.pair Ek.f64 Ek.bool))) hf (by decide) Try.underlying38 elt76 rfl rfl rfl (hl0.sl hp) hc5.1 hc5.2 ?_
          clear hf; intro a ha hf
          exact st_nil hf (th_n ⟨ha, rfl⟩)
        clear hf; intro a hf
        refine dr_take 4 (optr (eptr vl0 i4 3) 0) rfl (by kernel_rfl) (by kernel_rfl) (by kernel_rfl) (by kernel_rfl) rfl rfl hf (by decide) rfl (fun w hp => ?_) ⟨_, hp⟩ ?_
        · obtain ⟨_, hp⟩ := hp
          refine st_faP (off := 0) (sz := 1) hf (by decide) (by kernel_rfl) (by decide) rfl rfl (Sl.isP (hl0.sl hp) hc5.1 hc5.2) ?_
          clear hf; intro a ha hf
          exact st_nil hf (th_n ⟨ha, rfl⟩)
        clear hf; intro a hf
        refine dr_take 5 (.float .f64 bb7) rfl (by kernel_rfl) (by kernel_rfl) (by kernel_rfl) (by kernel_rfl) rfl rfl hf (by decide) rfl (fun w hp => ?_) ⟨_, hp⟩ ?_
        · obtain ⟨_, hp⟩ := hp
          refine st_ldP hf (by decide) pl37 rfl rfl (hl6 _ _ hp) ?_
          clear hf; intro a ha hf
          exact st_nil hf (th_n ⟨ha, rfl⟩)
        clear hf; intro a hf
        refine dr_take 6 (vl0) rfl (by kernel_rfl) (by kernel_rfl) (by kernel_rfl) (by kernel_rfl) rfl rfl hf (by decide) rfl (fun w hp => ?_) ⟨_, hp⟩ ?_
        · obtain ⟨_, hp⟩ := hp
          refine st_move hf rfl rfl (by decide) ?_
          clear hf; intro a ha hf
          exact st_nil hf (th_n ⟨ha, rfl⟩)
        clear hf; intro a hf
        refine dr_take 7 (.int .i64 i4) rfl (by kernel_rfl) (by kernel_rfl) (by kernel_rfl) (by kernel_rfl) rfl rfl hf (by decide) rfl (fun w hp => ?_) ⟨_, hp⟩ ?_
        · obtain ⟨_, hp⟩ := hp
          refine st_move hf rfl rfl (by decide) ?_
          clear hf; intro a ha hf
          exact st_nil hf (th_n ⟨ha, rfl⟩)
        clear hf; intro a hf
        refine dr_take 8 (eptr vl0 i4 3) rfl (by kernel_rfl) (by kernel_rfl) (by kernel_rfl) (by kernel_rfl) rfl rfl hf (by decide) rfl (fun w hp => ?_) ⟨_, hp⟩ ?_
        · obtain ⟨_, hp⟩ := hp
          refine st_index (E := (Ek.pair Ek.f64 (Ek.pair Ek.f64 Ek.bool))) hf (by decide) Try.underlying38 elt76 rfl rfl rfl (hl0.sl hp) hc11.1 hc11.2 ?_
          clear hf; intro a ha hf
          exact st_nil hf (th_n ⟨ha, rfl⟩)
        clear hf; intro a hf
        refine dr_take 9 (optr (eptr vl0 i4 3) 1) rfl (by kernel_rfl) (by kernel_rfl) (by kernel_rfl) (by kernel_rfl) rfl rfl hf (by decide) rfl (fun w hp => ?_) ⟨_, hp⟩ ?_
        · obtain ⟨_, hp⟩ := hp
          refine st_faP (off := 1) (sz := 1) hf (by decide) (by kernel_rfl) (by decide) rfl rfl (Sl.isP (hl0.sl hp) hc11.1 hc11.2) ?_
          clear hf; intro a ha hf
          exact st_nil hf (th_n ⟨ha, rfl⟩)
        clear hf; intro a hf
        refine dr_take 10 (.float .f64 bb13) rfl (by kernel_rfl) (by kernel_rfl) (by kernel_rfl) (by kernel_rfl) rfl rfl hf (by decide) rfl (fun w hp => ?_) ⟨_, hp⟩ ?_
        · obtain ⟨_, hp⟩ := hp
          refine st_ldP hf (by decide) pl37 rfl rfl (hl12 _ _ hp) ?_
          clear hf; intro a ha hf
          exact st_nil hf (th_n ⟨ha, rfl⟩)
        clear hf; intro a hf
        refine dr_take 11 (.complex .f64 bb7 bb13) rfl (by kernel_rfl) (by kernel_rfl) (by kernel_rfl) (by kernel_rfl) rfl rfl hf (by decide) rfl (fun w hp => ?_) ⟨_, hp⟩ ?_
        · obtain ⟨_, hp⟩ := hp
          refine st_complex hf (by decide) rfl rfl rfl ?_
          clear hf; intro a ha hf
          exact st_nil hf (th_n ⟨ha, rfl⟩)
        clear hf; intro a hf
        refine dr_take 12 (vl0) rfl (by kernel_rfl) (by kernel_rfl) (by kernel_rfl) (by kernel_rfl) rfl rfl hf (by decide) rfl (fun w hp => ?_) ⟨_, hp⟩ ?_
        · obtain ⟨_, hp⟩ := hp
          refine st_move hf rfl rfl (by decide) ?_
          clear hf; intro a ha hf
          exact st_nil hf (th_n ⟨ha, rfl⟩)
        clear hf; intro a hf
        refine dr_take 13 (.int .i64 i4) rfl (by kernel_rfl) (by kernel_rfl) (by kernel_rfl) (by kernel_rfl) rfl rfl hf (by decide) rfl (fun w hp => ?_) ⟨_, hp⟩ ?_
        · obtain ⟨_, hp⟩ := hp
          refine st_move hf rfl rfl (by decide) ?_
          clear hf; intro a ha hf
          exact st_nil hf (th_n ⟨ha, rfl⟩)
        clear hf; intro a hf
        refine dr_take 14 (eptr vl0 i4 3) rfl (by kernel_rfl) (by kernel_rfl) (by kernel_rfl) (by kernel_rfl) rfl rfl hf (by decide) rfl (fun w hp => ?_) ⟨_, hp⟩ ?_
        · obtain ⟨_, hp⟩ := hp
          refine st_index (E := (Ek.pair Ek.f64 (Ek.pair Ek.f64 Ek.bool))) hf (by decide) Try.underlying38 elt76 rfl rfl rfl (hl0.sl hp) hc17.1 hc17.2 ?_
          clear hf; intro a ha hf
          exact st_nil hf (th_n ⟨ha, rfl⟩)
        clear hf; intro a hf
        refine dr_take 15 (optr (eptr vl0 i4 3) 2) rfl (by kernel_rfl) (by kernel_rfl) (by kernel_rfl) (by kernel_rfl) rfl rfl hf (by decide) rfl (fun w hp => ?_) ⟨_, hp⟩ ?_
        · obtain ⟨_, hp⟩ := hp
          refine st_faP (off := 2) (sz := 1) hf (by decide) (by kernel_rfl) (by decide) rfl rfl (Sl.isP (hl0.sl hp) hc17.1 hc17.2) ?_
          clear hf; intro a ha hf
          exact st_nil hf (th_n ⟨ha, rfl⟩)
        clear hf; intro a hf
        refine dr_take 16 (.bool ((gt l0 i4).2.2)) rfl (by kernel_rfl) (by kernel_rfl) (by kernel_rfl) (by kernel_rfl) rfl rfl hf (by decide) rfl (fun w hp => ?_) ⟨_, hp⟩ ?_
        · obtain ⟨_, hp⟩ := hp
          refine st_ldQ (F := Ek.bool) (yv := (gt l0 i4).2.2) hf (by decide) pl4 (fun x => .bool x) (fun _ _ h => h) rfl rfl (Sl.part (E := (Ek.pair Ek.f64 (Ek.pair Ek.f64 Ek.bool))) (F := Ek.bool) (o := 2) (Sub.comp (Sub.snd (E := Ek.f64) (F := (Ek.pair Ek.f64 Ek.bool))) (Sub.snd (E := Ek.f64) (F := Ek.bool))) (hl0.sl hp) hc17.1 hc17.2) ?_
          clear hf; intro a ha hf
          exact st_nil hf (th_n ⟨ha, rfl⟩)
        clear hf; intro a hf
        refine dr_take 17 (.agg #[.complex .f64 bb7 bb13, .bool ((gt l0 i4).2.2)]) rfl (by kernel_rfl) (by kernel_rfl) (by kernel_rfl) (by kernel_rfl) rfl rfl hf (by decide) rfl (fun w hp => ?_) ⟨_, hp⟩ ?_
        · obtain ⟨_, hp⟩ := hp
          refine st_buildA (vals := [(0, .complex .f64 bb7 bb13), (1, .bool ((gt l0 i4).2.2))]) (cells := [.complex .f64 bb7 bb13, .bool ((gt l0 i4).2.2)]) hf (by decide) rfl (by simp [hf.ev (x := (Operand.tmp 22)) rfl, hf.ev (x := (Operand.tmp 27)) rfl]) (fun w => by kernel_rfl) ?_
          clear hf; intro a ha hf
          exact st_nil hf (th_n ⟨ha, rfl⟩)
        clear hf; intro a hf
        refine dr_one 18 rfl (by kernel_rfl) ?_
        refine st_build (E := (Ek.pair Ek.c128 Ek.bool)) (xs := [(((gt l0 i4).1, (gt l0 i4).2.1), (gt l0 i4).2.2)]) hf (by decide) elt51 Try.underlying42 hp (vals := #[(0, .agg #[.complex .f64 bb7 bb13, .bool ((gt l0 i4).2.2)])]) (cells := #[.complex .f64 bb7 bb13, .bool ((gt l0 i4).2.2)]) rfl (by simp [hf.ev (x := (Operand.tmp 28)) rfl]) (by decide) (by decide) (z := .agg #[.complex .f64 0 0, .bool false]) (by kernel_rfl) (by kernel_rfl) rfl (reps_cons (cs := [.complex .f64 bb7 bb13, .bool ((gt l0 i4).2.2)]) ⟨[.complex .f64 bb7 bb13], [.bool ((gt l0 i4).2.2)], rfl, (show Ek.c128.rep [.complex .f64 bb7 bb13] ((gt l0 i4).1, (gt l0 i4).2.1) from ⟨_, _, rfl, y9, y15⟩), rfl⟩ (reps_nil _)) ?_
        clear hf; intro a w v18 hf hp0; clear hp; have hp := hp0; clear hp0
        replace hp : Hp _ _ _ (Res.sl (Ek.pair Ek.c128 Ek.bool) 51 v18 ([(((gt l0 i4).1, (gt l0 i4).2.1), (gt l0 i4).2.2)]) :: Res.sl (Ek.pair Ek.c128 Ek.bool) 51 v1 out3 :: ow) := hp
        refine st_nil hf (th_n ⟨fun _ _ => ⟨_, hp⟩, ?_⟩)
        refine dr_one 19 rfl (by kernel_rfl) ?_
        refine st_append (E := (Ek.pair Ek.c128 Ek.bool)) hf (by decide) elt51 Try.underlying42 (by decide) hp (i := 1) rfl rfl rfl rfl (hp.sl (i := 0) rfl) hc20 ?_
        clear hf; intro a w v21 hf hp0; clear hp; have hp := hp0; clear hp0
        replace hp : Hp _ _ _ (Res.sl (Ek.pair Ek.c128 Ek.bool) 51 v18 ([(((gt l0 i4).1, (gt l0 i4).2.1), (gt l0 i4).2.2)]) :: Res.sl (Ek.pair Ek.c128 Ek.bool) 51 v21 (out3 ++ [(((gt l0 i4).1, (gt l0 i4).2.1), (gt l0 i4).2.2)]) :: ow) := hp
        refine st_nil hf (th_n ⟨fun _ _ => ⟨_, hp⟩, ?_⟩)
        refine dr_take 20 (v21) rfl (by kernel_rfl) (by kernel_rfl) (by kernel_rfl) (by kernel_rfl) rfl rfl hf (by decide) rfl (fun w hp => ?_) ⟨_, hp⟩ ?_
        · obtain ⟨_, hp⟩ := hp
          refine st_assign hf rfl rfl (by decide) ?_
          clear hf; intro a ha hf
          exact st_nil hf (th_n ⟨ha, rfl⟩)
        clear hf; intro a hf
        refine dr_end (by kernel_rfl) ?_ _
        exact ⟨v18, v21, hf.sub ⟨rfl, rfl, rfl, trivial⟩, hp⟩
      rintro a w ⟨v18, v21, hf, hp⟩
      refine ib_n ?_
      refine th_n ?_
      refine wp_reg ?_
      refine st_move hf rfl rfl (by decide) ?_
      clear hf; intro a ha hf; clear ha
      refine st_iadd hf (by decide) rfl rfl rfl ?_
      clear hf; intro a ha hf; clear ha
      refine st_assign hf rfl rfl (by decide) ?_
      clear hf; intro a ha hf; clear ha
      refine st_nil hf ?_
      obtain rfl := Option.some.inj h
      have hp : Hp _ _ _ (Res.sl (Ek.pair Ek.c128 Ek.bool) 51 v21 (out3 ++ [(((gt l0 i4).1, (gt l0 i4).2.1), (gt l0 i4).2.2)]) :: ow) := Hp.sel (pre := [Res.sl (Ek.pair Ek.c128 Ek.bool) 51 v18 ([(((gt l0 i4).1, (gt l0 i4).2.1), (gt l0 i4).2.2)]), Res.sl (Ek.pair Ek.c128 Ek.bool) 51 v21 (out3 ++ [(((gt l0 i4).1, (gt l0 i4).2.1), (gt l0 i4).2.2)])]) (tail := ow) (rs' := [Res.sl (Ek.pair Ek.c128 Ek.bool) 51 v21 (out3 ++ [(((gt l0 i4).1, (gt l0 i4).2.1), (gt l0 i4).2.2)])]) hp [1] (by decide) (by simp) rfl
      exact rnd_l ⟨_, hf.sub ⟨rfl, rfl, rfl, trivial⟩, hp⟩
    replace h := ifF h hb
    refine wp_exit ?_
    refine th_e ?_
    obtain rfl := Option.some.inj h
    exact rnd_r (by simp) ⟨rfl, _, hf.sub ⟨rfl, trivial⟩, hp⟩
  clear hl hf hp
  intro e a w hne hO
  obtain ⟨rfl, v3, hf, hp⟩ := hO
  refine ib_same ?_
  refine th_n ?_
  refine wp_seq ?_
  refine wp_reg ?_
  refine st_move hf rfl rfl (by decide) ?_
  clear hf; intro a ha hf; clear ha
  refine st_assign hf rfl rfl (by decide) ?_
  clear hf; intro a ha hf; clear ha
  refine st_nil hf ?_
  refine th_n ?_
  refine wp_ret ?_
  obtain rfl := Option.some.inj h
  exact ⟨rfl, ⟨_, hf.sub ⟨rfl, trivial⟩, hp⟩⟩

noncomputable def f_foghornlaw06_many.s1c (l0 : (List (Fl × Fl))) (out3 : (List (Fl × Fl))) (i4 : Int) : Option (((List (Fl × Fl)) × Int) ⊕ (List (Fl × Fl))) := (if (decide (i4 < (l0.length : Int))) = true then (if 0 ≤ i4 ∧ i4 < (l0.length : Int) then (if 0 ≤ i4 ∧ i4 < (l0.length : Int) then (if (out3.length + ([((gt l0 i4).1, (gt l0 i4).2)]).length) * 16 ≤ 140737488355328 then (some (Sum.inl ((out3 ++ [((gt l0 i4).1, (gt l0 i4).2)]), (IntKind.i64.wrap (i4 + (1 : Int)))))) else none) else none) else none) else (some (Sum.inr out3)))
noncomputable def f_foghornlaw06_many.s1 (l0 : (List (Fl × Fl))) (s : ((List (Fl × Fl)) × Int)) : Option (((List (Fl × Fl)) × Int) ⊕ (List (Fl × Fl))) := f_foghornlaw06_many.s1c l0 s.1 s.2
noncomputable def f_foghornlaw06_many (l0 : (List (Fl × Fl))) : Option (List (Fl × Fl)) := ((loop (f_foghornlaw06_many.s1 l0) ([], (0 : Int))).bind (fun q23 => (some q23)))
theorem f_foghornlaw06_many_c {S : Nat → Prop} {w0 w : World} {ow : List Res} (hp : Hp S w0 w ow) (vl0 : Value) (l0 : (List (Fl × Fl))) (hl0 : RdS (Ek.pair Ek.f64 Ek.f64) S w0 vl0 l0) {r : (List (Fl × Fl))} (h : f_foghornlaw06_many l0 = some r) :
    Calls Try.prog 19 #[vl0] w (fun e w' => ∃ (u0 : Value), e = .returned (u0) ∧ Hp S w0 w' (Res.sl Ek.c128 49 u0 r :: ow)) := by
  unfold f_foghornlaw06_many at h
  refine enter (n := 26) (args := [vl0]) Try.func19 rfl rfl (Nat.le_of_ble_eq_true rfl) fun a hf => ?_
  replace hf : Fr 26 a [(0, vl0)] := hf
  refine wp_mono (Q := fun e a w => e = .ret ∧ ∃ (u0 : Value), Fr 26 a [(2, u0)] ∧ Hp S w0 w (Res.sl Ek.c128 49 u0 r :: ow)) ?_ ?_
  rotate_left
  · rintro e a w ⟨rfl, x0, hf, hp⟩
    exact ret1 hf rfl rfl ⟨x0, rfl, hp⟩
  refine wp_seq ?_
  refine wp_reg ?_
  refine st_assign hf rfl rfl (by decide) ?_
  clear hf; intro a ha hf; clear ha
  refine st_nil hf ?_
  refine th_n ?_
  refine wp_seq ?_
  refine wp_reg ?_
  refine st_assign hf rfl rfl (by decide) ?_
  clear hf; intro a ha hf; clear ha
  refine st_nil hf ?_
  refine th_n ?_
  refine wp_seq ?_
  refine wp_seq ?_
  refine wp_reg ?_
  refine st_assign hf rfl rfl (by decide) ?_
  clear hf; intro a ha hf; clear ha
  refine st_nil hf ?_
  refine th_n ?_
  refine wp_block ?_
  obtain ⟨q23, hl, h⟩ := bnd h
  have hp := hp.nil Ek.c128 49
  refine wp_loop_pure (f := (f_foghornlaw06_many.s1 l0)) (s := ([], (0 : Int))) (fun s a w => ∃ (v1 : Value), Fr 26 a [(0, vl0), (3, v1), (4, .int .i64 s.2)] ∧ Hp S w0 w (Res.sl Ek.c128 49 v1 s.1 :: ow)) (fun q e a w => e = .exit 0 ∧ ∃ (v3 : Value), Fr 26 a [(3, v3)] ∧ Hp S w0 w (Res.sl Ek.c128 49 v3 q :: ow)) ?_ hl ⟨_, hf.sub ⟨rfl, rfl, rfl, trivial⟩, hp⟩ ?_
  · clear hl hf hp
    intro s x a w h hI
    obtain ⟨out3, i4⟩ := s
    obtain ⟨v1, hf, hp⟩ : ∃ (v1 : Value), Fr 26 a [(0, vl0), (3, v1), (4, .int .i64 i4)] ∧ Hp S w0 w (Res.sl Ek.c128 49 v1 out3 :: ow) := hI
    replace h : f_foghornlaw06_many.s1c l0 out3 i4 = some x := h
    unfold f_foghornlaw06_many.s1c at h
    refine wp_seq ?_
    refine wp_seq ?_
    refine wp_reg ?_
    refine st_move hf rfl rfl (by decide) ?_
    clear hf; intro a ha hf; clear ha
    refine st_move hf rfl rfl (by decide) ?_
    clear hf; intro a ha hf; clear ha
    refine st_len (E := (Ek.pair Ek.f64 Ek.f64)) hf (by decide) Try.underlying39 rfl rfl (hl0.sl hp) ?_
    clear hf; intro a ha hf; clear ha
    refine st_ilss hf (by decide) rfl rfl rfl ?_
    clear hf; intro a ha hf; clear ha
    refine st_nil hf ?_
    refine th_n ?_
    refine wp_if hf rfl (fun hb => ?_) (fun hb => ?_)
    · replace h := ifT h hb
      refine wp_skip ?_
      refine th_n ?_
      refine wp_seq ?_
      refine wp_block ?_
      obtain ⟨hc5, h⟩ := chk h
      have hc6 : 0 ≤ (0 : Int) ∧ (0 : Int) < (2 : Int) := by decide
      obtain ⟨bb8, y10, hl7⟩ := RdS.pinPF (p := i4) (o := ((0 : Int)).toNat * 1) (Sub.fst (E := Ek.f64) (F := Ek.f64)) hl0 hc5.1 hc5.2
      obtain ⟨hc12, h⟩ := chk h
      have hc13 : 0 ≤ (1 : Int) ∧ (1 : Int) < (2 : Int) := by decide
      obtain ⟨bb15, y17, hl14⟩ := RdS.pinPF (p := i4) (o := ((1 : Int)).toNat * 1) (Sub.snd (E := Ek.f64) (F := Ek.f64)) hl0 hc12.1 hc12.2
      obtain ⟨hc21, h⟩ := chk h
      refine wp_cutN (fun a w => ∃ (v19 : Value) (v22 : Value), Fr 26 a [(0, vl0), (3, v22), (4, .int .i64 i4)] ∧ Hp S w0 w (Res.sl Ek.c128 49 v19 ([((gt l0 i4).1, (gt l0 i4).2)]) :: Res.sl Ek.c128 49 v22 (out3 ++ [((gt l0 i4).1, (gt l0 i4).2)]) :: ow)) ?_ ?_
      · have hp := hp.same (Same.drew w)
        refine dr_begin' (fun a w => ∃ (v19 : Value) (v22 : Value), Fr 26 a [(0, vl0), (3, v22), (4, .int .i64 i4)] ∧ Hp S w0 w (Res.sl Ek.c128 49 v19 ([((gt l0 i4).1, (gt l0 i4).2)]) :: Res.sl Ek.c128 49 v22 (out3 ++ [((gt l0 i4).1, (gt l0 i4).2)]) :: ow)) (fun w' => ∃ l, Hp S w0 w' l) [] (by kernel_rfl) ?_
        refine dr_take 0 (v1) rfl (by kernel_rfl) (by kernel_rfl) (by kernel_rfl) (by kernel_rfl) rfl rfl hf (by decide) rfl (fun w hp => ?_) ⟨_, hp⟩ ?_
        · obtain ⟨_, hp⟩ := hp
          refine st_move hf rfl rfl (by decide) ?_
          clear hf; intro a ha hf
          exact st_nil hf (th_n ⟨ha, rfl⟩)
        clear hf; intro a hf
        refine dr_take 1 (vl0) rfl (by kernel_rfl) (by kernel_rfl) (by kernel_rfl) (by kernel_rfl) rfl rfl hf (by decide) rfl (fun w hp => ?_) ⟨_, hp⟩ ?_
        · obtain ⟨_, hp⟩ := hp
          refine st_move hf rfl rfl (by decide) ?_
          clear hf; intro a ha hf
          exact st_nil hf (th_n ⟨ha, rfl⟩)
        clear hf; intro a hf
        refine dr_take 2 (.int .i64 i4) rfl (by kernel_rfl) (by kernel_rfl) (by kernel_rfl) (by kernel_rfl) rfl rfl hf (by decide) rfl (fun w hp => ?_) ⟨_, hp⟩ ?_
        · obtain ⟨_, hp⟩ := hp
          refine st_move hf rfl rfl (by decide) ?_
          clear hf; intro a ha hf
          exact st_nil hf (th_n ⟨ha, rfl⟩)
        clear hf; intro a hf
        refine dr_take 3 (eptr vl0 i4 2) rfl (by kernel_rfl) (by kernel_rfl) (by kernel_rfl) (by kernel_rfl) rfl rfl hf (by decide) rfl (fun w hp => ?_) ⟨_, hp⟩ ?_
        · obtain ⟨_, hp⟩ := hp
          refine st_index (E := (Ek.pair Ek.f64 Ek.f64)) hf (by decide) Try.underlying39 elt77 rfl rfl rfl (hl0.sl hp) hc5.1 hc5.2 ?_
          clear hf; intro a ha hf
          exact st_nil hf (th_n ⟨ha, rfl⟩)
        clear hf; intro a hf
        refine dr_take 4 (optr (eptr vl0 i4 2) (((0 : Int)).toNat * 1)) rfl (by kernel_rfl) (by kernel_rfl) (by kernel_rfl) (by kernel_rfl) rfl rfl hf (by decide) rfl (fun w hp => ?_) ⟨_, hp⟩ ?_
        · obtain ⟨_, hp⟩ := hp
          refine st_iaP (sz := 1) hf (by decide) Try.underlying77 (by kernel_rfl) rfl rfl rfl (Sl.isP (hl0.sl hp) hc5.1 hc5.2) hc6.1 hc6.2 ?_
          clear hf; intro a ha hf
          exact st_nil hf (th_n ⟨ha, rfl⟩)
        clear hf; intro a hf
        refine dr_take 5 (.float .f64 bb8) rfl (by kernel_rfl) (by kernel_rfl) (by kernel_rfl) (by kernel_rfl) rfl rfl hf (by decide) rfl (fun w hp => ?_) ⟨_, hp⟩ ?_
        · obtain ⟨_, hp⟩ := hp
          refine st_ldP hf (by decide) pl37 rfl rfl (hl7 _ _ hp) ?_
          clear hf; intro a ha hf
          exact st_nil hf (th_n ⟨ha, rfl⟩)
        clear hf; intro a hf
        refine dr_take 6 (vl0) rfl (by kernel_rfl) (by kernel_rfl) (by kernel_rfl) (by kernel_rfl) rfl rfl hf (by decide) rfl (fun w hp => ?_) ⟨_, hp⟩ ?_
        · obtain ⟨_, hp⟩ := hp
          refine st_move hf rfl rfl (by decide) ?_
          clear hf; intro a ha hf
          exact st_nil hf (th_n ⟨ha, rfl⟩)
        clear hf; intro a hf
        refine dr_take 7 (.int .i64 i4) rfl (by kernel_rfl) (by kernel_rfl) (by kernel_rfl) (by kernel_rfl) rfl rfl hf (by decide) rfl (fun w hp => ?_) ⟨_, hp⟩ ?_
        · obtain ⟨_, hp⟩ := hp
          refine st_move hf rfl rfl (by decide) ?_
          clear hf; intro a ha hf
          exact st_nil hf (th_n ⟨ha, rfl⟩)
        clear hf; intro a hf
        refine dr_take 8 (eptr vl0 i4 2) rfl (by kernel_rfl) (by kernel_rfl) (by kernel_rfl) (by kernel_rfl) rfl rfl hf (by decide) rfl (fun w hp => ?_) ⟨_, hp⟩ ?_
        · obtain ⟨_, hp⟩ := hp
          refine st_index (E := (Ek.pair Ek.f64 Ek.f64)) hf (by decide) Try.underlying39 elt77 rfl rfl rfl (hl0.sl hp) hc12.1 hc12.2 ?_
          clear hf; intro a ha hf
          exact st_nil hf (th_n ⟨ha, rfl⟩)
        clear hf; intro a hf
        refine dr_take 9 (optr (eptr vl0 i4 2) (((1 : Int)).toNat * 1)) rfl (by kernel_rfl) (by kernel_rfl) (by kernel_rfl) (by kernel_rfl) rfl rfl hf (by decide) rfl (fun w hp => ?_) ⟨_, hp⟩ ?_
        · obtain ⟨_, hp⟩ := hp
          refine st_iaP (sz := 1) hf (by decide) Try.underlying77 (by kernel_rfl) rfl rfl rfl (Sl.isP (hl0.sl hp) hc12.1 hc12.2) hc13.1 hc13.2 ?_
          clear hf; intro a ha hf
          exact st_nil hf (th_n ⟨ha, rfl⟩)
        clear hf; intro a hf
        refine dr_take 10 (.float .f64 bb15) rfl (by kernel_rfl) (by kernel_rfl) (by kernel_rfl) (by kernel_rfl) rfl rfl hf (by decide) rfl (fun w hp => ?_) ⟨_, hp⟩ ?_
        · obtain ⟨_, hp⟩ := hp
          refine st_ldP hf (by decide) pl37 rfl rfl (hl14 _ _ hp) ?_
          clear hf; intro a ha hf
          exact st_nil hf (th_n ⟨ha, rfl⟩)
        clear hf; intro a hf
        refine dr_take 11 (.complex .f64 bb8 bb15) rfl (by kernel_rfl) (by kernel_rfl) (by kernel_rfl) (by kernel_rfl) rfl rfl hf (by decide) rfl (fun w hp => ?_) ⟨_, hp⟩ ?_
        · obtain ⟨_, hp⟩ := hp
          refine st_complex hf (by decide) rfl rfl rfl ?_
          clear hf; intro a ha hf
          exact st_nil hf (th_n ⟨ha, rfl⟩)
        clear hf; intro a hf
        refine dr_one 12 rfl (by kernel_rfl) ?_
        refine st_build (E := Ek.c128) (xs := [((gt l0 i4).1, (gt l0 i4).2)]) hf (by decide) elt49 Try.underlying44 hp (vals := #[(0, .complex .f64 bb8 bb15)]) (cells := #[.complex .f64 bb8 bb15]) rfl (by simp [hf.ev (x := (Operand.tmp 22)) rfl]) (by decide) (by decide) (z := .complex .f64 0 0) (by kernel_rfl) (by kernel_rfl) rfl (reps_cons (cs := [.complex .f64 bb8 bb15]) (show Ek.c128.rep [.complex .f64 bb8 bb15] ((gt l0 i4).1, (gt l0 i4).2) from ⟨_, _, rfl, y10, y17⟩) (reps_nil _)) ?_
        clear hf; intro a w v19 hf hp0; clear hp; have hp := hp0; clear hp0
        replace hp : Hp _ _ _ (Res.sl Ek.c128 49 v19 ([((gt l0 i4).1, (gt l0 i4).2)]) :: Res.sl Ek.c128 49 v1 out3 :: ow) := hp
        refine st_nil hf (th_n ⟨fun _ _ => ⟨_, hp⟩, ?_⟩)
        refine dr_one 13 rfl (by kernel_rfl) ?_
        refine st_append (E := Ek.c128) hf (by decide) elt49 Try.underlying44 (by decide) hp (i := 1) rfl rfl rfl rfl (hp.sl (i := 0) rfl) hc21 ?_
        clear hf; intro a w v22 hf hp0; clear hp; have hp := hp0; clear hp0
        replace hp : Hp _ _ _ (Res.sl Ek.c128 49 v19 ([((gt l0 i4).1, (gt l0 i4).2)]) :: Res.sl Ek.c128 49 v22 (out3 ++ [((gt l0 i4).1, (gt l0 i4).2)]) :: ow) := hp
        refine st_nil hf (th_n ⟨fun _ _ => ⟨_, hp⟩, ?_⟩)
        refine dr_take 14 (v22) rfl (by kernel_rfl) (by kernel_rfl) (by kernel_rfl) (by kernel_rfl) rfl rfl hf (by decide) rfl (fun w hp => ?_) ⟨_, hp⟩ ?_
        · obtain ⟨_, hp⟩ := hp
          refine st_assign hf rfl rfl (by decide) ?_
          clear hf; intro a ha hf
          exact st_nil hf (th_n ⟨ha, rfl⟩)
        clear hf; intro a hf
        refine dr_end (by kernel_rfl) ?_ _
        exact ⟨v19, v22, hf.sub ⟨rfl, rfl, rfl, trivial⟩, hp⟩
      rintro a w ⟨v19, v22, hf, hp⟩
      refine ib_n ?_
      refine th_n ?_
      refine wp_reg ?_
      refine st_move hf rfl rfl (by decide) ?_
      clear hf; intro a ha hf; clear ha
      refine st_iadd hf (by decide) rfl rfl rfl ?_
      clear hf; intro a ha hf; clear ha
      refine st_assign hf rfl rfl (by decide) ?_
      clear hf; intro a ha hf; clear ha
      refine st_nil hf ?_
      obtain rfl := Option.some.inj h
      have hp : Hp _ _ _ (Res.sl Ek.c128 49 v22 (out3 ++ [((gt l0 i4).1, (gt l0 i4).2)]) :: ow) := Hp.sel (pre := [Res.sl Ek.c128 49 v19 ([((gt l0 i4).1, (gt l0 i4).2)]), Res.sl Ek.c128 49 v22 (out3 ++ [((gt l0 i4).1, (gt l0 i4).2)])]) (tail := ow) (rs' := [Res.sl Ek.c128 49 v22 (out3 ++ [((gt l0 i4).1, (gt l0 i4).2)])]) hp [1] (by decide) (by simp) rfl
      exact rnd_l ⟨_, hf.sub ⟨rfl, rfl, rfl, trivial⟩, hp⟩
    replace h := ifF h hb
    refine wp_exit ?_
    refine th_e ?_
    obtain rfl := Option.some.inj h
    exact rnd_r (by simp) ⟨rfl, _, hf.sub ⟨rfl, trivial⟩, hp⟩
  clear hl hf hp
  intro e a w hne hO
  obtain ⟨rfl, v3, hf, hp⟩ := hO
  refine ib_same ?_
  refine th_n ?_
  refine wp_seq ?_
  refine wp_reg ?_
  refine st_move hf rfl rfl (by decide) ?_
  clear hf; intro a ha hf; clear ha
  refine st_assign hf rfl rfl (by decide) ?_
  clear hf; intro a ha hf; clear ha
  refine st_nil hf ?_
  refine th_n ?_
  refine wp_ret ?_
  obtain rfl := Option.some.inj h
  exact ⟨rfl, ⟨_, hf.sub ⟨rfl, trivial⟩, hp⟩⟩

noncomputable def f_turns_row.s1c (qx0 : (List Int)) (t7 : Int) : Option (Int ⊕ (Unit ⊕ Bool)) := (if (decide (t7 < (qx0.length : Int))) = true then (if 0 ≤ t7 ∧ t7 < (qx0.length : Int) then (if (decide ((3 : Int) < (gt qx0 t7))) = true then (some (Sum.inr (Sum.inr false))) else (some (Sum.inl (IntKind.i64.wrap (t7 + (1 : Int)))))) else none) else (some (Sum.inr (Sum.inl ()))))
noncomputable def f_turns_row.s1 (qx0 : (List Int)) (s : Int) : Option (Int ⊕ (Unit ⊕ Bool)) := f_turns_row.s1c qx0 s
noncomputable def f_turns_row (qx0 : (List Int)) : Option Bool := ((loop (f_turns_row.s1 qx0) (0 : Int)).bind (fun q2 => sm q2 (fun q3 => (some (decide ((qx0.length : Int) ≤ (65536 : Int))))) (fun q4 => (some q4))))
theorem f_turns_row_c {S : Nat → Prop} {w0 w : World} {ow : List Res} (hp : Hp S w0 w ow) (vqx0 : Value) (qx0 : (List Int)) (hqx0 : RdS (Ek.int .u8) S w0 vqx0 qx0) {r : Bool} (h : f_turns_row qx0 = some r) :
    Calls Try.prog 36 #[vqx0] w (fun e w' => e = .returned (.bool r) ∧ Hp S w0 w' (ow)) := by
  unfold f_turns_row at h
  refine enter (n := 17) (args := [vqx0]) Try.func36 rfl rfl (Nat.le_of_ble_eq_true rfl) fun a hf => ?_
  replace hf : Fr 17 a [(0, vqx0)] := hf
  refine wp_mono (Q := fun e a w => e = .ret ∧ Fr 17 a [(2, .bool r)] ∧ Hp S w0 w (ow)) ?_ ?_
  rotate_left
  · rintro e a w ⟨rfl, hf, hp⟩
    exact ret1 hf rfl rfl ⟨rfl, hp⟩
  refine wp_seq ?_
  refine wp_reg ?_
  refine st_assign hf rfl rfl (by decide) ?_
  clear hf; intro a ha hf; clear ha
  refine st_nil hf ?_
  refine th_n ?_
  refine wp_seq ?_
  refine wp_seq ?_
  refine wp_reg ?_
  refine st_move hf rfl rfl (by decide) ?_
  clear hf; intro a ha hf; clear ha
  refine st_len (E := (Ek.int .u8)) hf (by decide) Try.underlying22 rfl rfl (hqx0.sl hp) ?_
  clear hf; intro a ha hf; clear ha
  refine st_move hf rfl rfl (by decide) ?_
  clear hf; intro a ha hf; clear ha
  refine st_nil hf ?_
  refine th_n ?_
  refine wp_block ?_
  obtain ⟨q2, hl, h⟩ := bnd h
  refine wp_loop_pure (f := (f_turns_row.s1 qx0)) (s := (0 : Int)) (fun s a w => Fr 17 a [(0, vqx0), (5, vqx0), (6, .int .i64 (qx0.length : Int)), (7, .int .i64 s)] ∧ Hp S w0 w (ow)) (fun q e a w => match q with | (Sum.inl q) => e = .exit 0 ∧ Fr 17 a [(0, vqx0)] ∧ Hp S w0 w (ow) | (Sum.inr q) => e = .ret ∧ Fr 17 a [(2, .bool q)] ∧ Hp S w0 w (ow)) ?_ hl ⟨hf.sub ⟨rfl, rfl, rfl, rfl, trivial⟩, hp⟩ ?_
  · clear hl hf hp
    intro s x a w h hI
    obtain ⟨t7, hs⟩ : ∃ z, z = s := ⟨s, rfl⟩; subst hs
    obtain ⟨hf, hp⟩ : Fr 17 a [(0, vqx0), (5, vqx0), (6, .int .i64 (qx0.length : Int)), (7, .int .i64 t7)] ∧ Hp S w0 w (ow) := hI
    replace h : f_turns_row.s1c qx0 t7 = some x := h
    unfold f_turns_row.s1c at h
    refine wp_seq ?_
    refine wp_reg ?_
    refine st_ilss hf (by decide) rfl rfl rfl ?_
    clear hf; intro a ha hf; clear ha
    refine st_nil hf ?_
    refine th_n ?_
    refine wp_seq ?_
    refine wp_if hf rfl (fun hb => ?_) (fun hb => ?_)
    · replace h := ifT h hb
      refine wp_skip ?_
      refine th_n ?_
      refine wp_seq ?_
      refine wp_block ?_
      refine wp_seq ?_
      refine wp_reg ?_
      obtain ⟨hc1, h⟩ := chk h
      refine st_index (E := (Ek.int .u8)) hf (by decide) Try.underlying22 elt5 rfl rfl rfl (hqx0.sl hp) hc1.1 hc1.2 ?_
      clear hf; intro a ha hf; clear ha
      refine st_ldI hf (by decide) pl5 rfl rfl (hqx0.sl hp) hc1.1 hc1.2 ?_
      clear hf; intro a ha hf; clear ha
      refine st_assign hf rfl rfl (by decide) ?_
      clear hf; intro a ha hf; clear ha
      refine st_nil hf ?_
      refine th_n ?_
      refine wp_seq ?_
      refine wp_reg ?_
      refine st_move hf rfl rfl (by decide) ?_
      clear hf; intro a ha hf; clear ha
      refine st_igtr hf (by decide) rfl rfl rfl ?_
      clear hf; intro a ha hf; clear ha
      refine st_nil hf ?_
      refine th_n ?_
      refine wp_if hf rfl (fun hb => ?_) (fun hb => ?_)
      · replace h := ifT h hb
        refine wp_seq ?_
        refine wp_reg ?_
        refine st_assign hf rfl rfl (by decide) ?_
        clear hf; intro a ha hf; clear ha
        refine st_nil hf ?_
        refine th_n ?_
        refine wp_ret ?_
        refine ib_r ?_
        refine th_r ?_
        obtain rfl := Option.some.inj h
        exact rnd_r (by simp) ⟨rfl, ⟨hf.sub ⟨rfl, trivial⟩, hp⟩⟩
      replace h := ifF h hb
      refine wp_skip ?_
      refine ib_n ?_
      refine th_n ?_
      refine wp_reg ?_
      refine st_iadd hf (by decide) rfl rfl rfl ?_
      clear hf; intro a ha hf; clear ha
      refine st_move hf rfl rfl (by decide) ?_
      clear hf; intro a ha hf; clear ha
      refine st_nil hf ?_
      obtain rfl := Option.some.inj h
      exact rnd_l ⟨hf.sub ⟨rfl, rfl, rfl, rfl, trivial⟩, hp⟩
    replace h := ifF h hb
    refine wp_exit ?_
    refine th_e ?_
    obtain rfl := Option.some.inj h
    exact rnd_r (by simp) ⟨rfl, hf.sub ⟨rfl, trivial⟩, hp⟩
  clear hl hf hp
  intro e a w hne hO
  rcases q2 with q3 | q4
  · replace h := smL h
    obtain ⟨rfl, hf, hp⟩ := hO
    refine ib_same ?_
    refine th_n ?_
    refine wp_seq ?_
    refine wp_reg ?_
    refine st_move hf rfl rfl (by decide) ?_
    clear hf; intro a ha hf; clear ha
    refine st_len (E := (Ek.int .u8)) hf (by decide) Try.underlying22 rfl rfl (hqx0.sl hp) ?_
    clear hf; intro a ha hf; clear ha
    refine st_ileq hf (by decide) rfl rfl rfl ?_
    clear hf; intro a ha hf; clear ha
    refine st_assign hf rfl rfl (by decide) ?_
    clear hf; intro a ha hf; clear ha
    refine st_nil hf ?_
    refine th_n ?_
    refine wp_ret ?_
    obtain rfl := Option.some.inj h
    exact ⟨rfl, ⟨hf.sub ⟨rfl, trivial⟩, hp⟩⟩
  replace h := smR h
  obtain ⟨rfl, hf, hp⟩ := hO
  refine ib_r ?_
  refine th_r ?_
  obtain rfl := Option.some.inj h
  exact ⟨rfl, ⟨hf.sub ⟨rfl, trivial⟩, hp⟩⟩

noncomputable def f_plane_Turn (zx0 : (Fl × Fl)) (quarters1 : Int) : Option (Fl × Fl) := (if ((iand .i64 quarters1 (3 : Int)) == (1 : Int)) = true then (some ((fneg zx0.2), zx0.1)) else (if ((iand .i64 quarters1 (3 : Int)) == (2 : Int)) = true then (some ((fneg zx0.1), (fneg zx0.2))) else (if ((iand .i64 quarters1 (3 : Int)) == (3 : Int)) = true then (some (zx0.2, (fneg zx0.1))) else (some zx0))))
theorem f_plane_Turn_c {S : Nat → Prop} {w0 w : World} {ow : List Res} (hp : Hp S w0 w ow) (bzx0 czx0 : Nat) (zx0 : Fl × Fl) (hzx0 : zx0.1.rep bzx0) (kzx0 : zx0.2.rep czx0) (quarters1 : Int) {r : (Fl × Fl)} (h : f_plane_Turn zx0 quarters1 = some r) :
    Calls Try.prog 44 #[.complex .f64 bzx0 czx0, .int .i64 quarters1] w (fun e w' => ∃ (b0 : Nat) (b1 : Nat), e = .returned (.complex .f64 b0 b1) ∧ Fl.rep b0 r.1 ∧ Fl.rep b1 r.2 ∧ Hp S w0 w' (ow)) := by
  unfold f_plane_Turn at h
  refine enter (n := 33) (args := [.complex .f64 bzx0 czx0, .int .i64 quarters1]) Try.func44 rfl rfl (Nat.le_of_ble_eq_true rfl) fun a hf => ?_
  replace hf : Fr 33 a [(0, .complex .f64 bzx0 czx0), (1, .int .i64 quarters1)] := hf
  refine wp_mono (Q := fun e a w => e = .ret ∧ ∃ (b0 : Nat) (b1 : Nat), Fr 33 a [(4, .complex .f64 b0 b1)] ∧ Fl.rep b0 r.1 ∧ Fl.rep b1 r.2 ∧ Hp S w0 w (ow)) ?_ ?_
  rotate_left
  · rintro e a w ⟨rfl, x0, x1, hf, y0, y1, hp⟩
    exact ret1 hf rfl rfl ⟨x0, x1, rfl, y0, y1, hp⟩
  refine wp_seq ?_
  refine wp_reg ?_
  refine st_assign hf rfl rfl (by decide) ?_
  clear hf; intro a ha hf; clear ha
  refine st_nil hf ?_
  refine th_n ?_
  refine wp_seq ?_
  refine wp_seq ?_
  refine wp_reg ?_
  refine st_move hf rfl rfl (by decide) ?_
  clear hf; intro a ha hf; clear ha
  refine st_iand hf (by decide) rfl rfl rfl ?_
  clear hf; intro a ha hf; clear ha
  refine st_nil hf ?_
  refine th_n ?_
  refine wp_block ?_
  refine wp_seq ?_
  refine wp_reg ?_
  refine st_ieql hf (by decide) rfl rfl rfl ?_
  clear hf; intro a ha hf; clear ha
  refine st_assign hf rfl rfl (by decide) ?_
  clear hf; intro a ha hf; clear ha
  refine st_nil hf ?_
  refine th_n ?_
  refine wp_if hf rfl (fun hb => ?_) (fun hb => ?_)
  · replace h := ifT h hb
    refine wp_seq ?_
    refine wp_reg ?_
    refine st_move hf rfl rfl (by decide) ?_
    clear hf; intro a ha hf; clear ha
    refine st_imag hf (by decide) rfl rfl ?_
    clear hf; intro a ha hf; clear ha
    refine st_fneg hf (by decide) rfl rfl ?_
    clear hf; intro a ha hf; clear ha
    refine st_move hf rfl rfl (by decide) ?_
    clear hf; intro a ha hf; clear ha
    refine st_real hf (by decide) rfl rfl ?_
    clear hf; intro a ha hf; clear ha
    refine st_complex hf (by decide) rfl rfl rfl ?_
    clear hf; intro a ha hf; clear ha
    refine st_assign hf rfl rfl (by decide) ?_
    clear hf; intro a ha hf; clear ha
    refine st_nil hf ?_
    refine th_n ?_
    refine wp_ret ?_
    refine ib_r ?_
    refine th_r ?_
    obtain rfl := Option.some.inj h
    exact ⟨rfl, ⟨_, _, hf.sub ⟨rfl, trivial⟩, (fneg_rep kzx0), hzx0, hp⟩⟩
  replace h := ifF h hb
  refine wp_seq ?_
  refine wp_reg ?_
  refine st_ieql hf (by decide) rfl rfl rfl ?_
  clear hf; intro a ha hf; clear ha
  refine st_assign hf rfl rfl (by decide) ?_
  clear hf; intro a ha hf; clear ha
  refine st_nil hf ?_
  refine th_n ?_
  refine wp_if hf rfl (fun hb => ?_) (fun hb => ?_)
  · replace h := ifT h hb
    refine wp_seq ?_
    refine wp_reg ?_
    refine st_move hf rfl rfl (by decide) ?_
    clear hf; intro a ha hf; clear ha
    refine st_real hf (by decide) rfl rfl ?_
    clear hf; intro a ha hf; clear ha
    refine st_fneg hf (by decide) rfl rfl ?_
    clear hf; intro a ha hf; clear ha
    refine st_move hf rfl rfl (by decide) ?_
    clear hf; intro a ha hf; clear ha
    refine st_imag hf (by decide) rfl rfl ?_
    clear hf; intro a ha hf; clear ha
    refine st_fneg hf (by decide) rfl rfl ?_
    clear hf; intro a ha hf; clear ha
    refine st_complex hf (by decide) rfl rfl rfl ?_
    clear hf; intro a ha hf; clear ha
    refine st_assign hf rfl rfl (by decide) ?_
    clear hf; intro a ha hf; clear ha
    refine st_nil hf ?_
    refine th_n ?_
    refine wp_ret ?_
    refine ib_r ?_
    refine th_r ?_
    obtain rfl := Option.some.inj h
    exact ⟨rfl, ⟨_, _, hf.sub ⟨rfl, trivial⟩, (fneg_rep hzx0), (fneg_rep kzx0), hp⟩⟩
  replace h := ifF h hb
  refine wp_seq ?_
  refine wp_reg ?_
  refine st_ieql hf (by decide) rfl rfl rfl ?_
  clear hf; intro a ha hf; clear ha
  refine st_assign hf rfl rfl (by decide) ?_
  clear hf; intro a ha hf; clear ha
  refine st_nil hf ?_
  refine th_n ?_
  refine wp_if hf rfl (fun hb => ?_) (fun hb => ?_)
  · replace h := ifT h hb
    refine wp_seq ?_
    refine wp_reg ?_
    refine st_move hf rfl rfl (by decide) ?_
    clear hf; intro a ha hf; clear ha
    refine st_imag hf (by decide) rfl rfl ?_
    clear hf; intro a ha hf; clear ha
    refine st_move hf rfl rfl (by decide) ?_
    clear hf; intro a ha hf; clear ha
    refine st_real hf (by decide) rfl rfl ?_
    clear hf; intro a ha hf; clear ha
    refine st_fneg hf (by decide) rfl rfl ?_
    clear hf; intro a ha hf; clear ha
    refine st_complex hf (by decide) rfl rfl rfl ?_
    clear hf; intro a ha hf; clear ha
    refine st_assign hf rfl rfl (by decide) ?_
    clear hf; intro a ha hf; clear ha
    refine st_nil hf ?_
    refine th_n ?_
    refine wp_ret ?_
    refine ib_r ?_
    refine th_r ?_
    obtain rfl := Option.some.inj h
    exact ⟨rfl, ⟨_, _, hf.sub ⟨rfl, trivial⟩, kzx0, (fneg_rep hzx0), hp⟩⟩
  replace h := ifF h hb
  refine wp_skip ?_
  refine ib_n ?_
  refine th_n ?_
  refine wp_seq ?_
  refine wp_reg ?_
  refine st_move hf rfl rfl (by decide) ?_
  clear hf; intro a ha hf; clear ha
  refine st_assign hf rfl rfl (by decide) ?_
  clear hf; intro a ha hf; clear ha
  refine st_nil hf ?_
  refine th_n ?_
  refine wp_ret ?_
  obtain rfl := Option.some.inj h
  exact ⟨rfl, ⟨_, _, hf.sub ⟨rfl, trivial⟩, hzx0, kzx0, hp⟩⟩

noncomputable def f_turns_Points.s1c (p0 : (List Int)) (size1 : Fl) (l6 : (List (Fl × Fl))) (t26 : Int) : Option (((List (Fl × Fl)) × Int) ⊕ (List (Fl × Fl))) := (if (decide (t26 < (p0.length : Int))) = true then (if 0 ≤ t26 ∧ t26 < (p0.length : Int) then ((f_plane_Turn (size1, (Fl.bits 0)) (IntKind.i64.wrap (gt p0 t26))).bind fun q16 => (if 0 ≤ t26 ∧ t26 < (l6.length : Int) then (some (Sum.inl ((l6.set (t26).toNat q16), (IntKind.i64.wrap (t26 + (1 : Int)))))) else none)) else none) else (some (Sum.inr l6)))
noncomputable def f_turns_Points.s1 (p0 : (List Int)) (size1 : Fl) (s : ((List (Fl × Fl)) × Int)) : Option (((List (Fl × Fl)) × Int) ⊕ (List (Fl × Fl))) := f_turns_Points.s1c p0 size1 s.1 s.2
noncomputable def f_turns_Points (p0 : (List Int)) (size1 : Fl) : Option ((List (Fl × Fl)) × Int) := ((f_turns_row p0).bind fun q1 => (if ((!q1) || (!((fge size1 (Fl.bits 4553139223271571456)) && (fle size1 (Fl.bits 4652218415073722368))))) = true then (some ([], (1 : Int))) else (if 0 ≤ (p0.length : Int) ∧ (p0.length : Int) ≤ (p0.length : Int) ∧ (p0.length : Int) * 16 ≤ 281474976710656 then ((loop (f_turns_Points.s1 p0 size1) ((List.replicate ((p0.length : Int)).toNat (Fl.bits 0, Fl.bits 0)), (0 : Int))).bind (fun q23 => (some (q23, (0 : Int))))) else none)))
theorem f_turns_Points_c {S : Nat → Prop} {w0 w : World} {ow : List Res} (hp : Hp S w0 w ow) (vp0 : Value) (p0 : (List Int)) (hp0 : RdS (Ek.int .u8) S w0 vp0 p0) (bsize1 : Nat) (size1 : Fl) (hsize1 : size1.rep bsize1) {r : ((List (Fl × Fl)) × Int)} (h : f_turns_Points p0 size1 = some r) :
    Calls Try.prog 20 #[vp0, .float .f64 bsize1] w (fun e w' => ∃ (u0 : Value), e = .returned (.tuple #[u0, .int .i64 r.2]) ∧ Hp S w0 w' (Res.sl Ek.c128 49 u0 r.1 :: ow)) := by
  unfold f_turns_Points at h
  refine enter (n := 41) (args := [vp0, .float .f64 bsize1]) Try.func20 rfl rfl (Nat.le_of_ble_eq_true rfl) fun a hf => ?_
  replace hf : Fr 41 a [(0, vp0), (1, .float .f64 bsize1)] := hf
  refine wp_mono (Q := fun e a w => e = .ret ∧ ∃ (u0 : Value), Fr 41 a [(4, u0), (5, .int .i64 r.2)] ∧ Hp S w0 w (Res.sl Ek.c128 49 u0 r.1 :: ow)) ?_ ?_
  rotate_left
  · rintro e a w ⟨rfl, x0, hf, hp⟩
    exact ret2 hf rfl rfl rfl ⟨x0, rfl, hp⟩
  refine wp_seq ?_
  refine wp_reg ?_
  refine st_assign hf rfl rfl (by decide) ?_
  clear hf; intro a ha hf; clear ha
  refine st_assign hf rfl rfl (by decide) ?_
  clear hf; intro a ha hf; clear ha
  refine st_nil hf ?_
  refine th_n ?_
  refine wp_seq ?_
  refine wp_seq ?_
  refine wp_reg ?_
  refine st_move hf rfl rfl (by decide) ?_
  clear hf; intro a ha hf; clear ha
  obtain ⟨q1, hcall2, h⟩ := bnd h
  refine st_call hf (by decide) Try.func36 rfl rfl rfl rfl rfl (f_turns_row_c hp _ _ hp0 hcall2) ?_
  rintro _ w ⟨rfl, hp0⟩
  clear hp; have hp := hp0; clear hp0
  replace hp : Hp _ _ _ (ow) := hp
  refine ⟨_, rfl, ?_⟩
  clear hf; intro a hf
  refine st_not hf (by decide) rfl rfl ?_
  clear hf; intro a ha hf; clear ha
  refine st_move hf rfl rfl (by decide) ?_
  clear hf; intro a ha hf; clear ha
  refine wpList_cut 8 (fun a w => Fr 41 a [(0, vp0), (1, .float .f64 bsize1), (20, .bool ((!q1) || (!((fge size1 (Fl.bits 4553139223271571456)) && (fle size1 (Fl.bits 4652218415073722368))))))] ∧ Hp S w0 w (ow)) ?_ ?_
  · rcases Bool.eq_false_or_eq_true (!q1) with hb4 | hb4
    · skip
      refine st_skip hf (wantN hf rfl rfl hb4) rfl (by decide) ?_ rfl
      clear hf; intro a hf
      refine st_skip hf (wantN hf rfl rfl hb4) rfl (by decide) ?_ rfl
      clear hf; intro a hf
      refine st_skipU hf (wantN hf rfl rfl hb4) rfl (by decide) ?_
      clear hf; intro a hf
      refine st_skip hf (wantU hf rfl rfl) rfl (by decide) ?_ rfl
      clear hf; intro a hf
      refine st_skip hf (wantU hf rfl rfl) rfl (by decide) ?_ rfl
      clear hf; intro a hf
      refine st_skip hf (wantN hf rfl rfl hb4) rfl (by decide) ?_ rfl
      clear hf; intro a hf
      refine st_skip hf (wantN hf rfl rfl hb4) rfl (by decide) ?_ rfl
      clear hf; intro a hf
      refine st_pick (v := .bool true) hf rfl rfl (fun hb' => ?_) (fun hb' => ?_) (by decide) ?_
      · rfl
      · exact absurd (hb4.symm.trans hb') (by decide)
      clear hf; intro a ha hf; clear ha
      refine st_nil hf (th_n ?_)
      exact ⟨hf.sub ⟨rfl, rfl, (by rw [hb4]; rfl), trivial⟩, hp⟩
    refine st_move hf (wantY hf rfl rfl hb4) rfl (by decide) ?_
    clear hf; intro a ha hf; clear ha
    refine st_fcmp (r_fge (fx := size1) (fy := (Fl.bits 4553139223271571456)) hsize1 rfl) hf (by decide) (wantY hf rfl rfl hb4) rfl rfl ?_
    clear hf; intro a ha hf; clear ha
    refine st_move hf (wantY hf rfl rfl hb4) rfl (by decide) ?_
    clear hf; intro a ha hf; clear ha
    refine wpList_cut 3 (fun a w => Fr 41 a [(0, vp0), (1, .float .f64 bsize1), (12, .bool (!q1)), (18, .bool ((fge size1 (Fl.bits 4553139223271571456)) && (fle size1 (Fl.bits 4652218415073722368))))] ∧ Hp S w0 w (ow)) ?_ ?_
    · rcases Bool.eq_false_or_eq_true (fge size1 (Fl.bits 4553139223271571456)) with hb6 | hb6
      · skip
        refine st_move hf (wantY hf rfl rfl hb6) rfl (by decide) ?_
        clear hf; intro a ha hf; clear ha
        refine st_fcmp (r_fle (fx := size1) (fy := (Fl.bits 4652218415073722368)) hsize1 rfl) hf (by decide) (wantY hf rfl rfl hb6) rfl rfl ?_
        clear hf; intro a ha hf; clear ha
        refine st_pick (v := .bool (fle size1 (Fl.bits 4652218415073722368))) hf (wantY hf rfl rfl hb4) rfl (fun hb' => ?_) (fun hb' => ?_) (by decide) ?_
        · rfl
        · exact absurd (hb6.symm.trans hb') (by decide)
        clear hf; intro a ha hf; clear ha
        refine st_nil hf (th_n ?_)
        exact ⟨hf.sub ⟨rfl, rfl, rfl, (by rw [hb6]; rfl), trivial⟩, hp⟩
      refine st_skip hf (wantN hf rfl rfl hb6) rfl (by decide) ?_ rfl
      clear hf; intro a hf
      refine st_skip hf (wantN hf rfl rfl hb6) rfl (by decide) ?_ rfl
      clear hf; intro a hf
      refine st_pick (v := .bool false) hf (wantY hf rfl rfl hb4) rfl (fun hb' => ?_) (fun hb' => ?_) (by decide) ?_
      · exact absurd (hb6.symm.trans hb') (by decide)
      · rfl
      clear hf; intro a ha hf; clear ha
      refine st_nil hf (th_n ?_)
      exact ⟨hf.sub ⟨rfl, rfl, rfl, (by rw [hb6]; rfl), trivial⟩, hp⟩
    rintro a w ⟨hf, hp⟩
    refine st_not hf (by decide) (wantY hf rfl rfl hb4) rfl ?_
    clear hf; intro a ha hf; clear ha
    refine st_pick (v := .bool (!((fge size1 (Fl.bits 4553139223271571456)) && (fle size1 (Fl.bits 4652218415073722368))))) hf rfl rfl (fun hb' => ?_) (fun hb' => ?_) (by decide) ?_
    · exact absurd (hb4.symm.trans hb') (by decide)
    · rfl
    clear hf; intro a ha hf; clear ha
    refine st_nil hf (th_n ?_)
    exact ⟨hf.sub ⟨rfl, rfl, (by rw [hb4]; rfl), trivial⟩, hp⟩
  rintro a w ⟨hf, hp⟩
  refine st_nil hf ?_
  refine th_n ?_
  refine wp_if hf rfl (fun hb => ?_) (fun hb => ?_)
  · replace h := ifT h hb
    refine wp_seq ?_
    refine wp_reg ?_
    refine st_assign hf rfl rfl (by decide) ?_
    clear hf; intro a ha hf; clear ha
    refine st_assign hf rfl rfl (by decide) ?_
    clear hf; intro a ha hf; clear ha
    refine st_nil hf ?_
    refine th_n ?_
    refine wp_ret ?_
    refine th_r ?_
    obtain rfl := Option.some.inj h
    have hp := hp.nil Ek.c128 49
    exact ⟨rfl, ⟨_, hf.sub ⟨rfl, rfl, trivial⟩, hp⟩⟩
  replace h := ifF h hb
  refine wp_skip ?_
  refine th_n ?_
  refine wp_seq ?_
  refine wp_reg ?_
  refine st_move hf rfl rfl (by decide) ?_
  clear hf; intro a ha hf; clear ha
  refine st_len (E := (Ek.int .u8)) hf (by decide) Try.underlying22 rfl rfl (hp0.sl hp) ?_
  clear hf; intro a ha hf; clear ha
  obtain ⟨hc8, h⟩ := chk h
  refine st_make (E := Ek.c128) hf (by decide) elt49 Try.underlying44 (by decide) hp rfl rfl rfl hc8.1 hc8.2.1 hc8.2.2 ?_
  clear hf; intro a w v9 hf hp0; clear hp; have hp := hp0; clear hp0
  replace hp : Hp _ _ _ (Res.sl Ek.c128 49 v9 (List.replicate ((p0.length : Int)).toNat (Fl.bits 0, Fl.bits 0)) :: ow) := hp
  refine st_assign hf rfl rfl (by decide) ?_
  clear hf; intro a ha hf; clear ha
  refine st_nil hf ?_
  refine th_n ?_
  refine wp_seq ?_
  refine wp_seq ?_
  refine wp_reg ?_
  refine st_move hf rfl rfl (by decide) ?_
  clear hf; intro a ha hf; clear ha
  refine st_len (E := (Ek.int .u8)) hf (by decide) Try.underlying22 rfl rfl (hp0.sl hp) ?_
  clear hf; intro a ha hf; clear ha
  refine st_move hf rfl rfl (by decide) ?_
  clear hf; intro a ha hf; clear ha
  refine st_nil hf ?_
  refine th_n ?_
  refine wp_block ?_
  obtain ⟨q23, hl, h⟩ := bnd h
  refine wp_loop_pure (f := (f_turns_Points.s1 p0 size1)) (s := ((List.replicate ((p0.length : Int)).toNat (Fl.bits 0, Fl.bits 0)), (0 : Int))) (fun s a w => ∃ (v11 : Value), Fr 41 a [(1, .float .f64 bsize1), (6, v11), (24, vp0), (25, .int .i64 (p0.length : Int)), (26, .int .i64 s.2)] ∧ Hp S w0 w (Res.sl Ek.c128 49 v11 s.1 :: ow)) (fun q e a w => e = .exit 0 ∧ ∃ (v13 : Value), Fr 41 a [(6, v13)] ∧ Hp S w0 w (Res.sl Ek.c128 49 v13 q :: ow)) ?_ hl ⟨_, hf.sub ⟨rfl, rfl, rfl, rfl, rfl, trivial⟩, hp⟩ ?_
  · clear hl hf hp
    intro s x a w h hI
    obtain ⟨l6, t26⟩ := s
    obtain ⟨v11, hf, hp⟩ : ∃ (v11 : Value), Fr 41 a [(1, .float .f64 bsize1), (6, v11), (24, vp0), (25, .int .i64 (p0.length : Int)), (26, .int .i64 t26)] ∧ Hp S w0 w (Res.sl Ek.c128 49 v11 l6 :: ow) := hI
    replace h : f_turns_Points.s1c p0 size1 l6 t26 = some x := h
    unfold f_turns_Points.s1c at h
    refine wp_seq ?_
    refine wp_reg ?_
    refine st_ilss hf (by decide) rfl rfl rfl ?_
    clear hf; intro a ha hf; clear ha
    refine st_nil hf ?_
    refine th_n ?_
    refine wp_seq ?_
    refine wp_if hf rfl (fun hb => ?_) (fun hb => ?_)
    · replace h := ifT h hb
      refine wp_skip ?_
      refine th_n ?_
      refine wp_seq ?_
      refine wp_block ?_
      refine wp_seq ?_
      refine wp_reg ?_
      refine st_move hf rfl rfl (by decide) ?_
      clear hf; intro a ha hf; clear ha
      obtain ⟨hc15, h⟩ := chk h
      refine st_index (E := (Ek.int .u8)) hf (by decide) Try.underlying22 elt5 rfl rfl rfl (hp0.sl hp) hc15.1 hc15.2 ?_
      clear hf; intro a ha hf; clear ha
      refine st_ldI hf (by decide) pl5 rfl rfl (hp0.sl hp) hc15.1 hc15.2 ?_
      clear hf; intro a ha hf; clear ha
      refine st_assign hf rfl rfl (by decide) ?_
      clear hf; intro a ha hf; clear ha
      refine st_assign hf rfl rfl (by decide) ?_
      clear hf; intro a ha hf; clear ha
      refine st_nil hf ?_
      refine th_n ?_
      refine wp_reg ?_
      refine st_move hf rfl rfl (by decide) ?_
      clear hf; intro a ha hf; clear ha
      refine st_move hf rfl rfl (by decide) ?_
      clear hf; intro a ha hf; clear ha
      refine st_move hf rfl rfl (by decide) ?_
      clear hf; intro a ha hf; clear ha
      refine st_complex hf (by decide) rfl rfl rfl ?_
      clear hf; intro a ha hf; clear ha
      refine st_move hf rfl rfl (by decide) ?_
      clear hf; intro a ha hf; clear ha
      refine st_conv_ii hf (by decide) (by rw [Try.underlying5]; rfl) Try.underlying3 rfl rfl ?_
      clear hf; intro a ha hf; clear ha
      obtain ⟨q16, hcall17, h⟩ := bnd h
      refine st_call hf (by decide) Try.func44 rfl rfl rfl rfl rfl (f_plane_Turn_c hp _ _ _ (show Fl.rep bsize1 ((size1, (Fl.bits 0))).1 from hsize1) (show Fl.rep 0 ((size1, (Fl.bits 0))).2 from rfl) _ hcall17) ?_
      rintro _ w ⟨v18, v19, rfl, y20, y21, hp0⟩
      clear hp; have hp := hp0; clear hp0
      replace hp : Hp _ _ _ (Res.sl Ek.c128 49 v11 l6 :: ow) := hp
      refine ⟨_, rfl, ?_⟩
      clear hf; intro a hf
      obtain ⟨hc22, h⟩ := chk h
      refine st_index (E := Ek.c128) hf (by decide) Try.underlying44 elt49 rfl rfl rfl (hp.sl (i := 0) rfl) hc22.1 hc22.2 ?_
      clear hf; intro a ha hf; clear ha
      refine st_store (E := Ek.c128) hf elt49 hp (i := 0) rfl rfl rfl rfl (show Ek.c128.rep [.complex .f64 v18 v19] q16 from ⟨_, _, rfl, y20, y21⟩) hc22.1 hc22.2 ?_
      clear hf; intro a w hf hp0; clear hp; have hp := hp0; clear hp0
      replace hp : Hp _ _ _ (Res.sl Ek.c128 49 v11 (l6.set (t26).toNat q16) :: ow) := hp
      refine st_nil hf ?_
      refine ib_n ?_
      refine th_n ?_
      refine wp_reg ?_
      refine st_iadd hf (by decide) rfl rfl rfl ?_
      clear hf; intro a ha hf; clear ha
      refine st_move hf rfl rfl (by decide) ?_
      clear hf; intro a ha hf; clear ha
      refine st_nil hf ?_
      obtain rfl := Option.some.inj h
      exact rnd_l ⟨_, hf.sub ⟨rfl, rfl, rfl, rfl, rfl, trivial⟩, hp⟩
    replace h := ifF h hb
    refine wp_exit ?_
    refine th_e ?_
    obtain rfl := Option.some.inj h
    exact rnd_r (by simp) ⟨rfl, _, hf.sub ⟨rfl, trivial⟩, hp⟩
  clear hl hf hp
  intro e a w hne hO
  obtain ⟨rfl, v13, hf, hp⟩ := hO
  refine ib_same ?_
  refine th_n ?_
  refine wp_seq ?_
  refine wp_reg ?_
  refine st_move hf rfl rfl (by decide) ?_
  clear hf; intro a ha hf; clear ha
  refine st_assign hf rfl rfl (by decide) ?_
  clear hf; intro a ha hf; clear ha
  refine st_assign hf rfl rfl (by decide) ?_
  clear hf; intro a ha hf; clear ha
  refine st_nil hf ?_
  refine th_n ?_
  refine wp_ret ?_
  obtain rfl := Option.some.inj h
  exact ⟨rfl, ⟨_, hf.sub ⟨rfl, rfl, trivial⟩, hp⟩⟩

noncomputable def f_foghornref06_row.s1c (qx0 : (List Int)) (i3 : Int) : Option (Int ⊕ (Unit ⊕ Bool)) := (if (decide (i3 < (qx0.length : Int))) = true then (if 0 ≤ i3 ∧ i3 < (qx0.length : Int) then (if (decide ((3 : Int) < (gt qx0 i3))) = true then (some (Sum.inr (Sum.inr false))) else (some (Sum.inl (IntKind.i64.wrap (i3 + (1 : Int)))))) else none) else (some (Sum.inr (Sum.inl ()))))
noncomputable def f_foghornref06_row.s1 (qx0 : (List Int)) (s : Int) : Option (Int ⊕ (Unit ⊕ Bool)) := f_foghornref06_row.s1c qx0 s
noncomputable def f_foghornref06_row (qx0 : (List Int)) : Option Bool := (if (decide ((65536 : Int) < (qx0.length : Int))) = true then (some false) else ((loop (f_foghornref06_row.s1 qx0) (0 : Int)).bind (fun q2 => sm q2 (fun q3 => (some true)) (fun q4 => (some q4)))))
theorem f_foghornref06_row_c {S : Nat → Prop} {w0 w : World} {ow : List Res} (hp : Hp S w0 w ow) (vqx0 : Value) (qx0 : (List Int)) (hqx0 : RdS (Ek.int .u8) S w0 vqx0 qx0) {r : Bool} (h : f_foghornref06_row qx0 = some r) :
    Calls Try.prog 45 #[vqx0] w (fun e w' => e = .returned (.bool r) ∧ Hp S w0 w' (ow)) := by
  unfold f_foghornref06_row at h
  refine enter (n := 18) (args := [vqx0]) Try.func45 rfl rfl (Nat.le_of_ble_eq_true rfl) fun a hf => ?_
  replace hf : Fr 18 a [(0, vqx0)] := hf
  refine wp_mono (Q := fun e a w => e = .ret ∧ Fr 18 a [(2, .bool r)] ∧ Hp S w0 w (ow)) ?_ ?_
  rotate_left
  · rintro e a w ⟨rfl, hf, hp⟩
    exact ret1 hf rfl rfl ⟨rfl, hp⟩
  refine wp_seq ?_
  refine wp_reg ?_
  refine st_assign hf rfl rfl (by decide) ?_
  clear hf; intro a ha hf; clear ha
  refine st_nil hf ?_
  refine th_n ?_
  refine wp_seq ?_
  refine wp_seq ?_
  refine wp_reg ?_
  refine st_move hf rfl rfl (by decide) ?_
  clear hf; intro a ha hf; clear ha
  refine st_len (E := (Ek.int .u8)) hf (by decide) Try.underlying22 rfl rfl (hqx0.sl hp) ?_
  clear hf; intro a ha hf; clear ha
  refine st_igtr hf (by decide) rfl rfl rfl ?_
  clear hf; intro a ha hf; clear ha
  refine st_nil hf ?_
  refine th_n ?_
  refine wp_if hf rfl (fun hb => ?_) (fun hb => ?_)
  · replace h := ifT h hb
    refine wp_seq ?_
    refine wp_reg ?_
    refine st_assign hf rfl rfl (by decide) ?_
    clear hf; intro a ha hf; clear ha
    refine st_nil hf ?_
    refine th_n ?_
    refine wp_ret ?_
    refine th_r ?_
    obtain rfl := Option.some.inj h
    exact ⟨rfl, ⟨hf.sub ⟨rfl, trivial⟩, hp⟩⟩
  replace h := ifF h hb
  refine wp_skip ?_
  refine th_n ?_
  refine wp_seq ?_
  refine wp_seq ?_
  refine wp_reg ?_
  refine st_assign hf rfl rfl (by decide) ?_
  clear hf; intro a ha hf; clear ha
  refine st_nil hf ?_
  refine th_n ?_
  refine wp_block ?_
  obtain ⟨q2, hl, h⟩ := bnd h
  refine wp_loop_pure (f := (f_foghornref06_row.s1 qx0)) (s := (0 : Int)) (fun s a w => Fr 18 a [(0, vqx0), (3, .int .i64 s)] ∧ Hp S w0 w (ow)) (fun q e a w => match q with | (Sum.inl q) => e = .exit 0 ∧ Fr 18 a [] ∧ Hp S w0 w (ow) | (Sum.inr q) => e = .ret ∧ Fr 18 a [(2, .bool q)] ∧ Hp S w0 w (ow)) ?_ hl ⟨hf.sub ⟨rfl, rfl, trivial⟩, hp⟩ ?_
  · clear hl hf hp
    intro s x a w h hI
    obtain ⟨i3, hs⟩ : ∃ z, z = s := ⟨s, rfl⟩; subst hs
    obtain ⟨hf, hp⟩ : Fr 18 a [(0, vqx0), (3, .int .i64 i3)] ∧ Hp S w0 w (ow) := hI
    replace h : f_foghornref06_row.s1c qx0 i3 = some x := h
    unfold f_foghornref06_row.s1c at h
    refine wp_seq ?_
    refine wp_seq ?_
    refine wp_reg ?_
    refine st_move hf rfl rfl (by decide) ?_
    clear hf; intro a ha hf; clear ha
    refine st_move hf rfl rfl (by decide) ?_
    clear hf; intro a ha hf; clear ha
    refine st_len (E := (Ek.int .u8)) hf (by decide) Try.underlying22 rfl rfl (hqx0.sl hp) ?_
    clear hf; intro a ha hf; clear ha
    refine st_ilss hf (by decide) rfl rfl rfl ?_
    clear hf; intro a ha hf; clear ha
    refine st_nil hf ?_
    refine th_n ?_
    refine wp_if hf rfl (fun hb => ?_) (fun hb => ?_)
    · replace h := ifT h hb
      refine wp_skip ?_
      refine th_n ?_
      refine wp_seq ?_
      refine wp_block ?_
      refine wp_seq ?_
      refine wp_reg ?_
      refine st_move hf rfl rfl (by decide) ?_
      clear hf; intro a ha hf; clear ha
      refine st_move hf rfl rfl (by decide) ?_
      clear hf; intro a ha hf; clear ha
      obtain ⟨hc1, h⟩ := chk h
      refine st_index (E := (Ek.int .u8)) hf (by decide) Try.underlying22 elt5 rfl rfl rfl (hqx0.sl hp) hc1.1 hc1.2 ?_
      clear hf; intro a ha hf; clear ha
      refine st_ldI hf (by decide) pl5 rfl rfl (hqx0.sl hp) hc1.1 hc1.2 ?_
      clear hf; intro a ha hf; clear ha
      refine st_igtr hf (by decide) rfl rfl rfl ?_
      clear hf; intro a ha hf; clear ha
      refine st_nil hf ?_
      refine th_n ?_
      refine wp_if hf rfl (fun hb => ?_) (fun hb => ?_)
      · replace h := ifT h hb
        refine wp_seq ?_
        refine wp_reg ?_
        refine st_assign hf rfl rfl (by decide) ?_
        clear hf; intro a ha hf; clear ha
        refine st_nil hf ?_
        refine th_n ?_
        refine wp_ret ?_
        refine ib_r ?_
        refine th_r ?_
        obtain rfl := Option.some.inj h
        exact rnd_r (by simp) ⟨rfl, ⟨hf.sub ⟨rfl, trivial⟩, hp⟩⟩
      replace h := ifF h hb
      refine wp_skip ?_
      refine ib_n ?_
      refine th_n ?_
      refine wp_reg ?_
      refine st_move hf rfl rfl (by decide) ?_
      clear hf; intro a ha hf; clear ha
      refine st_iadd hf (by decide) rfl rfl rfl ?_
      clear hf; intro a ha hf; clear ha
      refine st_assign hf rfl rfl (by decide) ?_
      clear hf; intro a ha hf; clear ha
      refine st_nil hf ?_
      obtain rfl := Option.some.inj h
      exact rnd_l ⟨hf.sub ⟨rfl, rfl, trivial⟩, hp⟩
    replace h := ifF h hb
    refine wp_exit ?_
    refine th_e ?_
    obtain rfl := Option.some.inj h
    exact rnd_r (by simp) ⟨rfl, hf.sub trivial, hp⟩
  clear hl hf hp
  intro e a w hne hO
  rcases q2 with q3 | q4
  · replace h := smL h
    obtain ⟨rfl, hf, hp⟩ := hO
    refine ib_same ?_
    refine th_n ?_
    refine wp_seq ?_
    refine wp_reg ?_
    refine st_assign hf rfl rfl (by decide) ?_
    clear hf; intro a ha hf; clear ha
    refine st_nil hf ?_
    refine th_n ?_
    refine wp_ret ?_
    obtain rfl := Option.some.inj h
    exact ⟨rfl, ⟨hf.sub ⟨rfl, trivial⟩, hp⟩⟩
  replace h := smR h
  obtain ⟨rfl, hf, hp⟩ := hO
  refine ib_r ?_
  refine th_r ?_
  obtain rfl := Option.some.inj h
  exact ⟨rfl, ⟨hf.sub ⟨rfl, trivial⟩, hp⟩⟩

noncomputable def f_foghornref03_Turn.s1c (n1 : Int) (zx0 : (Fl × Fl)) (i5 : Int) : Option (((Fl × Fl) × Int) ⊕ (Fl × Fl)) := (if (decide (i5 < n1)) = true then (some (Sum.inl (((fneg zx0.2), zx0.1), (IntKind.i64.wrap (i5 + (1 : Int)))))) else (some (Sum.inr zx0)))
noncomputable def f_foghornref03_Turn.s1 (n1 : Int) (s : ((Fl × Fl) × Int)) : Option (((Fl × Fl) × Int) ⊕ (Fl × Fl)) := f_foghornref03_Turn.s1c n1 s.1 s.2
noncomputable def f_foghornref03_Turn.j1 (zx0 : (Fl × Fl)) (n1 : Int) : Option (Fl × Fl) := ((loop (f_foghornref03_Turn.s1 n1) (zx0, (0 : Int))).bind (fun q9 => (some q9)))
noncomputable def f_foghornref03_Turn (zx0 : (Fl × Fl)) (n1 : Int) : Option (Fl × Fl) := (if (decide (((n1).tmod (4 : Int)) < (0 : Int))) = true then (f_foghornref03_Turn.j1 zx0 (IntKind.i64.wrap (((n1).tmod (4 : Int)) + (4 : Int)))) else (f_foghornref03_Turn.j1 zx0 ((n1).tmod (4 : Int))))
theorem f_foghornref03_Turn_c {S : Nat → Prop} {w0 w : World} {ow : List Res} (hp : Hp S w0 w ow) (bzx0 czx0 : Nat) (zx0 : Fl × Fl) (hzx0 : zx0.1.rep bzx0) (kzx0 : zx0.2.rep czx0) (n1 : Int) {r : (Fl × Fl)} (h : f_foghornref03_Turn zx0 n1 = some r) :
    Calls Try.prog 46 #[.complex .f64 bzx0 czx0, .int .i64 n1] w (fun e w' => ∃ (b0 : Nat) (b1 : Nat), e = .returned (.complex .f64 b0 b1) ∧ Fl.rep b0 r.1 ∧ Fl.rep b1 r.2 ∧ Hp S w0 w' (ow)) := by
  unfold f_foghornref03_Turn at h
  refine enter (n := 24) (args := [.complex .f64 bzx0 czx0, .int .i64 n1]) Try.func46 rfl rfl (Nat.le_of_ble_eq_true rfl) fun a hf => ?_
  replace hf : Fr 24 a [(0, .complex .f64 bzx0 czx0), (1, .int .i64 n1)] := hf
  refine wp_mono (Q := fun e a w => e = .ret ∧ ∃ (b0 : Nat) (b1 : Nat), Fr 24 a [(4, .complex .f64 b0 b1)] ∧ Fl.rep b0 r.1 ∧ Fl.rep b1 r.2 ∧ Hp S w0 w (ow)) ?_ ?_
  rotate_left
  · rintro e a w ⟨rfl, x0, x1, hf, y0, y1, hp⟩
    exact ret1 hf rfl rfl ⟨x0, x1, rfl, y0, y1, hp⟩
  refine wp_seq ?_
  refine wp_reg ?_
  refine st_assign hf rfl rfl (by decide) ?_
  clear hf; intro a ha hf; clear ha
  refine st_nil hf ?_
  refine th_n ?_
  refine wp_seq ?_
  refine wp_reg ?_
  refine st_move hf rfl rfl (by decide) ?_
  clear hf; intro a ha hf; clear ha
  refine st_irem hf (by decide) rfl rfl rfl (by decide) ?_
  clear hf; intro a ha hf; clear ha
  refine st_assign hf rfl rfl (by decide) ?_
  clear hf; intro a ha hf; clear ha
  refine st_nil hf ?_
  refine th_n ?_
  refine wp_seq_cut (fun a w => ∃ (n1 : Int), f_foghornref03_Turn.j1 zx0 n1 = some r ∧ Fr 24 a [(0, .complex .f64 bzx0 czx0), (1, .int .i64 n1)] ∧ Hp S w0 w (ow)) ?_ ?_
  · skip
    refine wp_seq ?_
    refine wp_reg ?_
    refine st_move hf rfl rfl (by decide) ?_
    clear hf; intro a ha hf; clear ha
    refine st_ilss hf (by decide) rfl rfl rfl ?_
    clear hf; intro a ha hf; clear ha
    refine st_nil hf ?_
    refine th_n ?_
    refine wp_if hf rfl (fun hb => ?_) (fun hb => ?_)
    · replace h := ifT h hb
      refine wp_reg ?_
      refine st_move hf rfl rfl (by decide) ?_
      clear hf; intro a ha hf; clear ha
      refine st_iadd hf (by decide) rfl rfl rfl ?_
      clear hf; intro a ha hf; clear ha
      refine st_assign hf rfl rfl (by decide) ?_
      clear hf; intro a ha hf; clear ha
      refine st_nil hf ?_
      refine th_n ?_
      exact ⟨_, h, hf.sub ⟨rfl, rfl, trivial⟩, hp⟩
    replace h := ifF h hb
    refine wp_skip ?_
    refine th_n ?_
    exact ⟨_, h, hf.sub ⟨rfl, rfl, trivial⟩, hp⟩
  rintro a w ⟨n1, h, hf, hp⟩
  unfold f_foghornref03_Turn.j1 at h
  refine wp_seq ?_
  refine wp_seq ?_
  refine wp_reg ?_
  refine st_assign hf rfl rfl (by decide) ?_
  clear hf; intro a ha hf; clear ha
  refine st_nil hf ?_
  refine th_n ?_
  refine wp_block ?_
  obtain ⟨q9, hl, h⟩ := bnd h
  refine wp_loop_pure (f := (f_foghornref03_Turn.s1 n1)) (s := (zx0, (0 : Int))) (fun s a w => ∃ (bb1 : Nat) (bb2 : Nat), Fr 24 a [(0, .complex .f64 bb1 bb2), (1, .int .i64 n1), (5, .int .i64 s.2)] ∧ Fl.rep bb1 s.1.1 ∧ Fl.rep bb2 s.1.2 ∧ Hp S w0 w (ow)) (fun q e a w => e = .exit 0 ∧ ∃ (bb5 : Nat) (bb6 : Nat), Fr 24 a [(0, .complex .f64 bb5 bb6)] ∧ Fl.rep bb5 q.1 ∧ Fl.rep bb6 q.2 ∧ Hp S w0 w (ow)) ?_ hl ⟨_, _, hf.sub ⟨rfl, rfl, rfl, trivial⟩, hzx0, kzx0, hp⟩ ?_
  · clear hl hf hp
    intro s x a w h hI
    obtain ⟨zx0, i5⟩ := s
    obtain ⟨bb1, bb2, hf, y3, y4, hp⟩ : ∃ (bb1 : Nat) (bb2 : Nat), Fr 24 a [(0, .complex .f64 bb1 bb2), (1, .int .i64 n1), (5, .int .i64 i5)] ∧ Fl.rep bb1 zx0.1 ∧ Fl.rep bb2 zx0.2 ∧ Hp S w0 w (ow) := hI
    replace h : f_foghornref03_Turn.s1c n1 zx0 i5 = some x := h
    unfold f_foghornref03_Turn.s1c at h
    refine wp_seq ?_
    refine wp_seq ?_
    refine wp_reg ?_
    refine st_move hf rfl rfl (by decide) ?_
    clear hf; intro a ha hf; clear ha
    refine st_move hf rfl rfl (by decide) ?_
    clear hf; intro a ha hf; clear ha
    refine st_ilss hf (by decide) rfl rfl rfl ?_
    clear hf; intro a ha hf; clear ha
    refine st_nil hf ?_
    refine th_n ?_
    refine wp_if hf rfl (fun hb => ?_) (fun hb => ?_)
    · replace h := ifT h hb
      refine wp_skip ?_
      refine th_n ?_
      refine wp_seq ?_
      refine wp_block ?_
      refine wp_reg ?_
      refine st_move hf rfl rfl (by decide) ?_
      clear hf; intro a ha hf; clear ha
      refine st_imag hf (by decide) rfl rfl ?_
      clear hf; intro a ha hf; clear ha
      refine st_fneg hf (by decide) rfl rfl ?_
      clear hf; intro a ha hf; clear ha
      refine st_move hf rfl rfl (by decide) ?_
      clear hf; intro a ha hf; clear ha
      refine st_real hf (by decide) rfl rfl ?_
      clear hf; intro a ha hf; clear ha
      refine st_complex hf (by decide) rfl rfl rfl ?_
      clear hf; intro a ha hf; clear ha
      refine st_assign hf rfl rfl (by decide) ?_
      clear hf; intro a ha hf; clear ha
      refine st_nil hf ?_
      refine ib_n ?_
      refine th_n ?_
      refine wp_reg ?_
      refine st_move hf rfl rfl (by decide) ?_
      clear hf; intro a ha hf; clear ha
      refine st_iadd hf (by decide) rfl rfl rfl ?_
      clear hf; intro a ha hf; clear ha
      refine st_assign hf rfl rfl (by decide) ?_
      clear hf; intro a ha hf; clear ha
      refine st_nil hf ?_
      obtain rfl := Option.some.inj h
      exact rnd_l ⟨_, _, hf.sub ⟨rfl, rfl, rfl, trivial⟩, (fneg_rep y4), y3, hp⟩
    replace h := ifF h hb
    refine wp_exit ?_
    refine th_e ?_
    obtain rfl := Option.some.inj h
    exact rnd_r (by simp) ⟨rfl, _, _, hf.sub ⟨rfl, trivial⟩, y3, y4, hp⟩
  clear hl hf hp
  intro e a w hne hO
  obtain ⟨rfl, bb5, bb6, hf, y7, y8, hp⟩ := hO
  refine ib_same ?_
  refine th_n ?_
  refine wp_seq ?_
  refine wp_reg ?_
  refine st_move hf rfl rfl (by decide) ?_
  clear hf; intro a ha hf; clear ha
  refine st_assign hf rfl rfl (by decide) ?_
  clear hf; intro a ha hf; clear ha
  refine st_nil hf ?_
  refine th_n ?_
  refine wp_ret ?_
  obtain rfl := Option.some.inj h
  exact ⟨rfl, ⟨_, _, hf.sub ⟨rfl, trivial⟩, y7, y8, hp⟩⟩

noncomputable def f_foghornref06_Points.s1c (p0 : (List Int)) (size1 : Fl) (out6 : (List (Fl × Fl))) (i7 : Int) : Option (((List (Fl × Fl)) × Int) ⊕ (List (Fl × Fl))) := (if (decide (i7 < (p0.length : Int))) = true then (if 0 ≤ i7 ∧ i7 < (p0.length : Int) then ((f_foghornref03_Turn (size1, (Fl.bits 0)) (IntKind.i64.wrap (gt p0 i7))).bind fun q13 => (if (out6.length + ([q13]).length) * 16 ≤ 140737488355328 then (some (Sum.inl ((out6 ++ [q13]), (IntKind.i64.wrap (i7 + (1 : Int)))))) else none)) else none) else (some (Sum.inr out6)))
noncomputable def f_foghornref06_Points.s1 (p0 : (List Int)) (size1 : Fl) (s : ((List (Fl × Fl)) × Int)) : Option (((List (Fl × Fl)) × Int) ⊕ (List (Fl × Fl))) := f_foghornref06_Points.s1c p0 size1 s.1 s.2
noncomputable def f_foghornref06_Points (p0 : (List Int)) (size1 : Fl) : Option ((List (Fl × Fl)) × Int) := ((f_foghornref06_row p0).bind fun q1 => (if ((!q1) || (!((fge size1 (Fl.bits 4553139223271571456)) && (fle size1 (Fl.bits 4652218415073722368))))) = true then (some ([], (1 : Int))) else ((loop (f_foghornref06_Points.s1 p0 size1) ([], (0 : Int))).bind (fun q23 => (some (q23, (0 : Int)))))))
theorem f_foghornref06_Points_c {S : Nat → Prop} {w0 w : World} {ow : List Res} (hp : Hp S w0 w ow) (vp0 : Value) (p0 : (List Int)) (hp0 : RdS (Ek.int .u8) S w0 vp0 p0) (bsize1 : Nat) (size1 : Fl) (hsize1 : size1.rep bsize1) {r : ((List (Fl × Fl)) × Int)} (h : f_foghornref06_Points p0 size1 = some r) :
    Calls Try.prog 21 #[vp0, .float .f64 bsize1] w (fun e w' => ∃ (u0 : Value), e = .returned (.tuple #[u0, .int .i64 r.2]) ∧ Hp S w0 w' (Res.sl Ek.c128 49 u0 r.1 :: ow)) := by
  unfold f_foghornref06_Points at h
  refine enter (n := 38) (args := [vp0, .float .f64 bsize1]) Try.func21 rfl rfl (Nat.le_of_ble_eq_true rfl) fun a hf => ?_
  replace hf : Fr 38 a [(0, vp0), (1, .float .f64 bsize1)] := hf
  refine wp_mono (Q := fun e a w => e = .ret ∧ ∃ (u0 : Value), Fr 38 a [(4, u0), (5, .int .i64 r.2)] ∧ Hp S w0 w (Res.sl Ek.c128 49 u0 r.1 :: ow)) ?_ ?_
  rotate_left
  · rintro e a w ⟨rfl, x0, hf, hp⟩
    exact ret2 hf rfl rfl rfl ⟨x0, rfl, hp⟩
  refine wp_seq ?_
  refine wp_reg ?_
  refine st_assign hf rfl rfl (by decide) ?_
  clear hf; intro a ha hf; clear ha
  refine st_assign hf rfl rfl (by decide) ?_
  clear hf; intro a ha hf; clear ha
  refine st_nil hf ?_
  refine th_n ?_
  refine wp_seq ?_
  refine wp_seq ?_
  refine wp_reg ?_
  refine st_move hf rfl rfl (by decide) ?_
  clear hf; intro a ha hf; clear ha
  obtain ⟨q1, hcall2, h⟩ := bnd h
  refine st_call hf (by decide) Try.func45 rfl rfl rfl rfl rfl (f_foghornref06_row_c hp _ _ hp0 hcall2) ?_
  rintro _ w ⟨rfl, hp0⟩
  clear hp; have hp := hp0; clear hp0
  replace hp : Hp _ _ _ (ow) := hp
  refine ⟨_, rfl, ?_⟩
  clear hf; intro a hf
  refine st_not hf (by decide) rfl rfl ?_
  clear hf; intro a ha hf; clear ha
  refine st_move hf rfl rfl (by decide) ?_
  clear hf; intro a ha hf; clear ha
  refine wpList_cut 8 (fun a w => Fr 38 a [(0, vp0), (1, .float .f64 bsize1), (19, .bool ((!q1) || (!((fge size1 (Fl.bits 4553139223271571456)) && (fle size1 (Fl.bits 4652218415073722368))))))] ∧ Hp S w0 w (ow)) ?_ ?_
  · rcases Bool.eq_false_or_eq_true (!q1) with hb4 | hb4
    · skip
      refine st_skip hf (wantN hf rfl rfl hb4) rfl (by decide) ?_ rfl
      clear hf; intro a hf
      refine st_skip hf (wantN hf rfl rfl hb4) rfl (by decide) ?_ rfl
      clear hf; intro a hf
      refine st_skipU hf (wantN hf rfl rfl hb4) rfl (by decide) ?_
      clear hf; intro a hf
      refine st_skip hf (wantU hf rfl rfl) rfl (by decide) ?_ rfl
      clear hf; intro a hf
      refine st_skip hf (wantU hf rfl rfl) rfl (by decide) ?_ rfl
      clear hf; intro a hf
      refine st_skip hf (wantN hf rfl rfl hb4) rfl (by decide) ?_ rfl
      clear hf; intro a hf
      refine st_skip hf (wantN hf rfl rfl hb4) rfl (by decide) ?_ rfl
      clear hf; intro a hf
      refine st_pick (v := .bool true) hf rfl rfl (fun hb' => ?_) (fun hb' => ?_) (by decide) ?_
      · rfl
      · exact absurd (hb4.symm.trans hb') (by decide)
      clear hf; intro a ha hf; clear ha
      refine st_nil hf (th_n ?_)
      exact ⟨hf.sub ⟨rfl, rfl, (by rw [hb4]; rfl), trivial⟩, hp⟩
    refine st_move hf (wantY hf rfl rfl hb4) rfl (by decide) ?_
    clear hf; intro a ha hf; clear ha
    refine st_fcmp (r_fge (fx := size1) (fy := (Fl.bits 4553139223271571456)) hsize1 rfl) hf (by decide) (wantY hf rfl rfl hb4) rfl rfl ?_
    clear hf; intro a ha hf; clear ha
    refine st_move hf (wantY hf rfl rfl hb4) rfl (by decide) ?_
    clear hf; intro a ha hf; clear ha
    refine wpList_cut 3 (fun a w => Fr 38 a [(0, vp0), (1, .float .f64 bsize1), (11, .bool (!q1)), (17, .bool ((fge size1 (Fl.bits 4553139223271571456)) && (fle size1 (Fl.bits 4652218415073722368))))] ∧ Hp S w0 w (ow)) ?_ ?_
    · rcases Bool.eq_false_or_eq_true (fge size1 (Fl.bits 4553139223271571456)) with hb6 | hb6
      · skip
        refine st_move hf (wantY hf rfl rfl hb6) rfl (by decide) ?_
        clear hf; intro a ha hf; clear ha
        refine st_fcmp (r_fle (fx := size1) (fy := (Fl.bits 4652218415073722368)) hsize1 rfl) hf (by decide) (wantY hf rfl rfl hb6) rfl rfl ?_
        clear hf; intro a ha hf; clear ha
        refine st_pick (v := .bool (fle size1 (Fl.bits 4652218415073722368))) hf (wantY hf rfl rfl hb4) rfl (fun hb' => ?_) (fun hb' => ?_) (by decide) ?_
        · rfl
        · exact absurd (hb6.symm.trans hb') (by decide)
        clear hf; intro a ha hf; clear ha
        refine st_nil hf (th_n ?_)
        exact ⟨hf.sub ⟨rfl, rfl, rfl, (by rw [hb6]; rfl), trivial⟩, hp⟩
      refine st_skip hf (wantN hf rfl rfl hb6) rfl (by decide) ?_ rfl
      clear hf; intro a hf
      refine st_skip hf (wantN hf rfl rfl hb6) rfl (by decide) ?_ rfl
      clear hf; intro a hf
      refine st_pick (v := .bool false) hf (wantY hf rfl rfl hb4) rfl (fun hb' => ?_) (fun hb' => ?_) (by decide) ?_
      · exact absurd (hb6.symm.trans hb') (by decide)
      · rfl
      clear hf; intro a ha hf; clear ha
      refine st_nil hf (th_n ?_)
      exact ⟨hf.sub ⟨rfl, rfl, rfl, (by rw [hb6]; rfl), trivial⟩, hp⟩
    rintro a w ⟨hf, hp⟩
    refine st_not hf (by decide) (wantY hf rfl rfl hb4) rfl ?_
    clear hf; intro a ha hf; clear ha
    refine st_pick (v := .bool (!((fge size1 (Fl.bits 4553139223271571456)) && (fle size1 (Fl.bits 4652218415073722368))))) hf rfl rfl (fun hb' => ?_) (fun hb' => ?_) (by decide) ?_
    · exact absurd (hb4.symm.trans hb') (by decide)
    · rfl
    clear hf; intro a ha hf; clear ha
    refine st_nil hf (th_n ?_)
    exact ⟨hf.sub ⟨rfl, rfl, (by rw [hb4]; rfl), trivial⟩, hp⟩
  rintro a w ⟨hf, hp⟩
  refine st_nil hf ?_
  refine th_n ?_
  refine wp_if hf rfl (fun hb => ?_) (fun hb => ?_)
  · replace h := ifT h hb
    refine wp_seq ?_
    refine wp_reg ?_
    refine st_assign hf rfl rfl (by decide) ?_
    clear hf; intro a ha hf; clear ha
    refine st_assign hf rfl rfl (by decide) ?_
    clear hf; intro a ha hf; clear ha
    refine st_nil hf ?_
    refine th_n ?_
    refine wp_ret ?_
    refine th_r ?_
    obtain rfl := Option.some.inj h
    have hp := hp.nil Ek.c128 49
    exact ⟨rfl, ⟨_, hf.sub ⟨rfl, rfl, trivial⟩, hp⟩⟩
  replace h := ifF h hb
  refine wp_skip ?_
  refine th_n ?_
  refine wp_seq ?_
  refine wp_reg ?_
  refine st_assign hf rfl rfl (by decide) ?_
  clear hf; intro a ha hf; clear ha
  refine st_nil hf ?_
  refine th_n ?_
  refine wp_seq ?_
  refine wp_seq ?_
  refine wp_reg ?_
  refine st_assign hf rfl rfl (by decide) ?_
  clear hf; intro a ha hf; clear ha
  refine st_nil hf ?_
  refine th_n ?_
  refine wp_block ?_
  obtain ⟨q23, hl, h⟩ := bnd h
  have hp := hp.nil Ek.c128 49
  refine wp_loop_pure (f := (f_foghornref06_Points.s1 p0 size1)) (s := ([], (0 : Int))) (fun s a w => ∃ (v8 : Value), Fr 38 a [(0, vp0), (1, .float .f64 bsize1), (6, v8), (7, .int .i64 s.2)] ∧ Hp S w0 w (Res.sl Ek.c128 49 v8 s.1 :: ow)) (fun q e a w => e = .exit 0 ∧ ∃ (v10 : Value), Fr 38 a [(6, v10)] ∧ Hp S w0 w (Res.sl Ek.c128 49 v10 q :: ow)) ?_ hl ⟨_, hf.sub ⟨rfl, rfl, rfl, rfl, trivial⟩, hp⟩ ?_
  · clear hl hf hp
    intro s x a w h hI
    obtain ⟨out6, i7⟩ := s
    obtain ⟨v8, hf, hp⟩ : ∃ (v8 : Value), Fr 38 a [(0, vp0), (1, .float .f64 bsize1), (6, v8), (7, .int .i64 i7)] ∧ Hp S w0 w (Res.sl Ek.c128 49 v8 out6 :: ow) := hI
    replace h : f_foghornref06_Points.s1c p0 size1 out6 i7 = some x := h
    unfold f_foghornref06_Points.s1c at h
    refine wp_seq ?_
    refine wp_seq ?_
    refine wp_reg ?_
    refine st_move hf rfl rfl (by decide) ?_
    clear hf; intro a ha hf; clear ha
    refine st_move hf rfl rfl (by decide) ?_
    clear hf; intro a ha hf; clear ha
    refine st_len (E := (Ek.int .u8)) hf (by decide) Try.underlying22 rfl rfl (hp0.sl hp) ?_
    clear hf; intro a ha hf; clear ha
    refine st_ilss hf (by decide) rfl rfl rfl ?_
    clear hf; intro a ha hf; clear ha
    refine st_nil hf ?_
    refine th_n ?_
    refine wp_if hf rfl (fun hb => ?_) (fun hb => ?_)
    · replace h := ifT h hb
      refine wp_skip ?_
      refine th_n ?_
      refine wp_seq ?_
      refine wp_block ?_
      refine wp_reg ?_
      refine st_move hf rfl rfl (by decide) ?_
      clear hf; intro a ha hf; clear ha
      refine st_move hf rfl rfl (by decide) ?_
      clear hf; intro a ha hf; clear ha
      refine st_complex hf (by decide) rfl rfl rfl ?_
      clear hf; intro a ha hf; clear ha
      refine st_move hf rfl rfl (by decide) ?_
      clear hf; intro a ha hf; clear ha
      refine st_move hf rfl rfl (by decide) ?_
      clear hf; intro a ha hf; clear ha
      obtain ⟨hc12, h⟩ := chk h
      refine st_index (E := (Ek.int .u8)) hf (by decide) Try.underlying22 elt5 rfl rfl rfl (hp0.sl hp) hc12.1 hc12.2 ?_
      clear hf; intro a ha hf; clear ha
      refine st_ldI hf (by decide) pl5 rfl rfl (hp0.sl hp) hc12.1 hc12.2 ?_
      clear hf; intro a ha hf; clear ha
      refine st_conv_ii hf (by decide) (by rw [Try.underlying5]; rfl) Try.underlying3 rfl rfl ?_
      clear hf; intro a ha hf; clear ha
      obtain ⟨q13, hcall14, h⟩ := bnd h
      refine st_call hf (by decide) Try.func46 rfl rfl rfl rfl rfl (f_foghornref03_Turn_c hp _ _ _ (show Fl.rep bsize1 ((size1, (Fl.bits 0))).1 from hsize1) (show Fl.rep 0 ((size1, (Fl.bits 0))).2 from rfl) _ hcall14) ?_
      rintro _ w ⟨v15, v16, rfl, y17, y18, hp0⟩
      clear hp; have hp := hp0; clear hp0
      replace hp : Hp _ _ _ (Res.sl Ek.c128 49 v8 out6 :: ow) := hp
      refine ⟨_, rfl, ?_⟩
      clear hf; intro a hf
      refine st_build (E := Ek.c128) (xs := [q13]) hf (by decide) elt49 Try.underlying44 hp (vals := #[(0, .complex .f64 v15 v16)]) (cells := #[.complex .f64 v15 v16]) rfl (by simp [hf.ev (x := (Operand.tmp 34)) rfl]) (by decide) (by decide) (z := .complex .f64 0 0) (by kernel_rfl) (by kernel_rfl) rfl (reps_cons (cs := [.complex .f64 v15 v16]) (show Ek.c128.rep [.complex .f64 v15 v16] q13 from ⟨_, _, rfl, y17, y18⟩) (reps_nil _)) ?_
      clear hf; intro a w v19 hf hp0; clear hp; have hp := hp0; clear hp0
      replace hp : Hp _ _ _ (Res.sl Ek.c128 49 v19 ([q13]) :: Res.sl Ek.c128 49 v8 out6 :: ow) := hp
      obtain ⟨hc21, h⟩ := chk h
      refine st_append (E := Ek.c128) hf (by decide) elt49 Try.underlying44 (by decide) hp (i := 1) rfl rfl rfl rfl (hp.sl (i := 0) rfl) hc21 ?_
      clear hf; intro a w v22 hf hp0; clear hp; have hp := hp0; clear hp0
      replace hp : Hp _ _ _ (Res.sl Ek.c128 49 v19 ([q13]) :: Res.sl Ek.c128 49 v22 (out6 ++ [q13]) :: ow) := hp
      refine st_assign hf rfl rfl (by decide) ?_
      clear hf; intro a ha hf; clear ha
      refine st_nil hf ?_
      refine ib_n ?_
      refine th_n ?_
      refine wp_reg ?_
      refine st_move hf rfl rfl (by decide) ?_
      clear hf; intro a ha hf; clear ha
      refine st_iadd hf (by decide) rfl rfl rfl ?_
      clear hf; intro a ha hf; clear ha
      refine st_assign hf rfl rfl (by decide) ?_
      clear hf; intro a ha hf; clear ha
      refine st_nil hf ?_
      obtain rfl := Option.some.inj h
      have hp : Hp _ _ _ (Res.sl Ek.c128 49 v22 (out6 ++ [q13]) :: ow) := Hp.sel (pre := [Res.sl Ek.c128 49 v19 ([q13]), Res.sl Ek.c128 49 v22 (out6 ++ [q13])]) (tail := ow) (rs' := [Res.sl Ek.c128 49 v22 (out6 ++ [q13])]) hp [1] (by decide) (by simp) rfl
      exact rnd_l ⟨_, hf.sub ⟨rfl, rfl, rfl, rfl, trivial⟩, hp⟩
    replace h := ifF h hb
    refine wp_exit ?_
    refine th_e ?_
    obtain rfl := Option.some.inj h
    exact rnd_r (by simp) ⟨rfl, _, hf.sub ⟨rfl, trivial⟩, hp⟩
  clear hl hf hp
  intro e a w hne hO
  obtain ⟨rfl, v10, hf, hp⟩ := hO
  refine ib_same ?_
  refine th_n ?_
  refine wp_seq ?_
  refine wp_reg ?_
  refine st_move hf rfl rfl (by decide) ?_
  clear hf; intro a ha hf; clear ha
  refine st_assign hf rfl rfl (by decide) ?_
  clear hf; intro a ha hf; clear ha
  refine st_assign hf rfl rfl (by decide) ?_
  clear hf; intro a ha hf; clear ha
  refine st_nil hf ?_
  refine th_n ?_
  refine wp_ret ?_
  obtain rfl := Option.some.inj h
  exact ⟨rfl, ⟨_, hf.sub ⟨rfl, rfl, trivial⟩, hp⟩⟩

noncomputable def f_math_Signbit (xx0 : Fl) : Option Bool := ((fbits xx0).bind fun q1 => (some (decide ((IntKind.i64.wrap q1) < (0 : Int)))))
theorem f_math_Signbit_c {S : Nat → Prop} {w0 w : World} {ow : List Res} (hp : Hp S w0 w ow) (bxx0 : Nat) (xx0 : Fl) (hxx0 : xx0.rep bxx0) {r : Bool} (h : f_math_Signbit xx0 = some r) :
    Calls Try.prog 48 #[.float .f64 bxx0] w (fun e w' => e = .returned (.bool r) ∧ Hp S w0 w' (ow)) := by
  unfold f_math_Signbit at h
  refine enter (n := 7) (args := [.float .f64 bxx0]) Try.func48 rfl rfl (Nat.le_of_ble_eq_true rfl) fun a hf => ?_
  replace hf : Fr 7 a [(0, .float .f64 bxx0)] := hf
  refine wp_mono (Q := fun e a w => e = .ret ∧ Fr 7 a [(2, .bool r)] ∧ Hp S w0 w (ow)) ?_ ?_
  rotate_left
  · rintro e a w ⟨rfl, hf, hp⟩
    exact ret1 hf rfl rfl ⟨rfl, hp⟩
  refine wp_seq ?_
  refine wp_reg ?_
  refine st_assign hf rfl rfl (by decide) ?_
  clear hf; intro a ha hf; clear ha
  refine st_nil hf ?_
  refine th_n ?_
  refine wp_seq ?_
  refine wp_reg ?_
  refine st_move hf rfl rfl (by decide) ?_
  clear hf; intro a ha hf; clear ha
  obtain ⟨q1, hq2, h⟩ := bnd h
  refine st_extern (ex := Extern.MathFloatBits.float64bits) (r := .int .u64 (bxx0 : Int)) (f := 49) (vs := [.float .f64 bxx0]) hf (by decide) Try.func49 rfl rfl (by kernel_rfl) (by kernel_rfl) rfl rfl rfl rfl ?_
  clear hf; intro a ha hf; clear ha
  have he3 := fbits_rep hxx0 hq2; rw [← he3] at hf
  refine st_conv_ii hf (by decide) (by rw [Try.underlying82]; rfl) Try.underlying2 rfl rfl ?_
  clear hf; intro a ha hf; clear ha
  refine st_ilss hf (by decide) rfl rfl rfl ?_
  clear hf; intro a ha hf; clear ha
  refine st_assign hf rfl rfl (by decide) ?_
  clear hf; intro a ha hf; clear ha
  refine st_nil hf ?_
  refine th_n ?_
  refine wp_ret ?_
  obtain rfl := Option.some.inj h
  exact ⟨rfl, ⟨hf.sub ⟨rfl, trivial⟩, hp⟩⟩

noncomputable def f_foghornref03_part (ax0 : Fl) (bx1 : Fl) (signs2 : Bool) : Option Bool := (if ((fne ax0 ax0) || (fne bx1 bx1)) = true then (some ((fne ax0 ax0) && (fne bx1 bx1))) else ((if (feq ax0 bx1) = true then ((if (!signs2) = true then (some true) else ((f_math_Signbit ax0).bind fun q11 => ((f_math_Signbit bx1).bind fun q13 => (some (q11 == q13))))).bind fun z10 => (some z10)) else (some false)).bind fun z7 => (some z7)))
theorem f_foghornref03_part_c {S : Nat → Prop} {w0 w : World} {ow : List Res} (hp : Hp S w0 w ow) (bax0 : Nat) (ax0 : Fl) (hax0 : ax0.rep bax0) (bbx1 : Nat) (bx1 : Fl) (hbx1 : bx1.rep bbx1) (signs2 : Bool) {r : Bool} (h : f_foghornref03_part ax0 bx1 signs2 = some r) :
    Calls Try.prog 47 #[.float .f64 bax0, .float .f64 bbx1, .bool signs2] w (fun e w' => e = .returned (.bool r) ∧ Hp S w0 w' (ow)) := by
  unfold f_foghornref03_part at h
  refine enter (n := 37) (args := [.float .f64 bax0, .float .f64 bbx1, .bool signs2]) Try.func47 rfl rfl (Nat.le_of_ble_eq_true rfl) fun a hf => ?_
  replace hf : Fr 37 a [(0, .float .f64 bax0), (1, .float .f64 bbx1), (2, .bool signs2)] := hf
  refine wp_mono (Q := fun e a w => e = .ret ∧ Fr 37 a [(6, .bool r)] ∧ Hp S w0 w (ow)) ?_ ?_
  rotate_left
  · rintro e a w ⟨rfl, hf, hp⟩
    exact ret1 hf rfl rfl ⟨rfl, hp⟩
  refine wp_seq ?_
  refine wp_reg ?_
  refine st_assign hf rfl rfl (by decide) ?_
  clear hf; intro a ha hf; clear ha
  refine st_nil hf ?_
  refine th_n ?_
  refine wp_seq ?_
  refine wp_seq ?_
  refine wp_reg ?_
  refine st_move hf rfl rfl (by decide) ?_
  clear hf; intro a ha hf; clear ha
  refine st_move hf rfl rfl (by decide) ?_
  clear hf; intro a ha hf; clear ha
  refine st_fcmp (r_fne (fx := ax0) (fy := ax0) hax0 hax0) hf (by decide) rfl rfl rfl ?_
  clear hf; intro a ha hf; clear ha
  refine st_move hf rfl rfl (by decide) ?_
  clear hf; intro a ha hf; clear ha
  refine wpList_cut 4 (fun a w => Fr 37 a [(0, .float .f64 bax0), (1, .float .f64 bbx1), (2, .bool signs2), (14, .bool ((fne ax0 ax0) || (fne bx1 bx1)))] ∧ Hp S w0 w (ow)) ?_ ?_
  · rcases Bool.eq_false_or_eq_true (fne ax0 ax0) with hb2 | hb2
    · skip
      refine st_skip hf (wantN hf rfl rfl hb2) rfl (by decide) ?_ rfl
      clear hf; intro a hf
      refine st_skip hf (wantN hf rfl rfl hb2) rfl (by decide) ?_ rfl
      clear hf; intro a hf
      refine st_skip hf (wantN hf rfl rfl hb2) rfl (by decide) ?_ rfl
      clear hf; intro a hf
      refine st_pick (v := .bool true) hf rfl rfl (fun hb' => ?_) (fun hb' => ?_) (by decide) ?_
      · rfl
      · exact absurd (hb2.symm.trans hb') (by decide)
      clear hf; intro a ha hf; clear ha
      refine st_nil hf (th_n ?_)
      exact ⟨hf.sub ⟨rfl, rfl, rfl, (by rw [hb2]; rfl), trivial⟩, hp⟩
    refine st_move hf (wantY hf rfl rfl hb2) rfl (by decide) ?_
    clear hf; intro a ha hf; clear ha
    refine st_move hf (wantY hf rfl rfl hb2) rfl (by decide) ?_
    clear hf; intro a ha hf; clear ha
    refine st_fcmp (r_fne (fx := bx1) (fy := bx1) hbx1 hbx1) hf (by decide) (wantY hf rfl rfl hb2) rfl rfl ?_
    clear hf; intro a ha hf; clear ha
    refine st_pick (v := .bool (fne bx1 bx1)) hf rfl rfl (fun hb' => ?_) (fun hb' => ?_) (by decide) ?_
    · exact absurd (hb2.symm.trans hb') (by decide)
    · rfl
    clear hf; intro a ha hf; clear ha
    refine st_nil hf (th_n ?_)
    exact ⟨hf.sub ⟨rfl, rfl, rfl, (by rw [hb2]; rfl), trivial⟩, hp⟩
  rintro a w ⟨hf, hp⟩
  refine st_nil hf ?_
  refine th_n ?_
  refine wp_if hf rfl (fun hb => ?_) (fun hb => ?_)
  · replace h := ifT h hb
    refine wp_seq ?_
    refine wp_reg ?_
    refine st_move hf rfl rfl (by decide) ?_
    clear hf; intro a ha hf; clear ha
    refine st_move hf rfl rfl (by decide) ?_
    clear hf; intro a ha hf; clear ha
    refine st_fcmp (r_fne (fx := ax0) (fy := ax0) hax0 hax0) hf (by decide) rfl rfl rfl ?_
    clear hf; intro a ha hf; clear ha
    refine st_move hf rfl rfl (by decide) ?_
    clear hf; intro a ha hf; clear ha
    refine wpList_cut 4 (fun a w => Fr 37 a [(22, .bool ((fne ax0 ax0) && (fne bx1 bx1)))] ∧ Hp S w0 w (ow)) ?_ ?_
    · rcases Bool.eq_false_or_eq_true (fne ax0 ax0) with hb4 | hb4
      · skip
        refine st_move hf (wantY hf rfl rfl hb4) rfl (by decide) ?_
        clear hf; intro a ha hf; clear ha
        refine st_move hf (wantY hf rfl rfl hb4) rfl (by decide) ?_
        clear hf; intro a ha hf; clear ha
        refine st_fcmp (r_fne (fx := bx1) (fy := bx1) hbx1 hbx1) hf (by decide) (wantY hf rfl rfl hb4) rfl rfl ?_
        clear hf; intro a ha hf; clear ha
        refine st_pick (v := .bool (fne bx1 bx1)) hf rfl rfl (fun hb' => ?_) (fun hb' => ?_) (by decide) ?_
        · rfl
        · exact absurd (hb4.symm.trans hb') (by decide)
        clear hf; intro a ha hf; clear ha
        refine st_nil hf (th_n ?_)
        exact ⟨hf.sub ⟨(by rw [hb4]; rfl), trivial⟩, hp⟩
      refine st_skip hf (wantN hf rfl rfl hb4) rfl (by decide) ?_ rfl
      clear hf; intro a hf
      refine st_skip hf (wantN hf rfl rfl hb4) rfl (by decide) ?_ rfl
      clear hf; intro a hf
      refine st_skip hf (wantN hf rfl rfl hb4) rfl (by decide) ?_ rfl
      clear hf; intro a hf
      refine st_pick (v := .bool false) hf rfl rfl (fun hb' => ?_) (fun hb' => ?_) (by decide) ?_
      · exact absurd (hb4.symm.trans hb') (by decide)
      · rfl
      clear hf; intro a ha hf; clear ha
      refine st_nil hf (th_n ?_)
      exact ⟨hf.sub ⟨(by rw [hb4]; rfl), trivial⟩, hp⟩
    rintro a w ⟨hf, hp⟩
    refine st_assign hf rfl rfl (by decide) ?_
    clear hf; intro a ha hf; clear ha
    refine st_nil hf ?_
    refine th_n ?_
    refine wp_ret ?_
    refine th_r ?_
    obtain rfl := Option.some.inj h
    exact ⟨rfl, ⟨hf.sub ⟨rfl, trivial⟩, hp⟩⟩
  replace h := ifF h hb
  refine wp_skip ?_
  refine th_n ?_
  refine wp_seq ?_
  refine wp_reg ?_
  refine st_move hf rfl rfl (by decide) ?_
  clear hf; intro a ha hf; clear ha
  refine st_move hf rfl rfl (by decide) ?_
  clear hf; intro a ha hf; clear ha
  refine st_fcmp (r_feq (fx := ax0) (fy := bx1) hax0 hbx1) hf (by decide) rfl rfl rfl ?_
  clear hf; intro a ha hf; clear ha
  refine st_move hf rfl rfl (by decide) ?_
  clear hf; intro a ha hf; clear ha
  obtain ⟨z7, hz5, h⟩ := bnd h
  refine wpList_cut 10 (fun a w => Fr 37 a [(36, .bool z7)] ∧ Hp S w0 w (ow)) ?_ ?_
  · rcases Bool.eq_false_or_eq_true (feq ax0 bx1) with hb6 | hb6
    · skip
      replace hz5 := ifT hz5 hb6
      refine st_move hf (wantY hf rfl rfl hb6) rfl (by decide) ?_
      clear hf; intro a ha hf; clear ha
      refine st_not hf (by decide) (wantY hf rfl rfl hb6) rfl ?_
      clear hf; intro a ha hf; clear ha
      refine st_move hf (wantY hf rfl rfl hb6) rfl (by decide) ?_
      clear hf; intro a ha hf; clear ha
      obtain ⟨z10, hz8, hz5⟩ := bnd hz5
      refine wpList_cut 6 (fun a w => Fr 37 a [(26, .bool (feq ax0 bx1)), (35, .bool z10)] ∧ Hp S w0 w (ow)) ?_ ?_
      · rcases Bool.eq_false_or_eq_true (!signs2) with hb9 | hb9
        · skip
          replace hz8 := ifT hz8 hb9
          refine st_skip hf (wantN hf rfl rfl hb9) rfl (by decide) ?_ rfl
          clear hf; intro a hf
          refine st_skip hf (wantN hf rfl rfl hb9) rfl (by decide) ?_ rfl
          clear hf; intro a hf
          refine st_skip hf (wantN hf rfl rfl hb9) rfl (by decide) ?_ rfl
          clear hf; intro a hf
          refine st_skip hf (wantN hf rfl rfl hb9) rfl (by decide) ?_ rfl
          clear hf; intro a hf
          refine st_skip hf (wantN hf rfl rfl hb9) rfl (by decide) ?_ rfl
          clear hf; intro a hf
          obtain rfl := Option.some.inj hz8
          refine st_pick (v := .bool true) hf (wantY hf rfl rfl hb6) rfl (fun hb' => ?_) (fun hb' => ?_) (by decide) ?_
          · rfl
          · exact absurd (hb9.symm.trans hb') (by decide)
          clear hf; intro a ha hf; clear ha
          refine st_nil hf (th_n ?_)
          exact ⟨hf.sub ⟨rfl, rfl, trivial⟩, hp⟩
        replace hz8 := ifF hz8 hb9
        refine st_move hf (wantY hf rfl rfl hb9) rfl (by decide) ?_
        clear hf; intro a ha hf; clear ha
        obtain ⟨q11, hcall12, hz8⟩ := bnd hz8
        refine st_call hf (by decide) Try.func48 rfl rfl (wantY hf rfl rfl hb9) rfl rfl (f_math_Signbit_c hp _ _ (show Fl.rep bax0 ax0 from hax0) hcall12) ?_
        rintro _ w ⟨rfl, hp0⟩
        clear hp; have hp := hp0; clear hp0
        replace hp : Hp _ _ _ (ow) := hp
        refine ⟨_, rfl, ?_⟩
        clear hf; intro a hf
        refine st_move hf (wantY hf rfl rfl hb9) rfl (by decide) ?_
        clear hf; intro a ha hf; clear ha
        obtain ⟨q13, hcall14, hz8⟩ := bnd hz8
        refine st_call hf (by decide) Try.func48 rfl rfl (wantY hf rfl rfl hb9) rfl rfl (f_math_Signbit_c hp _ _ (show Fl.rep bbx1 bx1 from hbx1) hcall14) ?_
        rintro _ w ⟨rfl, hp0⟩
        clear hp; have hp := hp0; clear hp0
        replace hp : Hp _ _ _ (ow) := hp
        refine ⟨_, rfl, ?_⟩
        clear hf; intro a hf
        refine st_beql hf (by decide) Try.underlying4 (wantY hf rfl rfl hb9) rfl rfl ?_
        clear hf; intro a ha hf; clear ha
        obtain rfl := Option.some.inj hz8
        refine st_pick (v := .bool (q11 == q13)) hf (wantY hf rfl rfl hb6) rfl (fun hb' => ?_) (fun hb' => ?_) (by decide) ?_
        · exact absurd (hb9.symm.trans hb') (by decide)
        · rfl
        clear hf; intro a ha hf; clear ha
        refine st_nil hf (th_n ?_)
        exact ⟨hf.sub ⟨rfl, rfl, trivial⟩, hp⟩
      rintro a w ⟨hf, hp⟩
      obtain rfl := Option.some.inj hz5
      refine st_pick (v := .bool z10) hf rfl rfl (fun hb' => ?_) (fun hb' => ?_) (by decide) ?_
      · rfl
      · exact absurd (hb6.symm.trans hb') (by decide)
      clear hf; intro a ha hf; clear ha
      refine st_nil hf (th_n ?_)
      exact ⟨hf.sub ⟨rfl, trivial⟩, hp⟩
    replace hz5 := ifF hz5 hb6
    refine st_skip hf (wantN hf rfl rfl hb6) rfl (by decide) ?_ rfl
    clear hf; intro a hf
    refine st_skip hf (wantN hf rfl rfl hb6) rfl (by decide) ?_ rfl
    clear hf; intro a hf
    refine st_skipU hf (wantN hf rfl rfl hb6) rfl (by decide) ?_
    clear hf; intro a hf
    refine st_skip hf (wantU hf rfl rfl) rfl (by decide) ?_ rfl
    clear hf; intro a hf
    refine st_skip hf (wantU hf rfl rfl) rfl (by decide) ?_ rfl
    clear hf; intro a hf
    refine st_skip hf (wantU hf rfl rfl) rfl (by decide) ?_ rfl
    clear hf; intro a hf
    refine st_skip hf (wantU hf rfl rfl) rfl (by decide) ?_ rfl
    clear hf; intro a hf
    refine st_skip hf (wantU hf rfl rfl) rfl (by decide) ?_ rfl
    clear hf; intro a hf
    refine st_skip hf (wantN hf rfl rfl hb6) rfl (by decide) ?_ rfl
    clear hf; intro a hf
    obtain rfl := Option.some.inj hz5
    refine st_pick (v := .bool false) hf rfl rfl (fun hb' => ?_) (fun hb' => ?_) (by decide) ?_
    · exact absurd (hb6.symm.trans hb') (by decide)
    · rfl
    clear hf; intro a ha hf; clear ha
    refine st_nil hf (th_n ?_)
    exact ⟨hf.sub ⟨rfl, trivial⟩, hp⟩
  rintro a w ⟨hf, hp⟩
  refine st_assign hf rfl rfl (by decide) ?_
  clear hf; intro a ha hf; clear ha
  refine st_nil hf ?_
  refine th_n ?_
  refine wp_ret ?_
  obtain rfl := Option.some.inj h
  exact ⟨rfl, ⟨hf.sub ⟨rfl, trivial⟩, hp⟩⟩

noncomputable def f_foghornref03_Same (ax0 : (Fl × Fl)) (bx1 : (Fl × Fl)) (signs2 : Bool) : Option Bool := ((f_foghornref03_part ax0.1 bx1.1 signs2).bind fun q1 => ((if q1 = true then ((f_foghornref03_part ax0.2 bx1.2 signs2).bind fun q6 => (some q6)) else (some false)).bind fun z5 => (some z5)))
theorem f_foghornref03_Same_c {S : Nat → Prop} {w0 w : World} {ow : List Res} (hp : Hp S w0 w ow) (bax0 cax0 : Nat) (ax0 : Fl × Fl) (hax0 : ax0.1.rep bax0) (kax0 : ax0.2.rep cax0) (bbx1 cbx1 : Nat) (bx1 : Fl × Fl) (hbx1 : bx1.1.rep bbx1) (kbx1 : bx1.2.rep cbx1) (signs2 : Bool) {r : Bool} (h : f_foghornref03_Same ax0 bx1 signs2 = some r) :
    Calls Try.prog 25 #[.complex .f64 bax0 cax0, .complex .f64 bbx1 cbx1, .bool signs2] w (fun e w' => e = .returned (.bool r) ∧ Hp S w0 w' (ow)) := by
  unfold f_foghornref03_Same at h
  refine enter (n := 21) (args := [.complex .f64 bax0 cax0, .complex .f64 bbx1 cbx1, .bool signs2]) Try.func25 rfl rfl (Nat.le_of_ble_eq_true rfl) fun a hf => ?_
  replace hf : Fr 21 a [(0, .complex .f64 bax0 cax0), (1, .complex .f64 bbx1 cbx1), (2, .bool signs2)] := hf
  refine wp_mono (Q := fun e a w => e = .ret ∧ Fr 21 a [(6, .bool r)] ∧ Hp S w0 w (ow)) ?_ ?_
  rotate_left
  · rintro e a w ⟨rfl, hf, hp⟩
    exact ret1 hf rfl rfl ⟨rfl, hp⟩
  refine wp_seq ?_
  refine wp_reg ?_
  refine st_assign hf rfl rfl (by decide) ?_
  clear hf; intro a ha hf; clear ha
  refine st_nil hf ?_
  refine th_n ?_
  refine wp_seq ?_
  refine wp_reg ?_
  refine st_move hf rfl rfl (by decide) ?_
  clear hf; intro a ha hf; clear ha
  refine st_real hf (by decide) rfl rfl ?_
  clear hf; intro a ha hf; clear ha
  refine st_move hf rfl rfl (by decide) ?_
  clear hf; intro a ha hf; clear ha
  refine st_real hf (by decide) rfl rfl ?_
  clear hf; intro a ha hf; clear ha
  refine st_move hf rfl rfl (by decide) ?_
  clear hf; intro a ha hf; clear ha
  obtain ⟨q1, hcall2, h⟩ := bnd h
  refine st_call hf (by decide) Try.func47 rfl rfl rfl rfl rfl (f_foghornref03_part_c hp _ _ (show Fl.rep bax0 ax0.1 from hax0) _ _ (show Fl.rep bbx1 bx1.1 from hbx1) _ hcall2) ?_
  rintro _ w ⟨rfl, hp0⟩
  clear hp; have hp := hp0; clear hp0
  replace hp : Hp _ _ _ (ow) := hp
  refine ⟨_, rfl, ?_⟩
  clear hf; intro a hf
  refine st_move hf rfl rfl (by decide) ?_
  clear hf; intro a ha hf; clear ha
  obtain ⟨z5, hz3, h⟩ := bnd h
  refine wpList_cut 7 (fun a w => Fr 21 a [(20, .bool z5)] ∧ Hp S w0 w (ow)) ?_ ?_
  · rcases Bool.eq_false_or_eq_true q1 with hb4 | hb4
    · skip
      replace hz3 := ifT hz3 hb4
      refine st_move hf (wantY hf rfl rfl hb4) rfl (by decide) ?_
      clear hf; intro a ha hf; clear ha
      refine st_imag hf (by decide) (wantY hf rfl rfl hb4) rfl ?_
      clear hf; intro a ha hf; clear ha
      refine st_move hf (wantY hf rfl rfl hb4) rfl (by decide) ?_
      clear hf; intro a ha hf; clear ha
      refine st_imag hf (by decide) (wantY hf rfl rfl hb4) rfl ?_
      clear hf; intro a ha hf; clear ha
      refine st_move hf (wantY hf rfl rfl hb4) rfl (by decide) ?_
      clear hf; intro a ha hf; clear ha
      obtain ⟨q6, hcall7, hz3⟩ := bnd hz3
      refine st_call hf (by decide) Try.func47 rfl rfl (wantY hf rfl rfl hb4) rfl rfl (f_foghornref03_part_c hp _ _ (show Fl.rep cax0 ax0.2 from kax0) _ _ (show Fl.rep cbx1 bx1.2 from kbx1) _ hcall7) ?_
      rintro _ w ⟨rfl, hp0⟩
      clear hp; have hp := hp0; clear hp0
      replace hp : Hp _ _ _ (ow) := hp
      refine ⟨_, rfl, ?_⟩
      clear hf; intro a hf
      obtain rfl := Option.some.inj hz3
      refine st_pick (v := .bool q6) hf rfl rfl (fun hb' => ?_) (fun hb' => ?_) (by decide) ?_
      · rfl
      · exact absurd (hb4.symm.trans hb') (by decide)
      clear hf; intro a ha hf; clear ha
      refine st_nil hf (th_n ?_)
      exact ⟨hf.sub ⟨rfl, trivial⟩, hp⟩
    replace hz3 := ifF hz3 hb4
    refine st_skip hf (wantN hf rfl rfl hb4) rfl (by decide) ?_ rfl
    clear hf; intro a hf
    refine st_skip hf (wantN hf rfl rfl hb4) rfl (by decide) ?_ rfl
    clear hf; intro a hf
    refine st_skip hf (wantN hf rfl rfl hb4) rfl (by decide) ?_ rfl
    clear hf; intro a hf
    refine st_skip hf (wantN hf rfl rfl hb4) rfl (by decide) ?_ rfl
    clear hf; intro a hf
    refine st_skip hf (wantN hf rfl rfl hb4) rfl (by decide) ?_ rfl
    clear hf; intro a hf
    refine st_skip hf (wantN hf rfl rfl hb4) rfl (by decide) ?_ rfl
    clear hf; intro a hf
    obtain rfl := Option.some.inj hz3
    refine st_pick (v := .bool false) hf rfl rfl (fun hb' => ?_) (fun hb' => ?_) (by decide) ?_
    · exact absurd (hb4.symm.trans hb') (by decide)
    · rfl
    clear hf; intro a ha hf; clear ha
    refine st_nil hf (th_n ?_)
    exact ⟨hf.sub ⟨rfl, trivial⟩, hp⟩
  rintro a w ⟨hf, hp⟩
  refine st_assign hf rfl rfl (by decide) ?_
  clear hf; intro a ha hf; clear ha
  refine st_nil hf ?_
  refine th_n ?_
  refine wp_ret ?_
  obtain rfl := Option.some.inj h
  exact ⟨rfl, ⟨hf.sub ⟨rfl, trivial⟩, hp⟩⟩

noncomputable def f_foghornref03_SameRow.s1c (ax0 : (List (Fl × Fl))) (bx1 : (List (Fl × Fl))) (i5 : Int) : Option (Int ⊕ (Unit ⊕ Bool)) := (if (decide (i5 < (ax0.length : Int))) = true then (if 0 ≤ i5 ∧ i5 < (ax0.length : Int) then (if 0 ≤ i5 ∧ i5 < (bx1.length : Int) then ((f_foghornref03_Same (gt ax0 i5) (gt bx1 i5) false).bind fun q13 => (if (!q13) = true then (some (Sum.inr (Sum.inr false))) else (some (Sum.inl (IntKind.i64.wrap (i5 + (1 : Int))))))) else none) else none) else (some (Sum.inr (Sum.inl ()))))
noncomputable def f_foghornref03_SameRow.s1 (ax0 : (List (Fl × Fl))) (bx1 : (List (Fl × Fl))) (s : Int) : Option (Int ⊕ (Unit ⊕ Bool)) := f_foghornref03_SameRow.s1c ax0 bx1 s
noncomputable def f_foghornref03_SameRow (ax0 : (List (Fl × Fl))) (bx1 : (List (Fl × Fl))) : Option Bool := (if ((ax0.length : Int) != (bx1.length : Int)) = true then (some false) else ((loop (f_foghornref03_SameRow.s1 ax0 bx1) (0 : Int)).bind (fun q15 => sm q15 (fun q16 => (some true)) (fun q17 => (some q17)))))
theorem f_foghornref03_SameRow_c {S : Nat → Prop} {w0 w : World} {ow : List Res} (hp : Hp S w0 w ow) (vax0 : Value) (ax0 : (List (Fl × Fl))) (hax0 : RdS Ek.c128 S w0 vax0 ax0) (vbx1 : Value) (bx1 : (List (Fl × Fl))) (hbx1 : RdS Ek.c128 S w0 vbx1 bx1) {r : Bool} (h : f_foghornref03_SameRow ax0 bx1 = some r) :
    Calls Try.prog 22 #[vax0, vbx1] w (fun e w' => e = .returned (.bool r) ∧ Hp S w0 w' (ow)) := by
  unfold f_foghornref03_SameRow at h
  refine enter (n := 27) (args := [vax0, vbx1]) Try.func22 rfl rfl (Nat.le_of_ble_eq_true rfl) fun a hf => ?_
  replace hf : Fr 27 a [(0, vax0), (1, vbx1)] := hf
  refine wp_mono (Q := fun e a w => e = .ret ∧ Fr 27 a [(4, .bool r)] ∧ Hp S w0 w (ow)) ?_ ?_
  rotate_left
  · rintro e a w ⟨rfl, hf, hp⟩
    exact ret1 hf rfl rfl ⟨rfl, hp⟩
  refine wp_seq ?_
  refine wp_reg ?_
  refine st_assign hf rfl rfl (by decide) ?_
  clear hf; intro a ha hf; clear ha
  refine st_nil hf ?_
  refine th_n ?_
  refine wp_seq ?_
  refine wp_seq ?_
  refine wp_reg ?_
  refine st_move hf rfl rfl (by decide) ?_
  clear hf; intro a ha hf; clear ha
  refine st_len (E := Ek.c128) hf (by decide) Try.underlying44 rfl rfl (hax0.sl hp) ?_
  clear hf; intro a ha hf; clear ha
  refine st_move hf rfl rfl (by decide) ?_
  clear hf; intro a ha hf; clear ha
  refine st_len (E := Ek.c128) hf (by decide) Try.underlying44 rfl rfl (hbx1.sl hp) ?_
  clear hf; intro a ha hf; clear ha
  refine st_ineq hf (by decide) rfl rfl rfl ?_
  clear hf; intro a ha hf; clear ha
  refine st_nil hf ?_
  refine th_n ?_
  refine wp_if hf rfl (fun hb => ?_) (fun hb => ?_)
  · replace h := ifT h hb
    refine wp_seq ?_
    refine wp_reg ?_
    refine st_assign hf rfl rfl (by decide) ?_
    clear hf; intro a ha hf; clear ha
    refine st_nil hf ?_
    refine th_n ?_
    refine wp_ret ?_
    refine th_r ?_
    obtain rfl := Option.some.inj h
    exact ⟨rfl, ⟨hf.sub ⟨rfl, trivial⟩, hp⟩⟩
  replace h := ifF h hb
  refine wp_skip ?_
  refine th_n ?_
  refine wp_seq ?_
  refine wp_seq ?_
  refine wp_reg ?_
  refine st_assign hf rfl rfl (by decide) ?_
  clear hf; intro a ha hf; clear ha
  refine st_nil hf ?_
  refine th_n ?_
  refine wp_block ?_
  obtain ⟨q15, hl, h⟩ := bnd h
  refine wp_loop_pure (f := (f_foghornref03_SameRow.s1 ax0 bx1)) (s := (0 : Int)) (fun s a w => Fr 27 a [(0, vax0), (1, vbx1), (5, .int .i64 s)] ∧ Hp S w0 w (ow)) (fun q e a w => match q with | (Sum.inl q) => e = .exit 0 ∧ Fr 27 a [] ∧ Hp S w0 w (ow) | (Sum.inr q) => e = .ret ∧ Fr 27 a [(4, .bool q)] ∧ Hp S w0 w (ow)) ?_ hl ⟨hf.sub ⟨rfl, rfl, rfl, trivial⟩, hp⟩ ?_
  · clear hl hf hp
    intro s x a w h hI
    obtain ⟨i5, hs⟩ : ∃ z, z = s := ⟨s, rfl⟩; subst hs
    obtain ⟨hf, hp⟩ : Fr 27 a [(0, vax0), (1, vbx1), (5, .int .i64 i5)] ∧ Hp S w0 w (ow) := hI
    replace h : f_foghornref03_SameRow.s1c ax0 bx1 i5 = some x := h
    unfold f_foghornref03_SameRow.s1c at h
    refine wp_seq ?_
    refine wp_seq ?_
    refine wp_reg ?_
    refine st_move hf rfl rfl (by decide) ?_
    clear hf; intro a ha hf; clear ha
    refine st_move hf rfl rfl (by decide) ?_
    clear hf; intro a ha hf; clear ha
    refine st_len (E := Ek.c128) hf (by decide) Try.underlying44 rfl rfl (hax0.sl hp) ?_
    clear hf; intro a ha hf; clear ha
    refine st_ilss hf (by decide) rfl rfl rfl ?_
    clear hf; intro a ha hf; clear ha
    refine st_nil hf ?_
    refine th_n ?_
    refine wp_if hf rfl (fun hb => ?_) (fun hb => ?_)
    · replace h := ifT h hb
      refine wp_skip ?_
      refine th_n ?_
      refine wp_seq ?_
      refine wp_block ?_
      refine wp_seq ?_
      obtain ⟨hc1, h⟩ := chk h
      obtain ⟨bb3, bb4, y5, y6, hl2⟩ := RdS.pinC (p := i5) hax0 hc1.1 hc1.2
      obtain ⟨hc7, h⟩ := chk h
      obtain ⟨bb9, bb10, y11, y12, hl8⟩ := RdS.pinC (p := i5) hbx1 hc7.1 hc7.2
      obtain ⟨q13, hcall14, h⟩ := bnd h
      refine wp_cutN (fun a w => Fr 27 a [(0, vax0), (1, vbx1), (5, .int .i64 i5), (26, .bool (!q13))] ∧ Hp S w0 w (ow)) ?_ ?_
      · have hp := hp.same (Same.drew w)
        refine dr_begin' (fun a w => Fr 27 a [(0, vax0), (1, vbx1), (5, .int .i64 i5), (26, .bool (!q13))] ∧ Hp S w0 w (ow)) (fun w' => ∃ l, Hp S w0 w' l) [] (by kernel_rfl) ?_
        refine dr_take 0 (vax0) rfl (by kernel_rfl) (by kernel_rfl) (by kernel_rfl) (by kernel_rfl) rfl rfl hf (by decide) rfl (fun w hp => ?_) ⟨_, hp⟩ ?_
        · obtain ⟨_, hp⟩ := hp
          refine st_move hf rfl rfl (by decide) ?_
          clear hf; intro a ha hf
          exact st_nil hf (th_n ⟨ha, rfl⟩)
        clear hf; intro a hf
        refine dr_take 1 (.int .i64 i5) rfl (by kernel_rfl) (by kernel_rfl) (by kernel_rfl) (by kernel_rfl) rfl rfl hf (by decide) rfl (fun w hp => ?_) ⟨_, hp⟩ ?_
        · obtain ⟨_, hp⟩ := hp
          refine st_move hf rfl rfl (by decide) ?_
          clear hf; intro a ha hf
          exact st_nil hf (th_n ⟨ha, rfl⟩)
        clear hf; intro a hf
        refine dr_take 2 (eptr vax0 i5 1) rfl (by kernel_rfl) (by kernel_rfl) (by kernel_rfl) (by kernel_rfl) rfl rfl hf (by decide) rfl (fun w hp => ?_) ⟨_, hp⟩ ?_
        · obtain ⟨_, hp⟩ := hp
          refine st_index (E := Ek.c128) hf (by decide) Try.underlying44 elt49 rfl rfl rfl (hax0.sl hp) hc1.1 hc1.2 ?_
          clear hf; intro a ha hf
          exact st_nil hf (th_n ⟨ha, rfl⟩)
        clear hf; intro a hf
        refine dr_take 3 (.complex .f64 bb3 bb4) rfl (by kernel_rfl) (by kernel_rfl) (by kernel_rfl) (by kernel_rfl) rfl rfl hf (by decide) rfl (fun w hp => ?_) ⟨_, hp⟩ ?_
        · obtain ⟨_, hp⟩ := hp
          refine st_ldP hf (by decide) pl49 rfl rfl (hl2 _ _ hp) ?_
          clear hf; intro a ha hf
          exact st_nil hf (th_n ⟨ha, rfl⟩)
        clear hf; intro a hf
        refine dr_take 4 (vbx1) rfl (by kernel_rfl) (by kernel_rfl) (by kernel_rfl) (by kernel_rfl) rfl rfl hf (by decide) rfl (fun w hp => ?_) ⟨_, hp⟩ ?_
        · obtain ⟨_, hp⟩ := hp
          refine st_move hf rfl rfl (by decide) ?_
          clear hf; intro a ha hf
          exact st_nil hf (th_n ⟨ha, rfl⟩)
        clear hf; intro a hf
        refine dr_take 5 (.int .i64 i5) rfl (by kernel_rfl) (by kernel_rfl) (by kernel_rfl) (by kernel_rfl) rfl rfl hf (by decide) rfl (fun w hp => ?_) ⟨_, hp⟩ ?_
        · obtain ⟨_, hp⟩ := hp
          refine st_move hf rfl rfl (by decide) ?_
          clear hf; intro a ha hf
          exact st_nil hf (th_n ⟨ha, rfl⟩)
        clear hf; intro a hf
        refine dr_take 6 (eptr vbx1 i5 1) rfl (by kernel_rfl) (by kernel_rfl) (by kernel_rfl) (by kernel_rfl) rfl rfl hf (by decide) rfl (fun w hp => ?_) ⟨_, hp⟩ ?_
        · obtain ⟨_, hp⟩ := hp
          refine st_index (E := Ek.c128) hf (by decide) Try.underlying44 elt49 rfl rfl rfl (hbx1.sl hp) hc7.1 hc7.2 ?_
          clear hf; intro a ha hf
          exact st_nil hf (th_n ⟨ha, rfl⟩)
        clear hf; intro a hf
        refine dr_take 7 (.complex .f64 bb9 bb10) rfl (by kernel_rfl) (by kernel_rfl) (by kernel_rfl) (by kernel_rfl) rfl rfl hf (by decide) rfl (fun w hp => ?_) ⟨_, hp⟩ ?_
        · obtain ⟨_, hp⟩ := hp
          refine st_ldP hf (by decide) pl49 rfl rfl (hl8 _ _ hp) ?_
          clear hf; intro a ha hf
          exact st_nil hf (th_n ⟨ha, rfl⟩)
        clear hf; intro a hf
        refine dr_one 8 rfl (by kernel_rfl) ?_
        refine st_call hf (by decide) Try.func25 rfl rfl rfl rfl rfl (f_foghornref03_Same_c hp _ _ _ (show Fl.rep bb3 ((gt ax0 i5)).1 from y5) (show Fl.rep bb4 ((gt ax0 i5)).2 from y6) _ _ _ (show Fl.rep bb9 ((gt bx1 i5)).1 from y11) (show Fl.rep bb10 ((gt bx1 i5)).2 from y12) _ hcall14) ?_
        rintro _ w ⟨rfl, hp0⟩
        clear hp; have hp := hp0; clear hp0
        replace hp : Hp _ _ _ (ow) := hp
        refine ⟨_, rfl, ?_⟩
        clear hf; intro a hf
        refine st_nil hf (th_n ⟨fun _ _ => ⟨_, hp⟩, ?_⟩)
        refine dr_take 9 (.bool (!q13)) rfl (by kernel_rfl) (by kernel_rfl) (by kernel_rfl) (by kernel_rfl) rfl rfl hf (by decide) rfl (fun w hp => ?_) ⟨_, hp⟩ ?_
        · obtain ⟨_, hp⟩ := hp
          refine st_not hf (by decide) rfl rfl ?_
          clear hf; intro a ha hf
          exact st_nil hf (th_n ⟨ha, rfl⟩)
        clear hf; intro a hf
        refine dr_end (by kernel_rfl) ?_ _
        exact ⟨hf.sub ⟨rfl, rfl, rfl, rfl, trivial⟩, hp⟩
      rintro a w ⟨hf, hp⟩
      refine th_n ?_
      refine wp_if hf rfl (fun hb => ?_) (fun hb => ?_)
      · replace h := ifT h hb
        refine wp_seq ?_
        refine wp_reg ?_
        refine st_assign hf rfl rfl (by decide) ?_
        clear hf; intro a ha hf; clear ha
        refine st_nil hf ?_
        refine th_n ?_
        refine wp_ret ?_
        refine ib_r ?_
        refine th_r ?_
        obtain rfl := Option.some.inj h
        exact rnd_r (by simp) ⟨rfl, ⟨hf.sub ⟨rfl, trivial⟩, hp⟩⟩
      replace h := ifF h hb
      refine wp_skip ?_
      refine ib_n ?_
      refine th_n ?_
      refine wp_reg ?_
      refine st_move hf rfl rfl (by decide) ?_
      clear hf; intro a ha hf; clear ha
      refine st_iadd hf (by decide) rfl rfl rfl ?_
      clear hf; intro a ha hf; clear ha
      refine st_assign hf rfl rfl (by decide) ?_
      clear hf; intro a ha hf; clear ha
      refine st_nil hf ?_
      obtain rfl := Option.some.inj h
      exact rnd_l ⟨hf.sub ⟨rfl, rfl, rfl, trivial⟩, hp⟩
    replace h := ifF h hb
    refine wp_exit ?_
    refine th_e ?_
    obtain rfl := Option.some.inj h
    exact rnd_r (by simp) ⟨rfl, hf.sub trivial, hp⟩
  clear hl hf hp
  intro e a w hne hO
  rcases q15 with q16 | q17
  · replace h := smL h
    obtain ⟨rfl, hf, hp⟩ := hO
    refine ib_same ?_
    refine th_n ?_
    refine wp_seq ?_
    refine wp_reg ?_
    refine st_assign hf rfl rfl (by decide) ?_
    clear hf; intro a ha hf; clear ha
    refine st_nil hf ?_
    refine th_n ?_
    refine wp_ret ?_
    obtain rfl := Option.some.inj h
    exact ⟨rfl, ⟨hf.sub ⟨rfl, trivial⟩, hp⟩⟩
  replace h := smR h
  obtain ⟨rfl, hf, hp⟩ := hO
  refine ib_r ?_
  refine th_r ?_
  obtain rfl := Option.some.inj h
  exact ⟨rfl, ⟨hf.sub ⟨rfl, trivial⟩, hp⟩⟩

noncomputable def f_turns_Near.s1c (zx0 : (Fl × Fl)) (best4 : Int) (t13 : Int) : Option ((Int × Int) ⊕ Int) := (if (decide (t13 < (4 : Int))) = true then ((f_plane_Turn zx0 (IntKind.i64.wrap (0 - (IntKind.i64.wrap t13)))).bind fun q3 => ((f_plane_Turn zx0 (IntKind.i64.wrap (0 - (IntKind.i64.wrap best4)))).bind fun q9 => (if (fgt q3.1 q9.1) = true then (some (Sum.inl (t13, (IntKind.u8.wrap (t13 + (1 : Int)))))) else (some (Sum.inl (best4, (IntKind.u8.wrap (t13 + (1 : Int))))))))) else (some (Sum.inr best4)))
noncomputable def f_turns_Near.s1 (zx0 : (Fl × Fl)) (s : (Int × Int)) : Option ((Int × Int) ⊕ Int) := f_turns_Near.s1c zx0 s.1 s.2
noncomputable def f_turns_Near (zx0 : (Fl × Fl)) : Option (Int × Bool) := (if ((!ceq zx0 zx0) || (ceq zx0 (Fl.bits 0, Fl.bits 0))) = true then (some ((0 : Int), false)) else ((loop (f_turns_Near.s1 zx0) ((0 : Int), (0 : Int))).bind (fun q15 => (some (q15, true)))))
theorem f_turns_Near_c {S : Nat → Prop} {w0 w : World} {ow : List Res} (hp : Hp S w0 w ow) (bzx0 czx0 : Nat) (zx0 : Fl × Fl) (hzx0 : zx0.1.rep bzx0) (kzx0 : zx0.2.rep czx0) {r : (Int × Bool)} (h : f_turns_Near zx0 = some r) :
    Calls Try.prog 26 #[.complex .f64 bzx0 czx0] w (fun e w' => e = .returned (.tuple #[.int .u8 r.1, .bool r.2]) ∧ Hp S w0 w' (ow)) := by
  unfold f_turns_Near at h
  refine enter (n := 32) (args := [.complex .f64 bzx0 czx0]) Try.func26 rfl rfl (Nat.le_of_ble_eq_true rfl) fun a hf => ?_
  replace hf : Fr 32 a [(0, .complex .f64 bzx0 czx0)] := hf
  refine wp_mono (Q := fun e a w => e = .ret ∧ Fr 32 a [(2, .int .u8 r.1), (3, .bool r.2)] ∧ Hp S w0 w (ow)) ?_ ?_
  rotate_left
  · rintro e a w ⟨rfl, hf, hp⟩
    exact ret2 hf rfl rfl rfl ⟨rfl, hp⟩
  refine wp_seq ?_
  refine wp_reg ?_
  refine st_assign hf rfl rfl (by decide) ?_
  clear hf; intro a ha hf; clear ha
  refine st_assign hf rfl rfl (by decide) ?_
  clear hf; intro a ha hf; clear ha
  refine st_nil hf ?_
  refine th_n ?_
  refine wp_seq ?_
  refine wp_seq ?_
  refine wp_reg ?_
  refine st_move hf rfl rfl (by decide) ?_
  clear hf; intro a ha hf; clear ha
  refine st_move hf rfl rfl (by decide) ?_
  clear hf; intro a ha hf; clear ha
  refine st_ccmp (r_cne (x := zx0) (y := zx0) hzx0 kzx0 hzx0 kzx0) hf (by decide) rfl rfl rfl ?_
  clear hf; intro a ha hf; clear ha
  refine st_move hf rfl rfl (by decide) ?_
  clear hf; intro a ha hf; clear ha
  refine wpList_cut 3 (fun a w => Fr 32 a [(0, .complex .f64 bzx0 czx0), (12, .bool ((!ceq zx0 zx0) || (ceq zx0 (Fl.bits 0, Fl.bits 0))))] ∧ Hp S w0 w (ow)) ?_ ?_
  · rcases Bool.eq_false_or_eq_true (!ceq zx0 zx0) with hb2 | hb2
    · skip
      refine st_skip hf (wantN hf rfl rfl hb2) rfl (by decide) ?_ rfl
      clear hf; intro a hf
      refine st_skip hf (wantN hf rfl rfl hb2) rfl (by decide) ?_ rfl
      clear hf; intro a hf
      refine st_pick (v := .bool true) hf rfl rfl (fun hb' => ?_) (fun hb' => ?_) (by decide) ?_
      · rfl
      · exact absurd (hb2.symm.trans hb') (by decide)
      clear hf; intro a ha hf; clear ha
      refine st_nil hf (th_n ?_)
      exact ⟨hf.sub ⟨rfl, (by rw [hb2]; rfl), trivial⟩, hp⟩
    refine st_move hf (wantY hf rfl rfl hb2) rfl (by decide) ?_
    clear hf; intro a ha hf; clear ha
    refine st_ccmp (r_ceq (x := zx0) (y := (Fl.bits 0, Fl.bits 0)) hzx0 kzx0 rfl rfl) hf (by decide) (wantY hf rfl rfl hb2) rfl rfl ?_
    clear hf; intro a ha hf; clear ha
    refine st_pick (v := .bool (ceq zx0 (Fl.bits 0, Fl.bits 0))) hf rfl rfl (fun hb' => ?_) (fun hb' => ?_) (by decide) ?_
    · exact absurd (hb2.symm.trans hb') (by decide)
    · rfl
    clear hf; intro a ha hf; clear ha
    refine st_nil hf (th_n ?_)
    exact ⟨hf.sub ⟨rfl, (by rw [hb2]; rfl), trivial⟩, hp⟩
  rintro a w ⟨hf, hp⟩
  refine st_nil hf ?_
  refine th_n ?_
  refine wp_if hf rfl (fun hb => ?_) (fun hb => ?_)
  · replace h := ifT h hb
    refine wp_seq ?_
    refine wp_reg ?_
    refine st_assign hf rfl rfl (by decide) ?_
    clear hf; intro a ha hf; clear ha
    refine st_assign hf rfl rfl (by decide) ?_
    clear hf; intro a ha hf; clear ha
    refine st_nil hf ?_
    refine th_n ?_
    refine wp_ret ?_
    refine th_r ?_
    obtain rfl := Option.some.inj h
    exact ⟨rfl, ⟨hf.sub ⟨rfl, rfl, trivial⟩, hp⟩⟩
  replace h := ifF h hb
  refine wp_skip ?_
  refine th_n ?_
  refine wp_seq ?_
  refine wp_reg ?_
  refine st_assign hf rfl rfl (by decide) ?_
  clear hf; intro a ha hf; clear ha
  refine st_nil hf ?_
  refine th_n ?_
  refine wp_seq ?_
  refine wp_seq ?_
  refine wp_reg ?_
  refine st_move hf rfl rfl (by decide) ?_
  clear hf; intro a ha hf; clear ha
  refine st_nil hf ?_
  refine th_n ?_
  refine wp_block ?_
  obtain ⟨q15, hl, h⟩ := bnd h
  refine wp_loop_pure (f := (f_turns_Near.s1 zx0)) (s := ((0 : Int), (0 : Int))) (fun s a w => Fr 32 a [(0, .complex .f64 bzx0 czx0), (4, .int .u8 s.1), (13, .int .u8 s.2)] ∧ Hp S w0 w (ow)) (fun q e a w => e = .exit 0 ∧ Fr 32 a [(4, .int .u8 q)] ∧ Hp S w0 w (ow)) ?_ hl ⟨hf.sub ⟨rfl, rfl, rfl, trivial⟩, hp⟩ ?_
  · clear hl hf hp
    intro s x a w h hI
    obtain ⟨best4, t13⟩ := s
    obtain ⟨hf, hp⟩ : Fr 32 a [(0, .complex .f64 bzx0 czx0), (4, .int .u8 best4), (13, .int .u8 t13)] ∧ Hp S w0 w (ow) := hI
    replace h : f_turns_Near.s1c zx0 best4 t13 = some x := h
    unfold f_turns_Near.s1c at h
    refine wp_seq ?_
    refine wp_reg ?_
    refine st_ilss hf (by decide) rfl rfl rfl ?_
    clear hf; intro a ha hf; clear ha
    refine st_nil hf ?_
    refine th_n ?_
    refine wp_seq ?_
    refine wp_if hf rfl (fun hb => ?_) (fun hb => ?_)
    · replace h := ifT h hb
      refine wp_skip ?_
      refine th_n ?_
      refine wp_seq ?_
      refine wp_block ?_
      refine wp_seq ?_
      refine wp_reg ?_
      refine st_move hf rfl rfl (by decide) ?_
      clear hf; intro a ha hf; clear ha
      refine st_assign hf rfl rfl (by decide) ?_
      clear hf; intro a ha hf; clear ha
      refine st_nil hf ?_
      refine th_n ?_
      refine wp_seq ?_
      refine wp_reg ?_
      refine st_move hf rfl rfl (by decide) ?_
      clear hf; intro a ha hf; clear ha
      refine st_move hf rfl rfl (by decide) ?_
      clear hf; intro a ha hf; clear ha
      refine st_conv_ii hf (by decide) (by rw [Try.underlying5]; rfl) Try.underlying3 rfl rfl ?_
      clear hf; intro a ha hf; clear ha
      refine st_ineg hf (by decide) rfl rfl ?_
      clear hf; intro a ha hf; clear ha
      obtain ⟨q3, hcall4, h⟩ := bnd h
      refine st_call hf (by decide) Try.func44 rfl rfl rfl rfl rfl (f_plane_Turn_c hp _ _ _ (show Fl.rep bzx0 (zx0).1 from hzx0) (show Fl.rep czx0 (zx0).2 from kzx0) _ hcall4) ?_
      rintro _ w ⟨v5, v6, rfl, y7, y8, hp0⟩
      clear hp; have hp := hp0; clear hp0
      replace hp : Hp _ _ _ (ow) := hp
      refine ⟨_, rfl, ?_⟩
      clear hf; intro a hf
      refine st_real hf (by decide) rfl rfl ?_
      clear hf; intro a ha hf; clear ha
      refine st_move hf rfl rfl (by decide) ?_
      clear hf; intro a ha hf; clear ha
      refine st_move hf rfl rfl (by decide) ?_
      clear hf; intro a ha hf; clear ha
      refine st_conv_ii hf (by decide) (by rw [Try.underlying5]; rfl) Try.underlying3 rfl rfl ?_
      clear hf; intro a ha hf; clear ha
      refine st_ineg hf (by decide) rfl rfl ?_
      clear hf; intro a ha hf; clear ha
      obtain ⟨q9, hcall10, h⟩ := bnd h
      refine st_call hf (by decide) Try.func44 rfl rfl rfl rfl rfl (f_plane_Turn_c hp _ _ _ (show Fl.rep bzx0 (zx0).1 from hzx0) (show Fl.rep czx0 (zx0).2 from kzx0) _ hcall10) ?_
      rintro _ w ⟨v11, v12, rfl, y13, y14, hp0⟩
      clear hp; have hp := hp0; clear hp0
      replace hp : Hp _ _ _ (ow) := hp
      refine ⟨_, rfl, ?_⟩
      clear hf; intro a hf
      refine st_real hf (by decide) rfl rfl ?_
      clear hf; intro a ha hf; clear ha
      refine st_fcmp (r_fgt (fx := q3.1) (fy := q9.1) y7 y13) hf (by decide) rfl rfl rfl ?_
      clear hf; intro a ha hf; clear ha
      refine st_nil hf ?_
      refine th_n ?_
      refine wp_if hf rfl (fun hb => ?_) (fun hb => ?_)
      · replace h := ifT h hb
        refine wp_reg ?_
        refine st_move hf rfl rfl (by decide) ?_
        clear hf; intro a ha hf; clear ha
        refine st_assign hf rfl rfl (by decide) ?_
        clear hf; intro a ha hf; clear ha
        refine st_nil hf ?_
        refine ib_n ?_
        refine th_n ?_
        refine wp_reg ?_
        refine st_iadd hf (by decide) rfl rfl rfl ?_
        clear hf; intro a ha hf; clear ha
        refine st_move hf rfl rfl (by decide) ?_
        clear hf; intro a ha hf; clear ha
        refine st_nil hf ?_
        obtain rfl := Option.some.inj h
        exact rnd_l ⟨hf.sub ⟨rfl, rfl, rfl, trivial⟩, hp⟩
      replace h := ifF h hb
      refine wp_skip ?_
      refine ib_n ?_
      refine th_n ?_
      refine wp_reg ?_
      refine st_iadd hf (by decide) rfl rfl rfl ?_
      clear hf; intro a ha hf; clear ha
      refine st_move hf rfl rfl (by decide) ?_
      clear hf; intro a ha hf; clear ha
      refine st_nil hf ?_
      obtain rfl := Option.some.inj h
      exact rnd_l ⟨hf.sub ⟨rfl, rfl, rfl, trivial⟩, hp⟩
    replace h := ifF h hb
    refine wp_exit ?_
    refine th_e ?_
    obtain rfl := Option.some.inj h
    exact rnd_r (by simp) ⟨rfl, hf.sub ⟨rfl, trivial⟩, hp⟩
  clear hl hf hp
  intro e a w hne hO
  obtain ⟨rfl, hf, hp⟩ := hO
  refine ib_same ?_
  refine th_n ?_
  refine wp_seq ?_
  refine wp_reg ?_
  refine st_move hf rfl rfl (by decide) ?_
  clear hf; intro a ha hf; clear ha
  refine st_assign hf rfl rfl (by decide) ?_
  clear hf; intro a ha hf; clear ha
  refine st_assign hf rfl rfl (by decide) ?_
  clear hf; intro a ha hf; clear ha
  refine st_nil hf ?_
  refine th_n ?_
  refine wp_ret ?_
  obtain rfl := Option.some.inj h
  exact ⟨rfl, ⟨hf.sub ⟨rfl, rfl, trivial⟩, hp⟩⟩

noncomputable def f_turns_Row.s1c (l0 : (List ((Fl × Fl) × Bool))) (qx5 : (List Int)) (marks6 : (List Bool)) (t20 : Int) : Option (((List Int) × (List Bool) × Int) ⊕ ((List Int) × (List Bool))) := (if (decide (t20 < (l0.length : Int))) = true then (if 0 ≤ t20 ∧ t20 < (l0.length : Int) then (if (!((gt l0 t20).2)) = true then ((f_turns_Near ((gt l0 t20).1)).bind fun q26 => (if 0 ≤ t20 ∧ t20 < (qx5.length : Int) then (if 0 ≤ t20 ∧ t20 < (marks6.length : Int) then (some (Sum.inl ((qx5.set (t20).toNat q26.1), (marks6.set (t20).toNat q26.2), (IntKind.i64.wrap (t20 + (1 : Int)))))) else none) else none)) else (some (Sum.inl (qx5, marks6, (IntKind.i64.wrap (t20 + (1 : Int))))))) else none) else (some (Sum.inr (qx5, marks6))))
noncomputable def f_turns_Row.s1 (l0 : (List ((Fl × Fl) × Bool))) (s : ((List Int) × (List Bool) × Int)) : Option (((List Int) × (List Bool) × Int) ⊕ ((List Int) × (List Bool))) := f_turns_Row.s1c l0 s.1 s.2.1 s.2.2
noncomputable def f_turns_Row (l0 : (List ((Fl × Fl) × Bool))) : Option ((List Int) × (List Bool) × Int) := (if (decide ((65536 : Int) < (l0.length : Int))) = true then (some ([], [], (1 : Int))) else (if 0 ≤ (l0.length : Int) ∧ (l0.length : Int) ≤ (l0.length : Int) ∧ (l0.length : Int) * 1 ≤ 281474976710656 then (if 0 ≤ (l0.length : Int) ∧ (l0.length : Int) ≤ (l0.length : Int) ∧ (l0.length : Int) * 1 ≤ 281474976710656 then ((loop (f_turns_Row.s1 l0) ((List.replicate ((l0.length : Int)).toNat (0 : Int)), (List.replicate ((l0.length : Int)).toNat false), (0 : Int))).bind (fun q30 => (some (q30.1, q30.2, (0 : Int))))) else none) else none))
theorem f_turns_Row_c {S : Nat → Prop} {w0 w : World} {ow : List Res} (hp : Hp S w0 w ow) (vl0 : Value) (l0 : (List ((Fl × Fl) × Bool))) (hl0 : RdS (Ek.pair Ek.c128 Ek.bool) S w0 vl0 l0) {r : ((List Int) × (List Bool) × Int)} (h : f_turns_Row l0 = some r) :
    Calls Try.prog 23 #[vl0] w (fun e w' => ∃ (u0 : Value) (u1 : Value), e = .returned (.tuple #[u0, u1, .int .i64 r.2.2]) ∧ Hp S w0 w' (Res.sl (Ek.int .u8) 5 u0 r.1 :: Res.sl Ek.bool 4 u1 r.2.1 :: ow)) := by
  unfold f_turns_Row at h
  refine enter (n := 43) (args := [vl0]) Try.func23 rfl rfl (Nat.le_of_ble_eq_true rfl) fun a hf => ?_
  replace hf : Fr 43 a [(0, vl0)] := hf
  refine wp_mono (Q := fun e a w => e = .ret ∧ ∃ (u0 : Value) (u1 : Value), Fr 43 a [(2, u0), (3, u1), (4, .int .i64 r.2.2)] ∧ Hp S w0 w (Res.sl (Ek.int .u8) 5 u0 r.1 :: Res.sl Ek.bool 4 u1 r.2.1 :: ow)) ?_ ?_
  rotate_left
  · rintro e a w ⟨rfl, x0, x1, hf, hp⟩
    exact ret3 hf rfl rfl rfl rfl ⟨x0, x1, rfl, hp⟩
  refine wp_seq ?_
  refine wp_reg ?_
  refine st_assign hf rfl rfl (by decide) ?_
  clear hf; intro a ha hf; clear ha
  refine st_assign hf rfl rfl (by decide) ?_
  clear hf; intro a ha hf; clear ha
  refine st_assign hf rfl rfl (by decide) ?_
  clear hf; intro a ha hf; clear ha
  refine st_nil hf ?_
  refine th_n ?_
  refine wp_seq ?_
  refine wp_seq ?_
  refine wp_reg ?_
  refine st_move hf rfl rfl (by decide) ?_
  clear hf; intro a ha hf; clear ha
  refine st_len (E := (Ek.pair Ek.c128 Ek.bool)) hf (by decide) Try.underlying42 rfl rfl (hl0.sl hp) ?_
  clear hf; intro a ha hf; clear ha
  refine st_igtr hf (by decide) rfl rfl rfl ?_
  clear hf; intro a ha hf; clear ha
  refine st_nil hf ?_
  refine th_n ?_
  refine wp_if hf rfl (fun hb => ?_) (fun hb => ?_)
  · replace h := ifT h hb
    refine wp_seq ?_
    refine wp_reg ?_
    refine st_assign hf rfl rfl (by decide) ?_
    clear hf; intro a ha hf; clear ha
    refine st_assign hf rfl rfl (by decide) ?_
    clear hf; intro a ha hf; clear ha
    refine st_assign hf rfl rfl (by decide) ?_
    clear hf; intro a ha hf; clear ha
    refine st_nil hf ?_
    refine th_n ?_
    refine wp_ret ?_
    refine th_r ?_
    obtain rfl := Option.some.inj h
    have hp := hp.nil (Ek.int .u8) 5
    have hp := hp.nil Ek.bool 4
    have hp : Hp _ _ _ (Res.sl (Ek.int .u8) 5 (.slice none 0 0) ([]) :: Res.sl Ek.bool 4 (.slice none 0 0) ([]) :: ow) := Hp.sel (pre := [Res.sl Ek.bool 4 (.slice none 0 0) ([]), Res.sl (Ek.int .u8) 5 (.slice none 0 0) ([])]) (tail := ow) (rs' := [Res.sl (Ek.int .u8) 5 (.slice none 0 0) ([]), Res.sl Ek.bool 4 (.slice none 0 0) ([])]) hp [1, 0] (by decide) (by simp) rfl
    exact ⟨rfl, ⟨_, _, hf.sub ⟨rfl, rfl, rfl, trivial⟩, hp⟩⟩
  replace h := ifF h hb
  refine wp_skip ?_
  refine th_n ?_
  refine wp_seq ?_
  obtain ⟨hc3, h⟩ := chk h
  obtain ⟨hc6, h⟩ := chk h
  refine wp_cutN (fun a w => ∃ (v4 : Value) (v7 : Value), Fr 43 a [(0, vl0), (5, v4), (6, v7)] ∧ Hp S w0 w (Res.sl Ek.bool 4 v7 (List.replicate ((l0.length : Int)).toNat false) :: Res.sl (Ek.int .u8) 5 v4 (List.replicate ((l0.length : Int)).toNat (0 : Int)) :: ow)) ?_ ?_
  · have hp := hp.same (Same.drew w)
    refine dr_begin' (fun a w => ∃ (v4 : Value) (v7 : Value), Fr 43 a [(0, vl0), (5, v4), (6, v7)] ∧ Hp S w0 w (Res.sl Ek.bool 4 v7 (List.replicate ((l0.length : Int)).toNat false) :: Res.sl (Ek.int .u8) 5 v4 (List.replicate ((l0.length : Int)).toNat (0 : Int)) :: ow)) (fun w' => ∃ l, Hp S w0 w' l) [] (by kernel_rfl) ?_
    refine dr_take 0 (vl0) rfl (by kernel_rfl) (by kernel_rfl) (by kernel_rfl) (by kernel_rfl) rfl rfl hf (by decide) rfl (fun w hp => ?_) ⟨_, hp⟩ ?_
    · obtain ⟨_, hp⟩ := hp
      refine st_move hf rfl rfl (by decide) ?_
      clear hf; intro a ha hf
      exact st_nil hf (th_n ⟨ha, rfl⟩)
    clear hf; intro a hf
    refine dr_take 1 (.int .i64 (l0.length : Int)) rfl (by kernel_rfl) (by kernel_rfl) (by kernel_rfl) (by kernel_rfl) rfl rfl hf (by decide) rfl (fun w hp => ?_) ⟨_, hp⟩ ?_
    · obtain ⟨_, hp⟩ := hp
      refine st_len (E := (Ek.pair Ek.c128 Ek.bool)) hf (by decide) Try.underlying42 rfl rfl (hl0.sl hp) ?_
      clear hf; intro a ha hf
      exact st_nil hf (th_n ⟨ha, rfl⟩)
    clear hf; intro a hf
    refine dr_take 3 (vl0) rfl (by kernel_rfl) (by kernel_rfl) (by kernel_rfl) (by kernel_rfl) rfl rfl hf (by decide) rfl (fun w hp => ?_) ⟨_, hp⟩ ?_
    · obtain ⟨_, hp⟩ := hp
      refine st_move hf rfl rfl (by decide) ?_
      clear hf; intro a ha hf
      exact st_nil hf (th_n ⟨ha, rfl⟩)
    clear hf; intro a hf
    refine dr_take 4 (.int .i64 (l0.length : Int)) rfl (by kernel_rfl) (by kernel_rfl) (by kernel_rfl) (by kernel_rfl) rfl rfl hf (by decide) rfl (fun w hp => ?_) ⟨_, hp⟩ ?_
    · obtain ⟨_, hp⟩ := hp
      refine st_len (E := (Ek.pair Ek.c128 Ek.bool)) hf (by decide) Try.underlying42 rfl rfl (hl0.sl hp) ?_
      clear hf; intro a ha hf
      exact st_nil hf (th_n ⟨ha, rfl⟩)
    clear hf; intro a hf
    refine dr_two 2 5 rfl rfl (by kernel_rfl) ?_ ?_
    · skip
      refine st_make (E := (Ek.int .u8)) hf (by decide) elt5 Try.underlying22 (by decide) hp rfl rfl rfl hc3.1 hc3.2.1 hc3.2.2 ?_
      clear hf; intro a w v4 hf hp0; clear hp; have hp := hp0; clear hp0
      replace hp : Hp _ _ _ (Res.sl (Ek.int .u8) 5 v4 (List.replicate ((l0.length : Int)).toNat (0 : Int)) :: ow) := hp
      refine st_nil hf (th_n ⟨fun _ _ => ⟨_, hp⟩, ?_⟩)
      refine dr_take 6 (v4) rfl (by kernel_rfl) (by kernel_rfl) (by kernel_rfl) (by kernel_rfl) rfl rfl hf (by decide) rfl (fun w hp => ?_) ⟨_, hp⟩ ?_
      · obtain ⟨_, hp⟩ := hp
        refine st_assign hf rfl rfl (by decide) ?_
        clear hf; intro a ha hf
        exact st_nil hf (th_n ⟨ha, rfl⟩)
      clear hf; intro a hf
      refine dr_one 5 rfl (by kernel_rfl) ?_
      refine st_make (E := Ek.bool) hf (by decide) elt4 Try.underlying27 (by decide) hp rfl rfl rfl hc6.1 hc6.2.1 hc6.2.2 ?_
      clear hf; intro a w v7 hf hp0; clear hp; have hp := hp0; clear hp0
      replace hp : Hp _ _ _ (Res.sl Ek.bool 4 v7 (List.replicate ((l0.length : Int)).toNat false) :: Res.sl (Ek.int .u8) 5 v4 (List.replicate ((l0.length : Int)).toNat (0 : Int)) :: ow) := hp
      refine st_nil hf (th_n ⟨fun _ _ => ⟨_, hp⟩, ?_⟩)
      refine dr_take 7 (v7) rfl (by kernel_rfl) (by kernel_rfl) (by kernel_rfl) (by kernel_rfl) rfl rfl hf (by decide) rfl (fun w hp => ?_) ⟨_, hp⟩ ?_
      · obtain ⟨_, hp⟩ := hp
        refine st_assign hf rfl rfl (by decide) ?_
        clear hf; intro a ha hf
        exact st_nil hf (th_n ⟨ha, rfl⟩)
      clear hf; intro a hf
      refine dr_end (by kernel_rfl) ?_ _
      exact ⟨v4, v7, hf.sub ⟨rfl, rfl, rfl, trivial⟩, hp⟩
    · skip
      refine st_make (E := Ek.bool) hf (by decide) elt4 Try.underlying27 (by decide) hp rfl rfl rfl hc6.1 hc6.2.1 hc6.2.2 ?_
      clear hf; intro a w v7 hf hp0; clear hp; have hp := hp0; clear hp0
      replace hp : Hp _ _ _ (Res.sl Ek.bool 4 v7 (List.replicate ((l0.length : Int)).toNat false) :: ow) := hp
      refine st_nil hf (th_n ⟨fun _ _ => ⟨_, hp⟩, ?_⟩)
      refine dr_one 2 rfl (by kernel_rfl) ?_
      refine st_make (E := (Ek.int .u8)) hf (by decide) elt5 Try.underlying22 (by decide) hp rfl rfl rfl hc3.1 hc3.2.1 hc3.2.2 ?_
      clear hf; intro a w v4 hf hp0; clear hp; have hp := hp0; clear hp0
      replace hp : Hp _ _ _ (Res.sl (Ek.int .u8) 5 v4 (List.replicate ((l0.length : Int)).toNat (0 : Int)) :: Res.sl Ek.bool 4 v7 (List.replicate ((l0.length : Int)).toNat false) :: ow) := hp
      refine st_nil hf (th_n ⟨fun _ _ => ⟨_, hp⟩, ?_⟩)
      refine dr_take 6 (v4) rfl (by kernel_rfl) (by kernel_rfl) (by kernel_rfl) (by kernel_rfl) rfl rfl hf (by decide) rfl (fun w hp => ?_) ⟨_, hp⟩ ?_
      · obtain ⟨_, hp⟩ := hp
        refine st_assign hf rfl rfl (by decide) ?_
        clear hf; intro a ha hf
        exact st_nil hf (th_n ⟨ha, rfl⟩)
      clear hf; intro a hf
      refine dr_take 7 (v7) rfl (by kernel_rfl) (by kernel_rfl) (by kernel_rfl) (by kernel_rfl) rfl rfl hf (by decide) rfl (fun w hp => ?_) ⟨_, hp⟩ ?_
      · obtain ⟨_, hp⟩ := hp
        refine st_assign hf rfl rfl (by decide) ?_
        clear hf; intro a ha hf
        exact st_nil hf (th_n ⟨ha, rfl⟩)
      clear hf; intro a hf
      refine dr_end (by kernel_rfl) ?_ _
      have hp : Hp _ _ _ (Res.sl Ek.bool 4 v7 (List.replicate ((l0.length : Int)).toNat false) :: Res.sl (Ek.int .u8) 5 v4 (List.replicate ((l0.length : Int)).toNat (0 : Int)) :: ow) := Hp.sel (pre := [Res.sl (Ek.int .u8) 5 v4 (List.replicate ((l0.length : Int)).toNat (0 : Int)), Res.sl Ek.bool 4 v7 (List.replicate ((l0.length : Int)).toNat false)]) (tail := ow) (rs' := [Res.sl Ek.bool 4 v7 (List.replicate ((l0.length : Int)).toNat false), Res.sl (Ek.int .u8) 5 v4 (List.replicate ((l0.length : Int)).toNat (0 : Int))]) hp [1, 0] (by decide) (by simp) rfl
      exact ⟨v4, v7, hf.sub ⟨rfl, rfl, rfl, trivial⟩, hp⟩
  rintro a w ⟨v4, v7, hf, hp⟩
  refine th_n ?_
  refine wp_seq ?_
  refine wp_seq ?_
  refine wp_reg ?_
  refine st_move hf rfl rfl (by decide) ?_
  clear hf; intro a ha hf; clear ha
  refine st_len (E := (Ek.pair Ek.c128 Ek.bool)) hf (by decide) Try.underlying42 rfl rfl (hl0.sl hp) ?_
  clear hf; intro a ha hf; clear ha
  refine st_move hf rfl rfl (by decide) ?_
  clear hf; intro a ha hf; clear ha
  refine st_nil hf ?_
  refine th_n ?_
  refine wp_block ?_
  obtain ⟨q30, hl, h⟩ := bnd h
  have hp : Hp _ _ _ (Res.sl (Ek.int .u8) 5 v4 (List.replicate ((l0.length : Int)).toNat (0 : Int)) :: Res.sl Ek.bool 4 v7 (List.replicate ((l0.length : Int)).toNat false) :: ow) := Hp.sel (pre := [Res.sl Ek.bool 4 v7 (List.replicate ((l0.length : Int)).toNat false), Res.sl (Ek.int .u8) 5 v4 (List.replicate ((l0.length : Int)).toNat (0 : Int))]) (tail := ow) (rs' := [Res.sl (Ek.int .u8) 5 v4 (List.replicate ((l0.length : Int)).toNat (0 : Int)), Res.sl Ek.bool 4 v7 (List.replicate ((l0.length : Int)).toNat false)]) hp [1, 0] (by decide) (by simp) rfl
  refine wp_loop_pure (f := (f_turns_Row.s1 l0)) (s := ((List.replicate ((l0.length : Int)).toNat (0 : Int)), (List.replicate ((l0.length : Int)).toNat false), (0 : Int))) (fun s a w => ∃ (v9 : Value) (v11 : Value), Fr 43 a [(5, v9), (6, v11), (18, vl0), (19, .int .i64 (l0.length : Int)), (20, .int .i64 s.2.2)] ∧ Hp S w0 w (Res.sl (Ek.int .u8) 5 v9 s.1 :: Res.sl Ek.bool 4 v11 s.2.1 :: ow)) (fun q e a w => e = .exit 0 ∧ ∃ (v13 : Value) (v15 : Value), Fr 43 a [(5, v13), (6, v15)] ∧ Hp S w0 w (Res.sl (Ek.int .u8) 5 v13 q.1 :: Res.sl Ek.bool 4 v15 q.2 :: ow)) ?_ hl ⟨_, _, hf.sub ⟨rfl, rfl, rfl, rfl, rfl, trivial⟩, hp⟩ ?_
  · clear hl hf hp
    intro s x a w h hI
    obtain ⟨qx5, marks6, t20⟩ := s
    obtain ⟨v9, v11, hf, hp⟩ : ∃ (v9 : Value) (v11 : Value), Fr 43 a [(5, v9), (6, v11), (18, vl0), (19, .int .i64 (l0.length : Int)), (20, .int .i64 t20)] ∧ Hp S w0 w (Res.sl (Ek.int .u8) 5 v9 qx5 :: Res.sl Ek.bool 4 v11 marks6 :: ow) := hI
    replace h : f_turns_Row.s1c l0 qx5 marks6 t20 = some x := h
    unfold f_turns_Row.s1c at h
    refine wp_seq ?_
    refine wp_reg ?_
    refine st_ilss hf (by decide) rfl rfl rfl ?_
    clear hf; intro a ha hf; clear ha
    refine st_nil hf ?_
    refine th_n ?_
    refine wp_seq ?_
    refine wp_if hf rfl (fun hb => ?_) (fun hb => ?_)
    · replace h := ifT h hb
      refine wp_skip ?_
      refine th_n ?_
      refine wp_seq ?_
      refine wp_block ?_
      refine wp_seq ?_
      refine wp_reg ?_
      refine st_move hf rfl rfl (by decide) ?_
      clear hf; intro a ha hf; clear ha
      obtain ⟨hc17, h⟩ := chk h
      refine st_index (E := (Ek.pair Ek.c128 Ek.bool)) hf (by decide) Try.underlying42 elt51 rfl rfl rfl (hl0.sl hp) hc17.1 hc17.2 ?_
      clear hf; intro a ha hf; clear ha
      refine st_ldQA (F := (Ek.pair Ek.c128 Ek.bool)) (yv := (gt l0 t20)) (m := 2) hf (by decide) (by kernel_rfl) rfl rfl rfl (Part.whole (hl0.sl hp) hc17.1 hc17.2) ?_
      clear hf; intro a cs18 hr19 ha hf; clear ha
      obtain ⟨_, _, rfl, ⟨bb20, bb21, rfl, y22, y23⟩, rfl⟩ := hr19
      replace hf : Fr _ _ ((24, .agg #[.complex .f64 bb20 bb21, .bool ((gt l0 t20).2)]) :: _) := hf
      refine st_alloc (cs := [.complex .f64 0 0, .bool false]) (zv := .agg #[.complex .f64 0 0, .bool false]) hf (by decide) (by kernel_rfl) rfl hp rfl ?_
      clear hf; intro a w v24 hf hp0; clear hp; have hp := hp0; clear hp0
      replace hp : Hp _ _ _ (Res.obj 51 v24 [.complex .f64 0 0, .bool false] :: Res.sl (Ek.int .u8) 5 v9 qx5 :: Res.sl Ek.bool 4 v11 marks6 :: ow) := hp
      refine st_assign hf rfl rfl (by decide) ?_
      clear hf; intro a ha hf; clear ha
      refine st_stO (us := [.complex .f64 bb20 bb21, .bool ((gt l0 t20).2)]) hf hp (i := 0) rfl rfl rfl rfl rfl (by rfl) (by kernel_rfl) (Nat.le_of_ble_eq_true rfl) ?_
      clear hf; intro a w hf hp0; clear hp; have hp := hp0; clear hp0
      replace hp : Hp _ _ _ (Res.obj 51 v24 [.complex .f64 bb20 bb21, .bool ((gt l0 t20).2)] :: Res.sl (Ek.int .u8) 5 v9 qx5 :: Res.sl Ek.bool 4 v11 marks6 :: ow) := hp
      refine st_nil hf ?_
      refine th_n ?_
      refine wp_seq ?_
      refine wp_reg ?_
      refine st_fa (o' := 1) hf (by decide) (off := 1) (sz := 1) (by kernel_rfl) (by decide) rfl rfl (hp.ob (i := 0) rfl) rfl ?_
      clear hf; intro a ha hf; clear ha
      refine st_ldO (u := .bool ((gt l0 t20).2)) hf (by decide) pl4 rfl rfl (hp.ob (i := 0) rfl) rfl ?_
      clear hf; intro a ha hf; clear ha
      refine st_not hf (by decide) rfl rfl ?_
      clear hf; intro a ha hf; clear ha
      refine st_nil hf ?_
      refine th_n ?_
      refine wp_if hf rfl (fun hb => ?_) (fun hb => ?_)
      · replace h := ifT h hb
        refine wp_reg ?_
        refine st_move hf rfl rfl (by decide) ?_
        clear hf; intro a ha hf; clear ha
        refine st_move hf rfl rfl (by decide) ?_
        clear hf; intro a ha hf; clear ha
        refine st_move hf rfl rfl (by decide) ?_
        clear hf; intro a ha hf; clear ha
        refine st_move hf rfl rfl (by decide) ?_
        clear hf; intro a ha hf; clear ha
        refine st_fa (o' := 0) hf (by decide) (off := 0) (sz := 1) (by kernel_rfl) (by decide) rfl rfl (hp.ob (i := 0) rfl) rfl ?_
        clear hf; intro a ha hf; clear ha
        refine st_ldO (u := .complex .f64 bb20 bb21) hf (by decide) pl49 rfl rfl (hp.ob (i := 0) rfl) rfl ?_
        clear hf; intro a ha hf; clear ha
        obtain ⟨q26, hcall27, h⟩ := bnd h
        refine st_call hf (by decide) Try.func26 rfl rfl rfl rfl rfl (f_turns_Near_c hp _ _ _ (show Fl.rep bb20 ((gt l0 t20).1).1 from y22) (show Fl.rep bb21 ((gt l0 t20).1).2 from y23) hcall27) ?_
        rintro _ w ⟨rfl, hp0⟩
        clear hp; have hp := hp0; clear hp0
        replace hp : Hp _ _ _ (Res.obj 51 v24 [.complex .f64 bb20 bb21, .bool ((gt l0 t20).2)] :: Res.sl (Ek.int .u8) 5 v9 qx5 :: Res.sl Ek.bool 4 v11 marks6 :: ow) := hp
        refine ⟨_, rfl, ?_⟩
        clear hf; intro a hf
        refine st_move hf rfl rfl (by decide) ?_
        clear hf; intro a ha hf; clear ha
        refine st_extract hf (by decide) rfl rfl rfl ?_
        clear hf; intro a ha hf; clear ha
        refine st_extract hf (by decide) rfl rfl rfl ?_
        clear hf; intro a ha hf; clear ha
        obtain ⟨hc28, h⟩ := chk h
        refine st_index (E := (Ek.int .u8)) hf (by decide) Try.underlying22 elt5 rfl rfl rfl (hp.sl (i := 1) rfl) hc28.1 hc28.2 ?_
        clear hf; intro a ha hf; clear ha
        refine st_store (E := (Ek.int .u8)) hf elt5 hp (i := 1) rfl rfl rfl rfl rfl hc28.1 hc28.2 ?_
        clear hf; intro a w hf hp0; clear hp; have hp := hp0; clear hp0
        replace hp : Hp _ _ _ (Res.obj 51 v24 [.complex .f64 bb20 bb21, .bool ((gt l0 t20).2)] :: Res.sl (Ek.int .u8) 5 v9 (qx5.set (t20).toNat q26.1) :: Res.sl Ek.bool 4 v11 marks6 :: ow) := hp
        obtain ⟨hc29, h⟩ := chk h
        refine st_index (E := Ek.bool) hf (by decide) Try.underlying27 elt4 rfl rfl rfl (hp.sl (i := 2) rfl) hc29.1 hc29.2 ?_
        clear hf; intro a ha hf; clear ha
        refine st_store (E := Ek.bool) hf elt4 hp (i := 2) rfl rfl rfl rfl rfl hc29.1 hc29.2 ?_
        clear hf; intro a w hf hp0; clear hp; have hp := hp0; clear hp0
        replace hp : Hp _ _ _ (Res.obj 51 v24 [.complex .f64 bb20 bb21, .bool ((gt l0 t20).2)] :: Res.sl (Ek.int .u8) 5 v9 (qx5.set (t20).toNat q26.1) :: Res.sl Ek.bool 4 v11 (marks6.set (t20).toNat q26.2) :: ow) := hp
        refine st_nil hf ?_
        refine ib_n ?_
        refine th_n ?_
        refine wp_reg ?_
        refine st_iadd hf (by decide) rfl rfl rfl ?_
        clear hf; intro a ha hf; clear ha
        refine st_move hf rfl rfl (by decide) ?_
        clear hf; intro a ha hf; clear ha
        refine st_nil hf ?_
        obtain rfl := Option.some.inj h
        have hp : Hp _ _ _ (Res.sl (Ek.int .u8) 5 v9 (qx5.set (t20).toNat q26.1) :: Res.sl Ek.bool 4 v11 (marks6.set (t20).toNat q26.2) :: ow) := Hp.sel (pre := [Res.obj 51 v24 [.complex .f64 bb20 bb21, .bool ((gt l0 t20).2)], Res.sl (Ek.int .u8) 5 v9 (qx5.set (t20).toNat q26.1), Res.sl Ek.bool 4 v11 (marks6.set (t20).toNat q26.2)]) (tail := ow) (rs' := [Res.sl (Ek.int .u8) 5 v9 (qx5.set (t20).toNat q26.1), Res.sl Ek.bool 4 v11 (marks6.set (t20).toNat q26.2)]) hp [1, 2] (by decide) (by simp) rfl
        exact rnd_l ⟨_, _, hf.sub ⟨rfl, rfl, rfl, rfl, rfl, trivial⟩, hp⟩
      replace h := ifF h hb
      refine wp_skip ?_
      refine ib_n ?_
      refine th_n ?_
      refine wp_reg ?_
      refine st_iadd hf (by decide) rfl rfl rfl ?_
      clear hf; intro a ha hf; clear ha
      refine st_move hf rfl rfl (by decide) ?_
      clear hf; intro a ha hf; clear ha
      refine st_nil hf ?_
      obtain rfl := Option.some.inj h
      have hp : Hp _ _ _ (Res.sl (Ek.int .u8) 5 v9 qx5 :: Res.sl Ek.bool 4 v11 marks6 :: ow) := Hp.sel (pre := [Res.obj 51 v24 [.complex .f64 bb20 bb21, .bool ((gt l0 t20).2)], Res.sl (Ek.int .u8) 5 v9 qx5, Res.sl Ek.bool 4 v11 marks6]) (tail := ow) (rs' := [Res.sl (Ek.int .u8) 5 v9 qx5, Res.sl Ek.bool 4 v11 marks6]) hp [1, 2] (by decide) (by simp) rfl
      exact rnd_l ⟨_, _, hf.sub ⟨rfl, rfl, rfl, rfl, rfl, trivial⟩, hp⟩
    replace h := ifF h hb
    refine wp_exit ?_
    refine th_e ?_
    obtain rfl := Option.some.inj h
    exact rnd_r (by simp) ⟨rfl, _, _, hf.sub ⟨rfl, rfl, trivial⟩, hp⟩
  clear hl hf hp
  intro e a w hne hO
  obtain ⟨rfl, v13, v15, hf, hp⟩ := hO
  refine ib_same ?_
  refine th_n ?_
  refine wp_seq ?_
  refine wp_reg ?_
  refine st_move hf rfl rfl (by decide) ?_
  clear hf; intro a ha hf; clear ha
  refine st_move hf rfl rfl (by decide) ?_
  clear hf; intro a ha hf; clear ha
  refine st_assign hf rfl rfl (by decide) ?_
  clear hf; intro a ha hf; clear ha
  refine st_assign hf rfl rfl (by decide) ?_
  clear hf; intro a ha hf; clear ha
  refine st_assign hf rfl rfl (by decide) ?_
  clear hf; intro a ha hf; clear ha
  refine st_nil hf ?_
  refine th_n ?_
  refine wp_ret ?_
  obtain rfl := Option.some.inj h
  exact ⟨rfl, ⟨_, _, hf.sub ⟨rfl, rfl, rfl, trivial⟩, hp⟩⟩

noncomputable def f_foghornref06_Near.s1c (zx0 : (Fl × Fl)) (best7 : Int) (i8 : Int) : Option ((Int × Int) ⊕ Int) := (if (decide (i8 < (4 : Int))) = true then (if 0 ≤ i8 ∧ i8 < (([zx0.1, zx0.2, (fneg zx0.1), (fneg zx0.2)]).length : Int) then (if 0 ≤ best7 ∧ best7 < (([zx0.1, zx0.2, (fneg zx0.1), (fneg zx0.2)]).length : Int) then (if (fgt (gt ([zx0.1, zx0.2, (fneg zx0.1), (fneg zx0.2)]) i8) (gt ([zx0.1, zx0.2, (fneg zx0.1), (fneg zx0.2)]) best7)) = true then (some (Sum.inl (i8, (IntKind.i64.wrap (i8 + (1 : Int)))))) else (some (Sum.inl (best7, (IntKind.i64.wrap (i8 + (1 : Int))))))) else none) else none) else (some (Sum.inr best7)))
noncomputable def f_foghornref06_Near.s1 (zx0 : (Fl × Fl)) (s : (Int × Int)) : Option ((Int × Int) ⊕ Int) := f_foghornref06_Near.s1c zx0 s.1 s.2
noncomputable def f_foghornref06_Near (zx0 : (Fl × Fl)) : Option (Int × Bool) := (if (((fne zx0.1 zx0.1) || (fne zx0.2 zx0.2)) || ((feq zx0.1 (Fl.bits 0)) && (feq zx0.2 (Fl.bits 0)))) = true then (some ((0 : Int), false)) else ((loop (f_foghornref06_Near.s1 zx0) ((0 : Int), (1 : Int))).bind (fun q23 => (some ((IntKind.u8.wrap q23), true)))))
theorem f_foghornref06_Near_c {S : Nat → Prop} {w0 w : World} {ow : List Res} (hp : Hp S w0 w ow) (bzx0 czx0 : Nat) (zx0 : Fl × Fl) (hzx0 : zx0.1.rep bzx0) (kzx0 : zx0.2.rep czx0) {r : (Int × Bool)} (h : f_foghornref06_Near zx0 = some r) :
    Calls Try.prog 27 #[.complex .f64 bzx0 czx0] w (fun e w' => e = .returned (.tuple #[.int .u8 r.1, .bool r.2]) ∧ Hp S w0 w' (ow)) := by
  unfold f_foghornref06_Near at h
  refine enter (n := 52) (args := [.complex .f64 bzx0 czx0]) Try.func27 rfl rfl (Nat.le_of_ble_eq_true rfl) fun a hf => ?_
  replace hf : Fr 52 a [(0, .complex .f64 bzx0 czx0)] := hf
  refine wp_mono (Q := fun e a w => e = .ret ∧ Fr 52 a [(2, .int .u8 r.1), (3, .bool r.2)] ∧ Hp S w0 w (ow)) ?_ ?_
  rotate_left
  · rintro e a w ⟨rfl, hf, hp⟩
    exact ret2 hf rfl rfl rfl ⟨rfl, hp⟩
  refine wp_seq ?_
  refine wp_reg ?_
  refine st_assign hf rfl rfl (by decide) ?_
  clear hf; intro a ha hf; clear ha
  refine st_assign hf rfl rfl (by decide) ?_
  clear hf; intro a ha hf; clear ha
  refine st_nil hf ?_
  refine th_n ?_
  refine wp_seq ?_
  refine wp_reg ?_
  refine st_move hf rfl rfl (by decide) ?_
  clear hf; intro a ha hf; clear ha
  refine st_real hf (by decide) rfl rfl ?_
  clear hf; intro a ha hf; clear ha
  refine st_assign hf rfl rfl (by decide) ?_
  clear hf; intro a ha hf; clear ha
  refine st_nil hf ?_
  refine th_n ?_
  refine wp_seq ?_
  refine wp_reg ?_
  refine st_move hf rfl rfl (by decide) ?_
  clear hf; intro a ha hf; clear ha
  refine st_imag hf (by decide) rfl rfl ?_
  clear hf; intro a ha hf; clear ha
  refine st_assign hf rfl rfl (by decide) ?_
  clear hf; intro a ha hf; clear ha
  refine st_nil hf ?_
  refine th_n ?_
  refine wp_seq ?_
  refine wp_seq ?_
  refine wp_reg ?_
  refine st_move hf rfl rfl (by decide) ?_
  clear hf; intro a ha hf; clear ha
  refine st_move hf rfl rfl (by decide) ?_
  clear hf; intro a ha hf; clear ha
  refine st_fcmp (r_fne (fx := zx0.1) (fy := zx0.1) hzx0 hzx0) hf (by decide) rfl rfl rfl ?_
  clear hf; intro a ha hf; clear ha
  refine st_move hf rfl rfl (by decide) ?_
  clear hf; intro a ha hf; clear ha
  refine wpList_cut 4 (fun a w => Fr 52 a [(4, .float .f64 bzx0), (5, .float .f64 czx0), (20, .bool ((fne zx0.1 zx0.1) || (fne zx0.2 zx0.2)))] ∧ Hp S w0 w (ow)) ?_ ?_
  · rcases Bool.eq_false_or_eq_true (fne zx0.1 zx0.1) with hb2 | hb2
    · skip
      refine st_skip hf (wantN hf rfl rfl hb2) rfl (by decide) ?_ rfl
      clear hf; intro a hf
      refine st_skip hf (wantN hf rfl rfl hb2) rfl (by decide) ?_ rfl
      clear hf; intro a hf
      refine st_skip hf (wantN hf rfl rfl hb2) rfl (by decide) ?_ rfl
      clear hf; intro a hf
      refine st_pick (v := .bool true) hf rfl rfl (fun hb' => ?_) (fun hb' => ?_) (by decide) ?_
      · rfl
      · exact absurd (hb2.symm.trans hb') (by decide)
      clear hf; intro a ha hf; clear ha
      refine st_nil hf (th_n ?_)
      exact ⟨hf.sub ⟨rfl, rfl, (by rw [hb2]; rfl), trivial⟩, hp⟩
    refine st_move hf (wantY hf rfl rfl hb2) rfl (by decide) ?_
    clear hf; intro a ha hf; clear ha
    refine st_move hf (wantY hf rfl rfl hb2) rfl (by decide) ?_
    clear hf; intro a ha hf; clear ha
    refine st_fcmp (r_fne (fx := zx0.2) (fy := zx0.2) kzx0 kzx0) hf (by decide) (wantY hf rfl rfl hb2) rfl rfl ?_
    clear hf; intro a ha hf; clear ha
    refine st_pick (v := .bool (fne zx0.2 zx0.2)) hf rfl rfl (fun hb' => ?_) (fun hb' => ?_) (by decide) ?_
    · exact absurd (hb2.symm.trans hb') (by decide)
    · rfl
    clear hf; intro a ha hf; clear ha
    refine st_nil hf (th_n ?_)
    exact ⟨hf.sub ⟨rfl, rfl, (by rw [hb2]; rfl), trivial⟩, hp⟩
  rintro a w ⟨hf, hp⟩
  refine st_move hf rfl rfl (by decide) ?_
  clear hf; intro a ha hf; clear ha
  refine wpList_cut 7 (fun a w => Fr 52 a [(4, .float .f64 bzx0), (5, .float .f64 czx0), (28, .bool (((fne zx0.1 zx0.1) || (fne zx0.2 zx0.2)) || ((feq zx0.1 (Fl.bits 0)) && (feq zx0.2 (Fl.bits 0)))))] ∧ Hp S w0 w (ow)) ?_ ?_
  · rcases Bool.eq_false_or_eq_true ((fne zx0.1 zx0.1) || (fne zx0.2 zx0.2)) with hb4 | hb4
    · skip
      refine st_skip hf (wantN hf rfl rfl hb4) rfl (by decide) ?_ rfl
      clear hf; intro a hf
      refine st_skip hf (wantN hf rfl rfl hb4) rfl (by decide) ?_ rfl
      clear hf; intro a hf
      refine st_skipU hf (wantN hf rfl rfl hb4) rfl (by decide) ?_
      clear hf; intro a hf
      refine st_skip hf (wantU hf rfl rfl) rfl (by decide) ?_ rfl
      clear hf; intro a hf
      refine st_skip hf (wantU hf rfl rfl) rfl (by decide) ?_ rfl
      clear hf; intro a hf
      refine st_skip hf (wantN hf rfl rfl hb4) rfl (by decide) ?_ rfl
      clear hf; intro a hf
      refine st_pick (v := .bool true) hf rfl rfl (fun hb' => ?_) (fun hb' => ?_) (by decide) ?_
      · rfl
      · exact absurd (hb4.symm.trans hb') (by decide)
      clear hf; intro a ha hf; clear ha
      refine st_nil hf (th_n ?_)
      exact ⟨hf.sub ⟨rfl, rfl, (by rw [hb4]; rfl), trivial⟩, hp⟩
    refine st_move hf (wantY hf rfl rfl hb4) rfl (by decide) ?_
    clear hf; intro a ha hf; clear ha
    refine st_fcmp (r_feq (fx := zx0.1) (fy := (Fl.bits 0)) hzx0 rfl) hf (by decide) (wantY hf rfl rfl hb4) rfl rfl ?_
    clear hf; intro a ha hf; clear ha
    refine st_move hf (wantY hf rfl rfl hb4) rfl (by decide) ?_
    clear hf; intro a ha hf; clear ha
    refine wpList_cut 3 (fun a w => Fr 52 a [(4, .float .f64 bzx0), (5, .float .f64 czx0), (21, .bool ((fne zx0.1 zx0.1) || (fne zx0.2 zx0.2))), (27, .bool ((feq zx0.1 (Fl.bits 0)) && (feq zx0.2 (Fl.bits 0))))] ∧ Hp S w0 w (ow)) ?_ ?_
    · rcases Bool.eq_false_or_eq_true (feq zx0.1 (Fl.bits 0)) with hb6 | hb6
      · skip
        refine st_move hf (wantY hf rfl rfl hb6) rfl (by decide) ?_
        clear hf; intro a ha hf; clear ha
        refine st_fcmp (r_feq (fx := zx0.2) (fy := (Fl.bits 0)) kzx0 rfl) hf (by decide) (wantY hf rfl rfl hb6) rfl rfl ?_
        clear hf; intro a ha hf; clear ha
        refine st_pick (v := .bool (feq zx0.2 (Fl.bits 0))) hf (wantY hf rfl rfl hb4) rfl (fun hb' => ?_) (fun hb' => ?_) (by decide) ?_
        · rfl
        · exact absurd (hb6.symm.trans hb') (by decide)
        clear hf; intro a ha hf; clear ha
        refine st_nil hf (th_n ?_)
        exact ⟨hf.sub ⟨rfl, rfl, rfl, (by rw [hb6]; rfl), trivial⟩, hp⟩
      refine st_skip hf (wantN hf rfl rfl hb6) rfl (by decide) ?_ rfl
      clear hf; intro a hf
      refine st_skip hf (wantN hf rfl rfl hb6) rfl (by decide) ?_ rfl
      clear hf; intro a hf
      refine st_pick (v := .bool false) hf (wantY hf rfl rfl hb4) rfl (fun hb' => ?_) (fun hb' => ?_) (by decide) ?_
      · exact absurd (hb6.symm.trans hb') (by decide)
      · rfl
      clear hf; intro a ha hf; clear ha
      refine st_nil hf (th_n ?_)
      exact ⟨hf.sub ⟨rfl, rfl, rfl, (by rw [hb6]; rfl), trivial⟩, hp⟩
    rintro a w ⟨hf, hp⟩
    refine st_pick (v := .bool ((feq zx0.1 (Fl.bits 0)) && (feq zx0.2 (Fl.bits 0)))) hf rfl rfl (fun hb' => ?_) (fun hb' => ?_) (by decide) ?_
    · exact absurd (hb4.symm.trans hb') (by decide)
    · rfl
    clear hf; intro a ha hf; clear ha
    refine st_nil hf (th_n ?_)
    exact ⟨hf.sub ⟨rfl, rfl, (by rw [hb4]; rfl), trivial⟩, hp⟩
  rintro a w ⟨hf, hp⟩
  refine st_nil hf ?_
  refine th_n ?_
  refine wp_if hf rfl (fun hb => ?_) (fun hb => ?_)
  · replace h := ifT h hb
    refine wp_seq ?_
    refine wp_reg ?_
    refine st_assign hf rfl rfl (by decide) ?_
    clear hf; intro a ha hf; clear ha
    refine st_assign hf rfl rfl (by decide) ?_
    clear hf; intro a ha hf; clear ha
    refine st_nil hf ?_
    refine th_n ?_
    refine wp_ret ?_
    refine th_r ?_
    obtain rfl := Option.some.inj h
    exact ⟨rfl, ⟨hf.sub ⟨rfl, rfl, trivial⟩, hp⟩⟩
  replace h := ifF h hb
  refine wp_skip ?_
  refine th_n ?_
  refine wp_seq ?_
  refine wp_reg ?_
  refine st_move hf rfl rfl (by decide) ?_
  clear hf; intro a ha hf; clear ha
  refine st_move hf rfl rfl (by decide) ?_
  clear hf; intro a ha hf; clear ha
  refine st_move hf rfl rfl (by decide) ?_
  clear hf; intro a ha hf; clear ha
  refine st_fneg hf (by decide) rfl rfl ?_
  clear hf; intro a ha hf; clear ha
  refine st_move hf rfl rfl (by decide) ?_
  clear hf; intro a ha hf; clear ha
  refine st_fneg hf (by decide) rfl rfl ?_
  clear hf; intro a ha hf; clear ha
  refine st_build (E := Ek.f64) (xs := [zx0.1, zx0.2, (fneg zx0.1), (fneg zx0.2)]) hf (by decide) elt37 Try.underlying80 hp (vals := #[(0, .float .f64 bzx0), (1, .float .f64 czx0), (2, .float .f64 (Op.negFloat .f64 bzx0)), (3, .float .f64 (Op.negFloat .f64 czx0))]) (cells := #[.float .f64 bzx0, .float .f64 czx0, .float .f64 (Op.negFloat .f64 bzx0), .float .f64 (Op.negFloat .f64 czx0)]) rfl (by simp [hf.ev (x := (Operand.tmp 29)) rfl, hf.ev (x := (Operand.tmp 30)) rfl, hf.ev (x := (Operand.tmp 32)) rfl, hf.ev (x := (Operand.tmp 34)) rfl]) (by decide) (by decide) (z := .float .f64 0) (by kernel_rfl) (by kernel_rfl) rfl (reps_cons (cs := [.float .f64 bzx0]) (show Ek.f64.rep [.float .f64 bzx0] zx0.1 from ⟨_, rfl, hzx0⟩) (reps_cons (cs := [.float .f64 czx0]) (show Ek.f64.rep [.float .f64 czx0] zx0.2 from ⟨_, rfl, kzx0⟩) (reps_cons (cs := [.float .f64 (Op.negFloat .f64 bzx0)]) (show Ek.f64.rep [.float .f64 (Op.negFloat .f64 bzx0)] (fneg zx0.1) from ⟨_, rfl, (fneg_rep hzx0)⟩) (reps_cons (cs := [.float .f64 (Op.negFloat .f64 czx0)]) (show Ek.f64.rep [.float .f64 (Op.negFloat .f64 czx0)] (fneg zx0.2) from ⟨_, rfl, (fneg_rep kzx0)⟩) (reps_nil _))))) ?_
  clear hf; intro a w v7 hf hp0; clear hp; have hp := hp0; clear hp0
  replace hp : Hp _ _ _ (Res.sl Ek.f64 37 v7 ([zx0.1, zx0.2, (fneg zx0.1), (fneg zx0.2)]) :: ow) := hp
  refine st_assign hf rfl rfl (by decide) ?_
  clear hf; intro a ha hf; clear ha
  refine st_nil hf ?_
  refine th_n ?_
  refine wp_seq ?_
  refine wp_reg ?_
  refine st_assign hf rfl rfl (by decide) ?_
  clear hf; intro a ha hf; clear ha
  refine st_nil hf ?_
  refine th_n ?_
  refine wp_seq ?_
  refine wp_seq ?_
  refine wp_reg ?_
  refine st_assign hf rfl rfl (by decide) ?_
  clear hf; intro a ha hf; clear ha
  refine st_nil hf ?_
  refine th_n ?_
  refine wp_block ?_
  obtain ⟨q23, hl, h⟩ := bnd h
  refine wp_loop_pure (f := (f_foghornref06_Near.s1 zx0)) (s := ((0 : Int), (1 : Int))) (fun s a w => Fr 52 a [(6, v7), (7, .int .i64 s.1), (8, .int .i64 s.2)] ∧ Hp S w0 w (Res.sl Ek.f64 37 v7 ([zx0.1, zx0.2, (fneg zx0.1), (fneg zx0.2)]) :: ow)) (fun q e a w => e = .exit 0 ∧ Fr 52 a [(7, .int .i64 q)] ∧ Hp S w0 w (ow)) ?_ hl ⟨hf.sub ⟨rfl, rfl, rfl, trivial⟩, hp⟩ ?_
  · clear hl hf hp
    intro s x a w h hI
    obtain ⟨best7, i8⟩ := s
    obtain ⟨hf, hp⟩ : Fr 52 a [(6, v7), (7, .int .i64 best7), (8, .int .i64 i8)] ∧ Hp S w0 w (Res.sl Ek.f64 37 v7 ([zx0.1, zx0.2, (fneg zx0.1), (fneg zx0.2)]) :: ow) := hI
    replace h : f_foghornref06_Near.s1c zx0 best7 i8 = some x := h
    unfold f_foghornref06_Near.s1c at h
    refine wp_seq ?_
    refine wp_seq ?_
    refine wp_reg ?_
    refine st_move hf rfl rfl (by decide) ?_
    clear hf; intro a ha hf; clear ha
    refine st_ilss hf (by decide) rfl rfl rfl ?_
    clear hf; intro a ha hf; clear ha
    refine st_nil hf ?_
    refine th_n ?_
    refine wp_if hf rfl (fun hb => ?_) (fun hb => ?_)
    · replace h := ifT h hb
      refine wp_skip ?_
      refine th_n ?_
      refine wp_seq ?_
      refine wp_block ?_
      refine wp_seq ?_
      obtain ⟨S9, hp10, rd11, up12, bk13⟩ := Hp.lendS hp (i := 0) rfl
      have rl14 := rd11
      obtain ⟨hc15, h⟩ := chk h
      obtain ⟨bb17, y18, hl16⟩ := RdS.pinF (p := i8) rl14 hc15.1 hc15.2
      obtain ⟨hc19, h⟩ := chk h
      obtain ⟨bb21, y22, hl20⟩ := RdS.pinF (p := best7) rl14 hc19.1 hc19.2
      refine wp_cutN (fun a w => Fr 52 a [(6, v7), (7, .int .i64 best7), (8, .int .i64 i8), (48, .bool (fgt (gt ([zx0.1, zx0.2, (fneg zx0.1), (fneg zx0.2)]) i8) (gt ([zx0.1, zx0.2, (fneg zx0.1), (fneg zx0.2)]) best7)))] ∧ Hp S w0 w (Res.sl Ek.f64 37 v7 ([zx0.1, zx0.2, (fneg zx0.1), (fneg zx0.2)]) :: ow)) ?_ ?_
      · have hp := hp10.same (Same.drew w)
        refine dr_begin' (fun a w => Fr 52 a [(6, v7), (7, .int .i64 best7), (8, .int .i64 i8), (48, .bool (fgt (gt ([zx0.1, zx0.2, (fneg zx0.1), (fneg zx0.2)]) i8) (gt ([zx0.1, zx0.2, (fneg zx0.1), (fneg zx0.2)]) best7)))] ∧ Hp S w0 w (Res.sl Ek.f64 37 v7 ([zx0.1, zx0.2, (fneg zx0.1), (fneg zx0.2)]) :: ow)) (fun w' => ∃ l, Hp S9 w w' l) [] (by kernel_rfl) ?_
        refine dr_take 0 (v7) rfl (by kernel_rfl) (by kernel_rfl) (by kernel_rfl) (by kernel_rfl) rfl rfl hf (by decide) rfl (fun w hp => ?_) ⟨_, hp⟩ ?_
        · obtain ⟨_, hp⟩ := hp
          refine st_move hf rfl rfl (by decide) ?_
          clear hf; intro a ha hf
          exact st_nil hf (th_n ⟨ha, rfl⟩)
        clear hf; intro a hf
        refine dr_take 1 (.int .i64 i8) rfl (by kernel_rfl) (by kernel_rfl) (by kernel_rfl) (by kernel_rfl) rfl rfl hf (by decide) rfl (fun w hp => ?_) ⟨_, hp⟩ ?_
        · obtain ⟨_, hp⟩ := hp
          refine st_move hf rfl rfl (by decide) ?_
          clear hf; intro a ha hf
          exact st_nil hf (th_n ⟨ha, rfl⟩)
        clear hf; intro a hf
        refine dr_take 2 (eptr v7 i8 1) rfl (by kernel_rfl) (by kernel_rfl) (by kernel_rfl) (by kernel_rfl) rfl rfl hf (by decide) rfl (fun w hp => ?_) ⟨_, hp⟩ ?_
        · obtain ⟨_, hp⟩ := hp
          refine st_index (E := Ek.f64) hf (by decide) Try.underlying80 elt37 rfl rfl rfl (rl14.sl hp) hc15.1 hc15.2 ?_
          clear hf; intro a ha hf
          exact st_nil hf (th_n ⟨ha, rfl⟩)
        clear hf; intro a hf
        refine dr_take 3 (.float .f64 bb17) rfl (by kernel_rfl) (by kernel_rfl) (by kernel_rfl) (by kernel_rfl) rfl rfl hf (by decide) rfl (fun w hp => ?_) ⟨_, hp⟩ ?_
        · obtain ⟨_, hp⟩ := hp
          refine st_ldP hf (by decide) pl37 rfl rfl (hl16 _ _ hp) ?_
          clear hf; intro a ha hf
          exact st_nil hf (th_n ⟨ha, rfl⟩)
        clear hf; intro a hf
        refine dr_take 4 (v7) rfl (by kernel_rfl) (by kernel_rfl) (by kernel_rfl) (by kernel_rfl) rfl rfl hf (by decide) rfl (fun w hp => ?_) ⟨_, hp⟩ ?_
        · obtain ⟨_, hp⟩ := hp
          refine st_move hf rfl rfl (by decide) ?_
          clear hf; intro a ha hf
          exact st_nil hf (th_n ⟨ha, rfl⟩)
        clear hf; intro a hf
        refine dr_take 5 (.int .i64 best7) rfl (by kernel_rfl) (by kernel_rfl) (by kernel_rfl) (by kernel_rfl) rfl rfl hf (by decide) rfl (fun w hp => ?_) ⟨_, hp⟩ ?_
        · obtain ⟨_, hp⟩ := hp
          refine st_move hf rfl rfl (by decide) ?_
          clear hf; intro a ha hf
          exact st_nil hf (th_n ⟨ha, rfl⟩)
        clear hf; intro a hf
        refine dr_take 6 (eptr v7 best7 1) rfl (by kernel_rfl) (by kernel_rfl) (by kernel_rfl) (by kernel_rfl) rfl rfl hf (by decide) rfl (fun w hp => ?_) ⟨_, hp⟩ ?_
        · obtain ⟨_, hp⟩ := hp
          refine st_index (E := Ek.f64) hf (by decide) Try.underlying80 elt37 rfl rfl rfl (rl14.sl hp) hc19.1 hc19.2 ?_
          clear hf; intro a ha hf
          exact st_nil hf (th_n ⟨ha, rfl⟩)
        clear hf; intro a hf
        refine dr_take 7 (.float .f64 bb21) rfl (by kernel_rfl) (by kernel_rfl) (by kernel_rfl) (by kernel_rfl) rfl rfl hf (by decide) rfl (fun w hp => ?_) ⟨_, hp⟩ ?_
        · obtain ⟨_, hp⟩ := hp
          refine st_ldP hf (by decide) pl37 rfl rfl (hl20 _ _ hp) ?_
          clear hf; intro a ha hf
          exact st_nil hf (th_n ⟨ha, rfl⟩)
        clear hf; intro a hf
        refine dr_take 8 (.bool (fgt (gt ([zx0.1, zx0.2, (fneg zx0.1), (fneg zx0.2)]) i8) (gt ([zx0.1, zx0.2, (fneg zx0.1), (fneg zx0.2)]) best7))) rfl (by kernel_rfl) (by kernel_rfl) (by kernel_rfl) (by kernel_rfl) rfl rfl hf (by decide) rfl (fun w hp => ?_) ⟨_, hp⟩ ?_
        · obtain ⟨_, hp⟩ := hp
          refine st_fcmp (r_fgt (fx := (gt ([zx0.1, zx0.2, (fneg zx0.1), (fneg zx0.2)]) i8)) (fy := (gt ([zx0.1, zx0.2, (fneg zx0.1), (fneg zx0.2)]) best7)) y18 y22) hf (by decide) rfl rfl rfl ?_
          clear hf; intro a ha hf
          exact st_nil hf (th_n ⟨ha, rfl⟩)
        clear hf; intro a hf
        refine dr_end (by kernel_rfl) ?_ _
        have hp := bk13 _ _ hp
        exact ⟨hf.sub ⟨rfl, rfl, rfl, rfl, trivial⟩, hp⟩
      rintro a w ⟨hf, hp⟩
      refine th_n ?_
      refine wp_if hf rfl (fun hb => ?_) (fun hb => ?_)
      · replace h := ifT h hb
        refine wp_reg ?_
        refine st_move hf rfl rfl (by decide) ?_
        clear hf; intro a ha hf; clear ha
        refine st_assign hf rfl rfl (by decide) ?_
        clear hf; intro a ha hf; clear ha
        refine st_nil hf ?_
        refine ib_n ?_
        refine th_n ?_
        refine wp_reg ?_
        refine st_move hf rfl rfl (by decide) ?_
        clear hf; intro a ha hf; clear ha
        refine st_iadd hf (by decide) rfl rfl rfl ?_
        clear hf; intro a ha hf; clear ha
        refine st_assign hf rfl rfl (by decide) ?_
        clear hf; intro a ha hf; clear ha
        refine st_nil hf ?_
        obtain rfl := Option.some.inj h
        exact rnd_l ⟨hf.sub ⟨rfl, rfl, rfl, trivial⟩, hp⟩
      replace h := ifF h hb
      refine wp_skip ?_
      refine ib_n ?_
      refine th_n ?_
      refine wp_reg ?_
      refine st_move hf rfl rfl (by decide) ?_
      clear hf; intro a ha hf; clear ha
      refine st_iadd hf (by decide) rfl rfl rfl ?_
      clear hf; intro a ha hf; clear ha
      refine st_assign hf rfl rfl (by decide) ?_
      clear hf; intro a ha hf; clear ha
      refine st_nil hf ?_
      obtain rfl := Option.some.inj h
      exact rnd_l ⟨hf.sub ⟨rfl, rfl, rfl, trivial⟩, hp⟩
    replace h := ifF h hb
    refine wp_exit ?_
    refine th_e ?_
    obtain rfl := Option.some.inj h
    have hp : Hp _ _ _ (ow) := Hp.sel (pre := [Res.sl Ek.f64 37 v7 ([zx0.1, zx0.2, (fneg zx0.1), (fneg zx0.2)])]) (tail := ow) (rs' := []) hp [] (by decide) (by simp) rfl
    exact rnd_r (by simp) ⟨rfl, hf.sub ⟨rfl, trivial⟩, hp⟩
  clear hl hf hp
  intro e a w hne hO
  obtain ⟨rfl, hf, hp⟩ := hO
  refine ib_same ?_
  refine th_n ?_
  refine wp_seq ?_
  refine wp_reg ?_
  refine st_move hf rfl rfl (by decide) ?_
  clear hf; intro a ha hf; clear ha
  refine st_conv_ii hf (by decide) (by rw [Try.underlying3]; rfl) Try.underlying5 rfl rfl ?_
  clear hf; intro a ha hf; clear ha
  refine st_assign hf rfl rfl (by decide) ?_
  clear hf; intro a ha hf; clear ha
  refine st_assign hf rfl rfl (by decide) ?_
  clear hf; intro a ha hf; clear ha
  refine st_nil hf ?_
  refine th_n ?_
  refine wp_ret ?_
  obtain rfl := Option.some.inj h
  exact ⟨rfl, ⟨hf.sub ⟨rfl, rfl, trivial⟩, hp⟩⟩

noncomputable def f_foghornref06_Row.j1 (qx5 : (List Int)) (marks6 : (List Bool)) (i7 : Int) (n8 : Int) (ok9 : Bool) : Option (((List Int) × (List Bool) × Int) ⊕ ((List Int) × (List Bool))) := (if (qx5.length + ([n8]).length) * 1 ≤ 140737488355328 then (if (marks6.length + ([ok9]).length) * 1 ≤ 140737488355328 then (some (Sum.inl ((qx5 ++ [n8]), (marks6 ++ [ok9]), (IntKind.i64.wrap (i7 + (1 : Int)))))) else none) else none)
noncomputable def f_foghornref06_Row.s1c (l0 : (List ((Fl × Fl) × Bool))) (qx5 : (List Int)) (marks6 : (List Bool)) (i7 : Int) : Option (((List Int) × (List Bool) × Int) ⊕ ((List Int) × (List Bool))) := (if (decide (i7 < (l0.length : Int))) = true then (if 0 ≤ i7 ∧ i7 < (l0.length : Int) then (if (!((gt l0 i7).2)) = true then (if 0 ≤ i7 ∧ i7 < (l0.length : Int) then ((f_foghornref06_Near ((gt l0 i7).1)).bind fun q25 => (f_foghornref06_Row.j1 qx5 marks6 i7 q25.1 q25.2)) else none) else (f_foghornref06_Row.j1 qx5 marks6 i7 (0 : Int) false)) else none) else (some (Sum.inr (qx5, marks6))))
noncomputable def f_foghornref06_Row.s1 (l0 : (List ((Fl × Fl) × Bool))) (s : ((List Int) × (List Bool) × Int)) : Option (((List Int) × (List Bool) × Int) ⊕ ((List Int) × (List Bool))) := f_foghornref06_Row.s1c l0 s.1 s.2.1 s.2.2
noncomputable def f_foghornref06_Row (l0 : (List ((Fl × Fl) × Bool))) : Option ((List Int) × (List Bool) × Int) := (if (decide ((65536 : Int) < (l0.length : Int))) = true then (some ([], [], (1 : Int))) else ((loop (f_foghornref06_Row.s1 l0) ([], [], (0 : Int))).bind (fun q27 => (some (q27.1, q27.2, (0 : Int))))))
theorem f_foghornref06_Row_c {S : Nat → Prop} {w0 w : World} {ow : List Res} (hp : Hp S w0 w ow) (vl0 : Value) (l0 : (List ((Fl × Fl) × Bool))) (hl0 : RdS (Ek.pair Ek.c128 Ek.bool) S w0 vl0 l0) {r : ((List Int) × (List Bool) × Int)} (h : f_foghornref06_Row l0 = some r) :
    Calls Try.prog 24 #[vl0] w (fun e w' => ∃ (u0 : Value) (u1 : Value), e = .returned (.tuple #[u0, u1, .int .i64 r.2.2]) ∧ Hp S w0 w' (Res.sl (Ek.int .u8) 5 u0 r.1 :: Res.sl Ek.bool 4 u1 r.2.1 :: ow)) := by
  unfold f_foghornref06_Row at h
  refine enter (n := 44) (args := [vl0]) Try.func24 rfl rfl (Nat.le_of_ble_eq_true rfl) fun a hf => ?_
  replace hf : Fr 44 a [(0, vl0)] := hf
  refine wp_mono (Q := fun e a w => e = .ret ∧ ∃ (u0 : Value) (u1 : Value), Fr 44 a [(2, u0), (3, u1), (4, .int .i64 r.2.2)] ∧ Hp S w0 w (Res.sl (Ek.int .u8) 5 u0 r.1 :: Res.sl Ek.bool 4 u1 r.2.1 :: ow)) ?_ ?_
  rotate_left
  · rintro e a w ⟨rfl, x0, x1, hf, hp⟩
    exact ret3 hf rfl rfl rfl rfl ⟨x0, x1, rfl, hp⟩
  refine wp_seq ?_
  refine wp_reg ?_
  refine st_assign hf rfl rfl (by decide) ?_
  clear hf; intro a ha hf; clear ha
  refine st_assign hf rfl rfl (by decide) ?_
  clear hf; intro a ha hf; clear ha
  refine st_assign hf rfl rfl (by decide) ?_
  clear hf; intro a ha hf; clear ha
  refine st_nil hf ?_
  refine th_n ?_
  refine wp_seq ?_
  refine wp_seq ?_
  refine wp_reg ?_
  refine st_move hf rfl rfl (by decide) ?_
  clear hf; intro a ha hf; clear ha
  refine st_len (E := (Ek.pair Ek.c128 Ek.bool)) hf (by decide) Try.underlying42 rfl rfl (hl0.sl hp) ?_
  clear hf; intro a ha hf; clear ha
  refine st_igtr hf (by decide) rfl rfl rfl ?_
  clear hf; intro a ha hf; clear ha
  refine st_nil hf ?_
  refine th_n ?_
  refine wp_if hf rfl (fun hb => ?_) (fun hb => ?_)
  · replace h := ifT h hb
    refine wp_seq ?_
    refine wp_reg ?_
    refine st_assign hf rfl rfl (by decide) ?_
    clear hf; intro a ha hf; clear ha
    refine st_assign hf rfl rfl (by decide) ?_
    clear hf; intro a ha hf; clear ha
    refine st_assign hf rfl rfl (by decide) ?_
    clear hf; intro a ha hf; clear ha
    refine st_nil hf ?_
    refine th_n ?_
    refine wp_ret ?_
    refine th_r ?_
    obtain rfl := Option.some.inj h
    have hp := hp.nil (Ek.int .u8) 5
    have hp := hp.nil Ek.bool 4
    have hp : Hp _ _ _ (Res.sl (Ek.int .u8) 5 (.slice none 0 0) ([]) :: Res.sl Ek.bool 4 (.slice none 0 0) ([]) :: ow) := Hp.sel (pre := [Res.sl Ek.bool 4 (.slice none 0 0) ([]), Res.sl (Ek.int .u8) 5 (.slice none 0 0) ([])]) (tail := ow) (rs' := [Res.sl (Ek.int .u8) 5 (.slice none 0 0) ([]), Res.sl Ek.bool 4 (.slice none 0 0) ([])]) hp [1, 0] (by decide) (by simp) rfl
    exact ⟨rfl, ⟨_, _, hf.sub ⟨rfl, rfl, rfl, trivial⟩, hp⟩⟩
  replace h := ifF h hb
  refine wp_skip ?_
  refine th_n ?_
  refine wp_seq ?_
  refine wp_reg ?_
  refine st_assign hf rfl rfl (by decide) ?_
  clear hf; intro a ha hf; clear ha
  refine st_nil hf ?_
  refine th_n ?_
  refine wp_seq ?_
  refine wp_reg ?_
  refine st_assign hf rfl rfl (by decide) ?_
  clear hf; intro a ha hf; clear ha
  refine st_nil hf ?_
  refine th_n ?_
  refine wp_seq ?_
  refine wp_seq ?_
  refine wp_reg ?_
  refine st_assign hf rfl rfl (by decide) ?_
  clear hf; intro a ha hf; clear ha
  refine st_nil hf ?_
  refine th_n ?_
  refine wp_block ?_
  obtain ⟨q27, hl, h⟩ := bnd h
  have hp := hp.nil (Ek.int .u8) 5
  have hp := hp.nil Ek.bool 4
  have hp : Hp _ _ _ (Res.sl (Ek.int .u8) 5 (.slice none 0 0) ([]) :: Res.sl Ek.bool 4 (.slice none 0 0) ([]) :: ow) := Hp.sel (pre := [Res.sl Ek.bool 4 (.slice none 0 0) ([]), Res.sl (Ek.int .u8) 5 (.slice none 0 0) ([])]) (tail := ow) (rs' := [Res.sl (Ek.int .u8) 5 (.slice none 0 0) ([]), Res.sl Ek.bool 4 (.slice none 0 0) ([])]) hp [1, 0] (by decide) (by simp) rfl
  refine wp_loop_pure (f := (f_foghornref06_Row.s1 l0)) (s := ([], [], (0 : Int))) (fun s a w => ∃ (v3 : Value) (v5 : Value), Fr 44 a [(0, vl0), (5, v3), (6, v5), (7, .int .i64 s.2.2)] ∧ Hp S w0 w (Res.sl (Ek.int .u8) 5 v3 s.1 :: Res.sl Ek.bool 4 v5 s.2.1 :: ow)) (fun q e a w => e = .exit 0 ∧ ∃ (v7 : Value) (v9 : Value), Fr 44 a [(5, v7), (6, v9)] ∧ Hp S w0 w (Res.sl (Ek.int .u8) 5 v7 q.1 :: Res.sl Ek.bool 4 v9 q.2 :: ow)) ?_ hl ⟨_, _, hf.sub ⟨rfl, rfl, rfl, rfl, trivial⟩, hp⟩ ?_
  · clear hl hf hp
    intro s x a w h hI
    obtain ⟨qx5, marks6, i7⟩ := s
    obtain ⟨v3, v5, hf, hp⟩ : ∃ (v3 : Value) (v5 : Value), Fr 44 a [(0, vl0), (5, v3), (6, v5), (7, .int .i64 i7)] ∧ Hp S w0 w (Res.sl (Ek.int .u8) 5 v3 qx5 :: Res.sl Ek.bool 4 v5 marks6 :: ow) := hI
    replace h : f_foghornref06_Row.s1c l0 qx5 marks6 i7 = some x := h
    unfold f_foghornref06_Row.s1c at h
    refine wp_seq ?_
    refine wp_seq ?_
    refine wp_reg ?_
    refine st_move hf rfl rfl (by decide) ?_
    clear hf; intro a ha hf; clear ha
    refine st_move hf rfl rfl (by decide) ?_
    clear hf; intro a ha hf; clear ha
    refine st_len (E := (Ek.pair Ek.c128 Ek.bool)) hf (by decide) Try.underlying42 rfl rfl (hl0.sl hp) ?_
    clear hf; intro a ha hf; clear ha
    refine st_ilss hf (by decide) rfl rfl rfl ?_
    clear hf; intro a ha hf; clear ha
    refine st_nil hf ?_
    refine th_n ?_
    refine wp_if hf rfl (fun hb => ?_) (fun hb => ?_)
    · replace h := ifT h hb
      refine wp_skip ?_
      refine th_n ?_
      refine wp_seq ?_
      refine wp_block ?_
      refine wp_seq ?_
      refine wp_reg ?_
      refine st_assign hf rfl rfl (by decide) ?_
      clear hf; intro a ha hf; clear ha
      refine st_nil hf ?_
      refine th_n ?_
      refine wp_seq ?_
      refine wp_reg ?_
      refine st_assign hf rfl rfl (by decide) ?_
      clear hf; intro a ha hf; clear ha
      refine st_nil hf ?_
      refine th_n ?_
      refine wp_seq_cut (fun a w => ∃ (n8 : Int) (ok9 : Bool), f_foghornref06_Row.j1 qx5 marks6 i7 n8 ok9 = some x ∧ Fr 44 a [(0, vl0), (5, v3), (6, v5), (7, .int .i64 i7), (8, .int .u8 n8), (9, .bool ok9)] ∧ Hp S w0 w (Res.sl (Ek.int .u8) 5 v3 qx5 :: Res.sl Ek.bool 4 v5 marks6 :: ow)) ?_ ?_
      · skip
        refine wp_seq ?_
        refine wp_reg ?_
        refine st_move hf rfl rfl (by decide) ?_
        clear hf; intro a ha hf; clear ha
        refine st_move hf rfl rfl (by decide) ?_
        clear hf; intro a ha hf; clear ha
        obtain ⟨hc19, h⟩ := chk h
        refine st_index (E := (Ek.pair Ek.c128 Ek.bool)) hf (by decide) Try.underlying42 elt51 rfl rfl rfl (hl0.sl hp) hc19.1 hc19.2 ?_
        clear hf; intro a ha hf; clear ha
        refine st_faP (off := 1) (sz := 1) hf (by decide) (by kernel_rfl) (by decide) rfl rfl (Sl.isP (hl0.sl hp) hc19.1 hc19.2) ?_
        clear hf; intro a ha hf; clear ha
        refine st_ldQ (F := Ek.bool) (yv := (gt l0 i7).2) hf (by decide) pl4 (fun x => .bool x) (fun _ _ h => h) rfl rfl (Sl.part (E := (Ek.pair Ek.c128 Ek.bool)) (F := Ek.bool) (o := 1) (Sub.snd (E := Ek.c128) (F := Ek.bool)) (hl0.sl hp) hc19.1 hc19.2) ?_
        clear hf; intro a ha hf; clear ha
        refine st_not hf (by decide) rfl rfl ?_
        clear hf; intro a ha hf; clear ha
        refine st_nil hf ?_
        refine th_n ?_
        refine wp_if hf rfl (fun hb => ?_) (fun hb => ?_)
        · replace h := ifT h hb
          refine wp_reg ?_
          refine st_move hf rfl rfl (by decide) ?_
          clear hf; intro a ha hf; clear ha
          refine st_move hf rfl rfl (by decide) ?_
          clear hf; intro a ha hf; clear ha
          obtain ⟨hc20, h⟩ := chk h
          refine st_index (E := (Ek.pair Ek.c128 Ek.bool)) hf (by decide) Try.underlying42 elt51 rfl rfl rfl (hl0.sl hp) hc20.1 hc20.2 ?_
          clear hf; intro a ha hf; clear ha
          refine st_faP (off := 0) (sz := 1) hf (by decide) (by kernel_rfl) (by decide) rfl rfl (Sl.isP (hl0.sl hp) hc20.1 hc20.2) ?_
          clear hf; intro a ha hf; clear ha
          refine st_ldQC (yv := (gt l0 i7).1) hf (by decide) pl49 rfl rfl (Sl.part (E := (Ek.pair Ek.c128 Ek.bool)) (F := Ek.c128) (o := 0) (Sub.fst (E := Ek.c128) (F := Ek.bool)) (hl0.sl hp) hc20.1 hc20.2) ?_
          clear hf; intro a bb21 bb22 y23 y24 ha hf; clear ha
          obtain ⟨q25, hcall26, h⟩ := bnd h
          refine st_call hf (by decide) Try.func27 rfl rfl rfl rfl rfl (f_foghornref06_Near_c hp _ _ _ (show Fl.rep bb21 ((gt l0 i7).1).1 from y23) (show Fl.rep bb22 ((gt l0 i7).1).2 from y24) hcall26) ?_
          rintro _ w ⟨rfl, hp0⟩
          clear hp; have hp := hp0; clear hp0
          replace hp : Hp _ _ _ (Res.sl (Ek.int .u8) 5 v3 qx5 :: Res.sl Ek.bool 4 v5 marks6 :: ow) := hp
          refine ⟨_, rfl, ?_⟩
          clear hf; intro a hf
          refine st_move hf rfl rfl (by decide) ?_
          clear hf; intro a ha hf; clear ha
          refine st_extract hf (by decide) rfl rfl rfl ?_
          clear hf; intro a ha hf; clear ha
          refine st_extract hf (by decide) rfl rfl rfl ?_
          clear hf; intro a ha hf; clear ha
          refine st_assign hf rfl rfl (by decide) ?_
          clear hf; intro a ha hf; clear ha
          refine st_assign hf rfl rfl (by decide) ?_
          clear hf; intro a ha hf; clear ha
          refine st_nil hf ?_
          refine th_n ?_
          exact ⟨_, _, h, hf.sub ⟨rfl, rfl, rfl, rfl, rfl, rfl, trivial⟩, hp⟩
        replace h := ifF h hb
        refine wp_skip ?_
        refine th_n ?_
        exact ⟨_, _, h, hf.sub ⟨rfl, rfl, rfl, rfl, rfl, rfl, trivial⟩, hp⟩
      rintro a w ⟨n8, ok9, h, hf, hp⟩
      unfold f_foghornref06_Row.j1 at h
      refine wp_seq ?_
      refine wp_reg ?_
      refine st_move hf rfl rfl (by decide) ?_
      clear hf; intro a ha hf; clear ha
      refine st_move hf rfl rfl (by decide) ?_
      clear hf; intro a ha hf; clear ha
      refine st_build (E := (Ek.int .u8)) (xs := [n8]) hf (by decide) elt5 Try.underlying22 hp (vals := #[(0, .int .u8 n8)]) (cells := #[.int .u8 n8]) rfl (by simp [hf.ev (x := (Operand.tmp 35)) rfl]) (by decide) (by decide) (z := .int .u8 0) (by kernel_rfl) (by kernel_rfl) rfl (reps_cons (cs := [.int .u8 n8]) rfl (reps_nil _)) ?_
      clear hf; intro a w v11 hf hp0; clear hp; have hp := hp0; clear hp0
      replace hp : Hp _ _ _ (Res.sl (Ek.int .u8) 5 v11 ([n8]) :: Res.sl (Ek.int .u8) 5 v3 qx5 :: Res.sl Ek.bool 4 v5 marks6 :: ow) := hp
      obtain ⟨hc13, h⟩ := chk h
      refine st_append (E := (Ek.int .u8)) hf (by decide) elt5 Try.underlying22 (by decide) hp (i := 1) rfl rfl rfl rfl (hp.sl (i := 0) rfl) hc13 ?_
      clear hf; intro a w v14 hf hp0; clear hp; have hp := hp0; clear hp0
      replace hp : Hp _ _ _ (Res.sl (Ek.int .u8) 5 v11 ([n8]) :: Res.sl (Ek.int .u8) 5 v14 (qx5 ++ [n8]) :: Res.sl Ek.bool 4 v5 marks6 :: ow) := hp
      refine st_assign hf rfl rfl (by decide) ?_
      clear hf; intro a ha hf; clear ha
      refine st_nil hf ?_
      refine th_n ?_
      refine wp_reg ?_
      refine st_move hf rfl rfl (by decide) ?_
      clear hf; intro a ha hf; clear ha
      refine st_move hf rfl rfl (by decide) ?_
      clear hf; intro a ha hf; clear ha
      refine st_build (E := Ek.bool) (xs := [ok9]) hf (by decide) elt4 Try.underlying27 hp (vals := #[(0, .bool ok9)]) (cells := #[.bool ok9]) rfl (by simp [hf.ev (x := (Operand.tmp 39)) rfl]) (by decide) (by decide) (z := .bool false) (by kernel_rfl) (by kernel_rfl) rfl (reps_cons (cs := [.bool ok9]) rfl (reps_nil _)) ?_
      clear hf; intro a w v15 hf hp0; clear hp; have hp := hp0; clear hp0
      replace hp : Hp _ _ _ (Res.sl Ek.bool 4 v15 ([ok9]) :: Res.sl (Ek.int .u8) 5 v11 ([n8]) :: Res.sl (Ek.int .u8) 5 v14 (qx5 ++ [n8]) :: Res.sl Ek.bool 4 v5 marks6 :: ow) := hp
      obtain ⟨hc17, h⟩ := chk h
      refine st_append (E := Ek.bool) hf (by decide) elt4 Try.underlying27 (by decide) hp (i := 3) rfl rfl rfl rfl (hp.sl (i := 0) rfl) hc17 ?_
      clear hf; intro a w v18 hf hp0; clear hp; have hp := hp0; clear hp0
      replace hp : Hp _ _ _ (Res.sl Ek.bool 4 v15 ([ok9]) :: Res.sl (Ek.int .u8) 5 v11 ([n8]) :: Res.sl (Ek.int .u8) 5 v14 (qx5 ++ [n8]) :: Res.sl Ek.bool 4 v18 (marks6 ++ [ok9]) :: ow) := hp
      refine st_assign hf rfl rfl (by decide) ?_
      clear hf; intro a ha hf; clear ha
      refine st_nil hf ?_
      refine ib_n ?_
      refine th_n ?_
      refine wp_reg ?_
      refine st_move hf rfl rfl (by decide) ?_
      clear hf; intro a ha hf; clear ha
      refine st_iadd hf (by decide) rfl rfl rfl ?_
      clear hf; intro a ha hf; clear ha
      refine st_assign hf rfl rfl (by decide) ?_
      clear hf; intro a ha hf; clear ha
      refine st_nil hf ?_
      obtain rfl := Option.some.inj h
      have hp : Hp _ _ _ (Res.sl (Ek.int .u8) 5 v14 (qx5 ++ [n8]) :: Res.sl Ek.bool 4 v18 (marks6 ++ [ok9]) :: ow) := Hp.sel (pre := [Res.sl Ek.bool 4 v15 ([ok9]), Res.sl (Ek.int .u8) 5 v11 ([n8]), Res.sl (Ek.int .u8) 5 v14 (qx5 ++ [n8]), Res.sl Ek.bool 4 v18 (marks6 ++ [ok9])]) (tail := ow) (rs' := [Res.sl (Ek.int .u8) 5 v14 (qx5 ++ [n8]), Res.sl Ek.bool 4 v18 (marks6 ++ [ok9])]) hp [2, 3] (by decide) (by simp) rfl
      exact rnd_l ⟨_, _, hf.sub ⟨rfl, rfl, rfl, rfl, trivial⟩, hp⟩
    replace h := ifF h hb
    refine wp_exit ?_
    refine th_e ?_
    obtain rfl := Option.some.inj h
    exact rnd_r (by simp) ⟨rfl, _, _, hf.sub ⟨rfl, rfl, trivial⟩, hp⟩
  clear hl hf hp
  intro e a w hne hO
  obtain ⟨rfl, v7, v9, hf, hp⟩ := hO
  refine ib_same ?_
  refine th_n ?_
  refine wp_seq ?_
  refine wp_reg ?_
  refine st_move hf rfl rfl (by decide) ?_
  clear hf; intro a ha hf; clear ha
  refine st_move hf rfl rfl (by decide) ?_
  clear hf; intro a ha hf; clear ha
  refine st_assign hf rfl rfl (by decide) ?_
  clear hf; intro a ha hf; clear ha
  refine st_assign hf rfl rfl (by decide) ?_
  clear hf; intro a ha hf; clear ha
  refine st_assign hf rfl rfl (by decide) ?_
  clear hf; intro a ha hf; clear ha
  refine st_nil hf ?_
  refine th_n ?_
  refine wp_ret ?_
  obtain rfl := Option.some.inj h
  exact ⟨rfl, ⟨_, _, hf.sub ⟨rfl, rfl, rfl, trivial⟩, hp⟩⟩

noncomputable def f_foghornlaw06_quarters.s1c (ax0 : (List Int)) (bx1 : (List Int)) (i5 : Int) : Option (Int ⊕ (Unit ⊕ Bool)) := (if (decide (i5 < (ax0.length : Int))) = true then (if 0 ≤ i5 ∧ i5 < (ax0.length : Int) then (if 0 ≤ i5 ∧ i5 < (bx1.length : Int) then (if ((gt ax0 i5) != (gt bx1 i5)) = true then (some (Sum.inr (Sum.inr false))) else (some (Sum.inl (IntKind.i64.wrap (i5 + (1 : Int)))))) else none) else none) else (some (Sum.inr (Sum.inl ()))))
noncomputable def f_foghornlaw06_quarters.s1 (ax0 : (List Int)) (bx1 : (List Int)) (s : Int) : Option (Int ⊕ (Unit ⊕ Bool)) := f_foghornlaw06_quarters.s1c ax0 bx1 s
noncomputable def f_foghornlaw06_quarters (ax0 : (List Int)) (bx1 : (List Int)) : Option Bool := (if ((ax0.length : Int) != (bx1.length : Int)) = true then (some false) else ((loop (f_foghornlaw06_quarters.s1 ax0 bx1) (0 : Int)).bind (fun q3 => sm q3 (fun q4 => (some true)) (fun q5 => (some q5)))))
theorem f_foghornlaw06_quarters_c {S : Nat → Prop} {w0 w : World} {ow : List Res} (hp : Hp S w0 w ow) (vax0 : Value) (ax0 : (List Int)) (hax0 : RdS (Ek.int .u8) S w0 vax0 ax0) (vbx1 : Value) (bx1 : (List Int)) (hbx1 : RdS (Ek.int .u8) S w0 vbx1 bx1) {r : Bool} (h : f_foghornlaw06_quarters ax0 bx1 = some r) :
    Calls Try.prog 13 #[vax0, vbx1] w (fun e w' => e = .returned (.bool r) ∧ Hp S w0 w' (ow)) := by
  unfold f_foghornlaw06_quarters at h
  refine enter (n := 26) (args := [vax0, vbx1]) Try.func13 rfl rfl (Nat.le_of_ble_eq_true rfl) fun a hf => ?_
  replace hf : Fr 26 a [(0, vax0), (1, vbx1)] := hf
  refine wp_mono (Q := fun e a w => e = .ret ∧ Fr 26 a [(4, .bool r)] ∧ Hp S w0 w (ow)) ?_ ?_
  rotate_left
  · rintro e a w ⟨rfl, hf, hp⟩
    exact ret1 hf rfl rfl ⟨rfl, hp⟩
  refine wp_seq ?_
  refine wp_reg ?_
  refine st_assign hf rfl rfl (by decide) ?_
  clear hf; intro a ha hf; clear ha
  refine st_nil hf ?_
  refine th_n ?_
  refine wp_seq ?_
  refine wp_seq ?_
  refine wp_reg ?_
  refine st_move hf rfl rfl (by decide) ?_
  clear hf; intro a ha hf; clear ha
  refine st_len (E := (Ek.int .u8)) hf (by decide) Try.underlying22 rfl rfl (hax0.sl hp) ?_
  clear hf; intro a ha hf; clear ha
  refine st_move hf rfl rfl (by decide) ?_
  clear hf; intro a ha hf; clear ha
  refine st_len (E := (Ek.int .u8)) hf (by decide) Try.underlying22 rfl rfl (hbx1.sl hp) ?_
  clear hf; intro a ha hf; clear ha
  refine st_ineq hf (by decide) rfl rfl rfl ?_
  clear hf; intro a ha hf; clear ha
  refine st_nil hf ?_
  refine th_n ?_
  refine wp_if hf rfl (fun hb => ?_) (fun hb => ?_)
  · replace h := ifT h hb
    refine wp_seq ?_
    refine wp_reg ?_
    refine st_assign hf rfl rfl (by decide) ?_
    clear hf; intro a ha hf; clear ha
    refine st_nil hf ?_
    refine th_n ?_
    refine wp_ret ?_
    refine th_r ?_
    obtain rfl := Option.some.inj h
    exact ⟨rfl, ⟨hf.sub ⟨rfl, trivial⟩, hp⟩⟩
  replace h := ifF h hb
  refine wp_skip ?_
  refine th_n ?_
  refine wp_seq ?_
  refine wp_seq ?_
  refine wp_reg ?_
  refine st_assign hf rfl rfl (by decide) ?_
  clear hf; intro a ha hf; clear ha
  refine st_nil hf ?_
  refine th_n ?_
  refine wp_block ?_
  obtain ⟨q3, hl, h⟩ := bnd h
  refine wp_loop_pure (f := (f_foghornlaw06_quarters.s1 ax0 bx1)) (s := (0 : Int)) (fun s a w => Fr 26 a [(0, vax0), (1, vbx1), (5, .int .i64 s)] ∧ Hp S w0 w (ow)) (fun q e a w => match q with | (Sum.inl q) => e = .exit 0 ∧ Fr 26 a [] ∧ Hp S w0 w (ow) | (Sum.inr q) => e = .ret ∧ Fr 26 a [(4, .bool q)] ∧ Hp S w0 w (ow)) ?_ hl ⟨hf.sub ⟨rfl, rfl, rfl, trivial⟩, hp⟩ ?_
  · clear hl hf hp
    intro s x a w h hI
    obtain ⟨i5, hs⟩ : ∃ z, z = s := ⟨s, rfl⟩; subst hs
    obtain ⟨hf, hp⟩ : Fr 26 a [(0, vax0), (1, vbx1), (5, .int .i64 i5)] ∧ Hp S w0 w (ow) := hI
    replace h : f_foghornlaw06_quarters.s1c ax0 bx1 i5 = some x := h
    unfold f_foghornlaw06_quarters.s1c at h
    refine wp_seq ?_
    refine wp_seq ?_
    refine wp_reg ?_
    refine st_move hf rfl rfl (by decide) ?_
    clear hf; intro a ha hf; clear ha
    refine st_move hf rfl rfl (by decide) ?_
    clear hf; intro a ha hf; clear ha
    refine st_len (E := (Ek.int .u8)) hf (by decide) Try.underlying22 rfl rfl (hax0.sl hp) ?_
    clear hf; intro a ha hf; clear ha
    refine st_ilss hf (by decide) rfl rfl rfl ?_
    clear hf; intro a ha hf; clear ha
    refine st_nil hf ?_
    refine th_n ?_
    refine wp_if hf rfl (fun hb => ?_) (fun hb => ?_)
    · replace h := ifT h hb
      refine wp_skip ?_
      refine th_n ?_
      refine wp_seq ?_
      refine wp_block ?_
      refine wp_seq ?_
      obtain ⟨hc1, h⟩ := chk h
      obtain ⟨hc2, h⟩ := chk h
      refine wp_cutN (fun a w => Fr 26 a [(0, vax0), (1, vbx1), (5, .int .i64 i5), (25, .bool ((gt ax0 i5) != (gt bx1 i5)))] ∧ Hp S w0 w (ow)) ?_ ?_
      · have hp := hp.same (Same.drew w)
        refine dr_begin' (fun a w => Fr 26 a [(0, vax0), (1, vbx1), (5, .int .i64 i5), (25, .bool ((gt ax0 i5) != (gt bx1 i5)))] ∧ Hp S w0 w (ow)) (fun w' => ∃ l, Hp S w0 w' l) [] (by kernel_rfl) ?_
        refine dr_take 0 (vax0) rfl (by kernel_rfl) (by kernel_rfl) (by kernel_rfl) (by kernel_rfl) rfl rfl hf (by decide) rfl (fun w hp => ?_) ⟨_, hp⟩ ?_
        · obtain ⟨_, hp⟩ := hp
          refine st_move hf rfl rfl (by decide) ?_
          clear hf; intro a ha hf
          exact st_nil hf (th_n ⟨ha, rfl⟩)
        clear hf; intro a hf
        refine dr_take 1 (.int .i64 i5) rfl (by kernel_rfl) (by kernel_rfl) (by kernel_rfl) (by kernel_rfl) rfl rfl hf (by decide) rfl (fun w hp => ?_) ⟨_, hp⟩ ?_
        · obtain ⟨_, hp⟩ := hp
          refine st_move hf rfl rfl (by decide) ?_
          clear hf; intro a ha hf
          exact st_nil hf (th_n ⟨ha, rfl⟩)
        clear hf; intro a hf
        refine dr_take 2 (eptr vax0 i5 1) rfl (by kernel_rfl) (by kernel_rfl) (by kernel_rfl) (by kernel_rfl) rfl rfl hf (by decide) rfl (fun w hp => ?_) ⟨_, hp⟩ ?_
        · obtain ⟨_, hp⟩ := hp
          refine st_index (E := (Ek.int .u8)) hf (by decide) Try.underlying22 elt5 rfl rfl rfl (hax0.sl hp) hc1.1 hc1.2 ?_
          clear hf; intro a ha hf
          exact st_nil hf (th_n ⟨ha, rfl⟩)
        clear hf; intro a hf
        refine dr_take 3 (.int .u8 (gt ax0 i5)) rfl (by kernel_rfl) (by kernel_rfl) (by kernel_rfl) (by kernel_rfl) rfl rfl hf (by decide) rfl (fun w hp => ?_) ⟨_, hp⟩ ?_
        · obtain ⟨_, hp⟩ := hp
          refine st_ldI hf (by decide) pl5 rfl rfl (hax0.sl hp) hc1.1 hc1.2 ?_
          clear hf; intro a ha hf
          exact st_nil hf (th_n ⟨ha, rfl⟩)
        clear hf; intro a hf
        refine dr_take 4 (vbx1) rfl (by kernel_rfl) (by kernel_rfl) (by kernel_rfl) (by kernel_rfl) rfl rfl hf (by decide) rfl (fun w hp => ?_) ⟨_, hp⟩ ?_
        · obtain ⟨_, hp⟩ := hp
          refine st_move hf rfl rfl (by decide) ?_
          clear hf; intro a ha hf
          exact st_nil hf (th_n ⟨ha, rfl⟩)
        clear hf; intro a hf
        refine dr_take 5 (.int .i64 i5) rfl (by kernel_rfl) (by kernel_rfl) (by kernel_rfl) (by kernel_rfl) rfl rfl hf (by decide) rfl (fun w hp => ?_) ⟨_, hp⟩ ?_
        · obtain ⟨_, hp⟩ := hp
          refine st_move hf rfl rfl (by decide) ?_
          clear hf; intro a ha hf
          exact st_nil hf (th_n ⟨ha, rfl⟩)
        clear hf; intro a hf
        refine dr_take 6 (eptr vbx1 i5 1) rfl (by kernel_rfl) (by kernel_rfl) (by kernel_rfl) (by kernel_rfl) rfl rfl hf (by decide) rfl (fun w hp => ?_) ⟨_, hp⟩ ?_
        · obtain ⟨_, hp⟩ := hp
          refine st_index (E := (Ek.int .u8)) hf (by decide) Try.underlying22 elt5 rfl rfl rfl (hbx1.sl hp) hc2.1 hc2.2 ?_
          clear hf; intro a ha hf
          exact st_nil hf (th_n ⟨ha, rfl⟩)
        clear hf; intro a hf
        refine dr_take 7 (.int .u8 (gt bx1 i5)) rfl (by kernel_rfl) (by kernel_rfl) (by kernel_rfl) (by kernel_rfl) rfl rfl hf (by decide) rfl (fun w hp => ?_) ⟨_, hp⟩ ?_
        · obtain ⟨_, hp⟩ := hp
          refine st_ldI hf (by decide) pl5 rfl rfl (hbx1.sl hp) hc2.1 hc2.2 ?_
          clear hf; intro a ha hf
          exact st_nil hf (th_n ⟨ha, rfl⟩)
        clear hf; intro a hf
        refine dr_take 8 (.bool ((gt ax0 i5) != (gt bx1 i5))) rfl (by kernel_rfl) (by kernel_rfl) (by kernel_rfl) (by kernel_rfl) rfl rfl hf (by decide) rfl (fun w hp => ?_) ⟨_, hp⟩ ?_
        · obtain ⟨_, hp⟩ := hp
          refine st_ineq hf (by decide) rfl rfl rfl ?_
          clear hf; intro a ha hf
          exact st_nil hf (th_n ⟨ha, rfl⟩)
        clear hf; intro a hf
        refine dr_end (by kernel_rfl) ?_ _
        exact ⟨hf.sub ⟨rfl, rfl, rfl, rfl, trivial⟩, hp⟩
      rintro a w ⟨hf, hp⟩
      refine th_n ?_
      refine wp_if hf rfl (fun hb => ?_) (fun hb => ?_)
      · replace h := ifT h hb
        refine wp_seq ?_
        refine wp_reg ?_
        refine st_assign hf rfl rfl (by decide) ?_
        clear hf; intro a ha hf; clear ha
        refine st_nil hf ?_
        refine th_n ?_
        refine wp_ret ?_
        refine ib_r ?_
        refine th_r ?_
        obtain rfl := Option.some.inj h
        exact rnd_r (by simp) ⟨rfl, ⟨hf.sub ⟨rfl, trivial⟩, hp⟩⟩
      replace h := ifF h hb
      refine wp_skip ?_
      refine ib_n ?_
      refine th_n ?_
      refine wp_reg ?_
      refine st_move hf rfl rfl (by decide) ?_
      clear hf; intro a ha hf; clear ha
      refine st_iadd hf (by decide) rfl rfl rfl ?_
      clear hf; intro a ha hf; clear ha
      refine st_assign hf rfl rfl (by decide) ?_
      clear hf; intro a ha hf; clear ha
      refine st_nil hf ?_
      obtain rfl := Option.some.inj h
      exact rnd_l ⟨hf.sub ⟨rfl, rfl, rfl, trivial⟩, hp⟩
    replace h := ifF h hb
    refine wp_exit ?_
    refine th_e ?_
    obtain rfl := Option.some.inj h
    exact rnd_r (by simp) ⟨rfl, hf.sub trivial, hp⟩
  clear hl hf hp
  intro e a w hne hO
  rcases q3 with q4 | q5
  · replace h := smL h
    obtain ⟨rfl, hf, hp⟩ := hO
    refine ib_same ?_
    refine th_n ?_
    refine wp_seq ?_
    refine wp_reg ?_
    refine st_assign hf rfl rfl (by decide) ?_
    clear hf; intro a ha hf; clear ha
    refine st_nil hf ?_
    refine th_n ?_
    refine wp_ret ?_
    obtain rfl := Option.some.inj h
    exact ⟨rfl, ⟨hf.sub ⟨rfl, trivial⟩, hp⟩⟩
  replace h := smR h
  obtain ⟨rfl, hf, hp⟩ := hO
  refine ib_r ?_
  refine th_r ?_
  obtain rfl := Option.some.inj h
  exact ⟨rfl, ⟨hf.sub ⟨rfl, trivial⟩, hp⟩⟩

noncomputable def f_foghornlaw06_truths.s1c (ax0 : (List Bool)) (bx1 : (List Bool)) (i5 : Int) : Option (Int ⊕ (Unit ⊕ Bool)) := (if (decide (i5 < (ax0.length : Int))) = true then (if 0 ≤ i5 ∧ i5 < (ax0.length : Int) then (if 0 ≤ i5 ∧ i5 < (bx1.length : Int) then (if ((gt ax0 i5) != (gt bx1 i5)) = true then (some (Sum.inr (Sum.inr false))) else (some (Sum.inl (IntKind.i64.wrap (i5 + (1 : Int)))))) else none) else none) else (some (Sum.inr (Sum.inl ()))))
noncomputable def f_foghornlaw06_truths.s1 (ax0 : (List Bool)) (bx1 : (List Bool)) (s : Int) : Option (Int ⊕ (Unit ⊕ Bool)) := f_foghornlaw06_truths.s1c ax0 bx1 s
noncomputable def f_foghornlaw06_truths (ax0 : (List Bool)) (bx1 : (List Bool)) : Option Bool := (if ((ax0.length : Int) != (bx1.length : Int)) = true then (some false) else ((loop (f_foghornlaw06_truths.s1 ax0 bx1) (0 : Int)).bind (fun q3 => sm q3 (fun q4 => (some true)) (fun q5 => (some q5)))))
theorem f_foghornlaw06_truths_c {S : Nat → Prop} {w0 w : World} {ow : List Res} (hp : Hp S w0 w ow) (vax0 : Value) (ax0 : (List Bool)) (hax0 : RdS Ek.bool S w0 vax0 ax0) (vbx1 : Value) (bx1 : (List Bool)) (hbx1 : RdS Ek.bool S w0 vbx1 bx1) {r : Bool} (h : f_foghornlaw06_truths ax0 bx1 = some r) :
    Calls Try.prog 16 #[vax0, vbx1] w (fun e w' => e = .returned (.bool r) ∧ Hp S w0 w' (ow)) := by
  unfold f_foghornlaw06_truths at h
  refine enter (n := 26) (args := [vax0, vbx1]) Try.func16 rfl rfl (Nat.le_of_ble_eq_true rfl) fun a hf => ?_
  replace hf : Fr 26 a [(0, vax0), (1, vbx1)] := hf
  refine wp_mono (Q := fun e a w => e = .ret ∧ Fr 26 a [(4, .bool r)] ∧ Hp S w0 w (ow)) ?_ ?_
  rotate_left
  · rintro e a w ⟨rfl, hf, hp⟩
    exact ret1 hf rfl rfl ⟨rfl, hp⟩
  refine wp_seq ?_
  refine wp_reg ?_
  refine st_assign hf rfl rfl (by decide) ?_
  clear hf; intro a ha hf; clear ha
  refine st_nil hf ?_
  refine th_n ?_
  refine wp_seq ?_
  refine wp_seq ?_
  refine wp_reg ?_
  refine st_move hf rfl rfl (by decide) ?_
  clear hf; intro a ha hf; clear ha
  refine st_len (E := Ek.bool) hf (by decide) Try.underlying27 rfl rfl (hax0.sl hp) ?_
  clear hf; intro a ha hf; clear ha
  refine st_move hf rfl rfl (by decide) ?_
  clear hf; intro a ha hf; clear ha
  refine st_len (E := Ek.bool) hf (by decide) Try.underlying27 rfl rfl (hbx1.sl hp) ?_
  clear hf; intro a ha hf; clear ha
  refine st_ineq hf (by decide) rfl rfl rfl ?_
  clear hf; intro a ha hf; clear ha
  refine st_nil hf ?_
  refine th_n ?_
  refine wp_if hf rfl (fun hb => ?_) (fun hb => ?_)
  · replace h := ifT h hb
    refine wp_seq ?_
    refine wp_reg ?_
    refine st_assign hf rfl rfl (by decide) ?_
    clear hf; intro a ha hf; clear ha
    refine st_nil hf ?_
    refine th_n ?_
    refine wp_ret ?_
    refine th_r ?_
    obtain rfl := Option.some.inj h
    exact ⟨rfl, ⟨hf.sub ⟨rfl, trivial⟩, hp⟩⟩
  replace h := ifF h hb
  refine wp_skip ?_
  refine th_n ?_
  refine wp_seq ?_
  refine wp_seq ?_
  refine wp_reg ?_
  refine st_assign hf rfl rfl (by decide) ?_
  clear hf; intro a ha hf; clear ha
  refine st_nil hf ?_
  refine th_n ?_
  refine wp_block ?_
  obtain ⟨q3, hl, h⟩ := bnd h
  refine wp_loop_pure (f := (f_foghornlaw06_truths.s1 ax0 bx1)) (s := (0 : Int)) (fun s a w => Fr 26 a [(0, vax0), (1, vbx1), (5, .int .i64 s)] ∧ Hp S w0 w (ow)) (fun q e a w => match q with | (Sum.inl q) => e = .exit 0 ∧ Fr 26 a [] ∧ Hp S w0 w (ow) | (Sum.inr q) => e = .ret ∧ Fr 26 a [(4, .bool q)] ∧ Hp S w0 w (ow)) ?_ hl ⟨hf.sub ⟨rfl, rfl, rfl, trivial⟩, hp⟩ ?_
  · clear hl hf hp
    intro s x a w h hI
    obtain ⟨i5, hs⟩ : ∃ z, z = s := ⟨s, rfl⟩; subst hs
    obtain ⟨hf, hp⟩ : Fr 26 a [(0, vax0), (1, vbx1), (5, .int .i64 i5)] ∧ Hp S w0 w (ow) := hI
    replace h : f_foghornlaw06_truths.s1c ax0 bx1 i5 = some x := h
    unfold f_foghornlaw06_truths.s1c at h
    refine wp_seq ?_
    refine wp_seq ?_
    refine wp_reg ?_
    refine st_move hf rfl rfl (by decide) ?_
    clear hf; intro a ha hf; clear ha
    refine st_move hf rfl rfl (by decide) ?_
    clear hf; intro a ha hf; clear ha
    refine st_len (E := Ek.bool) hf (by decide) Try.underlying27 rfl rfl (hax0.sl hp) ?_
    clear hf; intro a ha hf; clear ha
    refine st_ilss hf (by decide) rfl rfl rfl ?_
    clear hf; intro a ha hf; clear ha
    refine st_nil hf ?_
    refine th_n ?_
    refine wp_if hf rfl (fun hb => ?_) (fun hb => ?_)
    · replace h := ifT h hb
      refine wp_skip ?_
      refine th_n ?_
      refine wp_seq ?_
      refine wp_block ?_
      refine wp_seq ?_
      obtain ⟨hc1, h⟩ := chk h
      obtain ⟨hc2, h⟩ := chk h
      refine wp_cutN (fun a w => Fr 26 a [(0, vax0), (1, vbx1), (5, .int .i64 i5), (25, .bool ((gt ax0 i5) != (gt bx1 i5)))] ∧ Hp S w0 w (ow)) ?_ ?_
      · have hp := hp.same (Same.drew w)
        refine dr_begin' (fun a w => Fr 26 a [(0, vax0), (1, vbx1), (5, .int .i64 i5), (25, .bool ((gt ax0 i5) != (gt bx1 i5)))] ∧ Hp S w0 w (ow)) (fun w' => ∃ l, Hp S w0 w' l) [] (by kernel_rfl) ?_
        refine dr_take 0 (vax0) rfl (by kernel_rfl) (by kernel_rfl) (by kernel_rfl) (by kernel_rfl) rfl rfl hf (by decide) rfl (fun w hp => ?_) ⟨_, hp⟩ ?_
        · obtain ⟨_, hp⟩ := hp
          refine st_move hf rfl rfl (by decide) ?_
          clear hf; intro a ha hf
          exact st_nil hf (th_n ⟨ha, rfl⟩)
        clear hf; intro a hf
        refine dr_take 1 (.int .i64 i5) rfl (by kernel_rfl) (by kernel_rfl) (by kernel_rfl) (by kernel_rfl) rfl rfl hf (by decide) rfl (fun w hp => ?_) ⟨_, hp⟩ ?_
        · obtain ⟨_, hp⟩ := hp
          refine st_move hf rfl rfl (by decide) ?_
          clear hf; intro a ha hf
          exact st_nil hf (th_n ⟨ha, rfl⟩)
        clear hf; intro a hf
        refine dr_take 2 (eptr vax0 i5 1) rfl (by kernel_rfl) (by kernel_rfl) (by kernel_rfl) (by kernel_rfl) rfl rfl hf (by decide) rfl (fun w hp => ?_) ⟨_, hp⟩ ?_
        · obtain ⟨_, hp⟩ := hp
          refine st_index (E := Ek.bool) hf (by decide) Try.underlying27 elt4 rfl rfl rfl (hax0.sl hp) hc1.1 hc1.2 ?_
          clear hf; intro a ha hf
          exact st_nil hf (th_n ⟨ha, rfl⟩)
        clear hf; intro a hf
        refine dr_take 3 (.bool (gt ax0 i5)) rfl (by kernel_rfl) (by kernel_rfl) (by kernel_rfl) (by kernel_rfl) rfl rfl hf (by decide) rfl (fun w hp => ?_) ⟨_, hp⟩ ?_
        · obtain ⟨_, hp⟩ := hp
          refine st_ldB hf (by decide) pl4 rfl rfl (hax0.sl hp) hc1.1 hc1.2 ?_
          clear hf; intro a ha hf
          exact st_nil hf (th_n ⟨ha, rfl⟩)
        clear hf; intro a hf
        refine dr_take 4 (vbx1) rfl (by kernel_rfl) (by kernel_rfl) (by kernel_rfl) (by kernel_rfl) rfl rfl hf (by decide) rfl (fun w hp => ?_) ⟨_, hp⟩ ?_
        · obtain ⟨_, hp⟩ := hp
          refine st_move hf rfl rfl (by decide) ?_
          clear hf; intro a ha hf
          exact st_nil hf (th_n ⟨ha, rfl⟩)
        clear hf; intro a hf
        refine dr_take 5 (.int .i64 i5) rfl (by kernel_rfl) (by kernel_rfl) (by kernel_rfl) (by kernel_rfl) rfl rfl hf (by decide) rfl (fun w hp => ?_) ⟨_, hp⟩ ?_
        · obtain ⟨_, hp⟩ := hp
          refine st_move hf rfl rfl (by decide) ?_
          clear hf; intro a ha hf
          exact st_nil hf (th_n ⟨ha, rfl⟩)
        clear hf; intro a hf
        refine dr_take 6 (eptr vbx1 i5 1) rfl (by kernel_rfl) (by kernel_rfl) (by kernel_rfl) (by kernel_rfl) rfl rfl hf (by decide) rfl (fun w hp => ?_) ⟨_, hp⟩ ?_
        · obtain ⟨_, hp⟩ := hp
          refine st_index (E := Ek.bool) hf (by decide) Try.underlying27 elt4 rfl rfl rfl (hbx1.sl hp) hc2.1 hc2.2 ?_
          clear hf; intro a ha hf
          exact st_nil hf (th_n ⟨ha, rfl⟩)
        clear hf; intro a hf
        refine dr_take 7 (.bool (gt bx1 i5)) rfl (by kernel_rfl) (by kernel_rfl) (by kernel_rfl) (by kernel_rfl) rfl rfl hf (by decide) rfl (fun w hp => ?_) ⟨_, hp⟩ ?_
        · obtain ⟨_, hp⟩ := hp
          refine st_ldB hf (by decide) pl4 rfl rfl (hbx1.sl hp) hc2.1 hc2.2 ?_
          clear hf; intro a ha hf
          exact st_nil hf (th_n ⟨ha, rfl⟩)
        clear hf; intro a hf
        refine dr_take 8 (.bool ((gt ax0 i5) != (gt bx1 i5))) rfl (by kernel_rfl) (by kernel_rfl) (by kernel_rfl) (by kernel_rfl) rfl rfl hf (by decide) rfl (fun w hp => ?_) ⟨_, hp⟩ ?_
        · obtain ⟨_, hp⟩ := hp
          refine st_bneq hf (by decide) Try.underlying4 rfl rfl rfl ?_
          clear hf; intro a ha hf
          exact st_nil hf (th_n ⟨ha, rfl⟩)
        clear hf; intro a hf
        refine dr_end (by kernel_rfl) ?_ _
        exact ⟨hf.sub ⟨rfl, rfl, rfl, rfl, trivial⟩, hp⟩
      rintro a w ⟨hf, hp⟩
      refine th_n ?_
      refine wp_if hf rfl (fun hb => ?_) (fun hb => ?_)
      · replace h := ifT h hb
        refine wp_seq ?_
        refine wp_reg ?_
        refine st_assign hf rfl rfl (by decide) ?_
        clear hf; intro a ha hf; clear ha
        refine st_nil hf ?_
        refine th_n ?_
        refine wp_ret ?_
        refine ib_r ?_
        refine th_r ?_
        obtain rfl := Option.some.inj h
        exact rnd_r (by simp) ⟨rfl, ⟨hf.sub ⟨rfl, trivial⟩, hp⟩⟩
      replace h := ifF h hb
      refine wp_skip ?_
      refine ib_n ?_
      refine th_n ?_
      refine wp_reg ?_
      refine st_move hf rfl rfl (by decide) ?_
      clear hf; intro a ha hf; clear ha
      refine st_iadd hf (by decide) rfl rfl rfl ?_
      clear hf; intro a ha hf; clear ha
      refine st_assign hf rfl rfl (by decide) ?_
      clear hf; intro a ha hf; clear ha
      refine st_nil hf ?_
      obtain rfl := Option.some.inj h
      exact rnd_l ⟨hf.sub ⟨rfl, rfl, rfl, trivial⟩, hp⟩
    replace h := ifF h hb
    refine wp_exit ?_
    refine th_e ?_
    obtain rfl := Option.some.inj h
    exact rnd_r (by simp) ⟨rfl, hf.sub trivial, hp⟩
  clear hl hf hp
  intro e a w hne hO
  rcases q3 with q4 | q5
  · replace h := smL h
    obtain ⟨rfl, hf, hp⟩ := hO
    refine ib_same ?_
    refine th_n ?_
    refine wp_seq ?_
    refine wp_reg ?_
    refine st_assign hf rfl rfl (by decide) ?_
    clear hf; intro a ha hf; clear ha
    refine st_nil hf ?_
    refine th_n ?_
    refine wp_ret ?_
    obtain rfl := Option.some.inj h
    exact ⟨rfl, ⟨hf.sub ⟨rfl, trivial⟩, hp⟩⟩
  replace h := smR h
  obtain ⟨rfl, hf, hp⟩ := hO
  refine ib_r ?_
  refine th_r ?_
  obtain rfl := Option.some.inj h
  exact ⟨rfl, ⟨hf.sub ⟨rfl, trivial⟩, hp⟩⟩

noncomputable def f_turns_Whole.s1c (l0 : (List (Fl × Fl))) (quarters1 : Int) (out6 : (List (Fl × Fl))) (t17 : Int) : Option (((List (Fl × Fl)) × Int) ⊕ (List (Fl × Fl))) := (if (decide (t17 < (l0.length : Int))) = true then (if 0 ≤ t17 ∧ t17 < (l0.length : Int) then ((f_plane_Turn (gt l0 t17) quarters1).bind fun q14 => (if 0 ≤ t17 ∧ t17 < (out6.length : Int) then (some (Sum.inl ((out6.set (t17).toNat q14), (IntKind.i64.wrap (t17 + (1 : Int)))))) else none)) else none) else (some (Sum.inr out6)))
noncomputable def f_turns_Whole.s1 (l0 : (List (Fl × Fl))) (quarters1 : Int) (s : ((List (Fl × Fl)) × Int)) : Option (((List (Fl × Fl)) × Int) ⊕ (List (Fl × Fl))) := f_turns_Whole.s1c l0 quarters1 s.1 s.2
noncomputable def f_turns_Whole (l0 : (List (Fl × Fl))) (quarters1 : Int) : Option ((List (Fl × Fl)) × Int) := (if (decide ((65536 : Int) < (l0.length : Int))) = true then (some ([], (1 : Int))) else (if 0 ≤ (l0.length : Int) ∧ (l0.length : Int) ≤ (l0.length : Int) ∧ (l0.length : Int) * 16 ≤ 281474976710656 then ((loop (f_turns_Whole.s1 l0 quarters1) ((List.replicate ((l0.length : Int)).toNat (Fl.bits 0, Fl.bits 0)), (0 : Int))).bind (fun q21 => (some (q21, (0 : Int))))) else none))
theorem f_turns_Whole_c {S : Nat → Prop} {w0 w : World} {ow : List Res} (hp : Hp S w0 w ow) (vl0 : Value) (l0 : (List (Fl × Fl))) (hl0 : RdS Ek.c128 S w0 vl0 l0) (quarters1 : Int) {r : ((List (Fl × Fl)) × Int)} (h : f_turns_Whole l0 quarters1 = some r) :
    Calls Try.prog 28 #[vl0, .int .i64 quarters1] w (fun e w' => ∃ (u0 : Value), e = .returned (.tuple #[u0, .int .i64 r.2]) ∧ Hp S w0 w' (Res.sl Ek.c128 49 u0 r.1 :: ow)) := by
  unfold f_turns_Whole at h
  refine enter (n := 30) (args := [vl0, .int .i64 quarters1]) Try.func28 rfl rfl (Nat.le_of_ble_eq_true rfl) fun a hf => ?_
  replace hf : Fr 30 a [(0, vl0), (1, .int .i64 quarters1)] := hf
  refine wp_mono (Q := fun e a w => e = .ret ∧ ∃ (u0 : Value), Fr 30 a [(4, u0), (5, .int .i64 r.2)] ∧ Hp S w0 w (Res.sl Ek.c128 49 u0 r.1 :: ow)) ?_ ?_
  rotate_left
  · rintro e a w ⟨rfl, x0, hf, hp⟩
    exact ret2 hf rfl rfl rfl ⟨x0, rfl, hp⟩
  refine wp_seq ?_
  refine wp_reg ?_
  refine st_assign hf rfl rfl (by decide) ?_
  clear hf; intro a ha hf; clear ha
  refine st_assign hf rfl rfl (by decide) ?_
  clear hf; intro a ha hf; clear ha
  refine st_nil hf ?_
  refine th_n ?_
  refine wp_seq ?_
  refine wp_seq ?_
  refine wp_reg ?_
  refine st_move hf rfl rfl (by decide) ?_
  clear hf; intro a ha hf; clear ha
  refine st_len (E := Ek.c128) hf (by decide) Try.underlying44 rfl rfl (hl0.sl hp) ?_
  clear hf; intro a ha hf; clear ha
  refine st_igtr hf (by decide) rfl rfl rfl ?_
  clear hf; intro a ha hf; clear ha
  refine st_nil hf ?_
  refine th_n ?_
  refine wp_if hf rfl (fun hb => ?_) (fun hb => ?_)
  · replace h := ifT h hb
    refine wp_seq ?_
    refine wp_reg ?_
    refine st_assign hf rfl rfl (by decide) ?_
    clear hf; intro a ha hf; clear ha
    refine st_assign hf rfl rfl (by decide) ?_
    clear hf; intro a ha hf; clear ha
    refine st_nil hf ?_
    refine th_n ?_
    refine wp_ret ?_
    refine th_r ?_
    obtain rfl := Option.some.inj h
    have hp := hp.nil Ek.c128 49
    exact ⟨rfl, ⟨_, hf.sub ⟨rfl, rfl, trivial⟩, hp⟩⟩
  replace h := ifF h hb
  refine wp_skip ?_
  refine th_n ?_
  refine wp_seq ?_
  refine wp_reg ?_
  refine st_move hf rfl rfl (by decide) ?_
  clear hf; intro a ha hf; clear ha
  refine st_len (E := Ek.c128) hf (by decide) Try.underlying44 rfl rfl (hl0.sl hp) ?_
  clear hf; intro a ha hf; clear ha
  obtain ⟨hc2, h⟩ := chk h
  refine st_make (E := Ek.c128) hf (by decide) elt49 Try.underlying44 (by decide) hp rfl rfl rfl hc2.1 hc2.2.1 hc2.2.2 ?_
  clear hf; intro a w v3 hf hp0; clear hp; have hp := hp0; clear hp0
  replace hp : Hp _ _ _ (Res.sl Ek.c128 49 v3 (List.replicate ((l0.length : Int)).toNat (Fl.bits 0, Fl.bits 0)) :: ow) := hp
  refine st_assign hf rfl rfl (by decide) ?_
  clear hf; intro a ha hf; clear ha
  refine st_nil hf ?_
  refine th_n ?_
  refine wp_seq ?_
  refine wp_seq ?_
  refine wp_reg ?_
  refine st_move hf rfl rfl (by decide) ?_
  clear hf; intro a ha hf; clear ha
  refine st_len (E := Ek.c128) hf (by decide) Try.underlying44 rfl rfl (hl0.sl hp) ?_
  clear hf; intro a ha hf; clear ha
  refine st_move hf rfl rfl (by decide) ?_
  clear hf; intro a ha hf; clear ha
  refine st_nil hf ?_
  refine th_n ?_
  refine wp_block ?_
  obtain ⟨q21, hl, h⟩ := bnd h
  refine wp_loop_pure (f := (f_turns_Whole.s1 l0 quarters1)) (s := ((List.replicate ((l0.length : Int)).toNat (Fl.bits 0, Fl.bits 0)), (0 : Int))) (fun s a w => ∃ (v5 : Value), Fr 30 a [(1, .int .i64 quarters1), (6, v5), (15, vl0), (16, .int .i64 (l0.length : Int)), (17, .int .i64 s.2)] ∧ Hp S w0 w (Res.sl Ek.c128 49 v5 s.1 :: ow)) (fun q e a w => e = .exit 0 ∧ ∃ (v7 : Value), Fr 30 a [(6, v7)] ∧ Hp S w0 w (Res.sl Ek.c128 49 v7 q :: ow)) ?_ hl ⟨_, hf.sub ⟨rfl, rfl, rfl, rfl, rfl, trivial⟩, hp⟩ ?_
  · clear hl hf hp
    intro s x a w h hI
    obtain ⟨out6, t17⟩ := s
    obtain ⟨v5, hf, hp⟩ : ∃ (v5 : Value), Fr 30 a [(1, .int .i64 quarters1), (6, v5), (15, vl0), (16, .int .i64 (l0.length : Int)), (17, .int .i64 t17)] ∧ Hp S w0 w (Res.sl Ek.c128 49 v5 out6 :: ow) := hI
    replace h : f_turns_Whole.s1c l0 quarters1 out6 t17 = some x := h
    unfold f_turns_Whole.s1c at h
    refine wp_seq ?_
    refine wp_reg ?_
    refine st_ilss hf (by decide) rfl rfl rfl ?_
    clear hf; intro a ha hf; clear ha
    refine st_nil hf ?_
    refine th_n ?_
    refine wp_seq ?_
    refine wp_if hf rfl (fun hb => ?_) (fun hb => ?_)
    · replace h := ifT h hb
      refine wp_skip ?_
      refine th_n ?_
      refine wp_seq ?_
      refine wp_block ?_
      refine wp_seq ?_
      refine wp_reg ?_
      refine st_move hf rfl rfl (by decide) ?_
      clear hf; intro a ha hf; clear ha
      obtain ⟨hc9, h⟩ := chk h
      refine st_index (E := Ek.c128) hf (by decide) Try.underlying44 elt49 rfl rfl rfl (hl0.sl hp) hc9.1 hc9.2 ?_
      clear hf; intro a ha hf; clear ha
      refine st_ldC hf (by decide) pl49 rfl rfl (hl0.sl hp) hc9.1 hc9.2 ?_
      clear hf; intro a bb10 bb11 y12 y13 ha hf; clear ha
      refine st_assign hf rfl rfl (by decide) ?_
      clear hf; intro a ha hf; clear ha
      refine st_assign hf rfl rfl (by decide) ?_
      clear hf; intro a ha hf; clear ha
      refine st_nil hf ?_
      refine th_n ?_
      refine wp_reg ?_
      refine st_move hf rfl rfl (by decide) ?_
      clear hf; intro a ha hf; clear ha
      refine st_move hf rfl rfl (by decide) ?_
      clear hf; intro a ha hf; clear ha
      refine st_move hf rfl rfl (by decide) ?_
      clear hf; intro a ha hf; clear ha
      refine st_move hf rfl rfl (by decide) ?_
      clear hf; intro a ha hf; clear ha
      obtain ⟨q14, hcall15, h⟩ := bnd h
      refine st_call hf (by decide) Try.func44 rfl rfl rfl rfl rfl (f_plane_Turn_c hp _ _ _ (show Fl.rep bb10 ((gt l0 t17)).1 from y12) (show Fl.rep bb11 ((gt l0 t17)).2 from y13) _ hcall15) ?_
      rintro _ w ⟨v16, v17, rfl, y18, y19, hp0⟩
      clear hp; have hp := hp0; clear hp0
      replace hp : Hp _ _ _ (Res.sl Ek.c128 49 v5 out6 :: ow) := hp
      refine ⟨_, rfl, ?_⟩
      clear hf; intro a hf
      obtain ⟨hc20, h⟩ := chk h
      refine st_index (E := Ek.c128) hf (by decide) Try.underlying44 elt49 rfl rfl rfl (hp.sl (i := 0) rfl) hc20.1 hc20.2 ?_
      clear hf; intro a ha hf; clear ha
      refine st_store (E := Ek.c128) hf elt49 hp (i := 0) rfl rfl rfl rfl (show Ek.c128.rep [.complex .f64 v16 v17] q14 from ⟨_, _, rfl, y18, y19⟩) hc20.1 hc20.2 ?_
      clear hf; intro a w hf hp0; clear hp; have hp := hp0; clear hp0
      replace hp : Hp _ _ _ (Res.sl Ek.c128 49 v5 (out6.set (t17).toNat q14) :: ow) := hp
      refine st_nil hf ?_
      refine ib_n ?_
      refine th_n ?_
      refine wp_reg ?_
      refine st_iadd hf (by decide) rfl rfl rfl ?_
      clear hf; intro a ha hf; clear ha
      refine st_move hf rfl rfl (by decide) ?_
      clear hf; intro a ha hf; clear ha
      refine st_nil hf ?_
      obtain rfl := Option.some.inj h
      exact rnd_l ⟨_, hf.sub ⟨rfl, rfl, rfl, rfl, rfl, trivial⟩, hp⟩
    replace h := ifF h hb
    refine wp_exit ?_
    refine th_e ?_
    obtain rfl := Option.some.inj h
    exact rnd_r (by simp) ⟨rfl, _, hf.sub ⟨rfl, trivial⟩, hp⟩
  clear hl hf hp
  intro e a w hne hO
  obtain ⟨rfl, v7, hf, hp⟩ := hO
  refine ib_same ?_
  refine th_n ?_
  refine wp_seq ?_
  refine wp_reg ?_
  refine st_move hf rfl rfl (by decide) ?_
  clear hf; intro a ha hf; clear ha
  refine st_assign hf rfl rfl (by decide) ?_
  clear hf; intro a ha hf; clear ha
  refine st_assign hf rfl rfl (by decide) ?_
  clear hf; intro a ha hf; clear ha
  refine st_nil hf ?_
  refine th_n ?_
  refine wp_ret ?_
  obtain rfl := Option.some.inj h
  exact ⟨rfl, ⟨_, hf.sub ⟨rfl, rfl, trivial⟩, hp⟩⟩

noncomputable def f_foghornref06_Whole.s1c (l0 : (List (Fl × Fl))) (n1 : Int) (out6 : (List (Fl × Fl))) (i7 : Int) : Option (((List (Fl × Fl)) × Int) ⊕ (List (Fl × Fl))) := (if (decide (i7 < (l0.length : Int))) = true then (if 0 ≤ i7 ∧ i7 < (l0.length : Int) then ((f_foghornref03_Turn (gt l0 i7) n1).bind fun q11 => (if (out6.length + ([q11]).length) * 16 ≤ 140737488355328 then (some (Sum.inl ((out6 ++ [q11]), (IntKind.i64.wrap (i7 + (1 : Int)))))) else none)) else none) else (some (Sum.inr out6)))
noncomputable def f_foghornref06_Whole.s1 (l0 : (List (Fl × Fl))) (n1 : Int) (s : ((List (Fl × Fl)) × Int)) : Option (((List (Fl × Fl)) × Int) ⊕ (List (Fl × Fl))) := f_foghornref06_Whole.s1c l0 n1 s.1 s.2
noncomputable def f_foghornref06_Whole (l0 : (List (Fl × Fl))) (n1 : Int) : Option ((List (Fl × Fl)) × Int) := (if (decide ((65536 : Int) < (l0.length : Int))) = true then (some ([], (1 : Int))) else ((loop (f_foghornref06_Whole.s1 l0 n1) ([], (0 : Int))).bind (fun q21 => (some (q21, (0 : Int))))))
theorem f_foghornref06_Whole_c {S : Nat → Prop} {w0 w : World} {ow : List Res} (hp : Hp S w0 w ow) (vl0 : Value) (l0 : (List (Fl × Fl))) (hl0 : RdS Ek.c128 S w0 vl0 l0) (n1 : Int) {r : ((List (Fl × Fl)) × Int)} (h : f_foghornref06_Whole l0 n1 = some r) :
    Calls Try.prog 29 #[vl0, .int .i64 n1] w (fun e w' => ∃ (u0 : Value), e = .returned (.tuple #[u0, .int .i64 r.2]) ∧ Hp S w0 w' (Res.sl Ek.c128 49 u0 r.1 :: ow)) := by
  unfold f_foghornref06_Whole at h
  refine enter (n := 27) (args := [vl0, .int .i64 n1]) Try.func29 rfl rfl (Nat.le_of_ble_eq_true rfl) fun a hf => ?_
  replace hf : Fr 27 a [(0, vl0), (1, .int .i64 n1)] := hf
  refine wp_mono (Q := fun e a w => e = .ret ∧ ∃ (u0 : Value), Fr 27 a [(4, u0), (5, .int .i64 r.2)] ∧ Hp S w0 w (Res.sl Ek.c128 49 u0 r.1 :: ow)) ?_ ?_
  rotate_left
  · rintro e a w ⟨rfl, x0, hf, hp⟩
    exact ret2 hf rfl rfl rfl ⟨x0, rfl, hp⟩
  refine wp_seq ?_
  refine wp_reg ?_
  refine st_assign hf rfl rfl (by decide) ?_
  clear hf; intro a ha hf; clear ha
  refine st_assign hf rfl rfl (by decide) ?_
  clear hf; intro a ha hf; clear ha
  refine st_nil hf ?_
  refine th_n ?_
  refine wp_seq ?_
  refine wp_seq ?_
  refine wp_reg ?_
  refine st_move hf rfl rfl (by decide) ?_
  clear hf; intro a ha hf; clear ha
  refine st_len (E := Ek.c128) hf (by decide) Try.underlying44 rfl rfl (hl0.sl hp) ?_
  clear hf; intro a ha hf; clear ha
  refine st_igtr hf (by decide) rfl rfl rfl ?_
  clear hf; intro a ha hf; clear ha
  refine st_nil hf ?_
  refine th_n ?_
  refine wp_if hf rfl (fun hb => ?_) (fun hb => ?_)
  · replace h := ifT h hb
    refine wp_seq ?_
    refine wp_reg ?_
    refine st_assign hf rfl rfl (by decide) ?_
    clear hf; intro a ha hf; clear ha
    refine st_assign hf rfl rfl (by decide) ?_
    clear hf; intro a ha hf; clear ha
    refine st_nil hf ?_
    refine th_n ?_
    refine wp_ret ?_
    refine th_r ?_
    obtain rfl := Option.some.inj h
    have hp := hp.nil Ek.c128 49
    exact ⟨rfl, ⟨_, hf.sub ⟨rfl, rfl, trivial⟩, hp⟩⟩
  replace h := ifF h hb
  refine wp_skip ?_
  refine th_n ?_
  refine wp_seq ?_
  refine wp_reg ?_
  refine st_assign hf rfl rfl (by decide) ?_
  clear hf; intro a ha hf; clear ha
  refine st_nil hf ?_
  refine th_n ?_
  refine wp_seq ?_
  refine wp_seq ?_
  refine wp_reg ?_
  refine st_assign hf rfl rfl (by decide) ?_
  clear hf; intro a ha hf; clear ha
  refine st_nil hf ?_
  refine th_n ?_
  refine wp_block ?_
  obtain ⟨q21, hl, h⟩ := bnd h
  have hp := hp.nil Ek.c128 49
  refine wp_loop_pure (f := (f_foghornref06_Whole.s1 l0 n1)) (s := ([], (0 : Int))) (fun s a w => ∃ (v2 : Value), Fr 27 a [(0, vl0), (1, .int .i64 n1), (6, v2), (7, .int .i64 s.2)] ∧ Hp S w0 w (Res.sl Ek.c128 49 v2 s.1 :: ow)) (fun q e a w => e = .exit 0 ∧ ∃ (v4 : Value), Fr 27 a [(6, v4)] ∧ Hp S w0 w (Res.sl Ek.c128 49 v4 q :: ow)) ?_ hl ⟨_, hf.sub ⟨rfl, rfl, rfl, rfl, trivial⟩, hp⟩ ?_
  · clear hl hf hp
    intro s x a w h hI
    obtain ⟨out6, i7⟩ := s
    obtain ⟨v2, hf, hp⟩ : ∃ (v2 : Value), Fr 27 a [(0, vl0), (1, .int .i64 n1), (6, v2), (7, .int .i64 i7)] ∧ Hp S w0 w (Res.sl Ek.c128 49 v2 out6 :: ow) := hI
    replace h : f_foghornref06_Whole.s1c l0 n1 out6 i7 = some x := h
    unfold f_foghornref06_Whole.s1c at h
    refine wp_seq ?_
    refine wp_seq ?_
    refine wp_reg ?_
    refine st_move hf rfl rfl (by decide) ?_
    clear hf; intro a ha hf; clear ha
    refine st_move hf rfl rfl (by decide) ?_
    clear hf; intro a ha hf; clear ha
    refine st_len (E := Ek.c128) hf (by decide) Try.underlying44 rfl rfl (hl0.sl hp) ?_
    clear hf; intro a ha hf; clear ha
    refine st_ilss hf (by decide) rfl rfl rfl ?_
    clear hf; intro a ha hf; clear ha
    refine st_nil hf ?_
    refine th_n ?_
    refine wp_if hf rfl (fun hb => ?_) (fun hb => ?_)
    · replace h := ifT h hb
      refine wp_skip ?_
      refine th_n ?_
      refine wp_seq ?_
      refine wp_block ?_
      refine wp_reg ?_
      refine st_move hf rfl rfl (by decide) ?_
      clear hf; intro a ha hf; clear ha
      refine st_move hf rfl rfl (by decide) ?_
      clear hf; intro a ha hf; clear ha
      refine st_move hf rfl rfl (by decide) ?_
      clear hf; intro a ha hf; clear ha
      obtain ⟨hc6, h⟩ := chk h
      refine st_index (E := Ek.c128) hf (by decide) Try.underlying44 elt49 rfl rfl rfl (hl0.sl hp) hc6.1 hc6.2 ?_
      clear hf; intro a ha hf; clear ha
      refine st_ldC hf (by decide) pl49 rfl rfl (hl0.sl hp) hc6.1 hc6.2 ?_
      clear hf; intro a bb7 bb8 y9 y10 ha hf; clear ha
      refine st_move hf rfl rfl (by decide) ?_
      clear hf; intro a ha hf; clear ha
      obtain ⟨q11, hcall12, h⟩ := bnd h
      refine st_call hf (by decide) Try.func46 rfl rfl rfl rfl rfl (f_foghornref03_Turn_c hp _ _ _ (show Fl.rep bb7 ((gt l0 i7)).1 from y9) (show Fl.rep bb8 ((gt l0 i7)).2 from y10) _ hcall12) ?_
      rintro _ w ⟨v13, v14, rfl, y15, y16, hp0⟩
      clear hp; have hp := hp0; clear hp0
      replace hp : Hp _ _ _ (Res.sl Ek.c128 49 v2 out6 :: ow) := hp
      refine ⟨_, rfl, ?_⟩
      clear hf; intro a hf
      refine st_build (E := Ek.c128) (xs := [q11]) hf (by decide) elt49 Try.underlying44 hp (vals := #[(0, .complex .f64 v13 v14)]) (cells := #[.complex .f64 v13 v14]) rfl (by simp [hf.ev (x := (Operand.tmp 23)) rfl]) (by decide) (by decide) (z := .complex .f64 0 0) (by kernel_rfl) (by kernel_rfl) rfl (reps_cons (cs := [.complex .f64 v13 v14]) (show Ek.c128.rep [.complex .f64 v13 v14] q11 from ⟨_, _, rfl, y15, y16⟩) (reps_nil _)) ?_
      clear hf; intro a w v17 hf hp0; clear hp; have hp := hp0; clear hp0
      replace hp : Hp _ _ _ (Res.sl Ek.c128 49 v17 ([q11]) :: Res.sl Ek.c128 49 v2 out6 :: ow) := hp
      obtain ⟨hc19, h⟩ := chk h
      refine st_append (E := Ek.c128) hf (by decide) elt49 Try.underlying44 (by decide) hp (i := 1) rfl rfl rfl rfl (hp.sl (i := 0) rfl) hc19 ?_
      clear hf; intro a w v20 hf hp0; clear hp; have hp := hp0; clear hp0
      replace hp : Hp _ _ _ (Res.sl Ek.c128 49 v17 ([q11]) :: Res.sl Ek.c128 49 v20 (out6 ++ [q11]) :: ow) := hp
      refine st_assign hf rfl rfl (by decide) ?_
      clear hf; intro a ha hf; clear ha
      refine st_nil hf ?_
      refine ib_n ?_
      refine th_n ?_
      refine wp_reg ?_
      refine st_move hf rfl rfl (by decide) ?_
      clear hf; intro a ha hf; clear ha
      refine st_iadd hf (by decide) rfl rfl rfl ?_
      clear hf; intro a ha hf; clear ha
      refine st_assign hf rfl rfl (by decide) ?_
      clear hf; intro a ha hf; clear ha
      refine st_nil hf ?_
      obtain rfl := Option.some.inj h
      have hp : Hp _ _ _ (Res.sl Ek.c128 49 v20 (out6 ++ [q11]) :: ow) := Hp.sel (pre := [Res.sl Ek.c128 49 v17 ([q11]), Res.sl Ek.c128 49 v20 (out6 ++ [q11])]) (tail := ow) (rs' := [Res.sl Ek.c128 49 v20 (out6 ++ [q11])]) hp [1] (by decide) (by simp) rfl
      exact rnd_l ⟨_, hf.sub ⟨rfl, rfl, rfl, rfl, trivial⟩, hp⟩
    replace h := ifF h hb
    refine wp_exit ?_
    refine th_e ?_
    obtain rfl := Option.some.inj h
    exact rnd_r (by simp) ⟨rfl, _, hf.sub ⟨rfl, trivial⟩, hp⟩
  clear hl hf hp
  intro e a w hne hO
  obtain ⟨rfl, v4, hf, hp⟩ := hO
  refine ib_same ?_
  refine th_n ?_
  refine wp_seq ?_
  refine wp_reg ?_
  refine st_move hf rfl rfl (by decide) ?_
  clear hf; intro a ha hf; clear ha
  refine st_assign hf rfl rfl (by decide) ?_
  clear hf; intro a ha hf; clear ha
  refine st_assign hf rfl rfl (by decide) ?_
  clear hf; intro a ha hf; clear ha
  refine st_nil hf ?_
  refine th_n ?_
  refine wp_ret ?_
  obtain rfl := Option.some.inj h
  exact ⟨rfl, ⟨_, hf.sub ⟨rfl, rfl, trivial⟩, hp⟩⟩

noncomputable def f_turns_Found.s2c (ax0 : (List (Fl × Fl))) (bx1 : (List (Fl × Fl))) (t19 : Int) (t24 : Int) : Option (Int ⊕ (Unit ⊕ Unit)) := (if (decide (t24 < (ax0.length : Int))) = true then (if 0 ≤ t24 ∧ t24 < (ax0.length : Int) then ((f_plane_Turn (gt ax0 t24) t19).bind fun q8 => (if 0 ≤ t24 ∧ t24 < (bx1.length : Int) then (if (!ceq q8 (gt bx1 t24)) = true then (some (Sum.inr (Sum.inr ()))) else (some (Sum.inl (IntKind.i64.wrap (t24 + (1 : Int)))))) else none)) else none) else (some (Sum.inr (Sum.inl ()))))
noncomputable def f_turns_Found.s2 (ax0 : (List (Fl × Fl))) (bx1 : (List (Fl × Fl))) (t19 : Int) (s : Int) : Option (Int ⊕ (Unit ⊕ Unit)) := f_turns_Found.s2c ax0 bx1 t19 s
noncomputable def f_turns_Found.s1c (ax0 : (List (Fl × Fl))) (bx1 : (List (Fl × Fl))) (t19 : Int) : Option (Int ⊕ (Unit ⊕ (Int × Int))) := (if (decide (t19 < (4 : Int))) = true then ((loop (f_turns_Found.s2 ax0 bx1 t19) (0 : Int)).bind (fun q20 => sm q20 (fun q21 => (some (Sum.inr (Sum.inr (t19, (0 : Int)))))) (fun q22 => (some (Sum.inl (IntKind.i64.wrap (t19 + (1 : Int)))))))) else (some (Sum.inr (Sum.inl ()))))
noncomputable def f_turns_Found.s1 (ax0 : (List (Fl × Fl))) (bx1 : (List (Fl × Fl))) (s : Int) : Option (Int ⊕ (Unit ⊕ (Int × Int))) := f_turns_Found.s1c ax0 bx1 s
noncomputable def f_turns_Found (ax0 : (List (Fl × Fl))) (bx1 : (List (Fl × Fl))) : Option (Int × Int) := (if ((decide ((65536 : Int) < (ax0.length : Int))) || ((bx1.length : Int) != (ax0.length : Int))) = true then (some ((0 : Int), (1 : Int))) else ((loop (f_turns_Found.s1 ax0 bx1) (0 : Int)).bind (fun q23 => sm q23 (fun q24 => (some ((0 : Int), (6 : Int)))) (fun q25 => (some (q25.1, q25.2))))))
theorem f_turns_Found_c {S : Nat → Prop} {w0 w : World} {ow : List Res} (hp : Hp S w0 w ow) (vax0 : Value) (ax0 : (List (Fl × Fl))) (hax0 : RdS Ek.c128 S w0 vax0 ax0) (vbx1 : Value) (bx1 : (List (Fl × Fl))) (hbx1 : RdS Ek.c128 S w0 vbx1 bx1) {r : (Int × Int)} (h : f_turns_Found ax0 bx1 = some r) :
    Calls Try.prog 30 #[vax0, vbx1] w (fun e w' => e = .returned (.tuple #[.int .i64 r.1, .int .i64 r.2]) ∧ Hp S w0 w' (ow)) := by
  unfold f_turns_Found at h
  refine enter (n := 40) (args := [vax0, vbx1]) Try.func30 rfl rfl (Nat.le_of_ble_eq_true rfl) fun a hf => ?_
  replace hf : Fr 40 a [(0, vax0), (1, vbx1)] := hf
  refine wp_mono (Q := fun e a w => e = .ret ∧ Fr 40 a [(4, .int .i64 r.1), (5, .int .i64 r.2)] ∧ Hp S w0 w (ow)) ?_ ?_
  rotate_left
  · rintro e a w ⟨rfl, hf, hp⟩
    exact ret2 hf rfl rfl rfl ⟨rfl, hp⟩
  refine wp_seq ?_
  refine wp_reg ?_
  refine st_assign hf rfl rfl (by decide) ?_
  clear hf; intro a ha hf; clear ha
  refine st_assign hf rfl rfl (by decide) ?_
  clear hf; intro a ha hf; clear ha
  refine st_nil hf ?_
  refine th_n ?_
  refine wp_scope_straight ?_
  refine wp_seq ?_
  refine wp_seq ?_
  refine wp_reg ?_
  refine st_move hf rfl rfl (by decide) ?_
  clear hf; intro a ha hf; clear ha
  refine st_len (E := Ek.c128) hf (by decide) Try.underlying44 rfl rfl (hax0.sl hp) ?_
  clear hf; intro a ha hf; clear ha
  refine st_igtr hf (by decide) rfl rfl rfl ?_
  clear hf; intro a ha hf; clear ha
  refine st_move hf rfl rfl (by decide) ?_
  clear hf; intro a ha hf; clear ha
  refine wpList_cut 6 (fun a w => Fr 40 a [(0, vax0), (1, vbx1), (18, .bool ((decide ((65536 : Int) < (ax0.length : Int))) || ((bx1.length : Int) != (ax0.length : Int))))] ∧ Hp S w0 w (ow)) ?_ ?_
  · rcases Bool.eq_false_or_eq_true (decide ((65536 : Int) < (ax0.length : Int))) with hb2 | hb2
    · skip
      refine st_skip hf (wantN hf rfl rfl hb2) rfl (by decide) ?_ rfl
      clear hf; intro a hf
      refine st_skip hf (wantN hf rfl rfl hb2) rfl (by decide) ?_ rfl
      clear hf; intro a hf
      refine st_skip hf (wantN hf rfl rfl hb2) rfl (by decide) ?_ rfl
      clear hf; intro a hf
      refine st_skip hf (wantN hf rfl rfl hb2) rfl (by decide) ?_ rfl
      clear hf; intro a hf
      refine st_skip hf (wantN hf rfl rfl hb2) rfl (by decide) ?_ rfl
      clear hf; intro a hf
      refine st_pick (v := .bool true) hf rfl rfl (fun hb' => ?_) (fun hb' => ?_) (by decide) ?_
      · rfl
      · exact absurd (hb2.symm.trans hb') (by decide)
      clear hf; intro a ha hf; clear ha
      refine st_nil hf (th_n ?_)
      exact ⟨hf.sub ⟨rfl, rfl, (by rw [hb2]; rfl), trivial⟩, hp⟩
    refine st_move hf (wantY hf rfl rfl hb2) rfl (by decide) ?_
    clear hf; intro a ha hf; clear ha
    refine st_len (E := Ek.c128) hf (by decide) Try.underlying44 (wantY hf rfl rfl hb2) rfl (hbx1.sl hp) ?_
    clear hf; intro a ha hf; clear ha
    refine st_move hf (wantY hf rfl rfl hb2) rfl (by decide) ?_
    clear hf; intro a ha hf; clear ha
    refine st_len (E := Ek.c128) hf (by decide) Try.underlying44 (wantY hf rfl rfl hb2) rfl (hax0.sl hp) ?_
    clear hf; intro a ha hf; clear ha
    refine st_ineq hf (by decide) (wantY hf rfl rfl hb2) rfl rfl ?_
    clear hf; intro a ha hf; clear ha
    refine st_pick (v := .bool ((bx1.length : Int) != (ax0.length : Int))) hf rfl rfl (fun hb' => ?_) (fun hb' => ?_) (by decide) ?_
    · exact absurd (hb2.symm.trans hb') (by decide)
    · rfl
    clear hf; intro a ha hf; clear ha
    refine st_nil hf (th_n ?_)
    exact ⟨hf.sub ⟨rfl, rfl, (by rw [hb2]; rfl), trivial⟩, hp⟩
  rintro a w ⟨hf, hp⟩
  refine st_nil hf ?_
  refine th_n ?_
  refine wp_if hf rfl (fun hb => ?_) (fun hb => ?_)
  · replace h := ifT h hb
    refine wp_seq ?_
    refine wp_reg ?_
    refine st_assign hf rfl rfl (by decide) ?_
    clear hf; intro a ha hf; clear ha
    refine st_assign hf rfl rfl (by decide) ?_
    clear hf; intro a ha hf; clear ha
    refine st_nil hf ?_
    refine th_n ?_
    refine wp_ret ?_
    refine th_r ?_
    refine ng_r ?_
    obtain rfl := Option.some.inj h
    exact ⟨rfl, ⟨hf.sub ⟨rfl, rfl, trivial⟩, hp⟩⟩
  replace h := ifF h hb
  refine wp_skip ?_
  refine th_n ?_
  refine wp_seq ?_
  refine wp_label ?_
  refine th_n ?_
  refine wp_seq ?_
  refine wp_seq ?_
  refine wp_reg ?_
  refine st_move hf rfl rfl (by decide) ?_
  clear hf; intro a ha hf; clear ha
  refine st_nil hf ?_
  refine th_n ?_
  refine wp_block ?_
  obtain ⟨q23, hl, h⟩ := bnd h
  refine wp_loop_pure (f := (f_turns_Found.s1 ax0 bx1)) (s := (0 : Int)) (fun s a w => Fr 40 a [(0, vax0), (1, vbx1), (19, .int .i64 s)] ∧ Hp S w0 w (ow)) (fun q e a w => match q with | (Sum.inl q) => e = .exit 0 ∧ Fr 40 a [] ∧ Hp S w0 w (ow) | (Sum.inr q) => e = .ret ∧ Fr 40 a [(4, .int .i64 q.1), (5, .int .i64 q.2)] ∧ Hp S w0 w (ow)) ?_ hl ⟨hf.sub ⟨rfl, rfl, rfl, trivial⟩, hp⟩ ?_
  · clear hl hf hp
    intro s x a w h hI
    obtain ⟨t19, hs⟩ : ∃ z, z = s := ⟨s, rfl⟩; subst hs
    obtain ⟨hf, hp⟩ : Fr 40 a [(0, vax0), (1, vbx1), (19, .int .i64 t19)] ∧ Hp S w0 w (ow) := hI
    replace h : f_turns_Found.s1c ax0 bx1 t19 = some x := h
    unfold f_turns_Found.s1c at h
    refine wp_seq ?_
    refine wp_reg ?_
    refine st_ilss hf (by decide) rfl rfl rfl ?_
    clear hf; intro a ha hf; clear ha
    refine st_nil hf ?_
    refine th_n ?_
    refine wp_seq ?_
    refine wp_if hf rfl (fun hb => ?_) (fun hb => ?_)
    · replace h := ifT h hb
      refine wp_skip ?_
      refine th_n ?_
      refine wp_seq ?_
      refine wp_block ?_
      refine wp_seq ?_
      refine wp_reg ?_
      refine st_move hf rfl rfl (by decide) ?_
      clear hf; intro a ha hf; clear ha
      refine st_assign hf rfl rfl (by decide) ?_
      clear hf; intro a ha hf; clear ha
      refine st_nil hf ?_
      refine th_n ?_
      refine wp_seq ?_
      refine wp_seq ?_
      refine wp_reg ?_
      refine st_move hf rfl rfl (by decide) ?_
      clear hf; intro a ha hf; clear ha
      refine st_len (E := Ek.c128) hf (by decide) Try.underlying44 rfl rfl (hax0.sl hp) ?_
      clear hf; intro a ha hf; clear ha
      refine st_move hf rfl rfl (by decide) ?_
      clear hf; intro a ha hf; clear ha
      refine st_nil hf ?_
      refine th_n ?_
      refine wp_block ?_
      obtain ⟨q20, hl, h⟩ := bnd h
      refine wp_loop_pure (f := (f_turns_Found.s2 ax0 bx1 t19)) (s := (0 : Int)) (fun s a w => Fr 40 a [(0, vax0), (1, vbx1), (6, .int .i64 t19), (19, .int .i64 t19), (22, vax0), (23, .int .i64 (ax0.length : Int)), (24, .int .i64 s)] ∧ Hp S w0 w (ow)) (fun q e a w => match q with | (Sum.inl q) => e = .exit 2 ∧ Fr 40 a [(6, .int .i64 t19)] ∧ Hp S w0 w (ow) | (Sum.inr q) => e = .exit 1 ∧ Fr 40 a [(0, vax0), (1, vbx1), (19, .int .i64 t19)] ∧ Hp S w0 w (ow)) ?_ hl ⟨hf.sub ⟨rfl, rfl, rfl, rfl, rfl, rfl, rfl, trivial⟩, hp⟩ ?_
      · clear hl hf hp
        intro s x a w h hI
        obtain ⟨t24, hs⟩ : ∃ z, z = s := ⟨s, rfl⟩; subst hs
        obtain ⟨hf, hp⟩ : Fr 40 a [(0, vax0), (1, vbx1), (6, .int .i64 t19), (19, .int .i64 t19), (22, vax0), (23, .int .i64 (ax0.length : Int)), (24, .int .i64 t24)] ∧ Hp S w0 w (ow) := hI
        replace h : f_turns_Found.s2c ax0 bx1 t19 t24 = some x := h
        unfold f_turns_Found.s2c at h
        refine wp_seq ?_
        refine wp_reg ?_
        refine st_ilss hf (by decide) rfl rfl rfl ?_
        clear hf; intro a ha hf; clear ha
        refine st_nil hf ?_
        refine th_n ?_
        refine wp_seq ?_
        refine wp_if hf rfl (fun hb => ?_) (fun hb => ?_)
        · replace h := ifT h hb
          refine wp_skip ?_
          refine th_n ?_
          refine wp_seq ?_
          refine wp_block ?_
          refine wp_seq ?_
          refine wp_reg ?_
          refine st_move hf rfl rfl (by decide) ?_
          clear hf; intro a ha hf; clear ha
          obtain ⟨hc3, h⟩ := chk h
          refine st_index (E := Ek.c128) hf (by decide) Try.underlying44 elt49 rfl rfl rfl (hax0.sl hp) hc3.1 hc3.2 ?_
          clear hf; intro a ha hf; clear ha
          refine st_ldC hf (by decide) pl49 rfl rfl (hax0.sl hp) hc3.1 hc3.2 ?_
          clear hf; intro a bb4 bb5 y6 y7 ha hf; clear ha
          refine st_assign hf rfl rfl (by decide) ?_
          clear hf; intro a ha hf; clear ha
          refine st_assign hf rfl rfl (by decide) ?_
          clear hf; intro a ha hf; clear ha
          refine st_nil hf ?_
          refine th_n ?_
          refine wp_seq ?_
          obtain ⟨q8, hcall9, h⟩ := bnd h
          obtain ⟨hc14, h⟩ := chk h
          obtain ⟨bb16, bb17, y18, y19, hl15⟩ := RdS.pinC (p := t24) hbx1 hc14.1 hc14.2
          refine wp_cutN (fun a w => Fr 40 a [(0, vax0), (1, vbx1), (6, .int .i64 t19), (19, .int .i64 t19), (22, vax0), (23, .int .i64 (ax0.length : Int)), (24, .int .i64 t24), (36, .bool (!ceq q8 (gt bx1 t24)))] ∧ Hp S w0 w (ow)) ?_ ?_
          · have hp := hp.same (Same.drew w)
            refine dr_begin' (fun a w => Fr 40 a [(0, vax0), (1, vbx1), (6, .int .i64 t19), (19, .int .i64 t19), (22, vax0), (23, .int .i64 (ax0.length : Int)), (24, .int .i64 t24), (36, .bool (!ceq q8 (gt bx1 t24)))] ∧ Hp S w0 w (ow)) (fun w' => ∃ l, Hp S w0 w' l) [] (by kernel_rfl) ?_
            refine dr_take 0 (.complex .f64 bb4 bb5) rfl (by kernel_rfl) (by kernel_rfl) (by kernel_rfl) (by kernel_rfl) rfl rfl hf (by decide) rfl (fun w hp => ?_) ⟨_, hp⟩ ?_
            · obtain ⟨_, hp⟩ := hp
              refine st_move hf rfl rfl (by decide) ?_
              clear hf; intro a ha hf
              exact st_nil hf (th_n ⟨ha, rfl⟩)
            clear hf; intro a hf
            refine dr_take 1 (.int .i64 t19) rfl (by kernel_rfl) (by kernel_rfl) (by kernel_rfl) (by kernel_rfl) rfl rfl hf (by decide) rfl (fun w hp => ?_) ⟨_, hp⟩ ?_
            · obtain ⟨_, hp⟩ := hp
              refine st_move hf rfl rfl (by decide) ?_
              clear hf; intro a ha hf
              exact st_nil hf (th_n ⟨ha, rfl⟩)
            clear hf; intro a hf
            refine dr_take 3 (vbx1) rfl (by kernel_rfl) (by kernel_rfl) (by kernel_rfl) (by kernel_rfl) rfl rfl hf (by decide) rfl (fun w hp => ?_) ⟨_, hp⟩ ?_
            · obtain ⟨_, hp⟩ := hp
              refine st_move hf rfl rfl (by decide) ?_
              clear hf; intro a ha hf
              exact st_nil hf (th_n ⟨ha, rfl⟩)
            clear hf; intro a hf
            refine dr_take 4 (.int .i64 t24) rfl (by kernel_rfl) (by kernel_rfl) (by kernel_rfl) (by kernel_rfl) rfl rfl hf (by decide) rfl (fun w hp => ?_) ⟨_, hp⟩ ?_
            · obtain ⟨_, hp⟩ := hp
              refine st_move hf rfl rfl (by decide) ?_
              clear hf; intro a ha hf
              exact st_nil hf (th_n ⟨ha, rfl⟩)
            clear hf; intro a hf
            refine dr_take 5 (eptr vbx1 t24 1) rfl (by kernel_rfl) (by kernel_rfl) (by kernel_rfl) (by kernel_rfl) rfl rfl hf (by decide) rfl (fun w hp => ?_) ⟨_, hp⟩ ?_
            · obtain ⟨_, hp⟩ := hp
              refine st_index (E := Ek.c128) hf (by decide) Try.underlying44 elt49 rfl rfl rfl (hbx1.sl hp) hc14.1 hc14.2 ?_
              clear hf; intro a ha hf
              exact st_nil hf (th_n ⟨ha, rfl⟩)
            clear hf; intro a hf
            refine dr_take 6 (.complex .f64 bb16 bb17) rfl (by kernel_rfl) (by kernel_rfl) (by kernel_rfl) (by kernel_rfl) rfl rfl hf (by decide) rfl (fun w hp => ?_) ⟨_, hp⟩ ?_
            · obtain ⟨_, hp⟩ := hp
              refine st_ldP hf (by decide) pl49 rfl rfl (hl15 _ _ hp) ?_
              clear hf; intro a ha hf
              exact st_nil hf (th_n ⟨ha, rfl⟩)
            clear hf; intro a hf
            refine dr_one 2 rfl (by kernel_rfl) ?_
            refine st_call hf (by decide) Try.func44 rfl rfl rfl rfl rfl (f_plane_Turn_c hp _ _ _ (show Fl.rep bb4 ((gt ax0 t24)).1 from y6) (show Fl.rep bb5 ((gt ax0 t24)).2 from y7) _ hcall9) ?_
            rintro _ w ⟨v10, v11, rfl, y12, y13, hp0⟩
            clear hp; have hp := hp0; clear hp0
            replace hp : Hp _ _ _ (ow) := hp
            refine ⟨_, rfl, ?_⟩
            clear hf; intro a hf
            refine st_nil hf (th_n ⟨fun _ _ => ⟨_, hp⟩, ?_⟩)
            refine dr_take 7 (.bool (!ceq q8 (gt bx1 t24))) rfl (by kernel_rfl) (by kernel_rfl) (by kernel_rfl) (by kernel_rfl) rfl rfl hf (by decide) rfl (fun w hp => ?_) ⟨_, hp⟩ ?_
            · obtain ⟨_, hp⟩ := hp
              refine st_ccmp (r_cne (x := q8) (y := (gt bx1 t24)) y12 y13 y18 y19) hf (by decide) rfl rfl rfl ?_
              clear hf; intro a ha hf
              exact st_nil hf (th_n ⟨ha, rfl⟩)
            clear hf; intro a hf
            refine dr_end (by kernel_rfl) ?_ _
            exact ⟨hf.sub ⟨rfl, rfl, rfl, rfl, rfl, rfl, rfl, rfl, trivial⟩, hp⟩
          rintro a w ⟨hf, hp⟩
          refine th_n ?_
          refine wp_if hf rfl (fun hb => ?_) (fun hb => ?_)
          · replace h := ifT h hb
            refine wp_exit ?_
            refine ib_ne rfl ?_
            refine th_e ?_
            obtain rfl := Option.some.inj h
            exact rnd_r (by simp) ⟨rfl, hf.sub ⟨rfl, rfl, rfl, trivial⟩, hp⟩
          replace h := ifF h hb
          refine wp_skip ?_
          refine ib_n ?_
          refine th_n ?_
          refine wp_reg ?_
          refine st_iadd hf (by decide) rfl rfl rfl ?_
          clear hf; intro a ha hf; clear ha
          refine st_move hf rfl rfl (by decide) ?_
          clear hf; intro a ha hf; clear ha
          refine st_nil hf ?_
          obtain rfl := Option.some.inj h
          exact rnd_l ⟨hf.sub ⟨rfl, rfl, rfl, rfl, rfl, rfl, rfl, trivial⟩, hp⟩
        replace h := ifF h hb
        refine wp_exit ?_
        refine th_e ?_
        obtain rfl := Option.some.inj h
        exact rnd_r (by simp) ⟨rfl, hf.sub ⟨rfl, trivial⟩, hp⟩
      clear hl hf hp
      intro e a w hne hO
      rcases q20 with q21 | q22
      · replace h := smL h
        obtain ⟨rfl, hf, hp⟩ := hO
        refine ib_same ?_
        refine th_n ?_
        refine wp_seq ?_
        refine wp_reg ?_
        refine st_move hf rfl rfl (by decide) ?_
        clear hf; intro a ha hf; clear ha
        refine st_assign hf rfl rfl (by decide) ?_
        clear hf; intro a ha hf; clear ha
        refine st_assign hf rfl rfl (by decide) ?_
        clear hf; intro a ha hf; clear ha
        refine st_nil hf ?_
        refine th_n ?_
        refine wp_ret ?_
        refine ib_r ?_
        refine th_r ?_
        obtain rfl := Option.some.inj h
        exact rnd_r (by simp) ⟨rfl, ⟨hf.sub ⟨rfl, rfl, trivial⟩, hp⟩⟩
      replace h := smR h
      obtain ⟨rfl, hf, hp⟩ := hO
      refine ib_ne rfl ?_
      refine th_e ?_
      refine ib_same ?_
      refine th_n ?_
      refine wp_reg ?_
      refine st_iadd hf (by decide) rfl rfl rfl ?_
      clear hf; intro a ha hf; clear ha
      refine st_move hf rfl rfl (by decide) ?_
      clear hf; intro a ha hf; clear ha
      refine st_nil hf ?_
      obtain rfl := Option.some.inj h
      exact rnd_l ⟨hf.sub ⟨rfl, rfl, rfl, trivial⟩, hp⟩
    replace h := ifF h hb
    refine wp_exit ?_
    refine th_e ?_
    obtain rfl := Option.some.inj h
    exact rnd_r (by simp) ⟨rfl, hf.sub trivial, hp⟩
  clear hl hf hp
  intro e a w hne hO
  rcases q23 with q24 | q25
  · replace h := smL h
    obtain ⟨rfl, hf, hp⟩ := hO
    refine ib_same ?_
    refine th_n ?_
    refine wp_seq ?_
    refine wp_reg ?_
    refine st_assign hf rfl rfl (by decide) ?_
    clear hf; intro a ha hf; clear ha
    refine st_assign hf rfl rfl (by decide) ?_
    clear hf; intro a ha hf; clear ha
    refine st_nil hf ?_
    refine th_n ?_
    refine wp_ret ?_
    refine ng_r ?_
    obtain rfl := Option.some.inj h
    exact ⟨rfl, ⟨hf.sub ⟨rfl, rfl, trivial⟩, hp⟩⟩
  replace h := smR h
  obtain ⟨rfl, hf, hp⟩ := hO
  refine ib_r ?_
  refine th_r ?_
  refine ng_r ?_
  obtain rfl := Option.some.inj h
  exact ⟨rfl, ⟨hf.sub ⟨rfl, rfl, trivial⟩, hp⟩⟩

end Go.Proofs.Ytienojgmpjpcjaa
