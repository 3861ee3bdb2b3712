/- The functions foghorn foghornlaw23.SoftCosts: what each answers, as a plain function, and that its call answers it; printed by gen.py. -/
import Derived.Test.YtcooefnbolobaaaProg
import Derived.Test.YtcooefnbolobaaaGlU
import Derived.KernelRfl
import Derived.Test.YtcooefnbolobaaaG1p2
set_option linter.unusedVariables false
set_option linter.unusedSimpArgs false
set_option maxRecDepth 100000
set_option maxHeartbeats 4000000
namespace Go.Proofs.Ytcooefnbolobaaa
open GL
noncomputable def f_foghornref21_Same.s1c (ax0 : (List Bool)) (bx1 : (List Bool)) (i5 : Int) : Option (Int ⊕ (Unit ⊕ Bool)) := (if (decide (i5 < (ax0.length : Int))) = true then (if 0 ≤ i5 ∧ i5 < (ax0.length : Int) then (if 0 ≤ i5 ∧ i5 < (bx1.length : Int) then (if ((gt ax0 i5) != (gt bx1 i5)) = true then (some (Sum.inr (Sum.inr false))) else (some (Sum.inl (IntKind.i64.wrap (i5 + (1 : Int)))))) else none) else none) else (some (Sum.inr (Sum.inl ()))))
noncomputable def f_foghornref21_Same.s1 (ax0 : (List Bool)) (bx1 : (List Bool)) (s : Int) : Option (Int ⊕ (Unit ⊕ Bool)) := f_foghornref21_Same.s1c ax0 bx1 s
noncomputable def f_foghornref21_Same (ax0 : (List Bool)) (bx1 : (List Bool)) : Option Bool := (if ((ax0.length : Int) != (bx1.length : Int)) = true then (some false) else ((loop (f_foghornref21_Same.s1 ax0 bx1) (0 : Int)).bind (fun q3 => sm q3 (fun q4 => (some true)) (fun q5 => (some q5)))))
theorem f_foghornref21_Same_c {S : Nat → Prop} {w0 w : World} {ow : List Res} (hp : Hp S w0 w ow) (vax0 : Value) (ax0 : (List Bool)) (hax0 : RdS Ek.bool S w0 vax0 ax0) (vbx1 : Value) (bx1 : (List Bool)) (hbx1 : RdS Ek.bool S w0 vbx1 bx1) {r : Bool} (h : f_foghornref21_Same ax0 bx1 = some r) :
    Calls Try.prog 19 #[vax0, vbx1] w (fun e w' => e = .returned (.bool r) ∧ Hp S w0 w' (ow)) := by
  unfold f_foghornref21_Same at h
  refine enter (n := 26) (args := [vax0, vbx1]) Try.func19 rfl rfl (Nat.le_of_ble_eq_true rfl) fun a hf => ?_
  replace hf : Fr 26 a [(0, vax0), (1, vbx1)] := hf
  refine wp_mono (Q := fun e a w => e = .ret ∧ Fr 26 a [(4, .bool r)] ∧ Hp S w0 w (ow)) ?_ ?_
  rotate_left
  · rintro e a w ⟨rfl, hf, hp⟩
    exact ret1 hf rfl rfl ⟨rfl, hp⟩
  refine wp_seq ?_
  refine wp_reg ?_
  refine st_assign hf rfl rfl (by decide) ?_
  clear hf; intro a ha hf; clear ha
  refine st_nil hf ?_
  refine th_n ?_
  refine wp_seq ?_
  refine wp_seq ?_
  refine wp_reg ?_
  refine st_move hf rfl rfl (by decide) ?_
  clear hf; intro a ha hf; clear ha
  refine st_len (E := Ek.bool) hf (by decide) Try.underlying25 rfl rfl (hax0.sl hp) ?_
  clear hf; intro a ha hf; clear ha
  refine st_move hf rfl rfl (by decide) ?_
  clear hf; intro a ha hf; clear ha
  refine st_len (E := Ek.bool) hf (by decide) Try.underlying25 rfl rfl (hbx1.sl hp) ?_
  clear hf; intro a ha hf; clear ha
  refine st_ineq hf (by decide) rfl rfl rfl ?_
  clear hf; intro a ha hf; clear ha
  refine st_nil hf ?_
  refine th_n ?_
  refine wp_if hf rfl (fun hb => ?_) (fun hb => ?_)
  · replace h := ifT h hb
    refine wp_seq ?_
    refine wp_reg ?_
    refine st_assign hf rfl rfl (by decide) ?_
    clear hf; intro a ha hf; clear ha
    refine st_nil hf ?_
    refine th_n ?_
    refine wp_ret ?_
    refine th_r ?_
    obtain rfl := Option.some.inj h
    exact ⟨rfl, ⟨hf.sub ⟨rfl, trivial⟩, hp⟩⟩
  replace h := ifF h hb
  refine wp_skip ?_
  refine th_n ?_
  refine wp_seq ?_
  refine wp_seq ?_
  refine wp_reg ?_
  refine st_assign hf rfl rfl (by decide) ?_
  clear hf; intro a ha hf; clear ha
  refine st_nil hf ?_
  refine th_n ?_
  refine wp_block ?_
  obtain ⟨q3, hl, h⟩ := bnd h
  refine wp_loop_pure (f := (f_foghornref21_Same.s1 ax0 bx1)) (s := (0 : Int)) (fun s a w => Fr 26 a [(0, vax0), (1, vbx1), (5, .int .i64 s)] ∧ Hp S w0 w (ow)) (fun q e a w => match q with | (Sum.inl q) => e = .exit 0 ∧ Fr 26 a [] ∧ Hp S w0 w (ow) | (Sum.inr q) => e = .ret ∧ Fr 26 a [(4, .bool q)] ∧ Hp S w0 w (ow)) ?_ hl ⟨hf.sub ⟨rfl, rfl, rfl, trivial⟩, hp⟩ ?_
  · clear hl hf hp
    intro s x a w h hI
    obtain ⟨i5, hs⟩ : ∃ z, z = s := ⟨s, rfl⟩; subst hs
    obtain ⟨hf, hp⟩ : Fr 26 a [(0, vax0), (1, vbx1), (5, .int .i64 i5)] ∧ Hp S w0 w (ow) := hI
    replace h : f_foghornref21_Same.s1c ax0 bx1 i5 = some x := h
    unfold f_foghornref21_Same.s1c at h
    refine wp_seq ?_
    refine wp_seq ?_
    refine wp_reg ?_
    refine st_move hf rfl rfl (by decide) ?_
    clear hf; intro a ha hf; clear ha
    refine st_move hf rfl rfl (by decide) ?_
    clear hf; intro a ha hf; clear ha
    refine st_len (E := Ek.bool) hf (by decide) Try.underlying25 rfl rfl (hax0.sl hp) ?_
    clear hf; intro a ha hf; clear ha
    refine st_ilss hf (by decide) rfl rfl rfl ?_
    clear hf; intro a ha hf; clear ha
    refine st_nil hf ?_
    refine th_n ?_
    refine wp_if hf rfl (fun hb => ?_) (fun hb => ?_)
    · replace h := ifT h hb
      refine wp_skip ?_
      refine th_n ?_
      refine wp_seq ?_
      refine wp_block ?_
      refine wp_seq ?_
      obtain ⟨hc1, h⟩ := chk h
      obtain ⟨hc2, h⟩ := chk h
      refine wp_cutN (fun a w => Fr 26 a [(0, vax0), (1, vbx1), (5, .int .i64 i5), (25, .bool ((gt ax0 i5) != (gt bx1 i5)))] ∧ Hp S w0 w (ow)) ?_ ?_
      · have hp := hp.same (Same.drew w)
        refine dr_begin' (fun a w => Fr 26 a [(0, vax0), (1, vbx1), (5, .int .i64 i5), (25, .bool ((gt ax0 i5) != (gt bx1 i5)))] ∧ Hp S w0 w (ow)) (fun w' => ∃ l, Hp S w0 w' l) [] (by kernel_rfl) ?_
        refine dr_take 0 (vax0) rfl (by kernel_rfl) (by kernel_rfl) (by kernel_rfl) (by kernel_rfl) rfl rfl hf (by decide) rfl (fun w hp => ?_) ⟨_, hp⟩ ?_
        · obtain ⟨_, hp⟩ := hp
          refine st_move hf rfl rfl (by decide) ?_
          clear hf; intro a ha hf
          exact st_nil hf (th_n ⟨ha, rfl⟩)
        clear hf; intro a hf
        refine dr_take 1 (.int .i64 i5) rfl (by kernel_rfl) (by kernel_rfl) (by kernel_rfl) (by kernel_rfl) rfl rfl hf (by decide) rfl (fun w hp => ?_) ⟨_, hp⟩ ?_
        · obtain ⟨_, hp⟩ := hp
          refine st_move hf rfl rfl (by decide) ?_
          clear hf; intro a ha hf
          exact st_nil hf (th_n ⟨ha, rfl⟩)
        clear hf; intro a hf
        refine dr_take 2 (eptr vax0 i5 1) rfl (by kernel_rfl) (by kernel_rfl) (by kernel_rfl) (by kernel_rfl) rfl rfl hf (by decide) rfl (fun w hp => ?_) ⟨_, hp⟩ ?_
        · obtain ⟨_, hp⟩ := hp
          refine st_index (E := Ek.bool) hf (by decide) Try.underlying25 elt4 rfl rfl rfl (hax0.sl hp) hc1.1 hc1.2 ?_
          clear hf; intro a ha hf
          exact st_nil hf (th_n ⟨ha, rfl⟩)
        clear hf; intro a hf
        refine dr_take 3 (.bool (gt ax0 i5)) rfl (by kernel_rfl) (by kernel_rfl) (by kernel_rfl) (by kernel_rfl) rfl rfl hf (by decide) rfl (fun w hp => ?_) ⟨_, hp⟩ ?_
        · obtain ⟨_, hp⟩ := hp
          refine st_ldB hf (by decide) pl4 rfl rfl (hax0.sl hp) hc1.1 hc1.2 ?_
          clear hf; intro a ha hf
          exact st_nil hf (th_n ⟨ha, rfl⟩)
        clear hf; intro a hf
        refine dr_take 4 (vbx1) rfl (by kernel_rfl) (by kernel_rfl) (by kernel_rfl) (by kernel_rfl) rfl rfl hf (by decide) rfl (fun w hp => ?_) ⟨_, hp⟩ ?_
        · obtain ⟨_, hp⟩ := hp
          refine st_move hf rfl rfl (by decide) ?_
          clear hf; intro a ha hf
          exact st_nil hf (th_n ⟨ha, rfl⟩)
        clear hf; intro a hf
        refine dr_take 5 (.int .i64 i5) rfl (by kernel_rfl) (by kernel_rfl) (by kernel_rfl) (by kernel_rfl) rfl rfl hf (by decide) rfl (fun w hp => ?_) ⟨_, hp⟩ ?_
        · obtain ⟨_, hp⟩ := hp
          refine st_move hf rfl rfl (by decide) ?_
          clear hf; intro a ha hf
          exact st_nil hf (th_n ⟨ha, rfl⟩)
        clear hf; intro a hf
        refine dr_take 6 (eptr vbx1 i5 1) rfl (by kernel_rfl) (by kernel_rfl) (by kernel_rfl) (by kernel_rfl) rfl rfl hf (by decide) rfl (fun w hp => ?_) ⟨_, hp⟩ ?_
        · obtain ⟨_, hp⟩ := hp
          refine st_index (E := Ek.bool) hf (by decide) Try.underlying25 elt4 rfl rfl rfl (hbx1.sl hp) hc2.1 hc2.2 ?_
          clear hf; intro a ha hf
          exact st_nil hf (th_n ⟨ha, rfl⟩)
        clear hf; intro a hf
        refine dr_take 7 (.bool (gt bx1 i5)) rfl (by kernel_rfl) (by kernel_rfl) (by kernel_rfl) (by kernel_rfl) rfl rfl hf (by decide) rfl (fun w hp => ?_) ⟨_, hp⟩ ?_
        · obtain ⟨_, hp⟩ := hp
          refine st_ldB hf (by decide) pl4 rfl rfl (hbx1.sl hp) hc2.1 hc2.2 ?_
          clear hf; intro a ha hf
          exact st_nil hf (th_n ⟨ha, rfl⟩)
        clear hf; intro a hf
        refine dr_take 8 (.bool ((gt ax0 i5) != (gt bx1 i5))) rfl (by kernel_rfl) (by kernel_rfl) (by kernel_rfl) (by kernel_rfl) rfl rfl hf (by decide) rfl (fun w hp => ?_) ⟨_, hp⟩ ?_
        · obtain ⟨_, hp⟩ := hp
          refine st_bneq hf (by decide) Try.underlying4 rfl rfl rfl ?_
          clear hf; intro a ha hf
          exact st_nil hf (th_n ⟨ha, rfl⟩)
        clear hf; intro a hf
        refine dr_end (by kernel_rfl) ?_ _
        exact ⟨hf.sub ⟨rfl, rfl, rfl, rfl, trivial⟩, hp⟩
      rintro a w ⟨hf, hp⟩
      refine th_n ?_
      refine wp_if hf rfl (fun hb => ?_) (fun hb => ?_)
      · replace h := ifT h hb
        refine wp_seq ?_
        refine wp_reg ?_
        refine st_assign hf rfl rfl (by decide) ?_
        clear hf; intro a ha hf; clear ha
        refine st_nil hf ?_
        refine th_n ?_
        refine wp_ret ?_
        refine ib_r ?_
        refine th_r ?_
        obtain rfl := Option.some.inj h
        exact rnd_r (by simp) ⟨rfl, ⟨hf.sub ⟨rfl, trivial⟩, hp⟩⟩
      replace h := ifF h hb
      refine wp_skip ?_
      refine ib_n ?_
      refine th_n ?_
      refine wp_reg ?_
      refine st_move hf rfl rfl (by decide) ?_
      clear hf; intro a ha hf; clear ha
      refine st_iadd hf (by decide) rfl rfl rfl ?_
      clear hf; intro a ha hf; clear ha
      refine st_assign hf rfl rfl (by decide) ?_
      clear hf; intro a ha hf; clear ha
      refine st_nil hf ?_
      obtain rfl := Option.some.inj h
      exact rnd_l ⟨hf.sub ⟨rfl, rfl, rfl, trivial⟩, hp⟩
    replace h := ifF h hb
    refine wp_exit ?_
    refine th_e ?_
    obtain rfl := Option.some.inj h
    exact rnd_r (by simp) ⟨rfl, hf.sub trivial, hp⟩
  clear hl hf hp
  intro e a w hne hO
  rcases q3 with q4 | q5
  · replace h := smL h
    obtain ⟨rfl, hf, hp⟩ := hO
    refine ib_same ?_
    refine th_n ?_
    refine wp_seq ?_
    refine wp_reg ?_
    refine st_assign hf rfl rfl (by decide) ?_
    clear hf; intro a ha hf; clear ha
    refine st_nil hf ?_
    refine th_n ?_
    refine wp_ret ?_
    obtain rfl := Option.some.inj h
    exact ⟨rfl, ⟨hf.sub ⟨rfl, trivial⟩, hp⟩⟩
  replace h := smR h
  obtain ⟨rfl, hf, hp⟩ := hO
  refine ib_r ?_
  refine th_r ?_
  obtain rfl := Option.some.inj h
  exact ⟨rfl, ⟨hf.sub ⟨rfl, trivial⟩, hp⟩⟩

noncomputable def f_foghornref02_Same.s1c (ax0 : (List ((Fl × Fl) × Bool))) (bx1 : (List ((Fl × Fl) × Bool))) (i5 : Int) : Option (Int ⊕ (Unit ⊕ Bool)) := (if (decide (i5 < (ax0.length : Int))) = true then (if 0 ≤ i5 ∧ i5 < (ax0.length : Int) then (if 0 ≤ i5 ∧ i5 < (bx1.length : Int) then ((if (((gt ax0 i5).2) != ((gt bx1 i5).2)) = true then (some true) else (if 0 ≤ i5 ∧ i5 < (ax0.length : Int) then (if 0 ≤ i5 ∧ i5 < (bx1.length : Int) then (some (!ceq ((gt ax0 i5).1) ((gt bx1 i5).1))) else none) else none)).bind fun z17 => (if z17 = true then (some (Sum.inr (Sum.inr false))) else (some (Sum.inl (IntKind.i64.wrap (i5 + (1 : Int))))))) else none) else none) else (some (Sum.inr (Sum.inl ()))))
noncomputable def f_foghornref02_Same.s1 (ax0 : (List ((Fl × Fl) × Bool))) (bx1 : (List ((Fl × Fl) × Bool))) (s : Int) : Option (Int ⊕ (Unit ⊕ Bool)) := f_foghornref02_Same.s1c ax0 bx1 s
noncomputable def f_foghornref02_Same (ax0 : (List ((Fl × Fl) × Bool))) (bx1 : (List ((Fl × Fl) × Bool))) : Option Bool := (if ((ax0.length : Int) != (bx1.length : Int)) = true then (some false) else ((loop (f_foghornref02_Same.s1 ax0 bx1) (0 : Int)).bind (fun q18 => sm q18 (fun q19 => (some true)) (fun q20 => (some q20)))))
theorem f_foghornref02_Same_c {S : Nat → Prop} {w0 w : World} {ow : List Res} (hp : Hp S w0 w ow) (vax0 : Value) (ax0 : (List ((Fl × Fl) × Bool))) (hax0 : RdS (Ek.pair Ek.c128 Ek.bool) S w0 vax0 ax0) (vbx1 : Value) (bx1 : (List ((Fl × Fl) × Bool))) (hbx1 : RdS (Ek.pair Ek.c128 Ek.bool) S w0 vbx1 bx1) {r : Bool} (h : f_foghornref02_Same ax0 bx1 = some r) :
    Calls Try.prog 20 #[vax0, vbx1] w (fun e w' => e = .returned (.bool r) ∧ Hp S w0 w' (ow)) := by
  unfold f_foghornref02_Same at h
  refine enter (n := 41) (args := [vax0, vbx1]) Try.func20 rfl rfl (Nat.le_of_ble_eq_true rfl) fun a hf => ?_
  replace hf : Fr 41 a [(0, vax0), (1, vbx1)] := hf
  refine wp_mono (Q := fun e a w => e = .ret ∧ Fr 41 a [(4, .bool r)] ∧ Hp S w0 w (ow)) ?_ ?_
  rotate_left
  · rintro e a w ⟨rfl, hf, hp⟩
    exact ret1 hf rfl rfl ⟨rfl, hp⟩
  refine wp_seq ?_
  refine wp_reg ?_
  refine st_assign hf rfl rfl (by decide) ?_
  clear hf; intro a ha hf; clear ha
  refine st_nil hf ?_
  refine th_n ?_
  refine wp_seq ?_
  refine wp_seq ?_
  refine wp_reg ?_
  refine st_move hf rfl rfl (by decide) ?_
  clear hf; intro a ha hf; clear ha
  refine st_len (E := (Ek.pair Ek.c128 Ek.bool)) hf (by decide) Try.underlying27 rfl rfl (hax0.sl hp) ?_
  clear hf; intro a ha hf; clear ha
  refine st_move hf rfl rfl (by decide) ?_
  clear hf; intro a ha hf; clear ha
  refine st_len (E := (Ek.pair Ek.c128 Ek.bool)) hf (by decide) Try.underlying27 rfl rfl (hbx1.sl hp) ?_
  clear hf; intro a ha hf; clear ha
  refine st_ineq hf (by decide) rfl rfl rfl ?_
  clear hf; intro a ha hf; clear ha
  refine st_nil hf ?_
  refine th_n ?_
  refine wp_if hf rfl (fun hb => ?_) (fun hb => ?_)
  · replace h := ifT h hb
    refine wp_seq ?_
    refine wp_reg ?_
    refine st_assign hf rfl rfl (by decide) ?_
    clear hf; intro a ha hf; clear ha
    refine st_nil hf ?_
    refine th_n ?_
    refine wp_ret ?_
    refine th_r ?_
    obtain rfl := Option.some.inj h
    exact ⟨rfl, ⟨hf.sub ⟨rfl, trivial⟩, hp⟩⟩
  replace h := ifF h hb
  refine wp_skip ?_
  refine th_n ?_
  refine wp_seq ?_
  refine wp_seq ?_
  refine wp_reg ?_
  refine st_assign hf rfl rfl (by decide) ?_
  clear hf; intro a ha hf; clear ha
  refine st_nil hf ?_
  refine th_n ?_
  refine wp_block ?_
  obtain ⟨q18, hl, h⟩ := bnd h
  refine wp_loop_pure (f := (f_foghornref02_Same.s1 ax0 bx1)) (s := (0 : Int)) (fun s a w => Fr 41 a [(0, vax0), (1, vbx1), (5, .int .i64 s)] ∧ Hp S w0 w (ow)) (fun q e a w => match q with | (Sum.inl q) => e = .exit 0 ∧ Fr 41 a [] ∧ Hp S w0 w (ow) | (Sum.inr q) => e = .ret ∧ Fr 41 a [(4, .bool q)] ∧ Hp S w0 w (ow)) ?_ hl ⟨hf.sub ⟨rfl, rfl, rfl, trivial⟩, hp⟩ ?_
  · clear hl hf hp
    intro s x a w h hI
    obtain ⟨i5, hs⟩ : ∃ z, z = s := ⟨s, rfl⟩; subst hs
    obtain ⟨hf, hp⟩ : Fr 41 a [(0, vax0), (1, vbx1), (5, .int .i64 i5)] ∧ Hp S w0 w (ow) := hI
    replace h : f_foghornref02_Same.s1c ax0 bx1 i5 = some x := h
    unfold f_foghornref02_Same.s1c at h
    refine wp_seq ?_
    refine wp_seq ?_
    refine wp_reg ?_
    refine st_move hf rfl rfl (by decide) ?_
    clear hf; intro a ha hf; clear ha
    refine st_move hf rfl rfl (by decide) ?_
    clear hf; intro a ha hf; clear ha
    refine st_len (E := (Ek.pair Ek.c128 Ek.bool)) hf (by decide) Try.underlying27 rfl rfl (hax0.sl hp) ?_
    clear hf; intro a ha hf; clear ha
    refine st_ilss hf (by decide) rfl rfl rfl ?_
    clear hf; intro a ha hf; clear ha
    refine st_nil hf ?_
    refine th_n ?_
    refine wp_if hf rfl (fun hb => ?_) (fun hb => ?_)
    · replace h := ifT h hb
      refine wp_skip ?_
      refine th_n ?_
      refine wp_seq ?_
      refine wp_block ?_
      refine wp_seq ?_
      obtain ⟨hc1, h⟩ := chk h
      obtain ⟨hc2, h⟩ := chk h
      obtain ⟨z17, hz3, h⟩ := bnd h
      refine wp_cutN (fun a w => Fr 41 a [(0, vax0), (1, vbx1), (5, .int .i64 i5), (40, .bool z17)] ∧ Hp S w0 w (ow)) ?_ ?_
      · have hp := hp.same (Same.drew w)
        rcases Bool.eq_false_or_eq_true (((gt ax0 i5).2) != ((gt bx1 i5).2)) with hb4 | hb4
        · skip
          replace hz3 := ifT hz3 hb4
          replace hz3 := Option.some.inj hz3
          refine dr_begin' (fun a w => Fr 41 a [(0, vax0), (1, vbx1), (5, .int .i64 i5), (40, .bool z17)] ∧ Hp S w0 w (ow)) (fun w' => ∃ l, Hp S w0 w' l) [] (by kernel_rfl) ?_
          refine dr_take 0 (vax0) rfl (by kernel_rfl) (by kernel_rfl) (by kernel_rfl) (by kernel_rfl) rfl rfl hf (by decide) rfl (fun w hp => ?_) ⟨_, hp⟩ ?_
          · obtain ⟨_, hp⟩ := hp
            refine st_move hf rfl rfl (by decide) ?_
            clear hf; intro a ha hf
            exact st_nil hf (th_n ⟨ha, rfl⟩)
          clear hf; intro a hf
          refine dr_take 1 (.int .i64 i5) rfl (by kernel_rfl) (by kernel_rfl) (by kernel_rfl) (by kernel_rfl) rfl rfl hf (by decide) rfl (fun w hp => ?_) ⟨_, hp⟩ ?_
          · obtain ⟨_, hp⟩ := hp
            refine st_move hf rfl rfl (by decide) ?_
            clear hf; intro a ha hf
            exact st_nil hf (th_n ⟨ha, rfl⟩)
          clear hf; intro a hf
          refine dr_take 2 (eptr vax0 i5 2) rfl (by kernel_rfl) (by kernel_rfl) (by kernel_rfl) (by kernel_rfl) rfl rfl hf (by decide) rfl (fun w hp => ?_) ⟨_, hp⟩ ?_
          · obtain ⟨_, hp⟩ := hp
            refine st_index (E := (Ek.pair Ek.c128 Ek.bool)) hf (by decide) Try.underlying27 elt35 rfl rfl rfl (hax0.sl hp) hc1.1 hc1.2 ?_
            clear hf; intro a ha hf
            exact st_nil hf (th_n ⟨ha, rfl⟩)
          clear hf; intro a hf
          refine dr_take 3 (optr (eptr vax0 i5 2) 1) rfl (by kernel_rfl) (by kernel_rfl) (by kernel_rfl) (by kernel_rfl) rfl rfl hf (by decide) rfl (fun w hp => ?_) ⟨_, hp⟩ ?_
          · obtain ⟨_, hp⟩ := hp
            refine st_faP (off := 1) (sz := 1) hf (by decide) (by kernel_rfl) (by decide) rfl rfl (Sl.isP (hax0.sl hp) hc1.1 hc1.2) ?_
            clear hf; intro a ha hf
            exact st_nil hf (th_n ⟨ha, rfl⟩)
          clear hf; intro a hf
          refine dr_take 4 (.bool ((gt ax0 i5).2)) rfl (by kernel_rfl) (by kernel_rfl) (by kernel_rfl) (by kernel_rfl) rfl rfl hf (by decide) rfl (fun w hp => ?_) ⟨_, hp⟩ ?_
          · obtain ⟨_, hp⟩ := hp
            refine st_ldQ (F := Ek.bool) (yv := (gt ax0 i5).2) hf (by decide) pl4 (fun x => .bool x) (fun _ _ h => h) rfl rfl (Sl.part (E := (Ek.pair Ek.c128 Ek.bool)) (F := Ek.bool) (o := 1) (Sub.snd (E := Ek.c128) (F := Ek.bool)) (hax0.sl hp) hc1.1 hc1.2) ?_
            clear hf; intro a ha hf
            exact st_nil hf (th_n ⟨ha, rfl⟩)
          clear hf; intro a hf
          refine dr_take 5 (vbx1) rfl (by kernel_rfl) (by kernel_rfl) (by kernel_rfl) (by kernel_rfl) rfl rfl hf (by decide) rfl (fun w hp => ?_) ⟨_, hp⟩ ?_
          · obtain ⟨_, hp⟩ := hp
            refine st_move hf rfl rfl (by decide) ?_
            clear hf; intro a ha hf
            exact st_nil hf (th_n ⟨ha, rfl⟩)
          clear hf; intro a hf
          refine dr_take 6 (.int .i64 i5) rfl (by kernel_rfl) (by kernel_rfl) (by kernel_rfl) (by kernel_rfl) rfl rfl hf (by decide) rfl (fun w hp => ?_) ⟨_, hp⟩ ?_
          · obtain ⟨_, hp⟩ := hp
            refine st_move hf rfl rfl (by decide) ?_
            clear hf; intro a ha hf
            exact st_nil hf (th_n ⟨ha, rfl⟩)
          clear hf; intro a hf
          refine dr_take 7 (eptr vbx1 i5 2) rfl (by kernel_rfl) (by kernel_rfl) (by kernel_rfl) (by kernel_rfl) rfl rfl hf (by decide) rfl (fun w hp => ?_) ⟨_, hp⟩ ?_
          · obtain ⟨_, hp⟩ := hp
            refine st_index (E := (Ek.pair Ek.c128 Ek.bool)) hf (by decide) Try.underlying27 elt35 rfl rfl rfl (hbx1.sl hp) hc2.1 hc2.2 ?_
            clear hf; intro a ha hf
            exact st_nil hf (th_n ⟨ha, rfl⟩)
          clear hf; intro a hf
          refine dr_take 8 (optr (eptr vbx1 i5 2) 1) rfl (by kernel_rfl) (by kernel_rfl) (by kernel_rfl) (by kernel_rfl) rfl rfl hf (by decide) rfl (fun w hp => ?_) ⟨_, hp⟩ ?_
          · obtain ⟨_, hp⟩ := hp
            refine st_faP (off := 1) (sz := 1) hf (by decide) (by kernel_rfl) (by decide) rfl rfl (Sl.isP (hbx1.sl hp) hc2.1 hc2.2) ?_
            clear hf; intro a ha hf
            exact st_nil hf (th_n ⟨ha, rfl⟩)
          clear hf; intro a hf
          refine dr_take 9 (.bool ((gt bx1 i5).2)) rfl (by kernel_rfl) (by kernel_rfl) (by kernel_rfl) (by kernel_rfl) rfl rfl hf (by decide) rfl (fun w hp => ?_) ⟨_, hp⟩ ?_
          · obtain ⟨_, hp⟩ := hp
            refine st_ldQ (F := Ek.bool) (yv := (gt bx1 i5).2) hf (by decide) pl4 (fun x => .bool x) (fun _ _ h => h) rfl rfl (Sl.part (E := (Ek.pair Ek.c128 Ek.bool)) (F := Ek.bool) (o := 1) (Sub.snd (E := Ek.c128) (F := Ek.bool)) (hbx1.sl hp) hc2.1 hc2.2) ?_
            clear hf; intro a ha hf
            exact st_nil hf (th_n ⟨ha, rfl⟩)
          clear hf; intro a hf
          refine dr_take 10 (.bool (((gt ax0 i5).2) != ((gt bx1 i5).2))) rfl (by kernel_rfl) (by kernel_rfl) (by kernel_rfl) (by kernel_rfl) rfl rfl hf (by decide) rfl (fun w hp => ?_) ⟨_, hp⟩ ?_
          · obtain ⟨_, hp⟩ := hp
            refine st_bneq hf (by decide) Try.underlying4 rfl rfl rfl ?_
            clear hf; intro a ha hf
            exact st_nil hf (th_n ⟨ha, rfl⟩)
          clear hf; intro a hf
          refine dr_take 11 (.bool (((gt ax0 i5).2) != ((gt bx1 i5).2))) rfl (by kernel_rfl) (by kernel_rfl) (by kernel_rfl) (by kernel_rfl) rfl rfl hf (by decide) rfl (fun w hp => ?_) ⟨_, hp⟩ ?_
          · obtain ⟨_, hp⟩ := hp
            refine st_move hf rfl rfl (by decide) ?_
            clear hf; intro a ha hf
            exact st_nil hf (th_n ⟨ha, rfl⟩)
          clear hf; intro a hf
          refine dr_out 12 rfl (by kernel_rfl) (by kernel_rfl) (by kernel_rfl) (by kernel_rfl) rfl hf (by decide) rfl (wantN hf rfl rfl hb4) ⟨_, hp⟩ ?_
          clear hf; intro a hf
          refine dr_out 13 rfl (by kernel_rfl) (by kernel_rfl) (by kernel_rfl) (by kernel_rfl) rfl hf (by decide) rfl (wantN hf rfl rfl hb4) ⟨_, hp⟩ ?_
          clear hf; intro a hf
          refine dr_out 14 rfl (by kernel_rfl) (by kernel_rfl) (by kernel_rfl) (by kernel_rfl) rfl hf (by decide) rfl (wantN hf rfl rfl hb4) ⟨_, hp⟩ ?_
          clear hf; intro a hf
          refine dr_out 15 rfl (by kernel_rfl) (by kernel_rfl) (by kernel_rfl) (by kernel_rfl) rfl hf (by decide) rfl (wantN hf rfl rfl hb4) ⟨_, hp⟩ ?_
          clear hf; intro a hf
          refine dr_out 16 rfl (by kernel_rfl) (by kernel_rfl) (by kernel_rfl) (by kernel_rfl) rfl hf (by decide) rfl (wantN hf rfl rfl hb4) ⟨_, hp⟩ ?_
          clear hf; intro a hf
          refine dr_out 17 rfl (by kernel_rfl) (by kernel_rfl) (by kernel_rfl) (by kernel_rfl) rfl hf (by decide) rfl (wantN hf rfl rfl hb4) ⟨_, hp⟩ ?_
          clear hf; intro a hf
          refine dr_out 18 rfl (by kernel_rfl) (by kernel_rfl) (by kernel_rfl) (by kernel_rfl) rfl hf (by decide) rfl (wantN hf rfl rfl hb4) ⟨_, hp⟩ ?_
          clear hf; intro a hf
          refine dr_out 19 rfl (by kernel_rfl) (by kernel_rfl) (by kernel_rfl) (by kernel_rfl) rfl hf (by decide) rfl (wantN hf rfl rfl hb4) ⟨_, hp⟩ ?_
          clear hf; intro a hf
          refine dr_out 20 rfl (by kernel_rfl) (by kernel_rfl) (by kernel_rfl) (by kernel_rfl) rfl hf (by decide) rfl (wantN hf rfl rfl hb4) ⟨_, hp⟩ ?_
          clear hf; intro a hf
          refine dr_out 21 rfl (by kernel_rfl) (by kernel_rfl) (by kernel_rfl) (by kernel_rfl) rfl hf (by decide) rfl (wantN hf rfl rfl hb4) ⟨_, hp⟩ ?_
          clear hf; intro a hf
          refine dr_out 22 rfl (by kernel_rfl) (by kernel_rfl) (by kernel_rfl) (by kernel_rfl) rfl hf (by decide) rfl (wantN hf rfl rfl hb4) ⟨_, hp⟩ ?_
          clear hf; intro a hf
          refine dr_take 23 (.bool z17) rfl (by kernel_rfl) (by kernel_rfl) (by kernel_rfl) (by kernel_rfl) rfl rfl hf (by decide) rfl (fun w hp => ?_) ⟨_, hp⟩ ?_
          · obtain ⟨_, hp⟩ := hp
            refine st_pick (v := .bool z17) hf rfl rfl (fun _ => by rw [← hz3]; rfl) (fun hb' => absurd (hb4.symm.trans hb') (by decide)) (by decide) ?_
            clear hf; intro a ha hf
            exact st_nil hf (th_n ⟨ha, rfl⟩)
          clear hf; intro a hf
          refine dr_end (by kernel_rfl) ?_ _
          exact ⟨hf.sub ⟨rfl, rfl, rfl, rfl, trivial⟩, hp⟩
        skip
        replace hz3 := ifF hz3 hb4
        obtain ⟨hc5, hz3⟩ := chk hz3
        obtain ⟨bb7, bb8, y9, y10, hl6⟩ := RdS.pinPC (p := i5) (o := 0) (Sub.fst (E := Ek.c128) (F := Ek.bool)) hax0 hc5.1 hc5.2
        obtain ⟨hc11, hz3⟩ := chk hz3
        obtain ⟨bb13, bb14, y15, y16, hl12⟩ := RdS.pinPC (p := i5) (o := 0) (Sub.fst (E := Ek.c128) (F := Ek.bool)) hbx1 hc11.1 hc11.2
        replace hz3 := Option.some.inj hz3
        refine dr_begin' (fun a w => Fr 41 a [(0, vax0), (1, vbx1), (5, .int .i64 i5), (40, .bool z17)] ∧ Hp S w0 w (ow)) (fun w' => ∃ l, Hp S w0 w' l) [] (by kernel_rfl) ?_
        refine dr_take 0 (vax0) rfl (by kernel_rfl) (by kernel_rfl) (by kernel_rfl) (by kernel_rfl) rfl rfl hf (by decide) rfl (fun w hp => ?_) ⟨_, hp⟩ ?_
        · obtain ⟨_, hp⟩ := hp
          refine st_move hf rfl rfl (by decide) ?_
          clear hf; intro a ha hf
          exact st_nil hf (th_n ⟨ha, rfl⟩)
        clear hf; intro a hf
        refine dr_take 1 (.int .i64 i5) rfl (by kernel_rfl) (by kernel_rfl) (by kernel_rfl) (by kernel_rfl) rfl rfl hf (by decide) rfl (fun w hp => ?_) ⟨_, hp⟩ ?_
        · obtain ⟨_, hp⟩ := hp
          refine st_move hf rfl rfl (by decide) ?_
          clear hf; intro a ha hf
          exact st_nil hf (th_n ⟨ha, rfl⟩)
        clear hf; intro a hf
        refine dr_take 2 (eptr vax0 i5 2) rfl (by kernel_rfl) (by kernel_rfl) (by kernel_rfl) (by kernel_rfl) rfl rfl hf (by decide) rfl (fun w hp => ?_) ⟨_, hp⟩ ?_
        · obtain ⟨_, hp⟩ := hp
          refine st_index (E := (Ek.pair Ek.c128 Ek.bool)) hf (by decide) Try.underlying27 elt35 rfl rfl rfl (hax0.sl hp) hc1.1 hc1.2 ?_
          clear hf; intro a ha hf
          exact st_nil hf (th_n ⟨ha, rfl⟩)
        clear hf; intro a hf
        refine dr_take 3 (optr (eptr vax0 i5 2) 1) rfl (by kernel_rfl) (by kernel_rfl) (by kernel_rfl) (by kernel_rfl) rfl rfl hf (by decide) rfl (fun w hp => ?_) ⟨_, hp⟩ ?_
        · obtain ⟨_, hp⟩ := hp
          refine st_faP (off := 1) (sz := 1) hf (by decide) (by kernel_rfl) (by decide) rfl rfl (Sl.isP (hax0.sl hp) hc1.1 hc1.2) ?_
          clear hf; intro a ha hf
          exact st_nil hf (th_n ⟨ha, rfl⟩)
        clear hf; intro a hf
        refine dr_take 4 (.bool ((gt ax0 i5).2)) rfl (by kernel_rfl) (by kernel_rfl) (by kernel_rfl) (by kernel_rfl) rfl rfl hf (by decide) rfl (fun w hp => ?_) ⟨_, hp⟩ ?_
        · obtain ⟨_, hp⟩ := hp
          refine st_ldQ (F := Ek.bool) (yv := (gt ax0 i5).2) hf (by decide) pl4 (fun x => .bool x) (fun _ _ h => h) rfl rfl (Sl.part (E := (Ek.pair Ek.c128 Ek.bool)) (F := Ek.bool) (o := 1) (Sub.snd (E := Ek.c128) (F := Ek.bool)) (hax0.sl hp) hc1.1 hc1.2) ?_
          clear hf; intro a ha hf
          exact st_nil hf (th_n ⟨ha, rfl⟩)
        clear hf; intro a hf
        refine dr_take 5 (vbx1) rfl (by kernel_rfl) (by kernel_rfl) (by kernel_rfl) (by kernel_rfl) rfl rfl hf (by decide) rfl (fun w hp => ?_) ⟨_, hp⟩ ?_
        · obtain ⟨_, hp⟩ := hp
          refine st_move hf rfl rfl (by decide) ?_
          clear hf; intro a ha hf
          exact st_nil hf (th_n ⟨ha, rfl⟩)
        clear hf; intro a hf
        refine dr_take 6 (.int .i64 i5) rfl (by kernel_rfl) (by kernel_rfl) (by kernel_rfl) (by kernel_rfl) rfl rfl hf (by decide) rfl (fun w hp => ?_) ⟨_, hp⟩ ?_
        · obtain ⟨_, hp⟩ := hp
          refine st_move hf rfl rfl (by decide) ?_
          clear hf; intro a ha hf
          exact st_nil hf (th_n ⟨ha, rfl⟩)
        clear hf; intro a hf
        refine dr_take 7 (eptr vbx1 i5 2) rfl (by kernel_rfl) (by kernel_rfl) (by kernel_rfl) (by kernel_rfl) rfl rfl hf (by decide) rfl (fun w hp => ?_) ⟨_, hp⟩ ?_
        · obtain ⟨_, hp⟩ := hp
          refine st_index (E := (Ek.pair Ek.c128 Ek.bool)) hf (by decide) Try.underlying27 elt35 rfl rfl rfl (hbx1.sl hp) hc2.1 hc2.2 ?_
          clear hf; intro a ha hf
          exact st_nil hf (th_n ⟨ha, rfl⟩)
        clear hf; intro a hf
        refine dr_take 8 (optr (eptr vbx1 i5 2) 1) rfl (by kernel_rfl) (by kernel_rfl) (by kernel_rfl) (by kernel_rfl) rfl rfl hf (by decide) rfl (fun w hp => ?_) ⟨_, hp⟩ ?_
        · obtain ⟨_, hp⟩ := hp
          refine st_faP (off := 1) (sz := 1) hf (by decide) (by kernel_rfl) (by decide) rfl rfl (Sl.isP (hbx1.sl hp) hc2.1 hc2.2) ?_
          clear hf; intro a ha hf
          exact st_nil hf (th_n ⟨ha, rfl⟩)
        clear hf; intro a hf
        refine dr_take 9 (.bool ((gt bx1 i5).2)) rfl (by kernel_rfl) (by kernel_rfl) (by kernel_rfl) (by kernel_rfl) rfl rfl hf (by decide) rfl (fun w hp => ?_) ⟨_, hp⟩ ?_
        · obtain ⟨_, hp⟩ := hp
          refine st_ldQ (F := Ek.bool) (yv := (gt bx1 i5).2) hf (by decide) pl4 (fun x => .bool x) (fun _ _ h => h) rfl rfl (Sl.part (E := (Ek.pair Ek.c128 Ek.bool)) (F := Ek.bool) (o := 1) (Sub.snd (E := Ek.c128) (F := Ek.bool)) (hbx1.sl hp) hc2.1 hc2.2) ?_
          clear hf; intro a ha hf
          exact st_nil hf (th_n ⟨ha, rfl⟩)
        clear hf; intro a hf
        refine dr_take 10 (.bool (((gt ax0 i5).2) != ((gt bx1 i5).2))) rfl (by kernel_rfl) (by kernel_rfl) (by kernel_rfl) (by kernel_rfl) rfl rfl hf (by decide) rfl (fun w hp => ?_) ⟨_, hp⟩ ?_
        · obtain ⟨_, hp⟩ := hp
          refine st_bneq hf (by decide) Try.underlying4 rfl rfl rfl ?_
          clear hf; intro a ha hf
          exact st_nil hf (th_n ⟨ha, rfl⟩)
        clear hf; intro a hf
        refine dr_take 11 (.bool (((gt ax0 i5).2) != ((gt bx1 i5).2))) rfl (by kernel_rfl) (by kernel_rfl) (by kernel_rfl) (by kernel_rfl) rfl rfl hf (by decide) rfl (fun w hp => ?_) ⟨_, hp⟩ ?_
        · obtain ⟨_, hp⟩ := hp
          refine st_move hf rfl rfl (by decide) ?_
          clear hf; intro a ha hf
          exact st_nil hf (th_n ⟨ha, rfl⟩)
        clear hf; intro a hf
        refine dr_take 12 (vax0) rfl (by kernel_rfl) (by kernel_rfl) (by kernel_rfl) (by kernel_rfl) rfl rfl hf (by decide) (wantY hf rfl rfl hb4) (fun w hp => ?_) ⟨_, hp⟩ ?_
        · obtain ⟨_, hp⟩ := hp
          refine st_move hf (wantY hf rfl rfl hb4) rfl (by decide) ?_
          clear hf; intro a ha hf
          exact st_nil hf (th_n ⟨ha, rfl⟩)
        clear hf; intro a hf
        refine dr_take 13 (.int .i64 i5) rfl (by kernel_rfl) (by kernel_rfl) (by kernel_rfl) (by kernel_rfl) rfl rfl hf (by decide) (wantY hf rfl rfl hb4) (fun w hp => ?_) ⟨_, hp⟩ ?_
        · obtain ⟨_, hp⟩ := hp
          refine st_move hf (wantY hf rfl rfl hb4) rfl (by decide) ?_
          clear hf; intro a ha hf
          exact st_nil hf (th_n ⟨ha, rfl⟩)
        clear hf; intro a hf
        refine dr_take 14 (eptr vax0 i5 2) rfl (by kernel_rfl) (by kernel_rfl) (by kernel_rfl) (by kernel_rfl) rfl rfl hf (by decide) (wantY hf rfl rfl hb4) (fun w hp => ?_) ⟨_, hp⟩ ?_
        · obtain ⟨_, hp⟩ := hp
          refine st_index (E := (Ek.pair Ek.c128 Ek.bool)) hf (by decide) Try.underlying27 elt35 (wantY hf rfl rfl hb4) rfl rfl (hax0.sl hp) hc5.1 hc5.2 ?_
          clear hf; intro a ha hf
          exact st_nil hf (th_n ⟨ha, rfl⟩)
        clear hf; intro a hf
        refine dr_take 15 (optr (eptr vax0 i5 2) 0) rfl (by kernel_rfl) (by kernel_rfl) (by kernel_rfl) (by kernel_rfl) rfl rfl hf (by decide) (wantY hf rfl rfl hb4) (fun w hp => ?_) ⟨_, hp⟩ ?_
        · obtain ⟨_, hp⟩ := hp
          refine st_faP (off := 0) (sz := 1) hf (by decide) (by kernel_rfl) (by decide) (wantY hf rfl rfl hb4) rfl (Sl.isP (hax0.sl hp) hc5.1 hc5.2) ?_
          clear hf; intro a ha hf
          exact st_nil hf (th_n ⟨ha, rfl⟩)
        clear hf; intro a hf
        refine dr_take 16 (.complex .f64 bb7 bb8) rfl (by kernel_rfl) (by kernel_rfl) (by kernel_rfl) (by kernel_rfl) rfl rfl hf (by decide) (wantY hf rfl rfl hb4) (fun w hp => ?_) ⟨_, hp⟩ ?_
        · obtain ⟨_, hp⟩ := hp
          refine st_ldP hf (by decide) pl33 (wantY hf rfl rfl hb4) rfl (hl6 _ _ hp) ?_
          clear hf; intro a ha hf
          exact st_nil hf (th_n ⟨ha, rfl⟩)
        clear hf; intro a hf
        refine dr_take 17 (vbx1) rfl (by kernel_rfl) (by kernel_rfl) (by kernel_rfl) (by kernel_rfl) rfl rfl hf (by decide) (wantY hf rfl rfl hb4) (fun w hp => ?_) ⟨_, hp⟩ ?_
        · obtain ⟨_, hp⟩ := hp
          refine st_move hf (wantY hf rfl rfl hb4) rfl (by decide) ?_
          clear hf; intro a ha hf
          exact st_nil hf (th_n ⟨ha, rfl⟩)
        clear hf; intro a hf
        refine dr_take 18 (.int .i64 i5) rfl (by kernel_rfl) (by kernel_rfl) (by kernel_rfl) (by kernel_rfl) rfl rfl hf (by decide) (wantY hf rfl rfl hb4) (fun w hp => ?_) ⟨_, hp⟩ ?_
        · obtain ⟨_, hp⟩ := hp
          refine st_move hf (wantY hf rfl rfl hb4) rfl (by decide) ?_
          clear hf; intro a ha hf
          exact st_nil hf (th_n ⟨ha, rfl⟩)
        clear hf; intro a hf
        refine dr_take 19 (eptr vbx1 i5 2) rfl (by kernel_rfl) (by kernel_rfl) (by kernel_rfl) (by kernel_rfl) rfl rfl hf (by decide) (wantY hf rfl rfl hb4) (fun w hp => ?_) ⟨_, hp⟩ ?_
        · obtain ⟨_, hp⟩ := hp
          refine st_index (E := (Ek.pair Ek.c128 Ek.bool)) hf (by decide) Try.underlying27 elt35 (wantY hf rfl rfl hb4) rfl rfl (hbx1.sl hp) hc11.1 hc11.2 ?_
          clear hf; intro a ha hf
          exact st_nil hf (th_n ⟨ha, rfl⟩)
        clear hf; intro a hf
        refine dr_take 20 (optr (eptr vbx1 i5 2) 0) rfl (by kernel_rfl) (by kernel_rfl) (by kernel_rfl) (by kernel_rfl) rfl rfl hf (by decide) (wantY hf rfl rfl hb4) (fun w hp => ?_) ⟨_, hp⟩ ?_
        · obtain ⟨_, hp⟩ := hp
          refine st_faP (off := 0) (sz := 1) hf (by decide) (by kernel_rfl) (by decide) (wantY hf rfl rfl hb4) rfl (Sl.isP (hbx1.sl hp) hc11.1 hc11.2) ?_
          clear hf; intro a ha hf
          exact st_nil hf (th_n ⟨ha, rfl⟩)
        clear hf; intro a hf
        refine dr_take 21 (.complex .f64 bb13 bb14) rfl (by kernel_rfl) (by kernel_rfl) (by kernel_rfl) (by kernel_rfl) rfl rfl hf (by decide) (wantY hf rfl rfl hb4) (fun w hp => ?_) ⟨_, hp⟩ ?_
        · obtain ⟨_, hp⟩ := hp
          refine st_ldP hf (by decide) pl33 (wantY hf rfl rfl hb4) rfl (hl12 _ _ hp) ?_
          clear hf; intro a ha hf
          exact st_nil hf (th_n ⟨ha, rfl⟩)
        clear hf; intro a hf
        refine dr_take 22 (.bool (!ceq ((gt ax0 i5).1) ((gt bx1 i5).1))) rfl (by kernel_rfl) (by kernel_rfl) (by kernel_rfl) (by kernel_rfl) rfl rfl hf (by decide) (wantY hf rfl rfl hb4) (fun w hp => ?_) ⟨_, hp⟩ ?_
        · obtain ⟨_, hp⟩ := hp
          refine st_ccmp (r_cne (x := (gt ax0 i5).1) (y := (gt bx1 i5).1) y9 y10 y15 y16) hf (by decide) (wantY hf rfl rfl hb4) rfl rfl ?_
          clear hf; intro a ha hf
          exact st_nil hf (th_n ⟨ha, rfl⟩)
        clear hf; intro a hf
        refine dr_take 23 (.bool z17) rfl (by kernel_rfl) (by kernel_rfl) (by kernel_rfl) (by kernel_rfl) rfl rfl hf (by decide) rfl (fun w hp => ?_) ⟨_, hp⟩ ?_
        · obtain ⟨_, hp⟩ := hp
          refine st_pick (v := .bool z17) hf rfl rfl (fun hb' => absurd (hb4.symm.trans hb') (by decide)) (fun _ => by rw [← hz3]; rfl) (by decide) ?_
          clear hf; intro a ha hf
          exact st_nil hf (th_n ⟨ha, rfl⟩)
        clear hf; intro a hf
        refine dr_end (by kernel_rfl) ?_ _
        exact ⟨hf.sub ⟨rfl, rfl, rfl, rfl, trivial⟩, hp⟩
      rintro a w ⟨hf, hp⟩
      refine th_n ?_
      refine wp_if hf rfl (fun hb => ?_) (fun hb => ?_)
      · replace h := ifT h hb
        refine wp_seq ?_
        refine wp_reg ?_
        refine st_assign hf rfl rfl (by decide) ?_
        clear hf; intro a ha hf; clear ha
        refine st_nil hf ?_
        refine th_n ?_
        refine wp_ret ?_
        refine ib_r ?_
        refine th_r ?_
        obtain rfl := Option.some.inj h
        exact rnd_r (by simp) ⟨rfl, ⟨hf.sub ⟨rfl, trivial⟩, hp⟩⟩
      replace h := ifF h hb
      refine wp_skip ?_
      refine ib_n ?_
      refine th_n ?_
      refine wp_reg ?_
      refine st_move hf rfl rfl (by decide) ?_
      clear hf; intro a ha hf; clear ha
      refine st_iadd hf (by decide) rfl rfl rfl ?_
      clear hf; intro a ha hf; clear ha
      refine st_assign hf rfl rfl (by decide) ?_
      clear hf; intro a ha hf; clear ha
      refine st_nil hf ?_
      obtain rfl := Option.some.inj h
      exact rnd_l ⟨hf.sub ⟨rfl, rfl, rfl, trivial⟩, hp⟩
    replace h := ifF h hb
    refine wp_exit ?_
    refine th_e ?_
    obtain rfl := Option.some.inj h
    exact rnd_r (by simp) ⟨rfl, hf.sub trivial, hp⟩
  clear hl hf hp
  intro e a w hne hO
  rcases q18 with q19 | q20
  · replace h := smL h
    obtain ⟨rfl, hf, hp⟩ := hO
    refine ib_same ?_
    refine th_n ?_
    refine wp_seq ?_
    refine wp_reg ?_
    refine st_assign hf rfl rfl (by decide) ?_
    clear hf; intro a ha hf; clear ha
    refine st_nil hf ?_
    refine th_n ?_
    refine wp_ret ?_
    obtain rfl := Option.some.inj h
    exact ⟨rfl, ⟨hf.sub ⟨rfl, trivial⟩, hp⟩⟩
  replace h := smR h
  obtain ⟨rfl, hf, hp⟩ := hO
  refine ib_r ?_
  refine th_r ?_
  obtain rfl := Option.some.inj h
  exact ⟨rfl, ⟨hf.sub ⟨rfl, trivial⟩, hp⟩⟩

noncomputable def f_foghornlaw23_SoftCosts.s1c (q15 : ((List (Fl × Fl)) × Int)) (q61 : ((List (Fl × Fl)) × Int)) (p21 : (List (Fl × Fl))) (i25 : Int) : Option (((List (Fl × Fl)) × Int) ⊕ (Unit ⊕ Bool)) := (if (decide (i25 < (p21.length : Int))) = true then (if 0 ≤ i25 ∧ i25 < (p21.length : Int) then (if 0 ≤ i25 ∧ i25 < (q15.1.length : Int) then (if (!ceq (gt p21 i25) (gt q15.1 i25)) = true then (some (Sum.inr (Sum.inr false))) else (if 0 ≤ i25 ∧ i25 < (p21.length : Int) then (if 0 ≤ i25 ∧ i25 < (q61.1.length : Int) then (if 0 ≤ i25 ∧ i25 < (q15.1.length : Int) then (if (!ceq (gt q61.1 i25) (gt q15.1 i25)) = true then (some (Sum.inr (Sum.inr false))) else (some (Sum.inl ((p21.set (i25).toNat (Fl.bits 4632937379169042432, Fl.bits 0)), (IntKind.i64.wrap (i25 + (1 : Int))))))) else none) else none) else none)) else none) else none) else (some (Sum.inr (Sum.inl ()))))
noncomputable def f_foghornlaw23_SoftCosts.s1 (q15 : ((List (Fl × Fl)) × Int)) (q61 : ((List (Fl × Fl)) × Int)) (s : ((List (Fl × Fl)) × Int)) : Option (((List (Fl × Fl)) × Int) ⊕ (Unit ⊕ Bool)) := f_foghornlaw23_SoftCosts.s1c q15 q61 s.1 s.2
noncomputable def f_foghornlaw23_SoftCosts.j1 (cx0_Length : Int) (cx0_One : Int) (cx0_Two : Int) (one1 : Bool) (two2 : Bool) (bits3 : (List Bool)) (l4 : (List (Int × Int × Bool))) (q3 : ((List ((Fl × Fl) × Bool)) × (List ((Fl × Fl) × Bool)))) : Option Bool := ((f_foghornref23_Send cx0_Length cx0_One cx0_Two bits3).bind fun q15 => ((f_foghornlaw23_code cx0_Length cx0_One cx0_Two).bind fun q33 => (if 0 ≤ (bits3.length : Int) ∧ (bits3.length : Int) ≤ (((([] : List Bool) ++ bits3) ++ [true]).length : Int) then ((f_soft_Send q33.1 q33.2.1 q33.2.2 ((((([] : List Bool) ++ bits3) ++ [true]).drop 0).take (((bits3.length : Int)).toNat - 0))).bind fun q38 => ((f_foghornlaw23_code cx0_Length cx0_One cx0_Two).bind fun q56 => (if 0 ≤ (bits3.length : Int) ∧ (bits3.length : Int) ≤ (((([] : List Bool) ++ bits3) ++ [true]).length : Int) then ((f_soft_Send q56.1 q56.2.1 q56.2.2 ((((([] : List Bool) ++ bits3) ++ [true]).drop 0).take (((bits3.length : Int)).toNat - 0))).bind fun q61 => ((if (((q38.2 != q15.2) || ((q38.1.length : Int) != (q15.1.length : Int))) || ((q61.1.length : Int) != (q15.1.length : Int))) = true then (some true) else ((f_soft_Point one1 two2).bind fun q72 => ((f_foghornref23_Point one1 two2).bind fun q78 => (some (!ceq q72 q78))))).bind fun z71 => (if z71 = true then (some false) else ((loop (f_foghornlaw23_SoftCosts.s1 q15 q61) (q38.1, (0 : Int))).bind (fun q139 => sm q139 (fun q140 => ((f_foghornref23_Path cx0_Length cx0_One cx0_Two bits3 q3.1).bind fun q142 => ((f_foghornlaw23_code cx0_Length cx0_One cx0_Two).bind fun q165 => (if 0 ≤ (bits3.length : Int) ∧ (bits3.length : Int) ≤ (((([] : List Bool) ++ bits3) ++ [true]).length : Int) then ((f_soft_Path q165.1 q165.2.1 q165.2.2 ((((([] : List Bool) ++ bits3) ++ [true]).drop 0).take (((bits3.length : Int)).toNat - 0)) q3.1).bind fun q170 => ((if ((feq q142.1 q170.1) && (q142.2 == q170.2)) = true then (if 0 ≤ (bits3.length : Int) ∧ (bits3.length : Int) ≤ (((([] : List Bool) ++ bits3) ++ [true]).length : Int) then ((f_foghornref21_Same ((((([] : List Bool) ++ bits3) ++ [true]).drop 0).take (((bits3.length : Int)).toNat - 0)) bits3).bind fun q187 => (some q187)) else none) else (some false)).bind fun z183 => ((if z183 = true then (if 0 ≤ (bits3.length : Int) ∧ (bits3.length : Int) < (((([] : List Bool) ++ bits3) ++ [true]).length : Int) then (some (gt ((([] : List Bool) ++ bits3) ++ [true]) (bits3.length : Int))) else none) else (some false)).bind fun z196 => ((if z196 = true then ((f_foghornlaw23_samples l4).bind fun q201 => ((f_foghornref02_Same q3.1 q201.1).bind fun q205 => (some q205))) else (some false)).bind fun z200 => ((if z200 = true then (if 0 ≤ (IntKind.i64.wrap ((l4.length : Int) + (1 : Int))) ∧ (IntKind.i64.wrap ((l4.length : Int) + (1 : Int))) ≤ ((q3.1 ++ q3.2).length : Int) then (if 0 ≤ (l4.length : Int) ∧ (l4.length : Int) < (((q3.1 ++ q3.2).take (((IntKind.i64.wrap ((l4.length : Int) + (1 : Int)))).toNat)).length : Int) then (some (ceq ((gt ((q3.1 ++ q3.2).take (((IntKind.i64.wrap ((l4.length : Int) + (1 : Int)))).toNat)) (l4.length : Int)).1) (Fl.bits 4651892959631900672, Fl.bits 0))) else none) else none) else (some false)).bind fun z219 => (some z219)))))) else none)))) (fun q141 => (some q141))))))) else none))) else none)))
noncomputable def f_foghornlaw23_SoftCosts (cx0_Length : Int) (cx0_One : Int) (cx0_Two : Int) (one1 : Bool) (two2 : Bool) (bits3 : (List Bool)) (l4 : (List (Int × Int × Bool))) : Option Bool := ((f_foghornlaw23_samples l4).bind fun q3 => (if (([] : List Bool).length + bits3.length) * 1 ≤ 140737488355328 then (if ((([] : List Bool) ++ bits3).length + ([true]).length) * 1 ≤ 140737488355328 then (if (decide ((0 : Int) < (l4.length : Int))) = true then (if 0 ≤ (0 : Int) ∧ (0 : Int) < (q3.1.length : Int) then ((f_foghornref23_Cost one1 two2 ((gt q3.1 (0 : Int)).1) ((gt q3.1 (0 : Int)).2)).bind fun q235 => (if 0 ≤ (0 : Int) ∧ (0 : Int) < (q3.1.length : Int) then ((f_soft_Cost one1 two2 ((gt q3.1 (0 : Int)).1) ((gt q3.1 (0 : Int)).2)).bind fun q246 => (if ((fne q235.1 q246.1) || (q235.2 != q246.2)) = true then (some false) else (f_foghornlaw23_SoftCosts.j1 cx0_Length cx0_One cx0_Two one1 two2 bits3 l4 q3))) else none)) else none) else (f_foghornlaw23_SoftCosts.j1 cx0_Length cx0_One cx0_Two one1 two2 bits3 l4 q3)) else none) else none))
theorem f_foghornlaw23_SoftCosts_c {S : Nat → Prop} {w0 w : World} {ow : List Res} (hp : Hp S w0 w ow) (cx0_Length : Int) (cx0_One : Int) (cx0_Two : Int) (one1 : Bool) (two2 : Bool) (vbits3 : Value) (bits3 : (List Bool)) (hbits3 : RdS Ek.bool S w0 vbits3 bits3) (vl4 : Value) (l4 : (List (Int × Int × Bool))) (hl4 : RdS (Ek.pair (Ek.int .i32) (Ek.pair (Ek.int .i32) Ek.bool)) S w0 vl4 l4) {r : Bool} (h : f_foghornlaw23_SoftCosts cx0_Length cx0_One cx0_Two one1 two2 bits3 l4 = some r) :
    Calls Try.prog 3 #[.agg #[.int .i64 cx0_Length, .int .u32 cx0_One, .int .u32 cx0_Two], .bool one1, .bool two2, vbits3, vl4] w (fun e w' => e = .returned (.bool r) ∧ Hp S w0 w' (ow)) := by
  unfold f_foghornlaw23_SoftCosts at h
  refine enter (n := 202) (args := [.agg #[.int .i64 cx0_Length, .int .u32 cx0_One, .int .u32 cx0_Two], .bool one1, .bool two2, vbits3, vl4]) Try.func3 rfl rfl (Nat.le_of_ble_eq_true rfl) fun a hf => ?_
  replace hf : Fr 202 a [(0, .agg #[.int .i64 cx0_Length, .int .u32 cx0_One, .int .u32 cx0_Two]), (1, .bool one1), (2, .bool two2), (3, vbits3), (4, vl4)] := hf
  refine wp_mono (Q := fun e a w => e = .ret ∧ Fr 202 a [(10, .bool r)] ∧ Hp S w0 w (ow)) ?_ ?_
  rotate_left
  · rintro e a w ⟨rfl, hf, hp⟩
    exact ret1 hf rfl rfl ⟨rfl, hp⟩
  refine wp_seq ?_
  refine wp_reg ?_
  refine st_boxO (cs := [.int .i64 cx0_Length, .int .u32 cx0_One, .int .u32 cx0_Two]) hf (by decide) hp rfl rfl rfl ?_
  clear hf; intro a w v1 hf hp0; clear hp; have hp := hp0; clear hp0
  replace hp : Hp _ _ _ (Res.obj 24 v1 [.int .i64 cx0_Length, .int .u32 cx0_One, .int .u32 cx0_Two] :: ow) := hp
  refine st_assign hf rfl rfl (by decide) ?_
  clear hf; intro a ha hf; clear ha
  refine st_nil hf ?_
  refine th_n ?_
  refine wp_seq ?_
  refine wp_reg ?_
  refine st_move hf rfl rfl (by decide) ?_
  clear hf; intro a ha hf; clear ha
  obtain ⟨q3, hcall4, h⟩ := bnd h
  refine st_call hf (by decide) Try.func9 rfl rfl rfl rfl rfl (f_foghornlaw23_samples_c hp _ _ hl4 hcall4) ?_
  rintro _ w ⟨v5, rfl, hp0⟩
  clear hp; have hp := hp0; clear hp0
  replace hp : Hp _ _ _ (Res.slx (Ek.pair Ek.c128 Ek.bool) 35 v5 q3.1 q3.2 :: Res.obj 24 v1 [.int .i64 cx0_Length, .int .u32 cx0_One, .int .u32 cx0_Two] :: ow) := hp
  refine ⟨_, rfl, ?_⟩
  clear hf; intro a hf
  refine st_assign hf rfl rfl (by decide) ?_
  clear hf; intro a ha hf; clear ha
  refine st_nil hf ?_
  refine th_n ?_
  refine wp_seq ?_
  refine wp_reg ?_
  refine st_move hf rfl rfl (by decide) ?_
  clear hf; intro a ha hf; clear ha
  refine st_len (E := (Ek.pair (Ek.int .i32) (Ek.pair (Ek.int .i32) Ek.bool))) hf (by decide) Try.underlying26 rfl rfl (hl4.sl hp) ?_
  clear hf; intro a ha hf; clear ha
  refine st_assign hf rfl rfl (by decide) ?_
  clear hf; intro a ha hf; clear ha
  refine st_nil hf ?_
  refine th_n ?_
  refine wp_seq ?_
  refine wp_reg ?_
  refine st_move hf rfl rfl (by decide) ?_
  clear hf; intro a ha hf; clear ha
  refine st_len (E := Ek.bool) hf (by decide) Try.underlying25 rfl rfl (hbits3.sl hp) ?_
  clear hf; intro a ha hf; clear ha
  refine st_assign hf rfl rfl (by decide) ?_
  clear hf; intro a ha hf; clear ha
  refine st_nil hf ?_
  refine th_n ?_
  refine wp_seq ?_
  refine wp_reg ?_
  refine st_build0 (E := Ek.bool) hf (by decide) elt4 Try.underlying25 hp rfl ?_
  clear hf; intro a w v7 hf hp0; clear hp; have hp := hp0; clear hp0
  replace hp : Hp _ _ _ (Res.sl Ek.bool 4 v7 ([] : List Bool) :: Res.slx (Ek.pair Ek.c128 Ek.bool) 35 v5 q3.1 q3.2 :: Res.obj 24 v1 [.int .i64 cx0_Length, .int .u32 cx0_One, .int .u32 cx0_Two] :: ow) := hp
  refine st_move hf rfl rfl (by decide) ?_
  clear hf; intro a ha hf; clear ha
  obtain ⟨hc9, h⟩ := chk h
  refine st_append (E := Ek.bool) hf (by decide) elt4 Try.underlying25 (by decide) hp (i := 0) rfl rfl rfl rfl (hbits3.sl hp) hc9 ?_
  clear hf; intro a w v10 hf hp0; clear hp; have hp := hp0; clear hp0
  replace hp : Hp _ _ _ (Res.sl Ek.bool 4 v10 (([] : List Bool) ++ bits3) :: Res.slx (Ek.pair Ek.c128 Ek.bool) 35 v5 q3.1 q3.2 :: Res.obj 24 v1 [.int .i64 cx0_Length, .int .u32 cx0_One, .int .u32 cx0_Two] :: ow) := hp
  refine st_build (E := Ek.bool) (xs := [true]) hf (by decide) elt4 Try.underlying25 hp (vals := #[(0, .bool true)]) (cells := #[.bool true]) rfl (by simp [hf.ev (x := (Operand.const (.bool true))) rfl]) (by decide) (by decide) (z := .bool false) (by kernel_rfl) (by kernel_rfl) rfl (reps_cons (cs := [.bool true]) rfl (reps_nil _)) ?_
  clear hf; intro a w v11 hf hp0; clear hp; have hp := hp0; clear hp0
  replace hp : Hp _ _ _ (Res.sl Ek.bool 4 v11 ([true]) :: Res.sl Ek.bool 4 v10 (([] : List Bool) ++ bits3) :: Res.slx (Ek.pair Ek.c128 Ek.bool) 35 v5 q3.1 q3.2 :: Res.obj 24 v1 [.int .i64 cx0_Length, .int .u32 cx0_One, .int .u32 cx0_Two] :: ow) := hp
  obtain ⟨hc13, h⟩ := chk h
  refine st_append (E := Ek.bool) hf (by decide) elt4 Try.underlying25 (by decide) hp (i := 1) rfl rfl rfl rfl (hp.sl (i := 0) rfl) hc13 ?_
  clear hf; intro a w v14 hf hp0; clear hp; have hp := hp0; clear hp0
  replace hp : Hp _ _ _ (Res.sl Ek.bool 4 v11 ([true]) :: Res.sl Ek.bool 4 v14 ((([] : List Bool) ++ bits3) ++ [true]) :: Res.slx (Ek.pair Ek.c128 Ek.bool) 35 v5 q3.1 q3.2 :: Res.obj 24 v1 [.int .i64 cx0_Length, .int .u32 cx0_One, .int .u32 cx0_Two] :: ow) := hp
  refine st_assign hf rfl rfl (by decide) ?_
  clear hf; intro a ha hf; clear ha
  refine st_nil hf ?_
  refine th_n ?_
  refine wp_seq_cut (fun a w => f_foghornlaw23_SoftCosts.j1 cx0_Length cx0_One cx0_Two one1 two2 bits3 l4 q3 = some r ∧ Fr 202 a [(1, .bool one1), (2, .bool two2), (3, vbits3), (4, vl4), (5, optr v1 0), (11, v5), (12, .int .i64 (l4.length : Int)), (13, .int .i64 (bits3.length : Int)), (14, v14)] ∧ Hp S w0 w (Res.obj 24 v1 [.int .i64 cx0_Length, .int .u32 cx0_One, .int .u32 cx0_Two] :: Res.slx (Ek.pair Ek.c128 Ek.bool) 35 v5 q3.1 q3.2 :: Res.sl Ek.bool 4 v14 ((([] : List Bool) ++ bits3) ++ [true]) :: ow)) ?_ ?_
  · skip
    refine wp_seq ?_
    refine wp_reg ?_
    refine st_move hf rfl rfl (by decide) ?_
    clear hf; intro a ha hf; clear ha
    refine st_len (E := (Ek.pair (Ek.int .i32) (Ek.pair (Ek.int .i32) Ek.bool))) hf (by decide) Try.underlying26 rfl rfl (hl4.sl hp) ?_
    clear hf; intro a ha hf; clear ha
    refine st_igtr hf (by decide) rfl rfl rfl ?_
    clear hf; intro a ha hf; clear ha
    refine st_nil hf ?_
    refine th_n ?_
    refine wp_if hf rfl (fun hb => ?_) (fun hb => ?_)
    · replace h := ifT h hb
      refine wp_seq ?_
      refine wp_reg ?_
      refine st_move hf rfl rfl (by decide) ?_
      clear hf; intro a ha hf; clear ha
      refine st_move hf rfl rfl (by decide) ?_
      clear hf; intro a ha hf; clear ha
      refine st_move hf rfl rfl (by decide) ?_
      clear hf; intro a ha hf; clear ha
      obtain ⟨hc228, h⟩ := chk h
      refine st_index (E := (Ek.pair Ek.c128 Ek.bool)) hf (by decide) Try.underlying27 elt35 rfl rfl rfl (hp.sl (i := 2) rfl) hc228.1 hc228.2 ?_
      clear hf; intro a ha hf; clear ha
      refine st_ldQA (F := (Ek.pair Ek.c128 Ek.bool)) (yv := (gt q3.1 (0 : Int))) (m := 2) hf (by decide) (by kernel_rfl) rfl rfl rfl (Part.whole (hp.sl (i := 2) rfl) hc228.1 hc228.2) ?_
      clear hf; intro a cs229 hr230 ha hf; clear ha
      obtain ⟨_, _, rfl, ⟨bb231, bb232, rfl, y233, y234⟩, rfl⟩ := hr230
      replace hf : Fr _ _ ((49, .agg #[.complex .f64 bb231 bb232, .bool ((gt q3.1 (0 : Int)).2)]) :: _) := hf
      obtain ⟨q235, hcall236, h⟩ := bnd h
      refine st_call hf (by decide) Try.func10 rfl rfl rfl rfl rfl (f_foghornref23_Cost_c hp _ _ _ _ _ (show Fl.rep bb231 ((gt q3.1 (0 : Int)).1).1 from y233) (show Fl.rep bb232 ((gt q3.1 (0 : Int)).1).2 from y234) _ hcall236) ?_
      rintro _ w ⟨v237, rfl, y238, hp0⟩
      clear hp; have hp := hp0; clear hp0
      replace hp : Hp _ _ _ (Res.sl Ek.bool 4 v11 ([true]) :: Res.sl Ek.bool 4 v14 ((([] : List Bool) ++ bits3) ++ [true]) :: Res.slx (Ek.pair Ek.c128 Ek.bool) 35 v5 q3.1 q3.2 :: Res.obj 24 v1 [.int .i64 cx0_Length, .int .u32 cx0_One, .int .u32 cx0_Two] :: ow) := hp
      refine ⟨_, rfl, ?_⟩
      clear hf; intro a hf
      refine st_move hf rfl rfl (by decide) ?_
      clear hf; intro a ha hf; clear ha
      refine st_extract hf (by decide) rfl rfl rfl ?_
      clear hf; intro a ha hf; clear ha
      refine st_extract hf (by decide) rfl rfl rfl ?_
      clear hf; intro a ha hf; clear ha
      refine st_assign hf rfl rfl (by decide) ?_
      clear hf; intro a ha hf; clear ha
      refine st_assign hf rfl rfl (by decide) ?_
      clear hf; intro a ha hf; clear ha
      refine st_nil hf ?_
      refine th_n ?_
      refine wp_seq ?_
      refine wp_reg ?_
      refine st_move hf rfl rfl (by decide) ?_
      clear hf; intro a ha hf; clear ha
      refine st_move hf rfl rfl (by decide) ?_
      clear hf; intro a ha hf; clear ha
      refine st_move hf rfl rfl (by decide) ?_
      clear hf; intro a ha hf; clear ha
      obtain ⟨hc239, h⟩ := chk h
      refine st_index (E := (Ek.pair Ek.c128 Ek.bool)) hf (by decide) Try.underlying27 elt35 rfl rfl rfl (hp.sl (i := 2) rfl) hc239.1 hc239.2 ?_
      clear hf; intro a ha hf; clear ha
      refine st_ldQA (F := (Ek.pair Ek.c128 Ek.bool)) (yv := (gt q3.1 (0 : Int))) (m := 2) hf (by decide) (by kernel_rfl) rfl rfl rfl (Part.whole (hp.sl (i := 2) rfl) hc239.1 hc239.2) ?_
      clear hf; intro a cs240 hr241 ha hf; clear ha
      obtain ⟨_, _, rfl, ⟨bb242, bb243, rfl, y244, y245⟩, rfl⟩ := hr241
      replace hf : Fr _ _ ((58, .agg #[.complex .f64 bb242 bb243, .bool ((gt q3.1 (0 : Int)).2)]) :: _) := hf
      obtain ⟨q246, hcall247, h⟩ := bnd h
      refine st_call hf (by decide) Try.func11 rfl rfl rfl rfl rfl (f_soft_Cost_c hp _ _ _ _ _ (show Fl.rep bb242 ((gt q3.1 (0 : Int)).1).1 from y244) (show Fl.rep bb243 ((gt q3.1 (0 : Int)).1).2 from y245) _ hcall247) ?_
      rintro _ w ⟨v248, rfl, y249, hp0⟩
      clear hp; have hp := hp0; clear hp0
      replace hp : Hp _ _ _ (Res.sl Ek.bool 4 v11 ([true]) :: Res.sl Ek.bool 4 v14 ((([] : List Bool) ++ bits3) ++ [true]) :: Res.slx (Ek.pair Ek.c128 Ek.bool) 35 v5 q3.1 q3.2 :: Res.obj 24 v1 [.int .i64 cx0_Length, .int .u32 cx0_One, .int .u32 cx0_Two] :: ow) := hp
      refine ⟨_, rfl, ?_⟩
      clear hf; intro a hf
      refine st_move hf rfl rfl (by decide) ?_
      clear hf; intro a ha hf; clear ha
      refine st_extract hf (by decide) rfl rfl rfl ?_
      clear hf; intro a ha hf; clear ha
      refine st_extract hf (by decide) rfl rfl rfl ?_
      clear hf; intro a ha hf; clear ha
      refine st_assign hf rfl rfl (by decide) ?_
      clear hf; intro a ha hf; clear ha
      refine st_assign hf rfl rfl (by decide) ?_
      clear hf; intro a ha hf; clear ha
      refine st_nil hf ?_
      refine th_n ?_
      refine wp_seq ?_
      refine wp_reg ?_
      refine st_move hf rfl rfl (by decide) ?_
      clear hf; intro a ha hf; clear ha
      refine st_move hf rfl rfl (by decide) ?_
      clear hf; intro a ha hf; clear ha
      refine st_fcmp (r_fne (fx := q235.1) (fy := q246.1) y238 y249) hf (by decide) rfl rfl rfl ?_
      clear hf; intro a ha hf; clear ha
      refine st_move hf rfl rfl (by decide) ?_
      clear hf; intro a ha hf; clear ha
      refine wpList_cut 4 (fun a w => Fr 202 a [(1, .bool one1), (2, .bool two2), (3, vbits3), (4, vl4), (5, optr v1 0), (11, v5), (12, .int .i64 (l4.length : Int)), (13, .int .i64 (bits3.length : Int)), (14, v14), (69, .bool ((fne q235.1 q246.1) || (q235.2 != q246.2)))] ∧ Hp S w0 w (Res.sl Ek.bool 4 v11 ([true]) :: Res.sl Ek.bool 4 v14 ((([] : List Bool) ++ bits3) ++ [true]) :: Res.slx (Ek.pair Ek.c128 Ek.bool) 35 v5 q3.1 q3.2 :: Res.obj 24 v1 [.int .i64 cx0_Length, .int .u32 cx0_One, .int .u32 cx0_Two] :: ow)) ?_ ?_
      · rcases Bool.eq_false_or_eq_true (fne q235.1 q246.1) with hb251 | hb251
        · skip
          refine st_skip hf (wantN hf rfl rfl hb251) rfl (by decide) ?_ rfl
          clear hf; intro a hf
          refine st_skip hf (wantN hf rfl rfl hb251) rfl (by decide) ?_ rfl
          clear hf; intro a hf
          refine st_skip hf (wantN hf rfl rfl hb251) rfl (by decide) ?_ rfl
          clear hf; intro a hf
          refine st_pick (v := .bool true) hf rfl rfl (fun hb' => ?_) (fun hb' => ?_) (by decide) ?_
          · rfl
          · exact absurd (hb251.symm.trans hb') (by decide)
          clear hf; intro a ha hf; clear ha
          refine st_nil hf (th_n ?_)
          exact ⟨hf.sub ⟨rfl, rfl, rfl, rfl, rfl, rfl, rfl, rfl, rfl, (by rw [hb251]; rfl), trivial⟩, hp⟩
        refine st_move hf (wantY hf rfl rfl hb251) rfl (by decide) ?_
        clear hf; intro a ha hf; clear ha
        refine st_move hf (wantY hf rfl rfl hb251) rfl (by decide) ?_
        clear hf; intro a ha hf; clear ha
        refine st_ineq hf (by decide) (wantY hf rfl rfl hb251) rfl rfl ?_
        clear hf; intro a ha hf; clear ha
        refine st_pick (v := .bool (q235.2 != q246.2)) hf rfl rfl (fun hb' => ?_) (fun hb' => ?_) (by decide) ?_
        · exact absurd (hb251.symm.trans hb') (by decide)
        · rfl
        clear hf; intro a ha hf; clear ha
        refine st_nil hf (th_n ?_)
        exact ⟨hf.sub ⟨rfl, rfl, rfl, rfl, rfl, rfl, rfl, rfl, rfl, (by rw [hb251]; rfl), trivial⟩, hp⟩
      rintro a w ⟨hf, hp⟩
      refine st_nil hf ?_
      refine th_n ?_
      refine wp_if hf rfl (fun hb => ?_) (fun hb => ?_)
      · replace h := ifT h hb
        refine wp_seq ?_
        refine wp_reg ?_
        refine st_assign hf rfl rfl (by decide) ?_
        clear hf; intro a ha hf; clear ha
        refine st_nil hf ?_
        refine th_n ?_
        refine wp_ret ?_
        refine th_r ?_
        obtain rfl := Option.some.inj h
        have hp : Hp _ _ _ (ow) := Hp.sel (pre := [Res.sl Ek.bool 4 v11 ([true]), Res.sl Ek.bool 4 v14 ((([] : List Bool) ++ bits3) ++ [true]), Res.slx (Ek.pair Ek.c128 Ek.bool) 35 v5 q3.1 q3.2, Res.obj 24 v1 [.int .i64 cx0_Length, .int .u32 cx0_One, .int .u32 cx0_Two]]) (tail := ow) (rs' := []) hp [] (by decide) (by simp) rfl
        exact ⟨rfl, ⟨hf.sub ⟨rfl, trivial⟩, hp⟩⟩
      replace h := ifF h hb
      refine wp_skip ?_
      have hp : Hp _ _ _ (Res.obj 24 v1 [.int .i64 cx0_Length, .int .u32 cx0_One, .int .u32 cx0_Two] :: Res.slx (Ek.pair Ek.c128 Ek.bool) 35 v5 q3.1 q3.2 :: Res.sl Ek.bool 4 v14 ((([] : List Bool) ++ bits3) ++ [true]) :: ow) := Hp.sel (pre := [Res.sl Ek.bool 4 v11 ([true]), Res.sl Ek.bool 4 v14 ((([] : List Bool) ++ bits3) ++ [true]), Res.slx (Ek.pair Ek.c128 Ek.bool) 35 v5 q3.1 q3.2, Res.obj 24 v1 [.int .i64 cx0_Length, .int .u32 cx0_One, .int .u32 cx0_Two]]) (tail := ow) (rs' := [Res.obj 24 v1 [.int .i64 cx0_Length, .int .u32 cx0_One, .int .u32 cx0_Two], Res.slx (Ek.pair Ek.c128 Ek.bool) 35 v5 q3.1 q3.2, Res.sl Ek.bool 4 v14 ((([] : List Bool) ++ bits3) ++ [true])]) hp [3, 2, 1] (by decide) (by simp) rfl
      refine th_n ?_
      exact ⟨h, hf.sub ⟨rfl, rfl, rfl, rfl, rfl, rfl, rfl, rfl, rfl, trivial⟩, hp⟩
    replace h := ifF h hb
    refine wp_skip ?_
    have hp : Hp _ _ _ (Res.obj 24 v1 [.int .i64 cx0_Length, .int .u32 cx0_One, .int .u32 cx0_Two] :: Res.slx (Ek.pair Ek.c128 Ek.bool) 35 v5 q3.1 q3.2 :: Res.sl Ek.bool 4 v14 ((([] : List Bool) ++ bits3) ++ [true]) :: ow) := Hp.sel (pre := [Res.sl Ek.bool 4 v11 ([true]), Res.sl Ek.bool 4 v14 ((([] : List Bool) ++ bits3) ++ [true]), Res.slx (Ek.pair Ek.c128 Ek.bool) 35 v5 q3.1 q3.2, Res.obj 24 v1 [.int .i64 cx0_Length, .int .u32 cx0_One, .int .u32 cx0_Two]]) (tail := ow) (rs' := [Res.obj 24 v1 [.int .i64 cx0_Length, .int .u32 cx0_One, .int .u32 cx0_Two], Res.slx (Ek.pair Ek.c128 Ek.bool) 35 v5 q3.1 q3.2, Res.sl Ek.bool 4 v14 ((([] : List Bool) ++ bits3) ++ [true])]) hp [3, 2, 1] (by decide) (by simp) rfl
    refine th_n ?_
    exact ⟨h, hf.sub ⟨rfl, rfl, rfl, rfl, rfl, rfl, rfl, rfl, rfl, trivial⟩, hp⟩
  rintro a w ⟨h, hf, hp⟩
  unfold f_foghornlaw23_SoftCosts.j1 at h
  refine wp_seq ?_
  refine wp_reg ?_
  refine st_ldOA (m := 3) (us := [.int .i64 cx0_Length, .int .u32 cx0_One, .int .u32 cx0_Two]) hf (by decide) (by kernel_rfl) rfl rfl (hp.ob (i := 0) rfl) rfl rfl ?_
  clear hf; intro a ha hf; clear ha
  refine st_move hf rfl rfl (by decide) ?_
  clear hf; intro a ha hf; clear ha
  obtain ⟨q15, hcall16, h⟩ := bnd h
  refine st_call hf (by decide) Try.func12 rfl rfl rfl rfl rfl (f_foghornref23_Send_c hp _ _ _ _ _ hbits3 hcall16) ?_
  rintro _ w ⟨v17, rfl, hp0⟩
  clear hp; have hp := hp0; clear hp0
  replace hp : Hp _ _ _ (Res.sl Ek.c128 33 v17 q15.1 :: Res.obj 24 v1 [.int .i64 cx0_Length, .int .u32 cx0_One, .int .u32 cx0_Two] :: Res.slx (Ek.pair Ek.c128 Ek.bool) 35 v5 q3.1 q3.2 :: Res.sl Ek.bool 4 v14 ((([] : List Bool) ++ bits3) ++ [true]) :: ow) := hp
  refine ⟨_, rfl, ?_⟩
  clear hf; intro a hf
  refine st_move hf rfl rfl (by decide) ?_
  clear hf; intro a ha hf; clear ha
  refine st_extract hf (by decide) rfl rfl rfl ?_
  clear hf; intro a ha hf; clear ha
  refine st_extract hf (by decide) rfl rfl rfl ?_
  clear hf; intro a ha hf; clear ha
  refine st_assign hf rfl rfl (by decide) ?_
  clear hf; intro a ha hf; clear ha
  refine st_assign hf rfl rfl (by decide) ?_
  clear hf; intro a ha hf; clear ha
  refine st_nil hf ?_
  refine th_n ?_
  refine wp_seq ?_
  obtain ⟨S19, hp20, rd21, up22, bk23⟩ := Hp.lendO hp (i := 1) rfl
  obtain ⟨S24, hp25, rd26, up27, bk28⟩ := Hp.lendS hp20 (i := 2) rfl
  have rl29 := ((((hbits3.now hp).mono up22).now hp20).mono up27)
  have rl30 := ((((hl4.now hp).mono up22).now hp20).mono up27)
  have rl31 := ((rd21.now hp20).mono up27)
  have rl32 := rd26
  obtain ⟨q33, hcall34, h⟩ := bnd h
  obtain ⟨hc35, h⟩ := chk h
  have hc36 : 0 ≤ ((bits3.length : Int)).toNat := by omega
  have hc37 : ((bits3.length : Int)).toNat ≤ ((([] : List Bool) ++ bits3) ++ [true]).length := by omega
  obtain ⟨q38, hcall39, h⟩ := bnd h
  refine wp_cutN (fun a w => ∃ (v40 : Value), Fr 202 a [(1, .bool one1), (2, .bool two2), (3, vbits3), (4, vl4), (5, optr v1 0), (11, v5), (12, .int .i64 (l4.length : Int)), (13, .int .i64 (bits3.length : Int)), (14, v14), (19, v17), (20, .int .i64 q15.2), (21, v40), (22, .int .i64 q38.2)] ∧ Hp S w0 w (Res.obj 24 v1 [.int .i64 cx0_Length, .int .u32 cx0_One, .int .u32 cx0_Two] :: Res.sl Ek.bool 4 v14 ((([] : List Bool) ++ bits3) ++ [true]) :: Res.sl Ek.c128 33 v40 q38.1 :: Res.sl Ek.c128 33 v17 q15.1 :: Res.slx (Ek.pair Ek.c128 Ek.bool) 35 v5 q3.1 q3.2 :: ow)) ?_ ?_
  · have hp := hp25.same (Same.drew w)
    refine dr_begin' (fun a w => ∃ (v40 : Value), Fr 202 a [(1, .bool one1), (2, .bool two2), (3, vbits3), (4, vl4), (5, optr v1 0), (11, v5), (12, .int .i64 (l4.length : Int)), (13, .int .i64 (bits3.length : Int)), (14, v14), (19, v17), (20, .int .i64 q15.2), (21, v40), (22, .int .i64 q38.2)] ∧ Hp S w0 w (Res.obj 24 v1 [.int .i64 cx0_Length, .int .u32 cx0_One, .int .u32 cx0_Two] :: Res.sl Ek.bool 4 v14 ((([] : List Bool) ++ bits3) ++ [true]) :: Res.sl Ek.c128 33 v40 q38.1 :: Res.sl Ek.c128 33 v17 q15.1 :: Res.slx (Ek.pair Ek.c128 Ek.bool) 35 v5 q3.1 q3.2 :: ow)) (fun w' => ∃ l, Hp S24 w w' l) [] (by kernel_rfl) ?_
    refine dr_take 0 (.agg #[.int .i64 cx0_Length, .int .u32 cx0_One, .int .u32 cx0_Two]) rfl (by kernel_rfl) (by kernel_rfl) (by kernel_rfl) (by kernel_rfl) rfl rfl hf (by decide) rfl (fun w hp => ?_) ⟨_, hp⟩ ?_
    · obtain ⟨_, hp⟩ := hp
      refine st_ldOA (m := 3) (us := [.int .i64 cx0_Length, .int .u32 cx0_One, .int .u32 cx0_Two]) hf (by decide) (by kernel_rfl) rfl rfl (rl31.ob hp) rfl rfl ?_
      clear hf; intro a ha hf
      exact st_nil hf (th_n ⟨ha, rfl⟩)
    clear hf; intro a hf
    refine dr_take 2 (v14) rfl (by kernel_rfl) (by kernel_rfl) (by kernel_rfl) (by kernel_rfl) rfl rfl hf (by decide) rfl (fun w hp => ?_) ⟨_, hp⟩ ?_
    · obtain ⟨_, hp⟩ := hp
      refine st_move hf rfl rfl (by decide) ?_
      clear hf; intro a ha hf
      exact st_nil hf (th_n ⟨ha, rfl⟩)
    clear hf; intro a hf
    refine dr_take 3 (.int .i64 (bits3.length : Int)) rfl (by kernel_rfl) (by kernel_rfl) (by kernel_rfl) (by kernel_rfl) rfl rfl hf (by decide) rfl (fun w hp => ?_) ⟨_, hp⟩ ?_
    · obtain ⟨_, hp⟩ := hp
      refine st_move hf rfl rfl (by decide) ?_
      clear hf; intro a ha hf
      exact st_nil hf (th_n ⟨ha, rfl⟩)
    clear hf; intro a hf
    refine dr_take 4 ((GL.cut v14 0 (((bits3.length : Int)).toNat) 1)) rfl (by kernel_rfl) (by kernel_rfl) (by kernel_rfl) (by kernel_rfl) rfl rfl hf (by decide) rfl (fun w hp => ?_) ⟨_, hp⟩ ?_
    · obtain ⟨_, hp⟩ := hp
      refine st_cutS (E := Ek.bool) hf (by decide) Try.underlying25 elt4 rfl rfl (rl32.sl hp) (.inl ⟨rfl, rfl⟩) (.inr ⟨_, _, rfl, evI rfl (by omega)⟩) hc36 hc37 ?_
      clear hf; intro a ha hf
      exact st_nil hf (th_n ⟨ha, rfl⟩)
    clear hf; intro a hf
    refine dr_one 1 rfl (by kernel_rfl) ?_
    refine st_call hf (by decide) Try.func14 rfl rfl rfl rfl rfl (f_foghornlaw23_code_c hp _ _ _ hcall34) ?_
    rintro _ w ⟨rfl, hp0⟩
    clear hp; have hp := hp0; clear hp0
    replace hp : Hp _ _ _ (Res.sl Ek.c128 33 v17 q15.1 :: Res.slx (Ek.pair Ek.c128 Ek.bool) 35 v5 q3.1 q3.2 :: ow) := hp
    refine ⟨_, rfl, ?_⟩
    clear hf; intro a hf
    refine st_nil hf (th_n ⟨fun _ _ => ⟨_, hp⟩, ?_⟩)
    refine dr_one 5 rfl (by kernel_rfl) ?_
    refine st_call hf (by decide) Try.func13 rfl rfl rfl rfl rfl (f_soft_Send_c hp _ _ _ _ _ (RdS.cut rl32 hc36 hc37) hcall39) ?_
    rintro _ w ⟨v40, rfl, hp0⟩
    clear hp; have hp := hp0; clear hp0
    replace hp : Hp _ _ _ (Res.sl Ek.c128 33 v40 q38.1 :: Res.sl Ek.c128 33 v17 q15.1 :: Res.slx (Ek.pair Ek.c128 Ek.bool) 35 v5 q3.1 q3.2 :: ow) := hp
    refine ⟨_, rfl, ?_⟩
    clear hf; intro a hf
    refine st_nil hf (th_n ⟨fun _ _ => ⟨_, hp⟩, ?_⟩)
    refine dr_take 6 (.tuple #[v40, .int .i64 q38.2]) rfl (by kernel_rfl) (by kernel_rfl) (by kernel_rfl) (by kernel_rfl) rfl rfl hf (by decide) rfl (fun w hp => ?_) ⟨_, hp⟩ ?_
    · obtain ⟨_, hp⟩ := hp
      refine st_move hf rfl rfl (by decide) ?_
      clear hf; intro a ha hf
      exact st_nil hf (th_n ⟨ha, rfl⟩)
    clear hf; intro a hf
    refine dr_take 7 (v40) rfl (by kernel_rfl) (by kernel_rfl) (by kernel_rfl) (by kernel_rfl) rfl rfl hf (by decide) rfl (fun w hp => ?_) ⟨_, hp⟩ ?_
    · obtain ⟨_, hp⟩ := hp
      refine st_extract hf (by decide) rfl rfl rfl ?_
      clear hf; intro a ha hf
      exact st_nil hf (th_n ⟨ha, rfl⟩)
    clear hf; intro a hf
    refine dr_take 8 (.int .i64 q38.2) rfl (by kernel_rfl) (by kernel_rfl) (by kernel_rfl) (by kernel_rfl) rfl rfl hf (by decide) rfl (fun w hp => ?_) ⟨_, hp⟩ ?_
    · obtain ⟨_, hp⟩ := hp
      refine st_extract hf (by decide) rfl rfl rfl ?_
      clear hf; intro a ha hf
      exact st_nil hf (th_n ⟨ha, rfl⟩)
    clear hf; intro a hf
    refine dr_take 9 (v40) rfl (by kernel_rfl) (by kernel_rfl) (by kernel_rfl) (by kernel_rfl) rfl rfl hf (by decide) rfl (fun w hp => ?_) ⟨_, hp⟩ ?_
    · obtain ⟨_, hp⟩ := hp
      refine st_assign hf rfl rfl (by decide) ?_
      clear hf; intro a ha hf
      exact st_nil hf (th_n ⟨ha, rfl⟩)
    clear hf; intro a hf
    refine dr_take 10 (.int .i64 q38.2) rfl (by kernel_rfl) (by kernel_rfl) (by kernel_rfl) (by kernel_rfl) rfl rfl hf (by decide) rfl (fun w hp => ?_) ⟨_, hp⟩ ?_
    · obtain ⟨_, hp⟩ := hp
      refine st_assign hf rfl rfl (by decide) ?_
      clear hf; intro a ha hf
      exact st_nil hf (th_n ⟨ha, rfl⟩)
    clear hf; intro a hf
    refine dr_end (by kernel_rfl) ?_ _
    have hp := bk28 _ _ hp
    have hp := bk23 _ _ hp
    exact ⟨v40, hf.sub ⟨rfl, rfl, rfl, rfl, rfl, rfl, rfl, rfl, rfl, rfl, rfl, rfl, rfl, trivial⟩, hp⟩
  rintro a w ⟨v40, hf, hp⟩
  refine th_n ?_
  refine wp_seq ?_
  obtain ⟨S42, hp43, rd44, up45, bk46⟩ := Hp.lendO hp (i := 0) rfl
  obtain ⟨S47, hp48, rd49, up50, bk51⟩ := Hp.lendS hp43 (i := 0) rfl
  have rl52 := ((((hbits3.now hp).mono up45).now hp43).mono up50)
  have rl53 := ((((hl4.now hp).mono up45).now hp43).mono up50)
  have rl54 := ((rd44.now hp43).mono up50)
  have rl55 := rd49
  obtain ⟨q56, hcall57, h⟩ := bnd h
  obtain ⟨hc58, h⟩ := chk h
  have hc59 : 0 ≤ ((bits3.length : Int)).toNat := by omega
  have hc60 : ((bits3.length : Int)).toNat ≤ ((([] : List Bool) ++ bits3) ++ [true]).length := by omega
  obtain ⟨q61, hcall62, h⟩ := bnd h
  refine wp_cutN (fun a w => ∃ (v63 : Value), Fr 202 a [(1, .bool one1), (2, .bool two2), (3, vbits3), (4, vl4), (5, optr v1 0), (11, v5), (12, .int .i64 (l4.length : Int)), (13, .int .i64 (bits3.length : Int)), (14, v14), (19, v17), (20, .int .i64 q15.2), (21, v40), (22, .int .i64 q38.2), (23, v63)] ∧ Hp S w0 w (Res.obj 24 v1 [.int .i64 cx0_Length, .int .u32 cx0_One, .int .u32 cx0_Two] :: Res.sl Ek.bool 4 v14 ((([] : List Bool) ++ bits3) ++ [true]) :: Res.sl Ek.c128 33 v63 q61.1 :: Res.sl Ek.c128 33 v40 q38.1 :: Res.sl Ek.c128 33 v17 q15.1 :: Res.slx (Ek.pair Ek.c128 Ek.bool) 35 v5 q3.1 q3.2 :: ow)) ?_ ?_
  · have hp := hp48.same (Same.drew w)
    refine dr_begin' (fun a w => ∃ (v63 : Value), Fr 202 a [(1, .bool one1), (2, .bool two2), (3, vbits3), (4, vl4), (5, optr v1 0), (11, v5), (12, .int .i64 (l4.length : Int)), (13, .int .i64 (bits3.length : Int)), (14, v14), (19, v17), (20, .int .i64 q15.2), (21, v40), (22, .int .i64 q38.2), (23, v63)] ∧ Hp S w0 w (Res.obj 24 v1 [.int .i64 cx0_Length, .int .u32 cx0_One, .int .u32 cx0_Two] :: Res.sl Ek.bool 4 v14 ((([] : List Bool) ++ bits3) ++ [true]) :: Res.sl Ek.c128 33 v63 q61.1 :: Res.sl Ek.c128 33 v40 q38.1 :: Res.sl Ek.c128 33 v17 q15.1 :: Res.slx (Ek.pair Ek.c128 Ek.bool) 35 v5 q3.1 q3.2 :: ow)) (fun w' => ∃ l, Hp S47 w w' l) [] (by kernel_rfl) ?_
    refine dr_take 0 (.agg #[.int .i64 cx0_Length, .int .u32 cx0_One, .int .u32 cx0_Two]) rfl (by kernel_rfl) (by kernel_rfl) (by kernel_rfl) (by kernel_rfl) rfl rfl hf (by decide) rfl (fun w hp => ?_) ⟨_, hp⟩ ?_
    · obtain ⟨_, hp⟩ := hp
      refine st_ldOA (m := 3) (us := [.int .i64 cx0_Length, .int .u32 cx0_One, .int .u32 cx0_Two]) hf (by decide) (by kernel_rfl) rfl rfl (rl54.ob hp) rfl rfl ?_
      clear hf; intro a ha hf
      exact st_nil hf (th_n ⟨ha, rfl⟩)
    clear hf; intro a hf
    refine dr_take 2 (v14) rfl (by kernel_rfl) (by kernel_rfl) (by kernel_rfl) (by kernel_rfl) rfl rfl hf (by decide) rfl (fun w hp => ?_) ⟨_, hp⟩ ?_
    · obtain ⟨_, hp⟩ := hp
      refine st_move hf rfl rfl (by decide) ?_
      clear hf; intro a ha hf
      exact st_nil hf (th_n ⟨ha, rfl⟩)
    clear hf; intro a hf
    refine dr_take 3 (.int .i64 (bits3.length : Int)) rfl (by kernel_rfl) (by kernel_rfl) (by kernel_rfl) (by kernel_rfl) rfl rfl hf (by decide) rfl (fun w hp => ?_) ⟨_, hp⟩ ?_
    · obtain ⟨_, hp⟩ := hp
      refine st_move hf rfl rfl (by decide) ?_
      clear hf; intro a ha hf
      exact st_nil hf (th_n ⟨ha, rfl⟩)
    clear hf; intro a hf
    refine dr_take 4 ((GL.cut v14 0 (((bits3.length : Int)).toNat) 1)) rfl (by kernel_rfl) (by kernel_rfl) (by kernel_rfl) (by kernel_rfl) rfl rfl hf (by decide) rfl (fun w hp => ?_) ⟨_, hp⟩ ?_
    · obtain ⟨_, hp⟩ := hp
      refine st_cutS (E := Ek.bool) hf (by decide) Try.underlying25 elt4 rfl rfl (rl55.sl hp) (.inl ⟨rfl, rfl⟩) (.inr ⟨_, _, rfl, evI rfl (by omega)⟩) hc59 hc60 ?_
      clear hf; intro a ha hf
      exact st_nil hf (th_n ⟨ha, rfl⟩)
    clear hf; intro a hf
    refine dr_one 1 rfl (by kernel_rfl) ?_
    refine st_call hf (by decide) Try.func14 rfl rfl rfl rfl rfl (f_foghornlaw23_code_c hp _ _ _ hcall57) ?_
    rintro _ w ⟨rfl, hp0⟩
    clear hp; have hp := hp0; clear hp0
    replace hp : Hp _ _ _ (Res.sl Ek.c128 33 v40 q38.1 :: Res.sl Ek.c128 33 v17 q15.1 :: Res.slx (Ek.pair Ek.c128 Ek.bool) 35 v5 q3.1 q3.2 :: ow) := hp
    refine ⟨_, rfl, ?_⟩
    clear hf; intro a hf
    refine st_nil hf (th_n ⟨fun _ _ => ⟨_, hp⟩, ?_⟩)
    refine dr_one 5 rfl (by kernel_rfl) ?_
    refine st_call hf (by decide) Try.func13 rfl rfl rfl rfl rfl (f_soft_Send_c hp _ _ _ _ _ (RdS.cut rl55 hc59 hc60) hcall62) ?_
    rintro _ w ⟨v63, rfl, hp0⟩
    clear hp; have hp := hp0; clear hp0
    replace hp : Hp _ _ _ (Res.sl Ek.c128 33 v63 q61.1 :: Res.sl Ek.c128 33 v40 q38.1 :: Res.sl Ek.c128 33 v17 q15.1 :: Res.slx (Ek.pair Ek.c128 Ek.bool) 35 v5 q3.1 q3.2 :: ow) := hp
    refine ⟨_, rfl, ?_⟩
    clear hf; intro a hf
    refine st_nil hf (th_n ⟨fun _ _ => ⟨_, hp⟩, ?_⟩)
    refine dr_take 6 (.tuple #[v63, .int .i64 q61.2]) rfl (by kernel_rfl) (by kernel_rfl) (by kernel_rfl) (by kernel_rfl) rfl rfl hf (by decide) rfl (fun w hp => ?_) ⟨_, hp⟩ ?_
    · obtain ⟨_, hp⟩ := hp
      refine st_move hf rfl rfl (by decide) ?_
      clear hf; intro a ha hf
      exact st_nil hf (th_n ⟨ha, rfl⟩)
    clear hf; intro a hf
    refine dr_take 7 (v63) rfl (by kernel_rfl) (by kernel_rfl) (by kernel_rfl) (by kernel_rfl) rfl rfl hf (by decide) rfl (fun w hp => ?_) ⟨_, hp⟩ ?_
    · obtain ⟨_, hp⟩ := hp
      refine st_extract hf (by decide) rfl rfl rfl ?_
      clear hf; intro a ha hf
      exact st_nil hf (th_n ⟨ha, rfl⟩)
    clear hf; intro a hf
    refine dr_take 8 (.int .i64 q61.2) rfl (by kernel_rfl) (by kernel_rfl) (by kernel_rfl) (by kernel_rfl) rfl rfl hf (by decide) rfl (fun w hp => ?_) ⟨_, hp⟩ ?_
    · obtain ⟨_, hp⟩ := hp
      refine st_extract hf (by decide) rfl rfl rfl ?_
      clear hf; intro a ha hf
      exact st_nil hf (th_n ⟨ha, rfl⟩)
    clear hf; intro a hf
    refine dr_take 9 (v63) rfl (by kernel_rfl) (by kernel_rfl) (by kernel_rfl) (by kernel_rfl) rfl rfl hf (by decide) rfl (fun w hp => ?_) ⟨_, hp⟩ ?_
    · obtain ⟨_, hp⟩ := hp
      refine st_assign hf rfl rfl (by decide) ?_
      clear hf; intro a ha hf
      exact st_nil hf (th_n ⟨ha, rfl⟩)
    clear hf; intro a hf
    refine dr_take 10 (.int .i64 q61.2) rfl (by kernel_rfl) (by kernel_rfl) (by kernel_rfl) (by kernel_rfl) rfl rfl hf (by decide) rfl (fun w hp => ?_) ⟨_, hp⟩ ?_
    · obtain ⟨_, hp⟩ := hp
      refine st_assign hf rfl rfl (by decide) ?_
      clear hf; intro a ha hf
      exact st_nil hf (th_n ⟨ha, rfl⟩)
    clear hf; intro a hf
    refine dr_end (by kernel_rfl) ?_ _
    have hp := bk51 _ _ hp
    have hp := bk46 _ _ hp
    exact ⟨v63, hf.sub ⟨rfl, rfl, rfl, rfl, rfl, rfl, rfl, rfl, rfl, rfl, rfl, rfl, rfl, rfl, trivial⟩, hp⟩
  rintro a w ⟨v63, hf, hp⟩
  refine th_n ?_
  refine wp_seq ?_
  refine wp_seq ?_
  refine wp_reg ?_
  refine st_move hf rfl rfl (by decide) ?_
  clear hf; intro a ha hf; clear ha
  refine st_move hf rfl rfl (by decide) ?_
  clear hf; intro a ha hf; clear ha
  refine st_ineq hf (by decide) rfl rfl rfl ?_
  clear hf; intro a ha hf; clear ha
  refine st_move hf rfl rfl (by decide) ?_
  clear hf; intro a ha hf; clear ha
  refine wpList_cut 6 (fun a w => Fr 202 a [(1, .bool one1), (2, .bool two2), (3, vbits3), (4, vl4), (5, optr v1 0), (11, v5), (12, .int .i64 (l4.length : Int)), (13, .int .i64 (bits3.length : Int)), (14, v14), (19, v17), (21, v40), (23, v63), (103, .bool ((q38.2 != q15.2) || ((q38.1.length : Int) != (q15.1.length : Int))))] ∧ Hp S w0 w (Res.obj 24 v1 [.int .i64 cx0_Length, .int .u32 cx0_One, .int .u32 cx0_Two] :: Res.sl Ek.bool 4 v14 ((([] : List Bool) ++ bits3) ++ [true]) :: Res.sl Ek.c128 33 v63 q61.1 :: Res.sl Ek.c128 33 v40 q38.1 :: Res.sl Ek.c128 33 v17 q15.1 :: Res.slx (Ek.pair Ek.c128 Ek.bool) 35 v5 q3.1 q3.2 :: ow)) ?_ ?_
  · rcases Bool.eq_false_or_eq_true (q38.2 != q15.2) with hb66 | hb66
    · skip
      refine st_skip hf (wantN hf rfl rfl hb66) rfl (by decide) ?_ rfl
      clear hf; intro a hf
      refine st_skip hf (wantN hf rfl rfl hb66) rfl (by decide) ?_ rfl
      clear hf; intro a hf
      refine st_skip hf (wantN hf rfl rfl hb66) rfl (by decide) ?_ rfl
      clear hf; intro a hf
      refine st_skip hf (wantN hf rfl rfl hb66) rfl (by decide) ?_ rfl
      clear hf; intro a hf
      refine st_skip hf (wantN hf rfl rfl hb66) rfl (by decide) ?_ rfl
      clear hf; intro a hf
      refine st_pick (v := .bool true) hf rfl rfl (fun hb' => ?_) (fun hb' => ?_) (by decide) ?_
      · rfl
      · exact absurd (hb66.symm.trans hb') (by decide)
      clear hf; intro a ha hf; clear ha
      refine st_nil hf (th_n ?_)
      exact ⟨hf.sub ⟨rfl, rfl, rfl, rfl, rfl, rfl, rfl, rfl, rfl, rfl, rfl, rfl, (by rw [hb66]; rfl), trivial⟩, hp⟩
    refine st_move hf (wantY hf rfl rfl hb66) rfl (by decide) ?_
    clear hf; intro a ha hf; clear ha
    refine st_len (E := Ek.c128) hf (by decide) Try.underlying36 (wantY hf rfl rfl hb66) rfl (hp.sl (i := 3) rfl) ?_
    clear hf; intro a ha hf; clear ha
    refine st_move hf (wantY hf rfl rfl hb66) rfl (by decide) ?_
    clear hf; intro a ha hf; clear ha
    refine st_len (E := Ek.c128) hf (by decide) Try.underlying36 (wantY hf rfl rfl hb66) rfl (hp.sl (i := 4) rfl) ?_
    clear hf; intro a ha hf; clear ha
    refine st_ineq hf (by decide) (wantY hf rfl rfl hb66) rfl rfl ?_
    clear hf; intro a ha hf; clear ha
    refine st_pick (v := .bool ((q38.1.length : Int) != (q15.1.length : Int))) hf rfl rfl (fun hb' => ?_) (fun hb' => ?_) (by decide) ?_
    · exact absurd (hb66.symm.trans hb') (by decide)
    · rfl
    clear hf; intro a ha hf; clear ha
    refine st_nil hf (th_n ?_)
    exact ⟨hf.sub ⟨rfl, rfl, rfl, rfl, rfl, rfl, rfl, rfl, rfl, rfl, rfl, rfl, (by rw [hb66]; rfl), trivial⟩, hp⟩
  rintro a w ⟨hf, hp⟩
  refine st_move hf rfl rfl (by decide) ?_
  clear hf; intro a ha hf; clear ha
  refine wpList_cut 6 (fun a w => Fr 202 a [(1, .bool one1), (2, .bool two2), (3, vbits3), (4, vl4), (5, optr v1 0), (11, v5), (12, .int .i64 (l4.length : Int)), (13, .int .i64 (bits3.length : Int)), (14, v14), (19, v17), (21, v40), (23, v63), (110, .bool (((q38.2 != q15.2) || ((q38.1.length : Int) != (q15.1.length : Int))) || ((q61.1.length : Int) != (q15.1.length : Int))))] ∧ Hp S w0 w (Res.obj 24 v1 [.int .i64 cx0_Length, .int .u32 cx0_One, .int .u32 cx0_Two] :: Res.sl Ek.bool 4 v14 ((([] : List Bool) ++ bits3) ++ [true]) :: Res.sl Ek.c128 33 v63 q61.1 :: Res.sl Ek.c128 33 v40 q38.1 :: Res.sl Ek.c128 33 v17 q15.1 :: Res.slx (Ek.pair Ek.c128 Ek.bool) 35 v5 q3.1 q3.2 :: ow)) ?_ ?_
  · rcases Bool.eq_false_or_eq_true ((q38.2 != q15.2) || ((q38.1.length : Int) != (q15.1.length : Int))) with hb68 | hb68
    · skip
      refine st_skip hf (wantN hf rfl rfl hb68) rfl (by decide) ?_ rfl
      clear hf; intro a hf
      refine st_skip hf (wantN hf rfl rfl hb68) rfl (by decide) ?_ rfl
      clear hf; intro a hf
      refine st_skip hf (wantN hf rfl rfl hb68) rfl (by decide) ?_ rfl
      clear hf; intro a hf
      refine st_skip hf (wantN hf rfl rfl hb68) rfl (by decide) ?_ rfl
      clear hf; intro a hf
      refine st_skip hf (wantN hf rfl rfl hb68) rfl (by decide) ?_ rfl
      clear hf; intro a hf
      refine st_pick (v := .bool true) hf rfl rfl (fun hb' => ?_) (fun hb' => ?_) (by decide) ?_
      · rfl
      · exact absurd (hb68.symm.trans hb') (by decide)
      clear hf; intro a ha hf; clear ha
      refine st_nil hf (th_n ?_)
      exact ⟨hf.sub ⟨rfl, rfl, rfl, rfl, rfl, rfl, rfl, rfl, rfl, rfl, rfl, rfl, (by rw [hb68]; rfl), trivial⟩, hp⟩
    refine st_move hf (wantY hf rfl rfl hb68) rfl (by decide) ?_
    clear hf; intro a ha hf; clear ha
    refine st_len (E := Ek.c128) hf (by decide) Try.underlying36 (wantY hf rfl rfl hb68) rfl (hp.sl (i := 2) rfl) ?_
    clear hf; intro a ha hf; clear ha
    refine st_move hf (wantY hf rfl rfl hb68) rfl (by decide) ?_
    clear hf; intro a ha hf; clear ha
    refine st_len (E := Ek.c128) hf (by decide) Try.underlying36 (wantY hf rfl rfl hb68) rfl (hp.sl (i := 4) rfl) ?_
    clear hf; intro a ha hf; clear ha
    refine st_ineq hf (by decide) (wantY hf rfl rfl hb68) rfl rfl ?_
    clear hf; intro a ha hf; clear ha
    refine st_pick (v := .bool ((q61.1.length : Int) != (q15.1.length : Int))) hf rfl rfl (fun hb' => ?_) (fun hb' => ?_) (by decide) ?_
    · exact absurd (hb68.symm.trans hb') (by decide)
    · rfl
    clear hf; intro a ha hf; clear ha
    refine st_nil hf (th_n ?_)
    exact ⟨hf.sub ⟨rfl, rfl, rfl, rfl, rfl, rfl, rfl, rfl, rfl, rfl, rfl, rfl, (by rw [hb68]; rfl), trivial⟩, hp⟩
  rintro a w ⟨hf, hp⟩
  refine st_move hf rfl rfl (by decide) ?_
  clear hf; intro a ha hf; clear ha
  obtain ⟨z71, hz69, h⟩ := bnd h
  refine wpList_cut 8 (fun a w => Fr 202 a [(3, vbits3), (4, vl4), (5, optr v1 0), (11, v5), (12, .int .i64 (l4.length : Int)), (13, .int .i64 (bits3.length : Int)), (14, v14), (19, v17), (21, v40), (23, v63), (119, .bool z71)] ∧ Hp S w0 w (Res.obj 24 v1 [.int .i64 cx0_Length, .int .u32 cx0_One, .int .u32 cx0_Two] :: Res.sl Ek.bool 4 v14 ((([] : List Bool) ++ bits3) ++ [true]) :: Res.sl Ek.c128 33 v63 q61.1 :: Res.sl Ek.c128 33 v40 q38.1 :: Res.sl Ek.c128 33 v17 q15.1 :: Res.slx (Ek.pair Ek.c128 Ek.bool) 35 v5 q3.1 q3.2 :: ow)) ?_ ?_
  · rcases Bool.eq_false_or_eq_true (((q38.2 != q15.2) || ((q38.1.length : Int) != (q15.1.length : Int))) || ((q61.1.length : Int) != (q15.1.length : Int))) with hb70 | hb70
    · skip
      replace hz69 := ifT hz69 hb70
      refine st_skip hf (wantN hf rfl rfl hb70) rfl (by decide) ?_ rfl
      clear hf; intro a hf
      refine st_skip hf (wantN hf rfl rfl hb70) rfl (by decide) ?_ rfl
      clear hf; intro a hf
      refine st_skip hf (wantN hf rfl rfl hb70) rfl (by decide) ?_ rfl
      clear hf; intro a hf
      refine st_skip hf (wantN hf rfl rfl hb70) rfl (by decide) ?_ rfl
      clear hf; intro a hf
      refine st_skip hf (wantN hf rfl rfl hb70) rfl (by decide) ?_ rfl
      clear hf; intro a hf
      refine st_skip hf (wantN hf rfl rfl hb70) rfl (by decide) ?_ rfl
      clear hf; intro a hf
      refine st_skip hf (wantN hf rfl rfl hb70) rfl (by decide) ?_ rfl
      clear hf; intro a hf
      obtain rfl := Option.some.inj hz69
      refine st_pick (v := .bool true) hf rfl rfl (fun hb' => ?_) (fun hb' => ?_) (by decide) ?_
      · rfl
      · exact absurd (hb70.symm.trans hb') (by decide)
      clear hf; intro a ha hf; clear ha
      refine st_nil hf (th_n ?_)
      exact ⟨hf.sub ⟨rfl, rfl, rfl, rfl, rfl, rfl, rfl, rfl, rfl, rfl, rfl, trivial⟩, hp⟩
    replace hz69 := ifF hz69 hb70
    refine st_move hf (wantY hf rfl rfl hb70) rfl (by decide) ?_
    clear hf; intro a ha hf; clear ha
    refine st_move hf (wantY hf rfl rfl hb70) rfl (by decide) ?_
    clear hf; intro a ha hf; clear ha
    obtain ⟨q72, hcall73, hz69⟩ := bnd hz69
    refine st_call hf (by decide) Try.func15 rfl rfl (wantY hf rfl rfl hb70) rfl rfl (f_soft_Point_c hp _ _ hcall73) ?_
    rintro _ w ⟨v74, v75, rfl, y76, y77, hp0⟩
    clear hp; have hp := hp0; clear hp0
    replace hp : Hp _ _ _ (Res.obj 24 v1 [.int .i64 cx0_Length, .int .u32 cx0_One, .int .u32 cx0_Two] :: Res.sl Ek.bool 4 v14 ((([] : List Bool) ++ bits3) ++ [true]) :: Res.sl Ek.c128 33 v63 q61.1 :: Res.sl Ek.c128 33 v40 q38.1 :: Res.sl Ek.c128 33 v17 q15.1 :: Res.slx (Ek.pair Ek.c128 Ek.bool) 35 v5 q3.1 q3.2 :: ow) := hp
    refine ⟨_, rfl, ?_⟩
    clear hf; intro a hf
    refine st_move hf (wantY hf rfl rfl hb70) rfl (by decide) ?_
    clear hf; intro a ha hf; clear ha
    refine st_move hf (wantY hf rfl rfl hb70) rfl (by decide) ?_
    clear hf; intro a ha hf; clear ha
    obtain ⟨q78, hcall79, hz69⟩ := bnd hz69
    refine st_call hf (by decide) Try.func16 rfl rfl (wantY hf rfl rfl hb70) rfl rfl (f_foghornref23_Point_c hp _ _ hcall79) ?_
    rintro _ w ⟨v80, v81, rfl, y82, y83, hp0⟩
    clear hp; have hp := hp0; clear hp0
    replace hp : Hp _ _ _ (Res.obj 24 v1 [.int .i64 cx0_Length, .int .u32 cx0_One, .int .u32 cx0_Two] :: Res.sl Ek.bool 4 v14 ((([] : List Bool) ++ bits3) ++ [true]) :: Res.sl Ek.c128 33 v63 q61.1 :: Res.sl Ek.c128 33 v40 q38.1 :: Res.sl Ek.c128 33 v17 q15.1 :: Res.slx (Ek.pair Ek.c128 Ek.bool) 35 v5 q3.1 q3.2 :: ow) := hp
    refine ⟨_, rfl, ?_⟩
    clear hf; intro a hf
    refine st_ccmp (r_cne (x := q72) (y := q78) y76 y77 y82 y83) hf (by decide) (wantY hf rfl rfl hb70) rfl rfl ?_
    clear hf; intro a ha hf; clear ha
    obtain rfl := Option.some.inj hz69
    refine st_pick (v := .bool (!ceq q72 q78)) hf rfl rfl (fun hb' => ?_) (fun hb' => ?_) (by decide) ?_
    · exact absurd (hb70.symm.trans hb') (by decide)
    · rfl
    clear hf; intro a ha hf; clear ha
    refine st_nil hf (th_n ?_)
    exact ⟨hf.sub ⟨rfl, rfl, rfl, rfl, rfl, rfl, rfl, rfl, rfl, rfl, rfl, trivial⟩, hp⟩
  rintro a w ⟨hf, hp⟩
  refine st_nil hf ?_
  refine th_n ?_
  refine wp_if hf rfl (fun hb => ?_) (fun hb => ?_)
  · replace h := ifT h hb
    refine wp_seq ?_
    refine wp_reg ?_
    refine st_assign hf rfl rfl (by decide) ?_
    clear hf; intro a ha hf; clear ha
    refine st_nil hf ?_
    refine th_n ?_
    refine wp_ret ?_
    refine th_r ?_
    obtain rfl := Option.some.inj h
    have hp : Hp _ _ _ (ow) := Hp.sel (pre := [Res.obj 24 v1 [.int .i64 cx0_Length, .int .u32 cx0_One, .int .u32 cx0_Two], Res.sl Ek.bool 4 v14 ((([] : List Bool) ++ bits3) ++ [true]), Res.sl Ek.c128 33 v63 q61.1, Res.sl Ek.c128 33 v40 q38.1, Res.sl Ek.c128 33 v17 q15.1, Res.slx (Ek.pair Ek.c128 Ek.bool) 35 v5 q3.1 q3.2]) (tail := ow) (rs' := []) hp [] (by decide) (by simp) rfl
    exact ⟨rfl, ⟨hf.sub ⟨rfl, trivial⟩, hp⟩⟩
  replace h := ifF h hb
  refine wp_skip ?_
  refine th_n ?_
  refine wp_seq ?_
  refine wp_seq ?_
  refine wp_reg ?_
  refine st_assign hf rfl rfl (by decide) ?_
  clear hf; intro a ha hf; clear ha
  refine st_nil hf ?_
  refine th_n ?_
  refine wp_block ?_
  obtain ⟨q139, hl, h⟩ := bnd h
  have hp : Hp _ _ _ (Res.sl Ek.c128 33 v40 q38.1 :: Res.obj 24 v1 [.int .i64 cx0_Length, .int .u32 cx0_One, .int .u32 cx0_Two] :: Res.slx (Ek.pair Ek.c128 Ek.bool) 35 v5 q3.1 q3.2 :: Res.sl Ek.bool 4 v14 ((([] : List Bool) ++ bits3) ++ [true]) :: Res.sl Ek.c128 33 v17 q15.1 :: Res.sl Ek.c128 33 v63 q61.1 :: ow) := Hp.sel (pre := [Res.obj 24 v1 [.int .i64 cx0_Length, .int .u32 cx0_One, .int .u32 cx0_Two], Res.sl Ek.bool 4 v14 ((([] : List Bool) ++ bits3) ++ [true]), Res.sl Ek.c128 33 v63 q61.1, Res.sl Ek.c128 33 v40 q38.1, Res.sl Ek.c128 33 v17 q15.1, Res.slx (Ek.pair Ek.c128 Ek.bool) 35 v5 q3.1 q3.2]) (tail := ow) (rs' := [Res.sl Ek.c128 33 v40 q38.1, Res.obj 24 v1 [.int .i64 cx0_Length, .int .u32 cx0_One, .int .u32 cx0_Two], Res.slx (Ek.pair Ek.c128 Ek.bool) 35 v5 q3.1 q3.2, Res.sl Ek.bool 4 v14 ((([] : List Bool) ++ bits3) ++ [true]), Res.sl Ek.c128 33 v17 q15.1, Res.sl Ek.c128 33 v63 q61.1]) hp [3, 0, 5, 1, 4, 2] (by decide) (by simp) rfl
  refine wp_loop_pure (f := (f_foghornlaw23_SoftCosts.s1 q15 q61)) (s := (q38.1, (0 : Int))) (fun s a w => ∃ (v84 : Value), Fr 202 a [(3, vbits3), (4, vl4), (5, optr v1 0), (11, v5), (12, .int .i64 (l4.length : Int)), (13, .int .i64 (bits3.length : Int)), (14, v14), (19, v17), (21, v84), (23, v63), (25, .int .i64 s.2)] ∧ Hp S w0 w (Res.sl Ek.c128 33 v84 s.1 :: Res.obj 24 v1 [.int .i64 cx0_Length, .int .u32 cx0_One, .int .u32 cx0_Two] :: Res.slx (Ek.pair Ek.c128 Ek.bool) 35 v5 q3.1 q3.2 :: Res.sl Ek.bool 4 v14 ((([] : List Bool) ++ bits3) ++ [true]) :: Res.sl Ek.c128 33 v17 q15.1 :: Res.sl Ek.c128 33 v63 q61.1 :: ow)) (fun q e a w => match q with | (Sum.inl q) => e = .exit 0 ∧ Fr 202 a [(3, vbits3), (4, vl4), (5, optr v1 0), (11, v5), (12, .int .i64 (l4.length : Int)), (13, .int .i64 (bits3.length : Int)), (14, v14)] ∧ Hp S w0 w (Res.obj 24 v1 [.int .i64 cx0_Length, .int .u32 cx0_One, .int .u32 cx0_Two] :: Res.slx (Ek.pair Ek.c128 Ek.bool) 35 v5 q3.1 q3.2 :: Res.sl Ek.bool 4 v14 ((([] : List Bool) ++ bits3) ++ [true]) :: ow) | (Sum.inr q) => e = .ret ∧ Fr 202 a [(10, .bool q)] ∧ Hp S w0 w (ow)) ?_ hl ⟨_, hf.sub ⟨rfl, rfl, rfl, rfl, rfl, rfl, rfl, rfl, rfl, rfl, rfl, trivial⟩, hp⟩ ?_
  · clear hl hf hp
    intro s x a w h hI
    obtain ⟨p21, i25⟩ := s
    obtain ⟨v84, hf, hp⟩ : ∃ (v84 : Value), Fr 202 a [(3, vbits3), (4, vl4), (5, optr v1 0), (11, v5), (12, .int .i64 (l4.length : Int)), (13, .int .i64 (bits3.length : Int)), (14, v14), (19, v17), (21, v84), (23, v63), (25, .int .i64 i25)] ∧ Hp S w0 w (Res.sl Ek.c128 33 v84 p21 :: Res.obj 24 v1 [.int .i64 cx0_Length, .int .u32 cx0_One, .int .u32 cx0_Two] :: Res.slx (Ek.pair Ek.c128 Ek.bool) 35 v5 q3.1 q3.2 :: Res.sl Ek.bool 4 v14 ((([] : List Bool) ++ bits3) ++ [true]) :: Res.sl Ek.c128 33 v17 q15.1 :: Res.sl Ek.c128 33 v63 q61.1 :: ow) := hI
    replace h : f_foghornlaw23_SoftCosts.s1c q15 q61 p21 i25 = some x := h
    unfold f_foghornlaw23_SoftCosts.s1c at h
    refine wp_seq ?_
    refine wp_seq ?_
    refine wp_reg ?_
    refine st_move hf rfl rfl (by decide) ?_
    clear hf; intro a ha hf; clear ha
    refine st_move hf rfl rfl (by decide) ?_
    clear hf; intro a ha hf; clear ha
    refine st_len (E := Ek.c128) hf (by decide) Try.underlying36 rfl rfl (hp.sl (i := 0) rfl) ?_
    clear hf; intro a ha hf; clear ha
    refine st_ilss hf (by decide) rfl rfl rfl ?_
    clear hf; intro a ha hf; clear ha
    refine st_nil hf ?_
    refine th_n ?_
    refine wp_if hf rfl (fun hb => ?_) (fun hb => ?_)
    · replace h := ifT h hb
      refine wp_skip ?_
      refine th_n ?_
      refine wp_seq ?_
      refine wp_block ?_
      refine wp_seq ?_
      refine wp_seq ?_
      obtain ⟨S86, hp87, rd88, up89, bk90⟩ := Hp.lendS hp (i := 0) rfl
      obtain ⟨S91, hp92, rd93, up94, bk95⟩ := Hp.lendS hp87 (i := 3) rfl
      have rl96 := ((((hbits3.now hp).mono up89).now hp87).mono up94)
      have rl97 := ((((hl4.now hp).mono up89).now hp87).mono up94)
      have rl98 := rd93
      have rl99 := ((rd88.now hp87).mono up94)
      obtain ⟨hc100, h⟩ := chk h
      obtain ⟨bb102, bb103, y104, y105, hl101⟩ := RdS.pinC (p := i25) rl99 hc100.1 hc100.2
      obtain ⟨hc106, h⟩ := chk h
      obtain ⟨bb108, bb109, y110, y111, hl107⟩ := RdS.pinC (p := i25) rl98 hc106.1 hc106.2
      refine wp_cutN (fun a w => Fr 202 a [(3, vbits3), (4, vl4), (5, optr v1 0), (11, v5), (12, .int .i64 (l4.length : Int)), (13, .int .i64 (bits3.length : Int)), (14, v14), (19, v17), (21, v84), (23, v63), (25, .int .i64 i25), (134, .bool (!ceq (gt p21 i25) (gt q15.1 i25)))] ∧ Hp S w0 w (Res.sl Ek.c128 33 v84 p21 :: Res.sl Ek.c128 33 v17 q15.1 :: Res.obj 24 v1 [.int .i64 cx0_Length, .int .u32 cx0_One, .int .u32 cx0_Two] :: Res.slx (Ek.pair Ek.c128 Ek.bool) 35 v5 q3.1 q3.2 :: Res.sl Ek.bool 4 v14 ((([] : List Bool) ++ bits3) ++ [true]) :: Res.sl Ek.c128 33 v63 q61.1 :: ow)) ?_ ?_
      · have hp := hp92.same (Same.drew w)
        refine dr_begin' (fun a w => Fr 202 a [(3, vbits3), (4, vl4), (5, optr v1 0), (11, v5), (12, .int .i64 (l4.length : Int)), (13, .int .i64 (bits3.length : Int)), (14, v14), (19, v17), (21, v84), (23, v63), (25, .int .i64 i25), (134, .bool (!ceq (gt p21 i25) (gt q15.1 i25)))] ∧ Hp S w0 w (Res.sl Ek.c128 33 v84 p21 :: Res.sl Ek.c128 33 v17 q15.1 :: Res.obj 24 v1 [.int .i64 cx0_Length, .int .u32 cx0_One, .int .u32 cx0_Two] :: Res.slx (Ek.pair Ek.c128 Ek.bool) 35 v5 q3.1 q3.2 :: Res.sl Ek.bool 4 v14 ((([] : List Bool) ++ bits3) ++ [true]) :: Res.sl Ek.c128 33 v63 q61.1 :: ow)) (fun w' => ∃ l, Hp S91 w w' l) [] (by kernel_rfl) ?_
        refine dr_take 0 (v84) rfl (by kernel_rfl) (by kernel_rfl) (by kernel_rfl) (by kernel_rfl) rfl rfl hf (by decide) rfl (fun w hp => ?_) ⟨_, hp⟩ ?_
        · obtain ⟨_, hp⟩ := hp
          refine st_move hf rfl rfl (by decide) ?_
          clear hf; intro a ha hf
          exact st_nil hf (th_n ⟨ha, rfl⟩)
        clear hf; intro a hf
        refine dr_take 1 (.int .i64 i25) rfl (by kernel_rfl) (by kernel_rfl) (by kernel_rfl) (by kernel_rfl) rfl rfl hf (by decide) rfl (fun w hp => ?_) ⟨_, hp⟩ ?_
        · obtain ⟨_, hp⟩ := hp
          refine st_move hf rfl rfl (by decide) ?_
          clear hf; intro a ha hf
          exact st_nil hf (th_n ⟨ha, rfl⟩)
        clear hf; intro a hf
        refine dr_take 2 (eptr v84 i25 1) rfl (by kernel_rfl) (by kernel_rfl) (by kernel_rfl) (by kernel_rfl) rfl rfl hf (by decide) rfl (fun w hp => ?_) ⟨_, hp⟩ ?_
        · obtain ⟨_, hp⟩ := hp
          refine st_index (E := Ek.c128) hf (by decide) Try.underlying36 elt33 rfl rfl rfl (rl99.sl hp) hc100.1 hc100.2 ?_
          clear hf; intro a ha hf
          exact st_nil hf (th_n ⟨ha, rfl⟩)
        clear hf; intro a hf
        refine dr_take 3 (.complex .f64 bb102 bb103) rfl (by kernel_rfl) (by kernel_rfl) (by kernel_rfl) (by kernel_rfl) rfl rfl hf (by decide) rfl (fun w hp => ?_) ⟨_, hp⟩ ?_
        · obtain ⟨_, hp⟩ := hp
          refine st_ldP hf (by decide) pl33 rfl rfl (hl101 _ _ hp) ?_
          clear hf; intro a ha hf
          exact st_nil hf (th_n ⟨ha, rfl⟩)
        clear hf; intro a hf
        refine dr_take 4 (v17) rfl (by kernel_rfl) (by kernel_rfl) (by kernel_rfl) (by kernel_rfl) rfl rfl hf (by decide) rfl (fun w hp => ?_) ⟨_, hp⟩ ?_
        · obtain ⟨_, hp⟩ := hp
          refine st_move hf rfl rfl (by decide) ?_
          clear hf; intro a ha hf
          exact st_nil hf (th_n ⟨ha, rfl⟩)
        clear hf; intro a hf
        refine dr_take 5 (.int .i64 i25) rfl (by kernel_rfl) (by kernel_rfl) (by kernel_rfl) (by kernel_rfl) rfl rfl hf (by decide) rfl (fun w hp => ?_) ⟨_, hp⟩ ?_
        · obtain ⟨_, hp⟩ := hp
          refine st_move hf rfl rfl (by decide) ?_
          clear hf; intro a ha hf
          exact st_nil hf (th_n ⟨ha, rfl⟩)
        clear hf; intro a hf
        refine dr_take 6 (eptr v17 i25 1) rfl (by kernel_rfl) (by kernel_rfl) (by kernel_rfl) (by kernel_rfl) rfl rfl hf (by decide) rfl (fun w hp => ?_) ⟨_, hp⟩ ?_
        · obtain ⟨_, hp⟩ := hp
          refine st_index (E := Ek.c128) hf (by decide) Try.underlying36 elt33 rfl rfl rfl (rl98.sl hp) hc106.1 hc106.2 ?_
          clear hf; intro a ha hf
          exact st_nil hf (th_n ⟨ha, rfl⟩)
        clear hf; intro a hf
        refine dr_take 7 (.complex .f64 bb108 bb109) rfl (by kernel_rfl) (by kernel_rfl) (by kernel_rfl) (by kernel_rfl) rfl rfl hf (by decide) rfl (fun w hp => ?_) ⟨_, hp⟩ ?_
        · obtain ⟨_, hp⟩ := hp
          refine st_ldP hf (by decide) pl33 rfl rfl (hl107 _ _ hp) ?_
          clear hf; intro a ha hf
          exact st_nil hf (th_n ⟨ha, rfl⟩)
        clear hf; intro a hf
        refine dr_take 8 (.bool (!ceq (gt p21 i25) (gt q15.1 i25))) rfl (by kernel_rfl) (by kernel_rfl) (by kernel_rfl) (by kernel_rfl) rfl rfl hf (by decide) rfl (fun w hp => ?_) ⟨_, hp⟩ ?_
        · obtain ⟨_, hp⟩ := hp
          refine st_ccmp (r_cne (x := (gt p21 i25)) (y := (gt q15.1 i25)) y104 y105 y110 y111) hf (by decide) rfl rfl rfl ?_
          clear hf; intro a ha hf
          exact st_nil hf (th_n ⟨ha, rfl⟩)
        clear hf; intro a hf
        refine dr_end (by kernel_rfl) ?_ _
        have hp := bk95 _ _ hp
        have hp := bk90 _ _ hp
        exact ⟨hf.sub ⟨rfl, rfl, rfl, rfl, rfl, rfl, rfl, rfl, rfl, rfl, rfl, rfl, trivial⟩, hp⟩
      rintro a w ⟨hf, hp⟩
      refine th_n ?_
      refine wp_if hf rfl (fun hb => ?_) (fun hb => ?_)
      · replace h := ifT h hb
        refine wp_seq ?_
        refine wp_reg ?_
        refine st_assign hf rfl rfl (by decide) ?_
        clear hf; intro a ha hf; clear ha
        refine st_nil hf ?_
        refine th_n ?_
        refine wp_ret ?_
        refine th_r ?_
        refine ib_r ?_
        refine th_r ?_
        obtain rfl := Option.some.inj h
        have hp : Hp _ _ _ (ow) := Hp.sel (pre := [Res.sl Ek.c128 33 v84 p21, Res.sl Ek.c128 33 v17 q15.1, Res.obj 24 v1 [.int .i64 cx0_Length, .int .u32 cx0_One, .int .u32 cx0_Two], Res.slx (Ek.pair Ek.c128 Ek.bool) 35 v5 q3.1 q3.2, Res.sl Ek.bool 4 v14 ((([] : List Bool) ++ bits3) ++ [true]), Res.sl Ek.c128 33 v63 q61.1]) (tail := ow) (rs' := []) hp [] (by decide) (by simp) rfl
        exact rnd_r (by simp) ⟨rfl, ⟨hf.sub ⟨rfl, trivial⟩, hp⟩⟩
      replace h := ifF h hb
      refine wp_skip ?_
      refine th_n ?_
      refine wp_seq ?_
      refine wp_reg ?_
      refine st_move hf rfl rfl (by decide) ?_
      clear hf; intro a ha hf; clear ha
      refine st_move hf rfl rfl (by decide) ?_
      clear hf; intro a ha hf; clear ha
      obtain ⟨hc112, h⟩ := chk h
      refine st_index (E := Ek.c128) hf (by decide) Try.underlying36 elt33 rfl rfl rfl (hp.sl (i := 0) rfl) hc112.1 hc112.2 ?_
      clear hf; intro a ha hf; clear ha
      refine st_store (E := Ek.c128) hf elt33 hp (i := 0) rfl rfl rfl rfl (show Ek.c128.rep [.complex .f64 4632937379169042432 0] (Fl.bits 4632937379169042432, Fl.bits 0) from ⟨_, _, rfl, rfl, rfl⟩) hc112.1 hc112.2 ?_
      clear hf; intro a w hf hp0; clear hp; have hp := hp0; clear hp0
      replace hp : Hp _ _ _ (Res.sl Ek.c128 33 v84 (p21.set (i25).toNat (Fl.bits 4632937379169042432, Fl.bits 0)) :: Res.sl Ek.c128 33 v17 q15.1 :: Res.obj 24 v1 [.int .i64 cx0_Length, .int .u32 cx0_One, .int .u32 cx0_Two] :: Res.slx (Ek.pair Ek.c128 Ek.bool) 35 v5 q3.1 q3.2 :: Res.sl Ek.bool 4 v14 ((([] : List Bool) ++ bits3) ++ [true]) :: Res.sl Ek.c128 33 v63 q61.1 :: ow) := hp
      refine st_nil hf ?_
      refine th_n ?_
      refine wp_seq ?_
      obtain ⟨S113, hp114, rd115, up116, bk117⟩ := Hp.lendS hp (i := 5) rfl
      obtain ⟨S118, hp119, rd120, up121, bk122⟩ := Hp.lendS hp114 (i := 1) rfl
      have rl123 := ((((hbits3.now hp).mono up116).now hp114).mono up121)
      have rl124 := ((((hl4.now hp).mono up116).now hp114).mono up121)
      have rl125 := rd120
      have rl126 := ((rd115.now hp114).mono up121)
      obtain ⟨hc127, h⟩ := chk h
      obtain ⟨bb129, bb130, y131, y132, hl128⟩ := RdS.pinC (p := i25) rl126 hc127.1 hc127.2
      obtain ⟨hc133, h⟩ := chk h
      obtain ⟨bb135, bb136, y137, y138, hl134⟩ := RdS.pinC (p := i25) rl125 hc133.1 hc133.2
      refine wp_cutN (fun a w => Fr 202 a [(3, vbits3), (4, vl4), (5, optr v1 0), (11, v5), (12, .int .i64 (l4.length : Int)), (13, .int .i64 (bits3.length : Int)), (14, v14), (19, v17), (21, v84), (23, v63), (25, .int .i64 i25), (146, .bool (!ceq (gt q61.1 i25) (gt q15.1 i25)))] ∧ Hp S w0 w (Res.sl Ek.c128 33 v63 q61.1 :: Res.sl Ek.c128 33 v17 q15.1 :: Res.sl Ek.c128 33 v84 (p21.set (i25).toNat (Fl.bits 4632937379169042432, Fl.bits 0)) :: Res.obj 24 v1 [.int .i64 cx0_Length, .int .u32 cx0_One, .int .u32 cx0_Two] :: Res.slx (Ek.pair Ek.c128 Ek.bool) 35 v5 q3.1 q3.2 :: Res.sl Ek.bool 4 v14 ((([] : List Bool) ++ bits3) ++ [true]) :: ow)) ?_ ?_
      · have hp := hp119.same (Same.drew w)
        refine dr_begin' (fun a w => Fr 202 a [(3, vbits3), (4, vl4), (5, optr v1 0), (11, v5), (12, .int .i64 (l4.length : Int)), (13, .int .i64 (bits3.length : Int)), (14, v14), (19, v17), (21, v84), (23, v63), (25, .int .i64 i25), (146, .bool (!ceq (gt q61.1 i25) (gt q15.1 i25)))] ∧ Hp S w0 w (Res.sl Ek.c128 33 v63 q61.1 :: Res.sl Ek.c128 33 v17 q15.1 :: Res.sl Ek.c128 33 v84 (p21.set (i25).toNat (Fl.bits 4632937379169042432, Fl.bits 0)) :: Res.obj 24 v1 [.int .i64 cx0_Length, .int .u32 cx0_One, .int .u32 cx0_Two] :: Res.slx (Ek.pair Ek.c128 Ek.bool) 35 v5 q3.1 q3.2 :: Res.sl Ek.bool 4 v14 ((([] : List Bool) ++ bits3) ++ [true]) :: ow)) (fun w' => ∃ l, Hp S118 w w' l) [] (by kernel_rfl) ?_
        refine dr_take 0 (v63) rfl (by kernel_rfl) (by kernel_rfl) (by kernel_rfl) (by kernel_rfl) rfl rfl hf (by decide) rfl (fun w hp => ?_) ⟨_, hp⟩ ?_
        · obtain ⟨_, hp⟩ := hp
          refine st_move hf rfl rfl (by decide) ?_
          clear hf; intro a ha hf
          exact st_nil hf (th_n ⟨ha, rfl⟩)
        clear hf; intro a hf
        refine dr_take 1 (.int .i64 i25) rfl (by kernel_rfl) (by kernel_rfl) (by kernel_rfl) (by kernel_rfl) rfl rfl hf (by decide) rfl (fun w hp => ?_) ⟨_, hp⟩ ?_
        · obtain ⟨_, hp⟩ := hp
          refine st_move hf rfl rfl (by decide) ?_
          clear hf; intro a ha hf
          exact st_nil hf (th_n ⟨ha, rfl⟩)
        clear hf; intro a hf
        refine dr_take 2 (eptr v63 i25 1) rfl (by kernel_rfl) (by kernel_rfl) (by kernel_rfl) (by kernel_rfl) rfl rfl hf (by decide) rfl (fun w hp => ?_) ⟨_, hp⟩ ?_
        · obtain ⟨_, hp⟩ := hp
          refine st_index (E := Ek.c128) hf (by decide) Try.underlying36 elt33 rfl rfl rfl (rl126.sl hp) hc127.1 hc127.2 ?_
          clear hf; intro a ha hf
          exact st_nil hf (th_n ⟨ha, rfl⟩)
        clear hf; intro a hf
        refine dr_take 3 (.complex .f64 bb129 bb130) rfl (by kernel_rfl) (by kernel_rfl) (by kernel_rfl) (by kernel_rfl) rfl rfl hf (by decide) rfl (fun w hp => ?_) ⟨_, hp⟩ ?_
        · obtain ⟨_, hp⟩ := hp
          refine st_ldP hf (by decide) pl33 rfl rfl (hl128 _ _ hp) ?_
          clear hf; intro a ha hf
          exact st_nil hf (th_n ⟨ha, rfl⟩)
        clear hf; intro a hf
        refine dr_take 4 (v17) rfl (by kernel_rfl) (by kernel_rfl) (by kernel_rfl) (by kernel_rfl) rfl rfl hf (by decide) rfl (fun w hp => ?_) ⟨_, hp⟩ ?_
        · obtain ⟨_, hp⟩ := hp
          refine st_move hf rfl rfl (by decide) ?_
          clear hf; intro a ha hf
          exact st_nil hf (th_n ⟨ha, rfl⟩)
        clear hf; intro a hf
        refine dr_take 5 (.int .i64 i25) rfl (by kernel_rfl) (by kernel_rfl) (by kernel_rfl) (by kernel_rfl) rfl rfl hf (by decide) rfl (fun w hp => ?_) ⟨_, hp⟩ ?_
        · obtain ⟨_, hp⟩ := hp
          refine st_move hf rfl rfl (by decide) ?_
          clear hf; intro a ha hf
          exact st_nil hf (th_n ⟨ha, rfl⟩)
        clear hf; intro a hf
        refine dr_take 6 (eptr v17 i25 1) rfl (by kernel_rfl) (by kernel_rfl) (by kernel_rfl) (by kernel_rfl) rfl rfl hf (by decide) rfl (fun w hp => ?_) ⟨_, hp⟩ ?_
        · obtain ⟨_, hp⟩ := hp
          refine st_index (E := Ek.c128) hf (by decide) Try.underlying36 elt33 rfl rfl rfl (rl125.sl hp) hc133.1 hc133.2 ?_
          clear hf; intro a ha hf
          exact st_nil hf (th_n ⟨ha, rfl⟩)
        clear hf; intro a hf
        refine dr_take 7 (.complex .f64 bb135 bb136) rfl (by kernel_rfl) (by kernel_rfl) (by kernel_rfl) (by kernel_rfl) rfl rfl hf (by decide) rfl (fun w hp => ?_) ⟨_, hp⟩ ?_
        · obtain ⟨_, hp⟩ := hp
          refine st_ldP hf (by decide) pl33 rfl rfl (hl134 _ _ hp) ?_
          clear hf; intro a ha hf
          exact st_nil hf (th_n ⟨ha, rfl⟩)
        clear hf; intro a hf
        refine dr_take 8 (.bool (!ceq (gt q61.1 i25) (gt q15.1 i25))) rfl (by kernel_rfl) (by kernel_rfl) (by kernel_rfl) (by kernel_rfl) rfl rfl hf (by decide) rfl (fun w hp => ?_) ⟨_, hp⟩ ?_
        · obtain ⟨_, hp⟩ := hp
          refine st_ccmp (r_cne (x := (gt q61.1 i25)) (y := (gt q15.1 i25)) y131 y132 y137 y138) hf (by decide) rfl rfl rfl ?_
          clear hf; intro a ha hf
          exact st_nil hf (th_n ⟨ha, rfl⟩)
        clear hf; intro a hf
        refine dr_end (by kernel_rfl) ?_ _
        have hp := bk122 _ _ hp
        have hp := bk117 _ _ hp
        exact ⟨hf.sub ⟨rfl, rfl, rfl, rfl, rfl, rfl, rfl, rfl, rfl, rfl, rfl, rfl, trivial⟩, hp⟩
      rintro a w ⟨hf, hp⟩
      refine th_n ?_
      refine wp_if hf rfl (fun hb => ?_) (fun hb => ?_)
      · replace h := ifT h hb
        refine wp_seq ?_
        refine wp_reg ?_
        refine st_assign hf rfl rfl (by decide) ?_
        clear hf; intro a ha hf; clear ha
        refine st_nil hf ?_
        refine th_n ?_
        refine wp_ret ?_
        refine ib_r ?_
        refine th_r ?_
        obtain rfl := Option.some.inj h
        have hp : Hp _ _ _ (ow) := Hp.sel (pre := [Res.sl Ek.c128 33 v63 q61.1, Res.sl Ek.c128 33 v17 q15.1, Res.sl Ek.c128 33 v84 (p21.set (i25).toNat (Fl.bits 4632937379169042432, Fl.bits 0)), Res.obj 24 v1 [.int .i64 cx0_Length, .int .u32 cx0_One, .int .u32 cx0_Two], Res.slx (Ek.pair Ek.c128 Ek.bool) 35 v5 q3.1 q3.2, Res.sl Ek.bool 4 v14 ((([] : List Bool) ++ bits3) ++ [true])]) (tail := ow) (rs' := []) hp [] (by decide) (by simp) rfl
        exact rnd_r (by simp) ⟨rfl, ⟨hf.sub ⟨rfl, trivial⟩, hp⟩⟩
      replace h := ifF h hb
      refine wp_skip ?_
      refine ib_n ?_
      refine th_n ?_
      refine wp_reg ?_
      refine st_move hf rfl rfl (by decide) ?_
      clear hf; intro a ha hf; clear ha
      refine st_iadd hf (by decide) rfl rfl rfl ?_
      clear hf; intro a ha hf; clear ha
      refine st_assign hf rfl rfl (by decide) ?_
      clear hf; intro a ha hf; clear ha
      refine st_nil hf ?_
      obtain rfl := Option.some.inj h
      have hp : Hp _ _ _ (Res.sl Ek.c128 33 v84 (p21.set (i25).toNat (Fl.bits 4632937379169042432, Fl.bits 0)) :: Res.obj 24 v1 [.int .i64 cx0_Length, .int .u32 cx0_One, .int .u32 cx0_Two] :: Res.slx (Ek.pair Ek.c128 Ek.bool) 35 v5 q3.1 q3.2 :: Res.sl Ek.bool 4 v14 ((([] : List Bool) ++ bits3) ++ [true]) :: Res.sl Ek.c128 33 v17 q15.1 :: Res.sl Ek.c128 33 v63 q61.1 :: ow) := Hp.sel (pre := [Res.sl Ek.c128 33 v63 q61.1, Res.sl Ek.c128 33 v17 q15.1, Res.sl Ek.c128 33 v84 (p21.set (i25).toNat (Fl.bits 4632937379169042432, Fl.bits 0)), Res.obj 24 v1 [.int .i64 cx0_Length, .int .u32 cx0_One, .int .u32 cx0_Two], Res.slx (Ek.pair Ek.c128 Ek.bool) 35 v5 q3.1 q3.2, Res.sl Ek.bool 4 v14 ((([] : List Bool) ++ bits3) ++ [true])]) (tail := ow) (rs' := [Res.sl Ek.c128 33 v84 (p21.set (i25).toNat (Fl.bits 4632937379169042432, Fl.bits 0)), Res.obj 24 v1 [.int .i64 cx0_Length, .int .u32 cx0_One, .int .u32 cx0_Two], Res.slx (Ek.pair Ek.c128 Ek.bool) 35 v5 q3.1 q3.2, Res.sl Ek.bool 4 v14 ((([] : List Bool) ++ bits3) ++ [true]), Res.sl Ek.c128 33 v17 q15.1, Res.sl Ek.c128 33 v63 q61.1]) hp [2, 3, 4, 5, 1, 0] (by decide) (by simp) rfl
      exact rnd_l ⟨_, hf.sub ⟨rfl, rfl, rfl, rfl, rfl, rfl, rfl, rfl, rfl, rfl, rfl, trivial⟩, hp⟩
    replace h := ifF h hb
    refine wp_exit ?_
    refine th_e ?_
    obtain rfl := Option.some.inj h
    have hp : Hp _ _ _ (Res.obj 24 v1 [.int .i64 cx0_Length, .int .u32 cx0_One, .int .u32 cx0_Two] :: Res.slx (Ek.pair Ek.c128 Ek.bool) 35 v5 q3.1 q3.2 :: Res.sl Ek.bool 4 v14 ((([] : List Bool) ++ bits3) ++ [true]) :: ow) := Hp.sel (pre := [Res.sl Ek.c128 33 v84 p21, Res.obj 24 v1 [.int .i64 cx0_Length, .int .u32 cx0_One, .int .u32 cx0_Two], Res.slx (Ek.pair Ek.c128 Ek.bool) 35 v5 q3.1 q3.2, Res.sl Ek.bool 4 v14 ((([] : List Bool) ++ bits3) ++ [true]), Res.sl Ek.c128 33 v17 q15.1, Res.sl Ek.c128 33 v63 q61.1]) (tail := ow) (rs' := [Res.obj 24 v1 [.int .i64 cx0_Length, .int .u32 cx0_One, .int .u32 cx0_Two], Res.slx (Ek.pair Ek.c128 Ek.bool) 35 v5 q3.1 q3.2, Res.sl Ek.bool 4 v14 ((([] : List Bool) ++ bits3) ++ [true])]) hp [1, 2, 3] (by decide) (by simp) rfl
    exact rnd_r (by simp) ⟨rfl, hf.sub ⟨rfl, rfl, rfl, rfl, rfl, rfl, rfl, trivial⟩, hp⟩
  clear hl hf hp
  intro e a w hne hO
  rcases q139 with q140 | q141
  · replace h := smL h
    obtain ⟨rfl, hf, hp⟩ := hO
    refine ib_same ?_
    refine th_n ?_
    refine wp_seq ?_
    refine wp_reg ?_
    refine st_ldOA (m := 3) (us := [.int .i64 cx0_Length, .int .u32 cx0_One, .int .u32 cx0_Two]) hf (by decide) (by kernel_rfl) rfl rfl (hp.ob (i := 0) rfl) rfl rfl ?_
    clear hf; intro a ha hf; clear ha
    refine st_move hf rfl rfl (by decide) ?_
    clear hf; intro a ha hf; clear ha
    refine st_move hf rfl rfl (by decide) ?_
    clear hf; intro a ha hf; clear ha
    obtain ⟨q142, hcall143, h⟩ := bnd h
    obtain ⟨S144, hp145, rd146, up147, bk148⟩ := Hp.lendS hp (i := 1) rfl
    refine st_call hf (by decide) Try.func17 rfl rfl rfl rfl rfl (f_foghornref23_Path_c hp145 _ _ _ _ _ ((hbits3.now hp).mono up147) _ _ rd146 hcall143) ?_
    rintro _ w ⟨v149, rfl, y150, hp0⟩
    have hp0 := bk148 _ _ hp0
    clear hp; have hp := hp0; clear hp0
    replace hp : Hp _ _ _ (Res.slx (Ek.pair Ek.c128 Ek.bool) 35 v5 q3.1 q3.2 :: Res.obj 24 v1 [.int .i64 cx0_Length, .int .u32 cx0_One, .int .u32 cx0_Two] :: Res.sl Ek.bool 4 v14 ((([] : List Bool) ++ bits3) ++ [true]) :: ow) := hp
    refine ⟨_, rfl, ?_⟩
    clear hf; intro a hf
    refine st_move hf rfl rfl (by decide) ?_
    clear hf; intro a ha hf; clear ha
    refine st_extract hf (by decide) rfl rfl rfl ?_
    clear hf; intro a ha hf; clear ha
    refine st_extract hf (by decide) rfl rfl rfl ?_
    clear hf; intro a ha hf; clear ha
    refine st_assign hf rfl rfl (by decide) ?_
    clear hf; intro a ha hf; clear ha
    refine st_assign hf rfl rfl (by decide) ?_
    clear hf; intro a ha hf; clear ha
    refine st_nil hf ?_
    refine th_n ?_
    refine wp_seq ?_
    obtain ⟨S151, hp152, rd153, up154, bk155⟩ := Hp.lendO hp (i := 1) rfl
    obtain ⟨S156, hp157, rd158, up159, bk160⟩ := Hp.lendS hp152 (i := 1) rfl
    have rl161 := ((((hbits3.now hp).mono up154).now hp152).mono up159)
    have rl162 := ((((hl4.now hp).mono up154).now hp152).mono up159)
    have rl163 := ((rd153.now hp152).mono up159)
    have rl164 := rd158
    obtain ⟨q165, hcall166, h⟩ := bnd h
    obtain ⟨hc167, h⟩ := chk h
    have hc168 : 0 ≤ ((bits3.length : Int)).toNat := by omega
    have hc169 : ((bits3.length : Int)).toNat ≤ ((([] : List Bool) ++ bits3) ++ [true]).length := by omega
    obtain ⟨q170, hcall171, h⟩ := bnd h
    refine wp_cutN (fun a w => ∃ (v177 : Nat), Fl.rep v177 q170.1 ∧ Fr 202 a [(3, vbits3), (4, vl4), (11, v5), (12, .int .i64 (l4.length : Int)), (13, .int .i64 (bits3.length : Int)), (14, v14), (26, .float .f64 v149), (27, .int .i64 q142.2), (28, .float .f64 v177), (29, .int .i64 q170.2)] ∧ Hp S w0 w (Res.obj 24 v1 [.int .i64 cx0_Length, .int .u32 cx0_One, .int .u32 cx0_Two] :: Res.sl Ek.bool 4 v14 ((([] : List Bool) ++ bits3) ++ [true]) :: Res.slx (Ek.pair Ek.c128 Ek.bool) 35 v5 q3.1 q3.2 :: ow)) ?_ ?_
    · have hp := hp157.same (Same.drew w)
      refine dr_begin' (fun a w => ∃ (v177 : Nat), Fl.rep v177 q170.1 ∧ Fr 202 a [(3, vbits3), (4, vl4), (11, v5), (12, .int .i64 (l4.length : Int)), (13, .int .i64 (bits3.length : Int)), (14, v14), (26, .float .f64 v149), (27, .int .i64 q142.2), (28, .float .f64 v177), (29, .int .i64 q170.2)] ∧ Hp S w0 w (Res.obj 24 v1 [.int .i64 cx0_Length, .int .u32 cx0_One, .int .u32 cx0_Two] :: Res.sl Ek.bool 4 v14 ((([] : List Bool) ++ bits3) ++ [true]) :: Res.slx (Ek.pair Ek.c128 Ek.bool) 35 v5 q3.1 q3.2 :: ow)) (fun w' => ∃ l, Hp S156 w w' l) [] (by kernel_rfl) ?_
      refine dr_take 0 (.agg #[.int .i64 cx0_Length, .int .u32 cx0_One, .int .u32 cx0_Two]) rfl (by kernel_rfl) (by kernel_rfl) (by kernel_rfl) (by kernel_rfl) rfl rfl hf (by decide) rfl (fun w hp => ?_) ⟨_, hp⟩ ?_
      · obtain ⟨_, hp⟩ := hp
        refine st_ldOA (m := 3) (us := [.int .i64 cx0_Length, .int .u32 cx0_One, .int .u32 cx0_Two]) hf (by decide) (by kernel_rfl) rfl rfl (rl163.ob hp) rfl rfl ?_
        clear hf; intro a ha hf
        exact st_nil hf (th_n ⟨ha, rfl⟩)
      clear hf; intro a hf
      refine dr_take 2 (v14) rfl (by kernel_rfl) (by kernel_rfl) (by kernel_rfl) (by kernel_rfl) rfl rfl hf (by decide) rfl (fun w hp => ?_) ⟨_, hp⟩ ?_
      · obtain ⟨_, hp⟩ := hp
        refine st_move hf rfl rfl (by decide) ?_
        clear hf; intro a ha hf
        exact st_nil hf (th_n ⟨ha, rfl⟩)
      clear hf; intro a hf
      refine dr_take 3 (.int .i64 (bits3.length : Int)) rfl (by kernel_rfl) (by kernel_rfl) (by kernel_rfl) (by kernel_rfl) rfl rfl hf (by decide) rfl (fun w hp => ?_) ⟨_, hp⟩ ?_
      · obtain ⟨_, hp⟩ := hp
        refine st_move hf rfl rfl (by decide) ?_
        clear hf; intro a ha hf
        exact st_nil hf (th_n ⟨ha, rfl⟩)
      clear hf; intro a hf
      refine dr_take 4 ((GL.cut v14 0 (((bits3.length : Int)).toNat) 1)) rfl (by kernel_rfl) (by kernel_rfl) (by kernel_rfl) (by kernel_rfl) rfl rfl hf (by decide) rfl (fun w hp => ?_) ⟨_, hp⟩ ?_
      · obtain ⟨_, hp⟩ := hp
        refine st_cutS (E := Ek.bool) hf (by decide) Try.underlying25 elt4 rfl rfl (rl164.sl hp) (.inl ⟨rfl, rfl⟩) (.inr ⟨_, _, rfl, evI rfl (by omega)⟩) hc168 hc169 ?_
        clear hf; intro a ha hf
        exact st_nil hf (th_n ⟨ha, rfl⟩)
      clear hf; intro a hf
      refine dr_take 5 (v5) rfl (by kernel_rfl) (by kernel_rfl) (by kernel_rfl) (by kernel_rfl) rfl rfl hf (by decide) rfl (fun w hp => ?_) ⟨_, hp⟩ ?_
      · obtain ⟨_, hp⟩ := hp
        refine st_move hf rfl rfl (by decide) ?_
        clear hf; intro a ha hf
        exact st_nil hf (th_n ⟨ha, rfl⟩)
      clear hf; intro a hf
      refine dr_one 1 rfl (by kernel_rfl) ?_
      refine st_call hf (by decide) Try.func14 rfl rfl rfl rfl rfl (f_foghornlaw23_code_c hp _ _ _ hcall166) ?_
      rintro _ w ⟨rfl, hp0⟩
      clear hp; have hp := hp0; clear hp0
      replace hp : Hp _ _ _ (Res.slx (Ek.pair Ek.c128 Ek.bool) 35 v5 q3.1 q3.2 :: ow) := hp
      refine ⟨_, rfl, ?_⟩
      clear hf; intro a hf
      refine st_nil hf (th_n ⟨fun _ _ => ⟨_, hp⟩, ?_⟩)
      refine dr_one 6 rfl (by kernel_rfl) ?_
      obtain ⟨S172, hp173, rd174, up175, bk176⟩ := Hp.lendS hp (i := 0) rfl
      refine st_call hf (by decide) Try.func18 rfl rfl rfl rfl rfl (f_soft_Path_c hp173 _ _ _ _ _ (((RdS.cut rl164 hc168 hc169).now hp).mono up175) _ _ rd174 hcall171) ?_
      rintro _ w ⟨v177, rfl, y178, hp0⟩
      have hp0 := bk176 _ _ hp0
      clear hp; have hp := hp0; clear hp0
      replace hp : Hp _ _ _ (Res.slx (Ek.pair Ek.c128 Ek.bool) 35 v5 q3.1 q3.2 :: ow) := hp
      refine ⟨_, rfl, ?_⟩
      clear hf; intro a hf
      refine st_nil hf (th_n ⟨fun _ _ => ⟨_, hp⟩, ?_⟩)
      refine dr_take 7 (.tuple #[.float .f64 v177, .int .i64 q170.2]) rfl (by kernel_rfl) (by kernel_rfl) (by kernel_rfl) (by kernel_rfl) rfl rfl hf (by decide) rfl (fun w hp => ?_) ⟨_, hp⟩ ?_
      · obtain ⟨_, hp⟩ := hp
        refine st_move hf rfl rfl (by decide) ?_
        clear hf; intro a ha hf
        exact st_nil hf (th_n ⟨ha, rfl⟩)
      clear hf; intro a hf
      refine dr_take 8 (.float .f64 v177) rfl (by kernel_rfl) (by kernel_rfl) (by kernel_rfl) (by kernel_rfl) rfl rfl hf (by decide) rfl (fun w hp => ?_) ⟨_, hp⟩ ?_
      · obtain ⟨_, hp⟩ := hp
        refine st_extract hf (by decide) rfl rfl rfl ?_
        clear hf; intro a ha hf
        exact st_nil hf (th_n ⟨ha, rfl⟩)
      clear hf; intro a hf
      refine dr_take 9 (.int .i64 q170.2) rfl (by kernel_rfl) (by kernel_rfl) (by kernel_rfl) (by kernel_rfl) rfl rfl hf (by decide) rfl (fun w hp => ?_) ⟨_, hp⟩ ?_
      · obtain ⟨_, hp⟩ := hp
        refine st_extract hf (by decide) rfl rfl rfl ?_
        clear hf; intro a ha hf
        exact st_nil hf (th_n ⟨ha, rfl⟩)
      clear hf; intro a hf
      refine dr_take 10 (.float .f64 v177) rfl (by kernel_rfl) (by kernel_rfl) (by kernel_rfl) (by kernel_rfl) rfl rfl hf (by decide) rfl (fun w hp => ?_) ⟨_, hp⟩ ?_
      · obtain ⟨_, hp⟩ := hp
        refine st_assign hf rfl rfl (by decide) ?_
        clear hf; intro a ha hf
        exact st_nil hf (th_n ⟨ha, rfl⟩)
      clear hf; intro a hf
      refine dr_take 11 (.int .i64 q170.2) rfl (by kernel_rfl) (by kernel_rfl) (by kernel_rfl) (by kernel_rfl) rfl rfl hf (by decide) rfl (fun w hp => ?_) ⟨_, hp⟩ ?_
      · obtain ⟨_, hp⟩ := hp
        refine st_assign hf rfl rfl (by decide) ?_
        clear hf; intro a ha hf
        exact st_nil hf (th_n ⟨ha, rfl⟩)
      clear hf; intro a hf
      refine dr_end (by kernel_rfl) ?_ _
      have hp := bk160 _ _ hp
      have hp := bk155 _ _ hp
      exact ⟨v177, y178, hf.sub ⟨rfl, rfl, rfl, rfl, rfl, rfl, rfl, rfl, rfl, rfl, trivial⟩, hp⟩
    rintro a w ⟨v177, y178, hf, hp⟩
    refine th_n ?_
    refine wp_seq ?_
    refine wp_reg ?_
    refine st_move hf rfl rfl (by decide) ?_
    clear hf; intro a ha hf; clear ha
    refine st_move hf rfl rfl (by decide) ?_
    clear hf; intro a ha hf; clear ha
    refine st_fcmp (r_feq (fx := q142.1) (fy := q170.1) y150 y178) hf (by decide) rfl rfl rfl ?_
    clear hf; intro a ha hf; clear ha
    refine st_move hf rfl rfl (by decide) ?_
    clear hf; intro a ha hf; clear ha
    refine wpList_cut 4 (fun a w => Fr 202 a [(3, vbits3), (4, vl4), (11, v5), (12, .int .i64 (l4.length : Int)), (13, .int .i64 (bits3.length : Int)), (14, v14), (171, .bool ((feq q142.1 q170.1) && (q142.2 == q170.2)))] ∧ Hp S w0 w (Res.obj 24 v1 [.int .i64 cx0_Length, .int .u32 cx0_One, .int .u32 cx0_Two] :: Res.sl Ek.bool 4 v14 ((([] : List Bool) ++ bits3) ++ [true]) :: Res.slx (Ek.pair Ek.c128 Ek.bool) 35 v5 q3.1 q3.2 :: ow)) ?_ ?_
    · rcases Bool.eq_false_or_eq_true (feq q142.1 q170.1) with hb180 | hb180
      · skip
        refine st_move hf (wantY hf rfl rfl hb180) rfl (by decide) ?_
        clear hf; intro a ha hf; clear ha
        refine st_move hf (wantY hf rfl rfl hb180) rfl (by decide) ?_
        clear hf; intro a ha hf; clear ha
        refine st_ieql hf (by decide) (wantY hf rfl rfl hb180) rfl rfl ?_
        clear hf; intro a ha hf; clear ha
        refine st_pick (v := .bool (q142.2 == q170.2)) hf rfl rfl (fun hb' => ?_) (fun hb' => ?_) (by decide) ?_
        · rfl
        · exact absurd (hb180.symm.trans hb') (by decide)
        clear hf; intro a ha hf; clear ha
        refine st_nil hf (th_n ?_)
        exact ⟨hf.sub ⟨rfl, rfl, rfl, rfl, rfl, rfl, (by rw [hb180]; rfl), trivial⟩, hp⟩
      refine st_skip hf (wantN hf rfl rfl hb180) rfl (by decide) ?_ rfl
      clear hf; intro a hf
      refine st_skip hf (wantN hf rfl rfl hb180) rfl (by decide) ?_ rfl
      clear hf; intro a hf
      refine st_skip hf (wantN hf rfl rfl hb180) rfl (by decide) ?_ rfl
      clear hf; intro a hf
      refine st_pick (v := .bool false) hf rfl rfl (fun hb' => ?_) (fun hb' => ?_) (by decide) ?_
      · exact absurd (hb180.symm.trans hb') (by decide)
      · rfl
      clear hf; intro a ha hf; clear ha
      refine st_nil hf (th_n ?_)
      exact ⟨hf.sub ⟨rfl, rfl, rfl, rfl, rfl, rfl, (by rw [hb180]; rfl), trivial⟩, hp⟩
    rintro a w ⟨hf, hp⟩
    refine st_move hf rfl rfl (by decide) ?_
    clear hf; intro a ha hf; clear ha
    obtain ⟨z183, hz181, h⟩ := bnd h
    refine wpList_cut 6 (fun a w => Fr 202 a [(4, vl4), (11, v5), (12, .int .i64 (l4.length : Int)), (13, .int .i64 (bits3.length : Int)), (14, v14), (178, .bool z183)] ∧ Hp S w0 w (Res.obj 24 v1 [.int .i64 cx0_Length, .int .u32 cx0_One, .int .u32 cx0_Two] :: Res.sl Ek.bool 4 v14 ((([] : List Bool) ++ bits3) ++ [true]) :: Res.slx (Ek.pair Ek.c128 Ek.bool) 35 v5 q3.1 q3.2 :: ow)) ?_ ?_
    · rcases Bool.eq_false_or_eq_true ((feq q142.1 q170.1) && (q142.2 == q170.2)) with hb182 | hb182
      · skip
        replace hz181 := ifT hz181 hb182
        refine st_move hf (wantY hf rfl rfl hb182) rfl (by decide) ?_
        clear hf; intro a ha hf; clear ha
        refine st_move hf (wantY hf rfl rfl hb182) rfl (by decide) ?_
        clear hf; intro a ha hf; clear ha
        obtain ⟨hc184, hz181⟩ := chk hz181
        have hc185 : 0 ≤ ((bits3.length : Int)).toNat := by omega
        have hc186 : ((bits3.length : Int)).toNat ≤ ((([] : List Bool) ++ bits3) ++ [true]).length := by omega
        refine st_cutS (E := Ek.bool) hf (by decide) Try.underlying25 elt4 (wantY hf rfl rfl hb182) rfl (hp.sl (i := 1) rfl) (.inl ⟨rfl, rfl⟩) (.inr ⟨_, _, rfl, evI rfl (by omega)⟩) hc185 hc186 ?_
        clear hf; intro a ha hf; clear ha
        refine st_move hf (wantY hf rfl rfl hb182) rfl (by decide) ?_
        clear hf; intro a ha hf; clear ha
        obtain ⟨q187, hcall188, hz181⟩ := bnd hz181
        obtain ⟨S189, hp190, rd191, up192, bk193⟩ := Hp.lendS hp (i := 1) rfl
        refine st_call hf (by decide) Try.func19 rfl rfl (wantY hf rfl rfl hb182) rfl rfl (f_foghornref21_Same_c hp190 _ _ (RdS.cut rd191 hc185 hc186) _ _ ((hbits3.now hp).mono up192) hcall188) ?_
        rintro _ w ⟨rfl, hp0⟩
        have hp0 := bk193 _ _ hp0
        clear hp; have hp := hp0; clear hp0
        replace hp : Hp _ _ _ (Res.sl Ek.bool 4 v14 ((([] : List Bool) ++ bits3) ++ [true]) :: Res.obj 24 v1 [.int .i64 cx0_Length, .int .u32 cx0_One, .int .u32 cx0_Two] :: Res.slx (Ek.pair Ek.c128 Ek.bool) 35 v5 q3.1 q3.2 :: ow) := hp
        refine ⟨_, rfl, ?_⟩
        clear hf; intro a hf
        obtain rfl := Option.some.inj hz181
        refine st_pick (v := .bool q187) hf rfl rfl (fun hb' => ?_) (fun hb' => ?_) (by decide) ?_
        · rfl
        · exact absurd (hb182.symm.trans hb') (by decide)
        clear hf; intro a ha hf; clear ha
        refine st_nil hf (th_n ?_)
        have hp : Hp _ _ _ (Res.obj 24 v1 [.int .i64 cx0_Length, .int .u32 cx0_One, .int .u32 cx0_Two] :: Res.sl Ek.bool 4 v14 ((([] : List Bool) ++ bits3) ++ [true]) :: Res.slx (Ek.pair Ek.c128 Ek.bool) 35 v5 q3.1 q3.2 :: ow) := Hp.sel (pre := [Res.sl Ek.bool 4 v14 ((([] : List Bool) ++ bits3) ++ [true]), Res.obj 24 v1 [.int .i64 cx0_Length, .int .u32 cx0_One, .int .u32 cx0_Two], Res.slx (Ek.pair Ek.c128 Ek.bool) 35 v5 q3.1 q3.2]) (tail := ow) (rs' := [Res.obj 24 v1 [.int .i64 cx0_Length, .int .u32 cx0_One, .int .u32 cx0_Two], Res.sl Ek.bool 4 v14 ((([] : List Bool) ++ bits3) ++ [true]), Res.slx (Ek.pair Ek.c128 Ek.bool) 35 v5 q3.1 q3.2]) hp [1, 0, 2] (by decide) (by simp) rfl
        exact ⟨hf.sub ⟨rfl, rfl, rfl, rfl, rfl, rfl, trivial⟩, hp⟩
      replace hz181 := ifF hz181 hb182
      refine st_skip hf (wantN hf rfl rfl hb182) rfl (by decide) ?_ rfl
      clear hf; intro a hf
      refine st_skip hf (wantN hf rfl rfl hb182) rfl (by decide) ?_ rfl
      clear hf; intro a hf
      refine st_skip hf (wantN hf rfl rfl hb182) rfl (by decide) ?_ rfl
      clear hf; intro a hf
      refine st_skip hf (wantN hf rfl rfl hb182) rfl (by decide) ?_ rfl
      clear hf; intro a hf
      refine st_skip hf (wantN hf rfl rfl hb182) rfl (by decide) ?_ rfl
      clear hf; intro a hf
      obtain rfl := Option.some.inj hz181
      refine st_pick (v := .bool false) hf rfl rfl (fun hb' => ?_) (fun hb' => ?_) (by decide) ?_
      · exact absurd (hb182.symm.trans hb') (by decide)
      · rfl
      clear hf; intro a ha hf; clear ha
      refine st_nil hf (th_n ?_)
      exact ⟨hf.sub ⟨rfl, rfl, rfl, rfl, rfl, rfl, trivial⟩, hp⟩
    rintro a w ⟨hf, hp⟩
    refine st_move hf rfl rfl (by decide) ?_
    clear hf; intro a ha hf; clear ha
    obtain ⟨z196, hz194, h⟩ := bnd h
    refine wpList_cut 5 (fun a w => Fr 202 a [(4, vl4), (11, v5), (12, .int .i64 (l4.length : Int)), (184, .bool z196)] ∧ Hp S w0 w (Res.obj 24 v1 [.int .i64 cx0_Length, .int .u32 cx0_One, .int .u32 cx0_Two] :: Res.sl Ek.bool 4 v14 ((([] : List Bool) ++ bits3) ++ [true]) :: Res.slx (Ek.pair Ek.c128 Ek.bool) 35 v5 q3.1 q3.2 :: ow)) ?_ ?_
    · rcases Bool.eq_false_or_eq_true z183 with hb195 | hb195
      · skip
        replace hz194 := ifT hz194 hb195
        refine st_move hf (wantY hf rfl rfl hb195) rfl (by decide) ?_
        clear hf; intro a ha hf; clear ha
        refine st_move hf (wantY hf rfl rfl hb195) rfl (by decide) ?_
        clear hf; intro a ha hf; clear ha
        obtain ⟨hc197, hz194⟩ := chk hz194
        refine st_index (E := Ek.bool) hf (by decide) Try.underlying25 elt4 (wantY hf rfl rfl hb195) rfl rfl (hp.sl (i := 1) rfl) hc197.1 hc197.2 ?_
        clear hf; intro a ha hf; clear ha
        refine st_ldB hf (by decide) pl4 (wantY hf rfl rfl hb195) rfl (hp.sl (i := 1) rfl) hc197.1 hc197.2 ?_
        clear hf; intro a ha hf; clear ha
        obtain rfl := Option.some.inj hz194
        refine st_pick (v := .bool (gt ((([] : List Bool) ++ bits3) ++ [true]) (bits3.length : Int))) hf rfl rfl (fun hb' => ?_) (fun hb' => ?_) (by decide) ?_
        · rfl
        · exact absurd (hb195.symm.trans hb') (by decide)
        clear hf; intro a ha hf; clear ha
        refine st_nil hf (th_n ?_)
        exact ⟨hf.sub ⟨rfl, rfl, rfl, rfl, trivial⟩, hp⟩
      replace hz194 := ifF hz194 hb195
      refine st_skip hf (wantN hf rfl rfl hb195) rfl (by decide) ?_ rfl
      clear hf; intro a hf
      refine st_skip hf (wantN hf rfl rfl hb195) rfl (by decide) ?_ rfl
      clear hf; intro a hf
      refine st_skip hf (wantN hf rfl rfl hb195) rfl (by decide) ?_ rfl
      clear hf; intro a hf
      refine st_skip hf (wantN hf rfl rfl hb195) rfl (by decide) ?_ rfl
      clear hf; intro a hf
      obtain rfl := Option.some.inj hz194
      refine st_pick (v := .bool false) hf rfl rfl (fun hb' => ?_) (fun hb' => ?_) (by decide) ?_
      · exact absurd (hb195.symm.trans hb') (by decide)
      · rfl
      clear hf; intro a ha hf; clear ha
      refine st_nil hf (th_n ?_)
      exact ⟨hf.sub ⟨rfl, rfl, rfl, rfl, trivial⟩, hp⟩
    rintro a w ⟨hf, hp⟩
    refine st_move hf rfl rfl (by decide) ?_
    clear hf; intro a ha hf; clear ha
    obtain ⟨z200, hz198, h⟩ := bnd h
    refine wpList_cut 5 (fun a w => Fr 202 a [(11, v5), (12, .int .i64 (l4.length : Int)), (190, .bool z200)] ∧ Hp S w0 w (Res.obj 24 v1 [.int .i64 cx0_Length, .int .u32 cx0_One, .int .u32 cx0_Two] :: Res.sl Ek.bool 4 v14 ((([] : List Bool) ++ bits3) ++ [true]) :: Res.slx (Ek.pair Ek.c128 Ek.bool) 35 v5 q3.1 q3.2 :: ow)) ?_ ?_
    · rcases Bool.eq_false_or_eq_true z196 with hb199 | hb199
      · skip
        replace hz198 := ifT hz198 hb199
        refine st_move hf (wantY hf rfl rfl hb199) rfl (by decide) ?_
        clear hf; intro a ha hf; clear ha
        refine st_move hf (wantY hf rfl rfl hb199) rfl (by decide) ?_
        clear hf; intro a ha hf; clear ha
        obtain ⟨q201, hcall202, hz198⟩ := bnd hz198
        refine st_call hf (by decide) Try.func9 rfl rfl (wantY hf rfl rfl hb199) rfl rfl (f_foghornlaw23_samples_c hp _ _ hl4 hcall202) ?_
        rintro _ w ⟨v203, rfl, hp0⟩
        clear hp; have hp := hp0; clear hp0
        replace hp : Hp _ _ _ (Res.slx (Ek.pair Ek.c128 Ek.bool) 35 v203 q201.1 q201.2 :: Res.obj 24 v1 [.int .i64 cx0_Length, .int .u32 cx0_One, .int .u32 cx0_Two] :: Res.sl Ek.bool 4 v14 ((([] : List Bool) ++ bits3) ++ [true]) :: Res.slx (Ek.pair Ek.c128 Ek.bool) 35 v5 q3.1 q3.2 :: ow) := hp
        refine ⟨_, rfl, ?_⟩
        clear hf; intro a hf
        obtain ⟨q205, hcall206, hz198⟩ := bnd hz198
        obtain ⟨S207, hp208, rd209, up210, bk211⟩ := Hp.lendS hp (i := 3) rfl
        obtain ⟨S212, hp213, rd214, up215, bk216⟩ := Hp.lendS hp208 (i := 0) rfl
        refine st_call hf (by decide) Try.func20 rfl rfl (wantY hf rfl rfl hb199) rfl rfl (f_foghornref02_Same_c hp213 _ _ ((rd209.now hp208).mono up215) _ _ rd214 hcall206) ?_
        rintro _ w ⟨rfl, hp0⟩
        have hp0 := bk216 _ _ hp0
        have hp0 := bk211 _ _ hp0
        clear hp; have hp := hp0; clear hp0
        replace hp : Hp _ _ _ (Res.slx (Ek.pair Ek.c128 Ek.bool) 35 v5 q3.1 q3.2 :: Res.slx (Ek.pair Ek.c128 Ek.bool) 35 v203 q201.1 q201.2 :: Res.obj 24 v1 [.int .i64 cx0_Length, .int .u32 cx0_One, .int .u32 cx0_Two] :: Res.sl Ek.bool 4 v14 ((([] : List Bool) ++ bits3) ++ [true]) :: ow) := hp
        refine ⟨_, rfl, ?_⟩
        clear hf; intro a hf
        obtain rfl := Option.some.inj hz198
        refine st_pick (v := .bool q205) hf rfl rfl (fun hb' => ?_) (fun hb' => ?_) (by decide) ?_
        · rfl
        · exact absurd (hb199.symm.trans hb') (by decide)
        clear hf; intro a ha hf; clear ha
        refine st_nil hf (th_n ?_)
        have hp : Hp _ _ _ (Res.obj 24 v1 [.int .i64 cx0_Length, .int .u32 cx0_One, .int .u32 cx0_Two] :: Res.sl Ek.bool 4 v14 ((([] : List Bool) ++ bits3) ++ [true]) :: Res.slx (Ek.pair Ek.c128 Ek.bool) 35 v5 q3.1 q3.2 :: ow) := Hp.sel (pre := [Res.slx (Ek.pair Ek.c128 Ek.bool) 35 v5 q3.1 q3.2, Res.slx (Ek.pair Ek.c128 Ek.bool) 35 v203 q201.1 q201.2, Res.obj 24 v1 [.int .i64 cx0_Length, .int .u32 cx0_One, .int .u32 cx0_Two], Res.sl Ek.bool 4 v14 ((([] : List Bool) ++ bits3) ++ [true])]) (tail := ow) (rs' := [Res.obj 24 v1 [.int .i64 cx0_Length, .int .u32 cx0_One, .int .u32 cx0_Two], Res.sl Ek.bool 4 v14 ((([] : List Bool) ++ bits3) ++ [true]), Res.slx (Ek.pair Ek.c128 Ek.bool) 35 v5 q3.1 q3.2]) hp [2, 3, 0] (by decide) (by simp) rfl
        exact ⟨hf.sub ⟨rfl, rfl, rfl, trivial⟩, hp⟩
      replace hz198 := ifF hz198 hb199
      refine st_skip hf (wantN hf rfl rfl hb199) rfl (by decide) ?_ rfl
      clear hf; intro a hf
      refine st_skip hf (wantN hf rfl rfl hb199) rfl (by decide) ?_ rfl
      clear hf; intro a hf
      refine st_skip hf (wantN hf rfl rfl hb199) rfl (by decide) ?_ rfl
      clear hf; intro a hf
      refine st_skip hf (wantN hf rfl rfl hb199) rfl (by decide) ?_ rfl
      clear hf; intro a hf
      obtain rfl := Option.some.inj hz198
      refine st_pick (v := .bool false) hf rfl rfl (fun hb' => ?_) (fun hb' => ?_) (by decide) ?_
      · exact absurd (hb199.symm.trans hb') (by decide)
      · rfl
      clear hf; intro a ha hf; clear ha
      refine st_nil hf (th_n ?_)
      exact ⟨hf.sub ⟨rfl, rfl, rfl, trivial⟩, hp⟩
    rintro a w ⟨hf, hp⟩
    refine st_move hf rfl rfl (by decide) ?_
    clear hf; intro a ha hf; clear ha
    obtain ⟨z219, hz217, h⟩ := bnd h
    refine wpList_cut 10 (fun a w => Fr 202 a [(201, .bool z219)] ∧ Hp S w0 w (Res.obj 24 v1 [.int .i64 cx0_Length, .int .u32 cx0_One, .int .u32 cx0_Two] :: Res.sl Ek.bool 4 v14 ((([] : List Bool) ++ bits3) ++ [true]) :: Res.slx (Ek.pair Ek.c128 Ek.bool) 35 v5 q3.1 q3.2 :: ow)) ?_ ?_
    · rcases Bool.eq_false_or_eq_true z200 with hb218 | hb218
      · skip
        replace hz217 := ifT hz217 hb218
        refine st_move hf (wantY hf rfl rfl hb218) rfl (by decide) ?_
        clear hf; intro a ha hf; clear ha
        refine st_move hf (wantY hf rfl rfl hb218) rfl (by decide) ?_
        clear hf; intro a ha hf; clear ha
        refine st_iadd hf (by decide) (wantY hf rfl rfl hb218) rfl rfl ?_
        clear hf; intro a ha hf; clear ha
        obtain ⟨hc220, hz217⟩ := chk hz217
        have hc221 : 0 ≤ ((IntKind.i64.wrap ((l4.length : Int) + (1 : Int)))).toNat := by omega
        have hc222 : ((IntKind.i64.wrap ((l4.length : Int) + (1 : Int)))).toNat ≤ (q3.1 ++ q3.2).length := by omega
        refine st_cutX (E := (Ek.pair Ek.c128 Ek.bool)) hf (by decide) Try.underlying27 elt35 hp (i := 2) rfl (wantY hf rfl rfl hb218) rfl (.inl ⟨rfl, rfl⟩) (.inr ⟨_, _, rfl, evI rfl (by omega)⟩) hc221 hc222 ?_
        clear hf; intro a ha hf; clear ha
        refine st_move hf (wantY hf rfl rfl hb218) rfl (by decide) ?_
        clear hf; intro a ha hf; clear ha
        obtain ⟨hc223, hz217⟩ := chk hz217
        refine st_index (E := (Ek.pair Ek.c128 Ek.bool)) hf (by decide) Try.underlying27 elt35 (wantY hf rfl rfl hb218) rfl rfl (hp.slAll (i := 2) rfl hc222) hc223.1 hc223.2 ?_
        clear hf; intro a ha hf; clear ha
        refine st_faP (off := 0) (sz := 1) hf (by decide) (by kernel_rfl) (by decide) (wantY hf rfl rfl hb218) rfl (Sl.isP (hp.slAll (i := 2) rfl hc222) hc223.1 hc223.2) ?_
        clear hf; intro a ha hf; clear ha
        refine st_ldQC (yv := (gt ((q3.1 ++ q3.2).take (((IntKind.i64.wrap ((l4.length : Int) + (1 : Int)))).toNat)) (l4.length : Int)).1) hf (by decide) pl33 (wantY hf rfl rfl hb218) rfl (Sl.part (E := (Ek.pair Ek.c128 Ek.bool)) (F := Ek.c128) (o := 0) (Sub.fst (E := Ek.c128) (F := Ek.bool)) (hp.slAll (i := 2) rfl hc222) hc223.1 hc223.2) ?_
        clear hf; intro a bb224 bb225 y226 y227 ha hf; clear ha
        refine st_ccmp (r_ceq (x := (gt ((q3.1 ++ q3.2).take (((IntKind.i64.wrap ((l4.length : Int) + (1 : Int)))).toNat)) (l4.length : Int)).1) (y := (Fl.bits 4651892959631900672, Fl.bits 0)) y226 y227 rfl rfl) hf (by decide) (wantY hf rfl rfl hb218) rfl rfl ?_
        clear hf; intro a ha hf; clear ha
        obtain rfl := Option.some.inj hz217
        refine st_pick (v := .bool (ceq ((gt ((q3.1 ++ q3.2).take (((IntKind.i64.wrap ((l4.length : Int) + (1 : Int)))).toNat)) (l4.length : Int)).1) (Fl.bits 4651892959631900672, Fl.bits 0))) hf rfl rfl (fun hb' => ?_) (fun hb' => ?_) (by decide) ?_
        · rfl
        · exact absurd (hb218.symm.trans hb') (by decide)
        clear hf; intro a ha hf; clear ha
        refine st_nil hf (th_n ?_)
        exact ⟨hf.sub ⟨rfl, trivial⟩, hp⟩
      replace hz217 := ifF hz217 hb218
      refine st_skip hf (wantN hf rfl rfl hb218) rfl (by decide) ?_ rfl
      clear hf; intro a hf
      refine st_skip hf (wantN hf rfl rfl hb218) rfl (by decide) ?_ rfl
      clear hf; intro a hf
      refine st_skip hf (wantN hf rfl rfl hb218) rfl (by decide) ?_ rfl
      clear hf; intro a hf
      refine st_skip hf (wantN hf rfl rfl hb218) rfl (by decide) ?_ rfl
      clear hf; intro a hf
      refine st_skip hf (wantN hf rfl rfl hb218) rfl (by decide) ?_ rfl
      clear hf; intro a hf
      refine st_skip hf (wantN hf rfl rfl hb218) rfl (by decide) ?_ rfl
      clear hf; intro a hf
      refine st_skip hf (wantN hf rfl rfl hb218) rfl (by decide) ?_ rfl
      clear hf; intro a hf
      refine st_skip hf (wantN hf rfl rfl hb218) rfl (by decide) ?_ rfl
      clear hf; intro a hf
      refine st_skip hf (wantN hf rfl rfl hb218) rfl (by decide) ?_ rfl
      clear hf; intro a hf
      obtain rfl := Option.some.inj hz217
      refine st_pick (v := .bool false) hf rfl rfl (fun hb' => ?_) (fun hb' => ?_) (by decide) ?_
      · exact absurd (hb218.symm.trans hb') (by decide)
      · rfl
      clear hf; intro a ha hf; clear ha
      refine st_nil hf (th_n ?_)
      exact ⟨hf.sub ⟨rfl, trivial⟩, hp⟩
    rintro a w ⟨hf, hp⟩
    refine st_assign hf rfl rfl (by decide) ?_
    clear hf; intro a ha hf; clear ha
    refine st_nil hf ?_
    refine th_n ?_
    refine wp_ret ?_
    obtain rfl := Option.some.inj h
    have hp : Hp _ _ _ (ow) := Hp.sel (pre := [Res.obj 24 v1 [.int .i64 cx0_Length, .int .u32 cx0_One, .int .u32 cx0_Two], Res.sl Ek.bool 4 v14 ((([] : List Bool) ++ bits3) ++ [true]), Res.slx (Ek.pair Ek.c128 Ek.bool) 35 v5 q3.1 q3.2]) (tail := ow) (rs' := []) hp [] (by decide) (by simp) rfl
    exact ⟨rfl, ⟨hf.sub ⟨rfl, trivial⟩, hp⟩⟩
  replace h := smR h
  obtain ⟨rfl, hf, hp⟩ := hO
  refine ib_r ?_
  refine th_r ?_
  obtain rfl := Option.some.inj h
  exact ⟨rfl, ⟨hf.sub ⟨rfl, trivial⟩, hp⟩⟩

end Go.Proofs.Ytcooefnbolobaaa
