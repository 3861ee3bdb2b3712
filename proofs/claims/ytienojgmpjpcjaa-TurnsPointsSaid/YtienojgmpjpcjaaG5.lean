/- The functions foghorn foghornlaw06.TurnsPoints: what each answers, as a plain function, and that its call answers it; printed by gen.py. -/
import Derived.Test.YtienojgmpjpcjaaProg
import Derived.Test.YtienojgmpjpcjaaGlU
import Derived.KernelRfl
import Derived.Test.YtienojgmpjpcjaaG5p1
set_option linter.unusedVariables false
set_option linter.unusedSimpArgs false
set_option maxRecDepth 100000
set_option maxHeartbeats 4000000
namespace Go.Proofs.Ytienojgmpjpcjaa
open GL
noncomputable def f_foghornref06_Found.s2c (ax0 : (List (Fl × Fl))) (bx1 : (List (Fl × Fl))) (n6 : Int) (same7 : Bool) (i8 : Int) : Option ((Bool × Int) ⊕ Bool) := (if (decide (i8 < (ax0.length : Int))) = true then ((if same7 = true then (if 0 ≤ i8 ∧ i8 < (ax0.length : Int) then ((f_foghornref03_Turn (gt ax0 i8) n6).bind fun q11 => (if 0 ≤ i8 ∧ i8 < (bx1.length : Int) then (some (ceq q11 (gt bx1 i8))) else none)) else none) else (some false)).bind fun z23 => (some (Sum.inl (z23, (IntKind.i64.wrap (i8 + (1 : Int))))))) else (some (Sum.inr same7)))
noncomputable def f_foghornref06_Found.s2 (ax0 : (List (Fl × Fl))) (bx1 : (List (Fl × Fl))) (n6 : Int) (s : (Bool × Int)) : Option ((Bool × Int) ⊕ Bool) := f_foghornref06_Found.s2c ax0 bx1 n6 s.1 s.2
noncomputable def f_foghornref06_Found.s1c (ax0 : (List (Fl × Fl))) (bx1 : (List (Fl × Fl))) (n6 : Int) : Option (Int ⊕ (Unit ⊕ (Int × Int))) := (if (decide (n6 < (4 : Int))) = true then ((loop (f_foghornref06_Found.s2 ax0 bx1 n6) (true, (0 : Int))).bind (fun q24 => (if q24 = true then (some (Sum.inr (Sum.inr (n6, (0 : Int))))) else (some (Sum.inl (IntKind.i64.wrap (n6 + (1 : Int)))))))) else (some (Sum.inr (Sum.inl ()))))
noncomputable def f_foghornref06_Found.s1 (ax0 : (List (Fl × Fl))) (bx1 : (List (Fl × Fl))) (s : Int) : Option (Int ⊕ (Unit ⊕ (Int × Int))) := f_foghornref06_Found.s1c ax0 bx1 s
noncomputable def f_foghornref06_Found (ax0 : (List (Fl × Fl))) (bx1 : (List (Fl × Fl))) : Option (Int × Int) := (if ((decide ((65536 : Int) < (ax0.length : Int))) || ((bx1.length : Int) != (ax0.length : Int))) = true then (some ((0 : Int), (1 : Int))) else ((loop (f_foghornref06_Found.s1 ax0 bx1) (0 : Int)).bind (fun q25 => sm q25 (fun q26 => (some ((0 : Int), (6 : Int)))) (fun q27 => (some (q27.1, q27.2))))))
theorem f_foghornref06_Found_c {S : Nat → Prop} {w0 w : World} {ow : List Res} (hp : Hp S w0 w ow) (vax0 : Value) (ax0 : (List (Fl × Fl))) (hax0 : RdS Ek.c128 S w0 vax0 ax0) (vbx1 : Value) (bx1 : (List (Fl × Fl))) (hbx1 : RdS Ek.c128 S w0 vbx1 bx1) {r : (Int × Int)} (h : f_foghornref06_Found ax0 bx1 = some r) :
    Calls Try.prog 31 #[vax0, vbx1] w (fun e w' => e = .returned (.tuple #[.int .i64 r.1, .int .i64 r.2]) ∧ Hp S w0 w' (ow)) := by
  unfold f_foghornref06_Found at h
  refine enter (n := 45) (args := [vax0, vbx1]) Try.func31 rfl rfl (Nat.le_of_ble_eq_true rfl) fun a hf => ?_
  replace hf : Fr 45 a [(0, vax0), (1, vbx1)] := hf
  refine wp_mono (Q := fun e a w => e = .ret ∧ Fr 45 a [(4, .int .i64 r.1), (5, .int .i64 r.2)] ∧ Hp S w0 w (ow)) ?_ ?_
  rotate_left
  · rintro e a w ⟨rfl, hf, hp⟩
    exact ret2 hf rfl rfl rfl ⟨rfl, hp⟩
  refine wp_seq ?_
  refine wp_reg ?_
  refine st_assign hf rfl rfl (by decide) ?_
  clear hf; intro a ha hf; clear ha
  refine st_assign hf rfl rfl (by decide) ?_
  clear hf; intro a ha hf; clear ha
  refine st_nil hf ?_
  refine th_n ?_
  refine wp_seq ?_
  refine wp_seq ?_
  refine wp_reg ?_
  refine st_move hf rfl rfl (by decide) ?_
  clear hf; intro a ha hf; clear ha
  refine st_len (E := Ek.c128) hf (by decide) Try.underlying44 rfl rfl (hax0.sl hp) ?_
  clear hf; intro a ha hf; clear ha
  refine st_igtr hf (by decide) rfl rfl rfl ?_
  clear hf; intro a ha hf; clear ha
  refine st_move hf rfl rfl (by decide) ?_
  clear hf; intro a ha hf; clear ha
  refine wpList_cut 6 (fun a w => Fr 45 a [(0, vax0), (1, vbx1), (18, .bool ((decide ((65536 : Int) < (ax0.length : Int))) || ((bx1.length : Int) != (ax0.length : Int))))] ∧ Hp S w0 w (ow)) ?_ ?_
  · rcases Bool.eq_false_or_eq_true (decide ((65536 : Int) < (ax0.length : Int))) with hb2 | hb2
    · skip
      refine st_skip hf (wantN hf rfl rfl hb2) rfl (by decide) ?_ rfl
      clear hf; intro a hf
      refine st_skip hf (wantN hf rfl rfl hb2) rfl (by decide) ?_ rfl
      clear hf; intro a hf
      refine st_skip hf (wantN hf rfl rfl hb2) rfl (by decide) ?_ rfl
      clear hf; intro a hf
      refine st_skip hf (wantN hf rfl rfl hb2) rfl (by decide) ?_ rfl
      clear hf; intro a hf
      refine st_skip hf (wantN hf rfl rfl hb2) rfl (by decide) ?_ rfl
      clear hf; intro a hf
      refine st_pick (v := .bool true) hf rfl rfl (fun hb' => ?_) (fun hb' => ?_) (by decide) ?_
      · rfl
      · exact absurd (hb2.symm.trans hb') (by decide)
      clear hf; intro a ha hf; clear ha
      refine st_nil hf (th_n ?_)
      exact ⟨hf.sub ⟨rfl, rfl, (by rw [hb2]; rfl), trivial⟩, hp⟩
    refine st_move hf (wantY hf rfl rfl hb2) rfl (by decide) ?_
    clear hf; intro a ha hf; clear ha
    refine st_len (E := Ek.c128) hf (by decide) Try.underlying44 (wantY hf rfl rfl hb2) rfl (hbx1.sl hp) ?_
    clear hf; intro a ha hf; clear ha
    refine st_move hf (wantY hf rfl rfl hb2) rfl (by decide) ?_
    clear hf; intro a ha hf; clear ha
    refine st_len (E := Ek.c128) hf (by decide) Try.underlying44 (wantY hf rfl rfl hb2) rfl (hax0.sl hp) ?_
    clear hf; intro a ha hf; clear ha
    refine st_ineq hf (by decide) (wantY hf rfl rfl hb2) rfl rfl ?_
    clear hf; intro a ha hf; clear ha
    refine st_pick (v := .bool ((bx1.length : Int) != (ax0.length : Int))) hf rfl rfl (fun hb' => ?_) (fun hb' => ?_) (by decide) ?_
    · exact absurd (hb2.symm.trans hb') (by decide)
    · rfl
    clear hf; intro a ha hf; clear ha
    refine st_nil hf (th_n ?_)
    exact ⟨hf.sub ⟨rfl, rfl, (by rw [hb2]; rfl), trivial⟩, hp⟩
  rintro a w ⟨hf, hp⟩
  refine st_nil hf ?_
  refine th_n ?_
  refine wp_if hf rfl (fun hb => ?_) (fun hb => ?_)
  · replace h := ifT h hb
    refine wp_seq ?_
    refine wp_reg ?_
    refine st_assign hf rfl rfl (by decide) ?_
    clear hf; intro a ha hf; clear ha
    refine st_assign hf rfl rfl (by decide) ?_
    clear hf; intro a ha hf; clear ha
    refine st_nil hf ?_
    refine th_n ?_
    refine wp_ret ?_
    refine th_r ?_
    obtain rfl := Option.some.inj h
    exact ⟨rfl, ⟨hf.sub ⟨rfl, rfl, trivial⟩, hp⟩⟩
  replace h := ifF h hb
  refine wp_skip ?_
  refine th_n ?_
  refine wp_seq ?_
  refine wp_seq ?_
  refine wp_reg ?_
  refine st_assign hf rfl rfl (by decide) ?_
  clear hf; intro a ha hf; clear ha
  refine st_nil hf ?_
  refine th_n ?_
  refine wp_block ?_
  obtain ⟨q25, hl, h⟩ := bnd h
  refine wp_loop_pure (f := (f_foghornref06_Found.s1 ax0 bx1)) (s := (0 : Int)) (fun s a w => Fr 45 a [(0, vax0), (1, vbx1), (6, .int .i64 s)] ∧ Hp S w0 w (ow)) (fun q e a w => match q with | (Sum.inl q) => e = .exit 0 ∧ Fr 45 a [] ∧ Hp S w0 w (ow) | (Sum.inr q) => e = .ret ∧ Fr 45 a [(4, .int .i64 q.1), (5, .int .i64 q.2)] ∧ Hp S w0 w (ow)) ?_ hl ⟨hf.sub ⟨rfl, rfl, rfl, trivial⟩, hp⟩ ?_
  · clear hl hf hp
    intro s x a w h hI
    obtain ⟨n6, hs⟩ : ∃ z, z = s := ⟨s, rfl⟩; subst hs
    obtain ⟨hf, hp⟩ : Fr 45 a [(0, vax0), (1, vbx1), (6, .int .i64 n6)] ∧ Hp S w0 w (ow) := hI
    replace h : f_foghornref06_Found.s1c ax0 bx1 n6 = some x := h
    unfold f_foghornref06_Found.s1c at h
    refine wp_seq ?_
    refine wp_seq ?_
    refine wp_reg ?_
    refine st_move hf rfl rfl (by decide) ?_
    clear hf; intro a ha hf; clear ha
    refine st_ilss hf (by decide) rfl rfl rfl ?_
    clear hf; intro a ha hf; clear ha
    refine st_nil hf ?_
    refine th_n ?_
    refine wp_if hf rfl (fun hb => ?_) (fun hb => ?_)
    · replace h := ifT h hb
      refine wp_skip ?_
      refine th_n ?_
      refine wp_seq ?_
      refine wp_block ?_
      refine wp_seq ?_
      refine wp_reg ?_
      refine st_assign hf rfl rfl (by decide) ?_
      clear hf; intro a ha hf; clear ha
      refine st_nil hf ?_
      refine th_n ?_
      refine wp_seq ?_
      refine wp_seq ?_
      refine wp_reg ?_
      refine st_assign hf rfl rfl (by decide) ?_
      clear hf; intro a ha hf; clear ha
      refine st_nil hf ?_
      refine th_n ?_
      refine wp_block ?_
      obtain ⟨q24, hl, h⟩ := bnd h
      refine wp_loop_pure (f := (f_foghornref06_Found.s2 ax0 bx1 n6)) (s := (true, (0 : Int))) (fun s a w => Fr 45 a [(0, vax0), (1, vbx1), (6, .int .i64 n6), (7, .bool s.1), (8, .int .i64 s.2)] ∧ Hp S w0 w (ow)) (fun q e a w => e = .exit 2 ∧ Fr 45 a [(0, vax0), (1, vbx1), (6, .int .i64 n6), (7, .bool q)] ∧ Hp S w0 w (ow)) ?_ hl ⟨hf.sub ⟨rfl, rfl, rfl, rfl, rfl, trivial⟩, hp⟩ ?_
      · clear hl hf hp
        intro s x a w h hI
        obtain ⟨same7, i8⟩ := s
        obtain ⟨hf, hp⟩ : Fr 45 a [(0, vax0), (1, vbx1), (6, .int .i64 n6), (7, .bool same7), (8, .int .i64 i8)] ∧ Hp S w0 w (ow) := hI
        replace h : f_foghornref06_Found.s2c ax0 bx1 n6 same7 i8 = some x := h
        unfold f_foghornref06_Found.s2c at h
        refine wp_seq ?_
        refine wp_seq ?_
        refine wp_reg ?_
        refine st_move hf rfl rfl (by decide) ?_
        clear hf; intro a ha hf; clear ha
        refine st_move hf rfl rfl (by decide) ?_
        clear hf; intro a ha hf; clear ha
        refine st_len (E := Ek.c128) hf (by decide) Try.underlying44 rfl rfl (hax0.sl hp) ?_
        clear hf; intro a ha hf; clear ha
        refine st_ilss hf (by decide) rfl rfl rfl ?_
        clear hf; intro a ha hf; clear ha
        refine st_nil hf ?_
        refine th_n ?_
        refine wp_if hf rfl (fun hb => ?_) (fun hb => ?_)
        · replace h := ifT h hb
          refine wp_skip ?_
          refine th_n ?_
          refine wp_seq ?_
          refine wp_block ?_
          obtain ⟨z23, hz3, h⟩ := bnd h
          refine wp_cutN (fun a w => Fr 45 a [(0, vax0), (1, vbx1), (6, .int .i64 n6), (7, .bool z23), (8, .int .i64 i8)] ∧ Hp S w0 w (ow)) ?_ ?_
          · have hp := hp.same (Same.drew w)
            rcases Bool.eq_false_or_eq_true same7 with hb4 | hb4
            · skip
              replace hz3 := ifT hz3 hb4
              obtain ⟨hc5, hz3⟩ := chk hz3
              obtain ⟨bb7, bb8, y9, y10, hl6⟩ := RdS.pinC (p := i8) hax0 hc5.1 hc5.2
              obtain ⟨q11, hcall12, hz3⟩ := bnd hz3
              obtain ⟨hc17, hz3⟩ := chk hz3
              obtain ⟨bb19, bb20, y21, y22, hl18⟩ := RdS.pinC (p := i8) hbx1 hc17.1 hc17.2
              replace hz3 := Option.some.inj hz3
              refine dr_begin' (fun a w => Fr 45 a [(0, vax0), (1, vbx1), (6, .int .i64 n6), (7, .bool z23), (8, .int .i64 i8)] ∧ Hp S w0 w (ow)) (fun w' => ∃ l, Hp S w0 w' l) [] (by kernel_rfl) ?_
              refine dr_take 0 (.bool same7) rfl (by kernel_rfl) (by kernel_rfl) (by kernel_rfl) (by kernel_rfl) rfl rfl hf (by decide) rfl (fun w hp => ?_) ⟨_, hp⟩ ?_
              · obtain ⟨_, hp⟩ := hp
                refine st_move hf rfl rfl (by decide) ?_
                clear hf; intro a ha hf
                exact st_nil hf (th_n ⟨ha, rfl⟩)
              clear hf; intro a hf
              refine dr_take 1 (.bool same7) rfl (by kernel_rfl) (by kernel_rfl) (by kernel_rfl) (by kernel_rfl) rfl rfl hf (by decide) rfl (fun w hp => ?_) ⟨_, hp⟩ ?_
              · obtain ⟨_, hp⟩ := hp
                refine st_move hf rfl rfl (by decide) ?_
                clear hf; intro a ha hf
                exact st_nil hf (th_n ⟨ha, rfl⟩)
              clear hf; intro a hf
              refine dr_take 2 (vax0) rfl (by kernel_rfl) (by kernel_rfl) (by kernel_rfl) (by kernel_rfl) rfl rfl hf (by decide) (wantY hf rfl rfl hb4) (fun w hp => ?_) ⟨_, hp⟩ ?_
              · obtain ⟨_, hp⟩ := hp
                refine st_move hf (wantY hf rfl rfl hb4) rfl (by decide) ?_
                clear hf; intro a ha hf
                exact st_nil hf (th_n ⟨ha, rfl⟩)
              clear hf; intro a hf
              refine dr_take 3 (.int .i64 i8) rfl (by kernel_rfl) (by kernel_rfl) (by kernel_rfl) (by kernel_rfl) rfl rfl hf (by decide) (wantY hf rfl rfl hb4) (fun w hp => ?_) ⟨_, hp⟩ ?_
              · obtain ⟨_, hp⟩ := hp
                refine st_move hf (wantY hf rfl rfl hb4) rfl (by decide) ?_
                clear hf; intro a ha hf
                exact st_nil hf (th_n ⟨ha, rfl⟩)
              clear hf; intro a hf
              refine dr_take 4 (eptr vax0 i8 1) rfl (by kernel_rfl) (by kernel_rfl) (by kernel_rfl) (by kernel_rfl) rfl rfl hf (by decide) (wantY hf rfl rfl hb4) (fun w hp => ?_) ⟨_, hp⟩ ?_
              · obtain ⟨_, hp⟩ := hp
                refine st_index (E := Ek.c128) hf (by decide) Try.underlying44 elt49 (wantY hf rfl rfl hb4) rfl rfl (hax0.sl hp) hc5.1 hc5.2 ?_
                clear hf; intro a ha hf
                exact st_nil hf (th_n ⟨ha, rfl⟩)
              clear hf; intro a hf
              refine dr_take 5 (.complex .f64 bb7 bb8) rfl (by kernel_rfl) (by kernel_rfl) (by kernel_rfl) (by kernel_rfl) rfl rfl hf (by decide) (wantY hf rfl rfl hb4) (fun w hp => ?_) ⟨_, hp⟩ ?_
              · obtain ⟨_, hp⟩ := hp
                refine st_ldP hf (by decide) pl49 (wantY hf rfl rfl hb4) rfl (hl6 _ _ hp) ?_
                clear hf; intro a ha hf
                exact st_nil hf (th_n ⟨ha, rfl⟩)
              clear hf; intro a hf
              refine dr_take 6 (.int .i64 n6) rfl (by kernel_rfl) (by kernel_rfl) (by kernel_rfl) (by kernel_rfl) rfl rfl hf (by decide) (wantY hf rfl rfl hb4) (fun w hp => ?_) ⟨_, hp⟩ ?_
              · obtain ⟨_, hp⟩ := hp
                refine st_move hf (wantY hf rfl rfl hb4) rfl (by decide) ?_
                clear hf; intro a ha hf
                exact st_nil hf (th_n ⟨ha, rfl⟩)
              clear hf; intro a hf
              refine dr_take 8 (vbx1) rfl (by kernel_rfl) (by kernel_rfl) (by kernel_rfl) (by kernel_rfl) rfl rfl hf (by decide) (wantY hf rfl rfl hb4) (fun w hp => ?_) ⟨_, hp⟩ ?_
              · obtain ⟨_, hp⟩ := hp
                refine st_move hf (wantY hf rfl rfl hb4) rfl (by decide) ?_
                clear hf; intro a ha hf
                exact st_nil hf (th_n ⟨ha, rfl⟩)
              clear hf; intro a hf
              refine dr_take 9 (.int .i64 i8) rfl (by kernel_rfl) (by kernel_rfl) (by kernel_rfl) (by kernel_rfl) rfl rfl hf (by decide) (wantY hf rfl rfl hb4) (fun w hp => ?_) ⟨_, hp⟩ ?_
              · obtain ⟨_, hp⟩ := hp
                refine st_move hf (wantY hf rfl rfl hb4) rfl (by decide) ?_
                clear hf; intro a ha hf
                exact st_nil hf (th_n ⟨ha, rfl⟩)
              clear hf; intro a hf
              refine dr_take 10 (eptr vbx1 i8 1) rfl (by kernel_rfl) (by kernel_rfl) (by kernel_rfl) (by kernel_rfl) rfl rfl hf (by decide) (wantY hf rfl rfl hb4) (fun w hp => ?_) ⟨_, hp⟩ ?_
              · obtain ⟨_, hp⟩ := hp
                refine st_index (E := Ek.c128) hf (by decide) Try.underlying44 elt49 (wantY hf rfl rfl hb4) rfl rfl (hbx1.sl hp) hc17.1 hc17.2 ?_
                clear hf; intro a ha hf
                exact st_nil hf (th_n ⟨ha, rfl⟩)
              clear hf; intro a hf
              refine dr_take 11 (.complex .f64 bb19 bb20) rfl (by kernel_rfl) (by kernel_rfl) (by kernel_rfl) (by kernel_rfl) rfl rfl hf (by decide) (wantY hf rfl rfl hb4) (fun w hp => ?_) ⟨_, hp⟩ ?_
              · obtain ⟨_, hp⟩ := hp
                refine st_ldP hf (by decide) pl49 (wantY hf rfl rfl hb4) rfl (hl18 _ _ hp) ?_
                clear hf; intro a ha hf
                exact st_nil hf (th_n ⟨ha, rfl⟩)
              clear hf; intro a hf
              refine dr_one 7 rfl (by kernel_rfl) ?_
              refine st_call hf (by decide) Try.func46 rfl rfl (wantY hf rfl rfl hb4) rfl rfl (f_foghornref03_Turn_c hp _ _ _ (show Fl.rep bb7 ((gt ax0 i8)).1 from y9) (show Fl.rep bb8 ((gt ax0 i8)).2 from y10) _ hcall12) ?_
              rintro _ w ⟨v13, v14, rfl, y15, y16, hp0⟩
              clear hp; have hp := hp0; clear hp0
              replace hp : Hp _ _ _ (ow) := hp
              refine ⟨_, rfl, ?_⟩
              clear hf; intro a hf
              refine st_nil hf (th_n ⟨fun _ _ => ⟨_, hp⟩, ?_⟩)
              refine dr_take 12 (.bool (ceq q11 (gt bx1 i8))) rfl (by kernel_rfl) (by kernel_rfl) (by kernel_rfl) (by kernel_rfl) rfl rfl hf (by decide) (wantY hf rfl rfl hb4) (fun w hp => ?_) ⟨_, hp⟩ ?_
              · obtain ⟨_, hp⟩ := hp
                refine st_ccmp (r_ceq (x := q11) (y := (gt bx1 i8)) y15 y16 y21 y22) hf (by decide) (wantY hf rfl rfl hb4) rfl rfl ?_
                clear hf; intro a ha hf
                exact st_nil hf (th_n ⟨ha, rfl⟩)
              clear hf; intro a hf
              refine dr_take 13 (.bool z23) rfl (by kernel_rfl) (by kernel_rfl) (by kernel_rfl) (by kernel_rfl) rfl rfl hf (by decide) rfl (fun w hp => ?_) ⟨_, hp⟩ ?_
              · obtain ⟨_, hp⟩ := hp
                refine st_pick (v := .bool z23) hf rfl rfl (fun _ => by rw [← hz3]; rfl) (fun hb' => absurd (hb4.symm.trans hb') (by decide)) (by decide) ?_
                clear hf; intro a ha hf
                exact st_nil hf (th_n ⟨ha, rfl⟩)
              clear hf; intro a hf
              refine dr_take 14 (.bool z23) rfl (by kernel_rfl) (by kernel_rfl) (by kernel_rfl) (by kernel_rfl) rfl rfl hf (by decide) rfl (fun w hp => ?_) ⟨_, hp⟩ ?_
              · obtain ⟨_, hp⟩ := hp
                refine st_assign hf rfl rfl (by decide) ?_
                clear hf; intro a ha hf
                exact st_nil hf (th_n ⟨ha, rfl⟩)
              clear hf; intro a hf
              refine dr_end (by kernel_rfl) ?_ _
              exact ⟨hf.sub ⟨rfl, rfl, rfl, rfl, rfl, trivial⟩, hp⟩
            skip
            replace hz3 := ifF hz3 hb4
            replace hz3 := Option.some.inj hz3
            refine dr_begin' (fun a w => Fr 45 a [(0, vax0), (1, vbx1), (6, .int .i64 n6), (7, .bool z23), (8, .int .i64 i8)] ∧ Hp S w0 w (ow)) (fun w' => ∃ l, Hp S w0 w' l) [] (by kernel_rfl) ?_
            refine dr_take 0 (.bool same7) rfl (by kernel_rfl) (by kernel_rfl) (by kernel_rfl) (by kernel_rfl) rfl rfl hf (by decide) rfl (fun w hp => ?_) ⟨_, hp⟩ ?_
            · obtain ⟨_, hp⟩ := hp
              refine st_move hf rfl rfl (by decide) ?_
              clear hf; intro a ha hf
              exact st_nil hf (th_n ⟨ha, rfl⟩)
            clear hf; intro a hf
            refine dr_take 1 (.bool same7) rfl (by kernel_rfl) (by kernel_rfl) (by kernel_rfl) (by kernel_rfl) rfl rfl hf (by decide) rfl (fun w hp => ?_) ⟨_, hp⟩ ?_
            · obtain ⟨_, hp⟩ := hp
              refine st_move hf rfl rfl (by decide) ?_
              clear hf; intro a ha hf
              exact st_nil hf (th_n ⟨ha, rfl⟩)
            clear hf; intro a hf
            refine dr_out 2 rfl (by kernel_rfl) (by kernel_rfl) (by kernel_rfl) (by kernel_rfl) rfl hf (by decide) rfl (wantN hf rfl rfl hb4) ⟨_, hp⟩ ?_
            clear hf; intro a hf
            refine dr_out 3 rfl (by kernel_rfl) (by kernel_rfl) (by kernel_rfl) (by kernel_rfl) rfl hf (by decide) rfl (wantN hf rfl rfl hb4) ⟨_, hp⟩ ?_
            clear hf; intro a hf
            refine dr_out 4 rfl (by kernel_rfl) (by kernel_rfl) (by kernel_rfl) (by kernel_rfl) rfl hf (by decide) rfl (wantN hf rfl rfl hb4) ⟨_, hp⟩ ?_
            clear hf; intro a hf
            refine dr_out 5 rfl (by kernel_rfl) (by kernel_rfl) (by kernel_rfl) (by kernel_rfl) rfl hf (by decide) rfl (wantN hf rfl rfl hb4) ⟨_, hp⟩ ?_
            clear hf; intro a hf
            refine dr_out 6 rfl (by kernel_rfl) (by kernel_rfl) (by kernel_rfl) (by kernel_rfl) rfl hf (by decide) rfl (wantN hf rfl rfl hb4) ⟨_, hp⟩ ?_
            clear hf; intro a hf
            refine dr_out 7 rfl (by kernel_rfl) (by kernel_rfl) (by kernel_rfl) (by kernel_rfl) rfl hf (by decide) rfl (wantN hf rfl rfl hb4) ⟨_, hp⟩ ?_
            clear hf; intro a hf
            refine dr_out 8 rfl (by kernel_rfl) (by kernel_rfl) (by kernel_rfl) (by kernel_rfl) rfl hf (by decide) rfl (wantN hf rfl rfl hb4) ⟨_, hp⟩ ?_
            clear hf; intro a hf
            refine dr_out 9 rfl (by kernel_rfl) (by kernel_rfl) (by kernel_rfl) (by kernel_rfl) rfl hf (by decide) rfl (wantN hf rfl rfl hb4) ⟨_, hp⟩ ?_
            clear hf; intro a hf
            refine dr_out 10 rfl (by kernel_rfl) (by kernel_rfl) (by kernel_rfl) (by kernel_rfl) rfl hf (by decide) rfl (wantN hf rfl rfl hb4) ⟨_, hp⟩ ?_
            clear hf; intro a hf
            refine dr_out 11 rfl (by kernel_rfl) (by kernel_rfl) (by kernel_rfl) (by kernel_rfl) rfl hf (by decide) rfl (wantN hf rfl rfl hb4) ⟨_, hp⟩ ?_
            clear hf; intro a hf
            refine dr_out 12 rfl (by kernel_rfl) (by kernel_rfl) (by kernel_rfl) (by kernel_rfl) rfl hf (by decide) rfl (wantN hf rfl rfl hb4) ⟨_, hp⟩ ?_
            clear hf; intro a hf
            refine dr_take 13 (.bool z23) rfl (by kernel_rfl) (by kernel_rfl) (by kernel_rfl) (by kernel_rfl) rfl rfl hf (by decide) rfl (fun w hp => ?_) ⟨_, hp⟩ ?_
            · obtain ⟨_, hp⟩ := hp
              refine st_pick (v := .bool z23) hf rfl rfl (fun hb' => absurd (hb4.symm.trans hb') (by decide)) (fun _ => by rw [← hz3]; rfl) (by decide) ?_
              clear hf; intro a ha hf
              exact st_nil hf (th_n ⟨ha, rfl⟩)
            clear hf; intro a hf
            refine dr_take 14 (.bool z23) rfl (by kernel_rfl) (by kernel_rfl) (by kernel_rfl) (by kernel_rfl) rfl rfl hf (by decide) rfl (fun w hp => ?_) ⟨_, hp⟩ ?_
            · obtain ⟨_, hp⟩ := hp
              refine st_assign hf rfl rfl (by decide) ?_
              clear hf; intro a ha hf
              exact st_nil hf (th_n ⟨ha, rfl⟩)
            clear hf; intro a hf
            refine dr_end (by kernel_rfl) ?_ _
            exact ⟨hf.sub ⟨rfl, rfl, rfl, rfl, rfl, trivial⟩, hp⟩
          rintro a w ⟨hf, hp⟩
          refine ib_n ?_
          refine th_n ?_
          refine wp_reg ?_
          refine st_move hf rfl rfl (by decide) ?_
          clear hf; intro a ha hf; clear ha
          refine st_iadd hf (by decide) rfl rfl rfl ?_
          clear hf; intro a ha hf; clear ha
          refine st_assign hf rfl rfl (by decide) ?_
          clear hf; intro a ha hf; clear ha
          refine st_nil hf ?_
          obtain rfl := Option.some.inj h
          exact rnd_l ⟨hf.sub ⟨rfl, rfl, rfl, rfl, rfl, trivial⟩, hp⟩
        replace h := ifF h hb
        refine wp_exit ?_
        refine th_e ?_
        obtain rfl := Option.some.inj h
        exact rnd_r (by simp) ⟨rfl, hf.sub ⟨rfl, rfl, rfl, rfl, trivial⟩, hp⟩
      clear hl hf hp
      intro e a w hne hO
      obtain ⟨rfl, hf, hp⟩ := hO
      refine ib_same ?_
      refine th_n ?_
      refine wp_seq ?_
      refine wp_reg ?_
      refine st_move hf rfl rfl (by decide) ?_
      clear hf; intro a ha hf; clear ha
      refine st_nil hf ?_
      refine th_n ?_
      refine wp_if hf rfl (fun hb => ?_) (fun hb => ?_)
      · replace h := ifT h hb
        refine wp_seq ?_
        refine wp_reg ?_
        refine st_move hf rfl rfl (by decide) ?_
        clear hf; intro a ha hf; clear ha
        refine st_assign hf rfl rfl (by decide) ?_
        clear hf; intro a ha hf; clear ha
        refine st_assign hf rfl rfl (by decide) ?_
        clear hf; intro a ha hf; clear ha
        refine st_nil hf ?_
        refine th_n ?_
        refine wp_ret ?_
        refine ib_r ?_
        refine th_r ?_
        obtain rfl := Option.some.inj h
        exact rnd_r (by simp) ⟨rfl, ⟨hf.sub ⟨rfl, rfl, trivial⟩, hp⟩⟩
      replace h := ifF h hb
      refine wp_skip ?_
      refine ib_n ?_
      refine th_n ?_
      refine wp_reg ?_
      refine st_move hf rfl rfl (by decide) ?_
      clear hf; intro a ha hf; clear ha
      refine st_iadd hf (by decide) rfl rfl rfl ?_
      clear hf; intro a ha hf; clear ha
      refine st_assign hf rfl rfl (by decide) ?_
      clear hf; intro a ha hf; clear ha
      refine st_nil hf ?_
      obtain rfl := Option.some.inj h
      exact rnd_l ⟨hf.sub ⟨rfl, rfl, rfl, trivial⟩, hp⟩
    replace h := ifF h hb
    refine wp_exit ?_
    refine th_e ?_
    obtain rfl := Option.some.inj h
    exact rnd_r (by simp) ⟨rfl, hf.sub trivial, hp⟩
  clear hl hf hp
  intro e a w hne hO
  rcases q25 with q26 | q27
  · replace h := smL h
    obtain ⟨rfl, hf, hp⟩ := hO
    refine ib_same ?_
    refine th_n ?_
    refine wp_seq ?_
    refine wp_reg ?_
    refine st_assign hf rfl rfl (by decide) ?_
    clear hf; intro a ha hf; clear ha
    refine st_assign hf rfl rfl (by decide) ?_
    clear hf; intro a ha hf; clear ha
    refine st_nil hf ?_
    refine th_n ?_
    refine wp_ret ?_
    obtain rfl := Option.some.inj h
    exact ⟨rfl, ⟨hf.sub ⟨rfl, rfl, trivial⟩, hp⟩⟩
  replace h := smR h
  obtain ⟨rfl, hf, hp⟩ := hO
  refine ib_r ?_
  refine th_r ?_
  obtain rfl := Option.some.inj h
  exact ⟨rfl, ⟨hf.sub ⟨rfl, rfl, trivial⟩, hp⟩⟩

noncomputable def f_turns_Into_1 (n0 : Int) (t1 : Int) : Option (Int × Int) := (some ((IntKind.u8.wrap (t1 + n0)), (IntKind.u8.wrap (t1 + n0))))
theorem f_turns_Into_1_c {S : Nat → Prop} {w0 w : World} {ow : List Res} (n0 : Int) (t1 : Int) (ot1 : Value) (hp : Hp S w0 w (Res.obj 5 ot1 [.int .u8 t1] :: ow)) {r : (Int × Int)} (h : f_turns_Into_1 n0 t1 = some r) :
    Calls Try.prog 34 #[.int .u8 n0, optr ot1 0] w (fun e w' => e = .returned (.int .u8 r.1) ∧ Hp S w0 w' (Res.obj 5 ot1 [.int .u8 r.2] :: ow)) := by
  unfold f_turns_Into_1 at h
  refine enter (n := 8) (args := [.int .u8 n0, optr ot1 0]) Try.func34 rfl rfl (Nat.le_of_ble_eq_true rfl) fun a hf => ?_
  replace hf : Fr 8 a [(0, .int .u8 n0), (1, optr ot1 0)] := hf
  refine wp_mono (Q := fun e a w => e = .ret ∧ Fr 8 a [(3, .int .u8 r.1)] ∧ Hp S w0 w (Res.obj 5 ot1 [.int .u8 r.2] :: ow)) ?_ ?_
  rotate_left
  · rintro e a w ⟨rfl, hf, hp⟩
    exact ret1 hf rfl rfl ⟨rfl, hp⟩
  refine wp_seq ?_
  refine wp_reg ?_
  refine st_assign hf rfl rfl (by decide) ?_
  clear hf; intro a ha hf; clear ha
  refine st_nil hf ?_
  refine th_n ?_
  refine wp_seq ?_
  refine wp_reg ?_
  refine st_ldO (u := .int .u8 t1) hf (by decide) pl5 rfl rfl (hp.ob (i := 0) rfl) rfl ?_
  clear hf; intro a ha hf; clear ha
  refine st_move hf rfl rfl (by decide) ?_
  clear hf; intro a ha hf; clear ha
  refine st_iadd hf (by decide) rfl rfl rfl ?_
  clear hf; intro a ha hf; clear ha
  refine st_stO (us := [.int .u8 (IntKind.u8.wrap (t1 + n0))]) hf hp (i := 0) rfl rfl rfl rfl rfl (by rfl) (by kernel_rfl) (Nat.le_of_ble_eq_true rfl) ?_
  clear hf; intro a w hf hp0; clear hp; have hp := hp0; clear hp0
  replace hp : Hp _ _ _ (Res.obj 5 ot1 [.int .u8 (IntKind.u8.wrap (t1 + n0))] :: ow) := hp
  refine st_nil hf ?_
  refine th_n ?_
  refine wp_seq ?_
  refine wp_reg ?_
  refine st_ldO (u := .int .u8 (IntKind.u8.wrap (t1 + n0))) hf (by decide) pl5 rfl rfl (hp.ob (i := 0) rfl) rfl ?_
  clear hf; intro a ha hf; clear ha
  refine st_assign hf rfl rfl (by decide) ?_
  clear hf; intro a ha hf; clear ha
  refine st_nil hf ?_
  refine th_n ?_
  refine wp_ret ?_
  obtain rfl := Option.some.inj h
  exact ⟨rfl, ⟨hf.sub ⟨rfl, trivial⟩, hp⟩⟩

noncomputable def f_turns_each.s1c (qx0 : (List Int)) (f1_0c : Int) (out6 : (List Int)) (t17 : Int) : Option ((Int × (List Int) × Int) ⊕ (Int × (List Int))) := (if (decide (t17 < (qx0.length : Int))) = true then (if 0 ≤ t17 ∧ t17 < (qx0.length : Int) then ((f_turns_Into_1 (gt qx0 t17) f1_0c).bind fun q15 => (if 0 ≤ t17 ∧ t17 < (out6.length : Int) then (some (Sum.inl (q15.2, (out6.set (t17).toNat (iand .u8 q15.1 (3 : Int))), (IntKind.i64.wrap (t17 + (1 : Int)))))) else none)) else none) else (some (Sum.inr (f1_0c, out6))))
noncomputable def f_turns_each.s1 (qx0 : (List Int)) (s : (Int × (List Int) × Int)) : Option ((Int × (List Int) × Int) ⊕ (Int × (List Int))) := f_turns_each.s1c qx0 s.1 s.2.1 s.2.2
noncomputable def f_turns_each (qx0 : (List Int)) (t2000 : Int) : Option ((List Int) × Int × Int) := ((f_turns_row qx0).bind fun q2 => (if (!q2) = true then (some ([], (1 : Int), t2000)) else (if 0 ≤ (qx0.length : Int) ∧ (qx0.length : Int) ≤ (qx0.length : Int) ∧ (qx0.length : Int) * 1 ≤ 281474976710656 then ((loop (f_turns_each.s1 qx0) (t2000, (List.replicate ((qx0.length : Int)).toNat (0 : Int)), (0 : Int))).bind (fun q19 => (some (q19.2, (0 : Int), q19.1)))) else none)))
theorem f_turns_each_c {S : Nat → Prop} {w0 w : World} {ow : List Res} (vqx0 : Value) (qx0 : (List Int)) (hqx0 : RdS (Ek.int .u8) S w0 vqx0 qx0) (t2000 : Int) (ot2000 : Value) (hp : Hp S w0 w (Res.obj 5 ot2000 [.int .u8 t2000] :: ow)) {r : ((List Int) × Int × Int)} (h : f_turns_each qx0 t2000 = some r) :
    Calls Try.prog 33 #[vqx0, .func (.func 34) #[] #[optr ot2000 0]] w (fun e w' => ∃ (u0 : Value), e = .returned (.tuple #[u0, .int .i64 r.2.1]) ∧ Hp S w0 w' (Res.sl (Ek.int .u8) 5 u0 r.1 :: Res.obj 5 ot2000 [.int .u8 r.2.2] :: ow)) := by
  unfold f_turns_each at h
  refine enter (n := 31) (args := [vqx0, .func (.func 34) #[] #[optr ot2000 0]]) Try.func33 rfl rfl (Nat.le_of_ble_eq_true rfl) fun a hf => ?_
  replace hf : Fr 31 a [(0, vqx0), (1, .func (.func 34) #[] #[optr ot2000 0])] := hf
  refine wp_mono (Q := fun e a w => e = .ret ∧ ∃ (u0 : Value), Fr 31 a [(4, u0), (5, .int .i64 r.2.1)] ∧ Hp S w0 w (Res.sl (Ek.int .u8) 5 u0 r.1 :: Res.obj 5 ot2000 [.int .u8 r.2.2] :: ow)) ?_ ?_
  rotate_left
  · rintro e a w ⟨rfl, x0, hf, hp⟩
    exact ret2 hf rfl rfl rfl ⟨x0, rfl, hp⟩
  refine wp_seq ?_
  refine wp_reg ?_
  refine st_assign hf rfl rfl (by decide) ?_
  clear hf; intro a ha hf; clear ha
  refine st_assign hf rfl rfl (by decide) ?_
  clear hf; intro a ha hf; clear ha
  refine st_nil hf ?_
  refine th_n ?_
  refine wp_seq ?_
  refine wp_seq ?_
  refine wp_reg ?_
  refine st_move hf rfl rfl (by decide) ?_
  clear hf; intro a ha hf; clear ha
  obtain ⟨q2, hcall3, h⟩ := bnd h
  refine st_call hf (by decide) Try.func36 rfl rfl rfl rfl rfl (f_turns_row_c hp _ _ hqx0 hcall3) ?_
  rintro _ w ⟨rfl, hp0⟩
  clear hp; have hp := hp0; clear hp0
  replace hp : Hp _ _ _ (Res.obj 5 ot2000 [.int .u8 t2000] :: ow) := hp
  refine ⟨_, rfl, ?_⟩
  clear hf; intro a hf
  refine st_not hf (by decide) rfl rfl ?_
  clear hf; intro a ha hf; clear ha
  refine st_nil hf ?_
  refine th_n ?_
  refine wp_if hf rfl (fun hb => ?_) (fun hb => ?_)
  · replace h := ifT h hb
    refine wp_seq ?_
    refine wp_reg ?_
    refine st_assign hf rfl rfl (by decide) ?_
    clear hf; intro a ha hf; clear ha
    refine st_assign hf rfl rfl (by decide) ?_
    clear hf; intro a ha hf; clear ha
    refine st_nil hf ?_
    refine th_n ?_
    refine wp_ret ?_
    refine th_r ?_
    obtain rfl := Option.some.inj h
    have hp := hp.nil (Ek.int .u8) 5
    exact ⟨rfl, ⟨_, hf.sub ⟨rfl, rfl, trivial⟩, hp⟩⟩
  replace h := ifF h hb
  refine wp_skip ?_
  refine th_n ?_
  refine wp_seq ?_
  refine wp_reg ?_
  refine st_move hf rfl rfl (by decide) ?_
  clear hf; intro a ha hf; clear ha
  refine st_len (E := (Ek.int .u8)) hf (by decide) Try.underlying22 rfl rfl (hqx0.sl hp) ?_
  clear hf; intro a ha hf; clear ha
  obtain ⟨hc5, h⟩ := chk h
  refine st_make (E := (Ek.int .u8)) hf (by decide) elt5 Try.underlying22 (by decide) hp rfl rfl rfl hc5.1 hc5.2.1 hc5.2.2 ?_
  clear hf; intro a w v6 hf hp0; clear hp; have hp := hp0; clear hp0
  replace hp : Hp _ _ _ (Res.sl (Ek.int .u8) 5 v6 (List.replicate ((qx0.length : Int)).toNat (0 : Int)) :: Res.obj 5 ot2000 [.int .u8 t2000] :: ow) := hp
  refine st_assign hf rfl rfl (by decide) ?_
  clear hf; intro a ha hf; clear ha
  refine st_nil hf ?_
  refine th_n ?_
  refine wp_seq ?_
  refine wp_seq ?_
  refine wp_reg ?_
  refine st_move hf rfl rfl (by decide) ?_
  clear hf; intro a ha hf; clear ha
  refine st_len (E := (Ek.int .u8)) hf (by decide) Try.underlying22 rfl rfl (hqx0.sl hp) ?_
  clear hf; intro a ha hf; clear ha
  refine st_move hf rfl rfl (by decide) ?_
  clear hf; intro a ha hf; clear ha
  refine st_nil hf ?_
  refine th_n ?_
  refine wp_block ?_
  obtain ⟨q19, hl, h⟩ := bnd h
  have hp : Hp _ _ _ (Res.obj 5 ot2000 [.int .u8 t2000] :: Res.sl (Ek.int .u8) 5 v6 (List.replicate ((qx0.length : Int)).toNat (0 : Int)) :: ow) := Hp.sel (pre := [Res.sl (Ek.int .u8) 5 v6 (List.replicate ((qx0.length : Int)).toNat (0 : Int)), Res.obj 5 ot2000 [.int .u8 t2000]]) (tail := ow) (rs' := [Res.obj 5 ot2000 [.int .u8 t2000], Res.sl (Ek.int .u8) 5 v6 (List.replicate ((qx0.length : Int)).toNat (0 : Int))]) hp [1, 0] (by decide) (by simp) rfl
  refine wp_loop_pure (f := (f_turns_each.s1 qx0)) (s := (t2000, (List.replicate ((qx0.length : Int)).toNat (0 : Int)), (0 : Int))) (fun s a w => ∃ (v9 : Value), Fr 31 a [(1, .func (.func 34) #[] #[optr ot2000 0]), (6, v9), (15, vqx0), (16, .int .i64 (qx0.length : Int)), (17, .int .i64 s.2.2)] ∧ Hp S w0 w (Res.obj 5 ot2000 [.int .u8 s.1] :: Res.sl (Ek.int .u8) 5 v9 s.2.1 :: ow)) (fun q e a w => e = .exit 0 ∧ ∃ (v12 : Value), Fr 31 a [(1, .func (.func 34) #[] #[optr ot2000 0]), (6, v12)] ∧ Hp S w0 w (Res.obj 5 ot2000 [.int .u8 q.1] :: Res.sl (Ek.int .u8) 5 v12 q.2 :: ow)) ?_ hl ⟨_, hf.sub ⟨rfl, rfl, rfl, rfl, rfl, trivial⟩, hp⟩ ?_
  · clear hl hf hp
    intro s x a w h hI
    obtain ⟨f1_0c, out6, t17⟩ := s
    obtain ⟨v9, hf, hp⟩ : ∃ (v9 : Value), Fr 31 a [(1, .func (.func 34) #[] #[optr ot2000 0]), (6, v9), (15, vqx0), (16, .int .i64 (qx0.length : Int)), (17, .int .i64 t17)] ∧ Hp S w0 w (Res.obj 5 ot2000 [.int .u8 f1_0c] :: Res.sl (Ek.int .u8) 5 v9 out6 :: ow) := hI
    replace h : f_turns_each.s1c qx0 f1_0c out6 t17 = some x := h
    unfold f_turns_each.s1c at h
    refine wp_seq ?_
    refine wp_reg ?_
    refine st_ilss hf (by decide) rfl rfl rfl ?_
    clear hf; intro a ha hf; clear ha
    refine st_nil hf ?_
    refine th_n ?_
    refine wp_seq ?_
    refine wp_if hf rfl (fun hb => ?_) (fun hb => ?_)
    · replace h := ifT h hb
      refine wp_skip ?_
      refine th_n ?_
      refine wp_seq ?_
      refine wp_block ?_
      refine wp_seq ?_
      refine wp_reg ?_
      refine st_move hf rfl rfl (by decide) ?_
      clear hf; intro a ha hf; clear ha
      obtain ⟨hc14, h⟩ := chk h
      refine st_index (E := (Ek.int .u8)) hf (by decide) Try.underlying22 elt5 rfl rfl rfl (hqx0.sl hp) hc14.1 hc14.2 ?_
      clear hf; intro a ha hf; clear ha
      refine st_ldI hf (by decide) pl5 rfl rfl (hqx0.sl hp) hc14.1 hc14.2 ?_
      clear hf; intro a ha hf; clear ha
      refine st_assign hf rfl rfl (by decide) ?_
      clear hf; intro a ha hf; clear ha
      refine st_assign hf rfl rfl (by decide) ?_
      clear hf; intro a ha hf; clear ha
      refine st_nil hf ?_
      refine th_n ?_
      refine wp_reg ?_
      refine st_move hf rfl rfl (by decide) ?_
      clear hf; intro a ha hf; clear ha
      refine st_move hf rfl rfl (by decide) ?_
      clear hf; intro a ha hf; clear ha
      refine st_move hf rfl rfl (by decide) ?_
      clear hf; intro a ha hf; clear ha
      refine st_move hf rfl rfl (by decide) ?_
      clear hf; intro a ha hf; clear ha
      obtain ⟨q15, hcall16, h⟩ := bnd h
      have hp17 : Hp _ _ _ (Res.obj 5 ot2000 [.int .u8 f1_0c] :: Res.sl (Ek.int .u8) 5 v9 out6 :: ow) := Hp.sel (pre := [Res.obj 5 ot2000 [.int .u8 f1_0c], Res.sl (Ek.int .u8) 5 v9 out6]) (tail := ow) (rs' := [Res.obj 5 ot2000 [.int .u8 f1_0c], Res.sl (Ek.int .u8) 5 v9 out6]) hp [0, 1] (by decide) (by simp) rfl
      refine st_call hf (by decide) Try.func34 rfl rfl rfl rfl rfl (f_turns_Into_1_c _ _ _ hp17 hcall16) ?_
      rintro _ w ⟨rfl, hp0⟩
      clear hp; have hp := hp0; clear hp0
      replace hp : Hp _ _ _ (Res.obj 5 ot2000 [.int .u8 q15.2] :: Res.sl (Ek.int .u8) 5 v9 out6 :: ow) := hp
      refine ⟨_, rfl, ?_⟩
      clear hf; intro a hf
      refine st_iand hf (by decide) rfl rfl rfl ?_
      clear hf; intro a ha hf; clear ha
      obtain ⟨hc18, h⟩ := chk h
      refine st_index (E := (Ek.int .u8)) hf (by decide) Try.underlying22 elt5 rfl rfl rfl (hp.sl (i := 1) rfl) hc18.1 hc18.2 ?_
      clear hf; intro a ha hf; clear ha
      refine st_store (E := (Ek.int .u8)) hf elt5 hp (i := 1) rfl rfl rfl rfl rfl hc18.1 hc18.2 ?_
      clear hf; intro a w hf hp0; clear hp; have hp := hp0; clear hp0
      replace hp : Hp _ _ _ (Res.obj 5 ot2000 [.int .u8 q15.2] :: Res.sl (Ek.int .u8) 5 v9 (out6.set (t17).toNat (iand .u8 q15.1 (3 : Int))) :: ow) := hp
      refine st_nil hf ?_
      refine ib_n ?_
      refine th_n ?_
      refine wp_reg ?_
      refine st_iadd hf (by decide) rfl rfl rfl ?_
      clear hf; intro a ha hf; clear ha
      refine st_move hf rfl rfl (by decide) ?_
      clear hf; intro a ha hf; clear ha
      refine st_nil hf ?_
      obtain rfl := Option.some.inj h
      exact rnd_l ⟨_, hf.sub ⟨rfl, rfl, rfl, rfl, rfl, trivial⟩, hp⟩
    replace h := ifF h hb
    refine wp_exit ?_
    refine th_e ?_
    obtain rfl := Option.some.inj h
    exact rnd_r (by simp) ⟨rfl, _, hf.sub ⟨rfl, rfl, trivial⟩, hp⟩
  clear hl hf hp
  intro e a w hne hO
  obtain ⟨rfl, v12, hf, hp⟩ := hO
  refine ib_same ?_
  refine th_n ?_
  refine wp_seq ?_
  refine wp_reg ?_
  refine st_move hf rfl rfl (by decide) ?_
  clear hf; intro a ha hf; clear ha
  refine st_assign hf rfl rfl (by decide) ?_
  clear hf; intro a ha hf; clear ha
  refine st_assign hf rfl rfl (by decide) ?_
  clear hf; intro a ha hf; clear ha
  refine st_nil hf ?_
  refine th_n ?_
  refine wp_ret ?_
  obtain rfl := Option.some.inj h
  have hp : Hp _ _ _ (Res.sl (Ek.int .u8) 5 v12 q19.2 :: Res.obj 5 ot2000 [.int .u8 q19.1] :: ow) := Hp.sel (pre := [Res.obj 5 ot2000 [.int .u8 q19.1], Res.sl (Ek.int .u8) 5 v12 q19.2]) (tail := ow) (rs' := [Res.sl (Ek.int .u8) 5 v12 q19.2, Res.obj 5 ot2000 [.int .u8 q19.1]]) hp [1, 0] (by decide) (by simp) rfl
  exact ⟨rfl, ⟨_, hf.sub ⟨rfl, rfl, trivial⟩, hp⟩⟩

noncomputable def f_turns_Into (qx0 : (List Int)) : Option ((List Int) × Int) := ((f_turns_each qx0 (0 : Int)).bind fun q3 => (some (q3.1, q3.2.1)))
theorem f_turns_Into_c {S : Nat → Prop} {w0 w : World} {ow : List Res} (hp : Hp S w0 w ow) (vqx0 : Value) (qx0 : (List Int)) (hqx0 : RdS (Ek.int .u8) S w0 vqx0 qx0) {r : ((List Int) × Int)} (h : f_turns_Into qx0 = some r) :
    Calls Try.prog 9 #[vqx0] w (fun e w' => ∃ (u0 : Value), e = .returned (.tuple #[u0, .int .i64 r.2]) ∧ Hp S w0 w' (Res.sl (Ek.int .u8) 5 u0 r.1 :: ow)) := by
  unfold f_turns_Into at h
  refine enter (n := 10) (args := [vqx0]) Try.func9 rfl rfl (Nat.le_of_ble_eq_true rfl) fun a hf => ?_
  replace hf : Fr 10 a [(0, vqx0)] := hf
  refine wp_mono (Q := fun e a w => e = .ret ∧ ∃ (u0 : Value), Fr 10 a [(2, u0), (3, .int .i64 r.2)] ∧ Hp S w0 w (Res.sl (Ek.int .u8) 5 u0 r.1 :: ow)) ?_ ?_
  rotate_left
  · rintro e a w ⟨rfl, x0, hf, hp⟩
    exact ret2 hf rfl rfl rfl ⟨x0, rfl, hp⟩
  refine wp_seq ?_
  refine wp_reg ?_
  refine st_assign hf rfl rfl (by decide) ?_
  clear hf; intro a ha hf; clear ha
  refine st_assign hf rfl rfl (by decide) ?_
  clear hf; intro a ha hf; clear ha
  refine st_nil hf ?_
  refine th_n ?_
  refine wp_seq ?_
  refine wp_reg ?_
  refine st_alloc (cs := [.int .u8 (0 : Int)]) (zv := .int .u8 (0 : Int)) hf (by decide) (by kernel_rfl) rfl hp rfl ?_
  clear hf; intro a w v1 hf hp0; clear hp; have hp := hp0; clear hp0
  replace hp : Hp _ _ _ (Res.obj 5 v1 [.int .u8 (0 : Int)] :: ow) := hp
  refine st_stO (us := [.int .u8 (0 : Int)]) hf hp (i := 0) rfl rfl rfl rfl rfl (by rfl) (by kernel_rfl) (Nat.le_of_ble_eq_true rfl) ?_
  clear hf; intro a w hf hp0; clear hp; have hp := hp0; clear hp0
  replace hp : Hp _ _ _ (Res.obj 5 v1 [.int .u8 (0 : Int)] :: ow) := hp
  refine st_nil hf ?_
  refine th_n ?_
  refine wp_seq ?_
  refine wp_reg ?_
  refine st_move hf rfl rfl (by decide) ?_
  clear hf; intro a ha hf; clear ha
  refine st_makeFunc1 hf (by decide) rfl rfl ?_
  clear hf; intro a ha hf; clear ha
  obtain ⟨q3, hcall4, h⟩ := bnd h
  have hp5 : Hp _ _ _ (Res.obj 5 v1 [.int .u8 (0 : Int)] :: ow) := Hp.sel (pre := [Res.obj 5 v1 [.int .u8 (0 : Int)]]) (tail := ow) (rs' := [Res.obj 5 v1 [.int .u8 (0 : Int)]]) hp [0] (by decide) (by simp) rfl
  refine st_call hf (by decide) Try.func33 rfl rfl rfl rfl rfl (f_turns_each_c _ _ hqx0 _ _ hp5 hcall4) ?_
  rintro _ w ⟨v6, rfl, hp0⟩
  clear hp; have hp := hp0; clear hp0
  replace hp : Hp _ _ _ (Res.sl (Ek.int .u8) 5 v6 q3.1 :: Res.obj 5 v1 [.int .u8 q3.2.2] :: ow) := hp
  refine ⟨_, rfl, ?_⟩
  clear hf; intro a hf
  refine st_extract hf (by decide) rfl rfl rfl ?_
  clear hf; intro a ha hf; clear ha
  refine st_extract hf (by decide) rfl rfl rfl ?_
  clear hf; intro a ha hf; clear ha
  refine st_assign hf rfl rfl (by decide) ?_
  clear hf; intro a ha hf; clear ha
  refine st_assign hf rfl rfl (by decide) ?_
  clear hf; intro a ha hf; clear ha
  refine st_nil hf ?_
  refine th_n ?_
  refine wp_ret ?_
  obtain rfl := Option.some.inj h
  have hp : Hp _ _ _ (Res.sl (Ek.int .u8) 5 v6 q3.1 :: ow) := Hp.sel (pre := [Res.sl (Ek.int .u8) 5 v6 q3.1, Res.obj 5 v1 [.int .u8 q3.2.2]]) (tail := ow) (rs' := [Res.sl (Ek.int .u8) 5 v6 q3.1]) hp [0] (by decide) (by simp) rfl
  exact ⟨rfl, ⟨_, hf.sub ⟨rfl, rfl, trivial⟩, hp⟩⟩

noncomputable def f_turns_Out_1 (n0 : Int) (t1 : Int) : Option (Int × Int) := (some ((IntKind.u8.wrap (n0 - t1)), n0))
theorem f_turns_Out_1_c {S : Nat → Prop} {w0 w : World} {ow : List Res} (n0 : Int) (t1 : Int) (ot1 : Value) (hp : Hp S w0 w (Res.obj 5 ot1 [.int .u8 t1] :: ow)) {r : (Int × Int)} (h : f_turns_Out_1 n0 t1 = some r) :
    Calls Try.prog 35 #[.int .u8 n0, optr ot1 0] w (fun e w' => e = .returned (.int .u8 r.1) ∧ Hp S w0 w' (Res.obj 5 ot1 [.int .u8 r.2] :: ow)) := by
  unfold f_turns_Out_1 at h
  refine enter (n := 10) (args := [.int .u8 n0, optr ot1 0]) Try.func35 rfl rfl (Nat.le_of_ble_eq_true rfl) fun a hf => ?_
  replace hf : Fr 10 a [(0, .int .u8 n0), (1, optr ot1 0)] := hf
  refine wp_mono (Q := fun e a w => e = .ret ∧ Fr 10 a [(3, .int .u8 r.1)] ∧ Hp S w0 w (Res.obj 5 ot1 [.int .u8 r.2] :: ow)) ?_ ?_
  rotate_left
  · rintro e a w ⟨rfl, hf, hp⟩
    exact ret1 hf rfl rfl ⟨rfl, hp⟩
  refine wp_seq ?_
  refine wp_reg ?_
  refine st_assign hf rfl rfl (by decide) ?_
  clear hf; intro a ha hf; clear ha
  refine st_nil hf ?_
  refine th_n ?_
  refine wp_seq ?_
  refine wp_reg ?_
  refine st_move hf rfl rfl (by decide) ?_
  clear hf; intro a ha hf; clear ha
  refine st_ldO (u := .int .u8 t1) hf (by decide) pl5 rfl rfl (hp.ob (i := 0) rfl) rfl ?_
  clear hf; intro a ha hf; clear ha
  refine st_isub hf (by decide) rfl rfl rfl ?_
  clear hf; intro a ha hf; clear ha
  refine st_assign hf rfl rfl (by decide) ?_
  clear hf; intro a ha hf; clear ha
  refine st_nil hf ?_
  refine th_n ?_
  refine wp_seq ?_
  refine wp_reg ?_
  refine st_move hf rfl rfl (by decide) ?_
  clear hf; intro a ha hf; clear ha
  refine st_stO (us := [.int .u8 n0]) hf hp (i := 0) rfl rfl rfl rfl rfl (by rfl) (by kernel_rfl) (Nat.le_of_ble_eq_true rfl) ?_
  clear hf; intro a w hf hp0; clear hp; have hp := hp0; clear hp0
  replace hp : Hp _ _ _ (Res.obj 5 ot1 [.int .u8 n0] :: ow) := hp
  refine st_nil hf ?_
  refine th_n ?_
  refine wp_seq ?_
  refine wp_reg ?_
  refine st_move hf rfl rfl (by decide) ?_
  clear hf; intro a ha hf; clear ha
  refine st_assign hf rfl rfl (by decide) ?_
  clear hf; intro a ha hf; clear ha
  refine st_nil hf ?_
  refine th_n ?_
  refine wp_ret ?_
  obtain rfl := Option.some.inj h
  exact ⟨rfl, ⟨hf.sub ⟨rfl, trivial⟩, hp⟩⟩

noncomputable def f_turns_each_33.s1c (qx0 : (List Int)) (f1_0c : Int) (out6 : (List Int)) (t17 : Int) : Option ((Int × (List Int) × Int) ⊕ (Int × (List Int))) := (if (decide (t17 < (qx0.length : Int))) = true then (if 0 ≤ t17 ∧ t17 < (qx0.length : Int) then ((f_turns_Out_1 (gt qx0 t17) f1_0c).bind fun q15 => (if 0 ≤ t17 ∧ t17 < (out6.length : Int) then (some (Sum.inl (q15.2, (out6.set (t17).toNat (iand .u8 q15.1 (3 : Int))), (IntKind.i64.wrap (t17 + (1 : Int)))))) else none)) else none) else (some (Sum.inr (f1_0c, out6))))
noncomputable def f_turns_each_33.s1 (qx0 : (List Int)) (s : (Int × (List Int) × Int)) : Option ((Int × (List Int) × Int) ⊕ (Int × (List Int))) := f_turns_each_33.s1c qx0 s.1 s.2.1 s.2.2
noncomputable def f_turns_each_33 (qx0 : (List Int)) (t2000 : Int) : Option ((List Int) × Int × Int) := ((f_turns_row qx0).bind fun q2 => (if (!q2) = true then (some ([], (1 : Int), t2000)) else (if 0 ≤ (qx0.length : Int) ∧ (qx0.length : Int) ≤ (qx0.length : Int) ∧ (qx0.length : Int) * 1 ≤ 281474976710656 then ((loop (f_turns_each_33.s1 qx0) (t2000, (List.replicate ((qx0.length : Int)).toNat (0 : Int)), (0 : Int))).bind (fun q19 => (some (q19.2, (0 : Int), q19.1)))) else none)))
theorem f_turns_each_33_c {S : Nat → Prop} {w0 w : World} {ow : List Res} (vqx0 : Value) (qx0 : (List Int)) (hqx0 : RdS (Ek.int .u8) S w0 vqx0 qx0) (t2000 : Int) (ot2000 : Value) (hp : Hp S w0 w (Res.obj 5 ot2000 [.int .u8 t2000] :: ow)) {r : ((List Int) × Int × Int)} (h : f_turns_each_33 qx0 t2000 = some r) :
    Calls Try.prog 33 #[vqx0, .func (.func 35) #[] #[optr ot2000 0]] w (fun e w' => ∃ (u0 : Value), e = .returned (.tuple #[u0, .int .i64 r.2.1]) ∧ Hp S w0 w' (Res.sl (Ek.int .u8) 5 u0 r.1 :: Res.obj 5 ot2000 [.int .u8 r.2.2] :: ow)) := by
  unfold f_turns_each_33 at h
  refine enter (n := 31) (args := [vqx0, .func (.func 35) #[] #[optr ot2000 0]]) Try.func33 rfl rfl (Nat.le_of_ble_eq_true rfl) fun a hf => ?_
  replace hf : Fr 31 a [(0, vqx0), (1, .func (.func 35) #[] #[optr ot2000 0])] := hf
  refine wp_mono (Q := fun e a w => e = .ret ∧ ∃ (u0 : Value), Fr 31 a [(4, u0), (5, .int .i64 r.2.1)] ∧ Hp S w0 w (Res.sl (Ek.int .u8) 5 u0 r.1 :: Res.obj 5 ot2000 [.int .u8 r.2.2] :: ow)) ?_ ?_
  rotate_left
  · rintro e a w ⟨rfl, x0, hf, hp⟩
    exact ret2 hf rfl rfl rfl ⟨x0, rfl, hp⟩
  refine wp_seq ?_
  refine wp_reg ?_
  refine st_assign hf rfl rfl (by decide) ?_
  clear hf; intro a ha hf; clear ha
  refine st_assign hf rfl rfl (by decide) ?_
  clear hf; intro a ha hf; clear ha
  refine st_nil hf ?_
  refine th_n ?_
  refine wp_seq ?_
  refine wp_seq ?_
  refine wp_reg ?_
  refine st_move hf rfl rfl (by decide) ?_
  clear hf; intro a ha hf; clear ha
  obtain ⟨q2, hcall3, h⟩ := bnd h
  refine st_call hf (by decide) Try.func36 rfl rfl rfl rfl rfl (f_turns_row_c hp _ _ hqx0 hcall3) ?_
  rintro _ w ⟨rfl, hp0⟩
  clear hp; have hp := hp0; clear hp0
  replace hp : Hp _ _ _ (Res.obj 5 ot2000 [.int .u8 t2000] :: ow) := hp
  refine ⟨_, rfl, ?_⟩
  clear hf; intro a hf
  refine st_not hf (by decide) rfl rfl ?_
  clear hf; intro a ha hf; clear ha
  refine st_nil hf ?_
  refine th_n ?_
  refine wp_if hf rfl (fun hb => ?_) (fun hb => ?_)
  · replace h := ifT h hb
    refine wp_seq ?_
    refine wp_reg ?_
    refine st_assign hf rfl rfl (by decide) ?_
    clear hf; intro a ha hf; clear ha
    refine st_assign hf rfl rfl (by decide) ?_
    clear hf; intro a ha hf; clear ha
    refine st_nil hf ?_
    refine th_n ?_
    refine wp_ret ?_
    refine th_r ?_
    obtain rfl := Option.some.inj h
    have hp := hp.nil (Ek.int .u8) 5
    exact ⟨rfl, ⟨_, hf.sub ⟨rfl, rfl, trivial⟩, hp⟩⟩
  replace h := ifF h hb
  refine wp_skip ?_
  refine th_n ?_
  refine wp_seq ?_
  refine wp_reg ?_
  refine st_move hf rfl rfl (by decide) ?_
  clear hf; intro a ha hf; clear ha
  refine st_len (E := (Ek.int .u8)) hf (by decide) Try.underlying22 rfl rfl (hqx0.sl hp) ?_
  clear hf; intro a ha hf; clear ha
  obtain ⟨hc5, h⟩ := chk h
  refine st_make (E := (Ek.int .u8)) hf (by decide) elt5 Try.underlying22 (by decide) hp rfl rfl rfl hc5.1 hc5.2.1 hc5.2.2 ?_
  clear hf; intro a w v6 hf hp0; clear hp; have hp := hp0; clear hp0
  replace hp : Hp _ _ _ (Res.sl (Ek.int .u8) 5 v6 (List.replicate ((qx0.length : Int)).toNat (0 : Int)) :: Res.obj 5 ot2000 [.int .u8 t2000] :: ow) := hp
  refine st_assign hf rfl rfl (by decide) ?_
  clear hf; intro a ha hf; clear ha
  refine st_nil hf ?_
  refine th_n ?_
  refine wp_seq ?_
  refine wp_seq ?_
  refine wp_reg ?_
  refine st_move hf rfl rfl (by decide) ?_
  clear hf; intro a ha hf; clear ha
  refine st_len (E := (Ek.int .u8)) hf (by decide) Try.underlying22 rfl rfl (hqx0.sl hp) ?_
  clear hf; intro a ha hf; clear ha
  refine st_move hf rfl rfl (by decide) ?_
  clear hf; intro a ha hf; clear ha
  refine st_nil hf ?_
  refine th_n ?_
  refine wp_block ?_
  obtain ⟨q19, hl, h⟩ := bnd h
  have hp : Hp _ _ _ (Res.obj 5 ot2000 [.int .u8 t2000] :: Res.sl (Ek.int .u8) 5 v6 (List.replicate ((qx0.length : Int)).toNat (0 : Int)) :: ow) := Hp.sel (pre := [Res.sl (Ek.int .u8) 5 v6 (List.replicate ((qx0.length : Int)).toNat (0 : Int)), Res.obj 5 ot2000 [.int .u8 t2000]]) (tail := ow) (rs' := [Res.obj 5 ot2000 [.int .u8 t2000], Res.sl (Ek.int .u8) 5 v6 (List.replicate ((qx0.length : Int)).toNat (0 : Int))]) hp [1, 0] (by decide) (by simp) rfl
  refine wp_loop_pure (f := (f_turns_each_33.s1 qx0)) (s := (t2000, (List.replicate ((qx0.length : Int)).toNat (0 : Int)), (0 : Int))) (fun s a w => ∃ (v9 : Value), Fr 31 a [(1, .func (.func 35) #[] #[optr ot2000 0]), (6, v9), (15, vqx0), (16, .int .i64 (qx0.length : Int)), (17, .int .i64 s.2.2)] ∧ Hp S w0 w (Res.obj 5 ot2000 [.int .u8 s.1] :: Res.sl (Ek.int .u8) 5 v9 s.2.1 :: ow)) (fun q e a w => e = .exit 0 ∧ ∃ (v12 : Value), Fr 31 a [(1, .func (.func 35) #[] #[optr ot2000 0]), (6, v12)] ∧ Hp S w0 w (Res.obj 5 ot2000 [.int .u8 q.1] :: Res.sl (Ek.int .u8) 5 v12 q.2 :: ow)) ?_ hl ⟨_, hf.sub ⟨rfl, rfl, rfl, rfl, rfl, trivial⟩, hp⟩ ?_
  · clear hl hf hp
    intro s x a w h hI
    obtain ⟨f1_0c, out6, t17⟩ := s
    obtain ⟨v9, hf, hp⟩ : ∃ (v9 : Value), Fr 31 a [(1, .func (.func 35) #[] #[optr ot2000 0]), (6, v9), (15, vqx0), (16, .int .i64 (qx0.length : Int)), (17, .int .i64 t17)] ∧ Hp S w0 w (Res.obj 5 ot2000 [.int .u8 f1_0c] :: Res.sl (Ek.int .u8) 5 v9 out6 :: ow) := hI
    replace h : f_turns_each_33.s1c qx0 f1_0c out6 t17 = some x := h
    unfold f_turns_each_33.s1c at h
    refine wp_seq ?_
    refine wp_reg ?_
    refine st_ilss hf (by decide) rfl rfl rfl ?_
    clear hf; intro a ha hf; clear ha
    refine st_nil hf ?_
    refine th_n ?_
    refine wp_seq ?_
    refine wp_if hf rfl (fun hb => ?_) (fun hb => ?_)
    · replace h := ifT h hb
      refine wp_skip ?_
      refine th_n ?_
      refine wp_seq ?_
      refine wp_block ?_
      refine wp_seq ?_
      refine wp_reg ?_
      refine st_move hf rfl rfl (by decide) ?_
      clear hf; intro a ha hf; clear ha
      obtain ⟨hc14, h⟩ := chk h
      refine st_index (E := (Ek.int .u8)) hf (by decide) Try.underlying22 elt5 rfl rfl rfl (hqx0.sl hp) hc14.1 hc14.2 ?_
      clear hf; intro a ha hf; clear ha
      refine st_ldI hf (by decide) pl5 rfl rfl (hqx0.sl hp) hc14.1 hc14.2 ?_
      clear hf; intro a ha hf; clear ha
      refine st_assign hf rfl rfl (by decide) ?_
      clear hf; intro a ha hf; clear ha
      refine st_assign hf rfl rfl (by decide) ?_
      clear hf; intro a ha hf; clear ha
      refine st_nil hf ?_
      refine th_n ?_
      refine wp_reg ?_
      refine st_move hf rfl rfl (by decide) ?_
      clear hf; intro a ha hf; clear ha
      refine st_move hf rfl rfl (by decide) ?_
      clear hf; intro a ha hf; clear ha
      refine st_move hf rfl rfl (by decide) ?_
      clear hf; intro a ha hf; clear ha
      refine st_move hf rfl rfl (by decide) ?_
      clear hf; intro a ha hf; clear ha
      obtain ⟨q15, hcall16, h⟩ := bnd h
      have hp17 : Hp _ _ _ (Res.obj 5 ot2000 [.int .u8 f1_0c] :: Res.sl (Ek.int .u8) 5 v9 out6 :: ow) := Hp.sel (pre := [Res.obj 5 ot2000 [.int .u8 f1_0c], Res.sl (Ek.int .u8) 5 v9 out6]) (tail := ow) (rs' := [Res.obj 5 ot2000 [.int .u8 f1_0c], Res.sl (Ek.int .u8) 5 v9 out6]) hp [0, 1] (by decide) (by simp) rfl
      refine st_call hf (by decide) Try.func35 rfl rfl rfl rfl rfl (f_turns_Out_1_c _ _ _ hp17 hcall16) ?_
      rintro _ w ⟨rfl, hp0⟩
      clear hp; have hp := hp0; clear hp0
      replace hp : Hp _ _ _ (Res.obj 5 ot2000 [.int .u8 q15.2] :: Res.sl (Ek.int .u8) 5 v9 out6 :: ow) := hp
      refine ⟨_, rfl, ?_⟩
      clear hf; intro a hf
      refine st_iand hf (by decide) rfl rfl rfl ?_
      clear hf; intro a ha hf; clear ha
      obtain ⟨hc18, h⟩ := chk h
      refine st_index (E := (Ek.int .u8)) hf (by decide) Try.underlying22 elt5 rfl rfl rfl (hp.sl (i := 1) rfl) hc18.1 hc18.2 ?_
      clear hf; intro a ha hf; clear ha
      refine st_store (E := (Ek.int .u8)) hf elt5 hp (i := 1) rfl rfl rfl rfl rfl hc18.1 hc18.2 ?_
      clear hf; intro a w hf hp0; clear hp; have hp := hp0; clear hp0
      replace hp : Hp _ _ _ (Res.obj 5 ot2000 [.int .u8 q15.2] :: Res.sl (Ek.int .u8) 5 v9 (out6.set (t17).toNat (iand .u8 q15.1 (3 : Int))) :: ow) := hp
      refine st_nil hf ?_
      refine ib_n ?_
      refine th_n ?_
      refine wp_reg ?_
      refine st_iadd hf (by decide) rfl rfl rfl ?_
      clear hf; intro a ha hf; clear ha
      refine st_move hf rfl rfl (by decide) ?_
      clear hf; intro a ha hf; clear ha
      refine st_nil hf ?_
      obtain rfl := Option.some.inj h
      exact rnd_l ⟨_, hf.sub ⟨rfl, rfl, rfl, rfl, rfl, trivial⟩, hp⟩
    replace h := ifF h hb
    refine wp_exit ?_
    refine th_e ?_
    obtain rfl := Option.some.inj h
    exact rnd_r (by simp) ⟨rfl, _, hf.sub ⟨rfl, rfl, trivial⟩, hp⟩
  clear hl hf hp
  intro e a w hne hO
  obtain ⟨rfl, v12, hf, hp⟩ := hO
  refine ib_same ?_
  refine th_n ?_
  refine wp_seq ?_
  refine wp_reg ?_
  refine st_move hf rfl rfl (by decide) ?_
  clear hf; intro a ha hf; clear ha
  refine st_assign hf rfl rfl (by decide) ?_
  clear hf; intro a ha hf; clear ha
  refine st_assign hf rfl rfl (by decide) ?_
  clear hf; intro a ha hf; clear ha
  refine st_nil hf ?_
  refine th_n ?_
  refine wp_ret ?_
  obtain rfl := Option.some.inj h
  have hp : Hp _ _ _ (Res.sl (Ek.int .u8) 5 v12 q19.2 :: Res.obj 5 ot2000 [.int .u8 q19.1] :: ow) := Hp.sel (pre := [Res.obj 5 ot2000 [.int .u8 q19.1], Res.sl (Ek.int .u8) 5 v12 q19.2]) (tail := ow) (rs' := [Res.sl (Ek.int .u8) 5 v12 q19.2, Res.obj 5 ot2000 [.int .u8 q19.1]]) hp [1, 0] (by decide) (by simp) rfl
  exact ⟨rfl, ⟨_, hf.sub ⟨rfl, rfl, trivial⟩, hp⟩⟩

noncomputable def f_turns_Out (p0 : (List Int)) : Option ((List Int) × Int) := ((f_turns_each_33 p0 (0 : Int)).bind fun q3 => (some (q3.1, q3.2.1)))
theorem f_turns_Out_c {S : Nat → Prop} {w0 w : World} {ow : List Res} (hp : Hp S w0 w ow) (vp0 : Value) (p0 : (List Int)) (hp0 : RdS (Ek.int .u8) S w0 vp0 p0) {r : ((List Int) × Int)} (h : f_turns_Out p0 = some r) :
    Calls Try.prog 10 #[vp0] w (fun e w' => ∃ (u0 : Value), e = .returned (.tuple #[u0, .int .i64 r.2]) ∧ Hp S w0 w' (Res.sl (Ek.int .u8) 5 u0 r.1 :: ow)) := by
  unfold f_turns_Out at h
  refine enter (n := 10) (args := [vp0]) Try.func10 rfl rfl (Nat.le_of_ble_eq_true rfl) fun a hf => ?_
  replace hf : Fr 10 a [(0, vp0)] := hf
  refine wp_mono (Q := fun e a w => e = .ret ∧ ∃ (u0 : Value), Fr 10 a [(2, u0), (3, .int .i64 r.2)] ∧ Hp S w0 w (Res.sl (Ek.int .u8) 5 u0 r.1 :: ow)) ?_ ?_
  rotate_left
  · rintro e a w ⟨rfl, x0, hf, hp⟩
    exact ret2 hf rfl rfl rfl ⟨x0, rfl, hp⟩
  refine wp_seq ?_
  refine wp_reg ?_
  refine st_assign hf rfl rfl (by decide) ?_
  clear hf; intro a ha hf; clear ha
  refine st_assign hf rfl rfl (by decide) ?_
  clear hf; intro a ha hf; clear ha
  refine st_nil hf ?_
  refine th_n ?_
  refine wp_seq ?_
  refine wp_reg ?_
  refine st_alloc (cs := [.int .u8 (0 : Int)]) (zv := .int .u8 (0 : Int)) hf (by decide) (by kernel_rfl) rfl hp rfl ?_
  clear hf; intro a w v1 hf hp0; clear hp; have hp := hp0; clear hp0
  replace hp : Hp _ _ _ (Res.obj 5 v1 [.int .u8 (0 : Int)] :: ow) := hp
  refine st_stO (us := [.int .u8 (0 : Int)]) hf hp (i := 0) rfl rfl rfl rfl rfl (by rfl) (by kernel_rfl) (Nat.le_of_ble_eq_true rfl) ?_
  clear hf; intro a w hf hp0; clear hp; have hp := hp0; clear hp0
  replace hp : Hp _ _ _ (Res.obj 5 v1 [.int .u8 (0 : Int)] :: ow) := hp
  refine st_nil hf ?_
  refine th_n ?_
  refine wp_seq ?_
  refine wp_reg ?_
  refine st_move hf rfl rfl (by decide) ?_
  clear hf; intro a ha hf; clear ha
  refine st_makeFunc1 hf (by decide) rfl rfl ?_
  clear hf; intro a ha hf; clear ha
  obtain ⟨q3, hcall4, h⟩ := bnd h
  have hp5 : Hp _ _ _ (Res.obj 5 v1 [.int .u8 (0 : Int)] :: ow) := Hp.sel (pre := [Res.obj 5 v1 [.int .u8 (0 : Int)]]) (tail := ow) (rs' := [Res.obj 5 v1 [.int .u8 (0 : Int)]]) hp [0] (by decide) (by simp) rfl
  refine st_call hf (by decide) Try.func33 rfl rfl rfl rfl rfl (f_turns_each_33_c _ _ hp0 _ _ hp5 hcall4) ?_
  rintro _ w ⟨v6, rfl, hp0⟩
  clear hp; have hp := hp0; clear hp0
  replace hp : Hp _ _ _ (Res.sl (Ek.int .u8) 5 v6 q3.1 :: Res.obj 5 v1 [.int .u8 q3.2.2] :: ow) := hp
  refine ⟨_, rfl, ?_⟩
  clear hf; intro a hf
  refine st_extract hf (by decide) rfl rfl rfl ?_
  clear hf; intro a ha hf; clear ha
  refine st_extract hf (by decide) rfl rfl rfl ?_
  clear hf; intro a ha hf; clear ha
  refine st_assign hf rfl rfl (by decide) ?_
  clear hf; intro a ha hf; clear ha
  refine st_assign hf rfl rfl (by decide) ?_
  clear hf; intro a ha hf; clear ha
  refine st_nil hf ?_
  refine th_n ?_
  refine wp_ret ?_
  obtain rfl := Option.some.inj h
  have hp : Hp _ _ _ (Res.sl (Ek.int .u8) 5 v6 q3.1 :: ow) := Hp.sel (pre := [Res.sl (Ek.int .u8) 5 v6 q3.1, Res.obj 5 v1 [.int .u8 q3.2.2]]) (tail := ow) (rs' := [Res.sl (Ek.int .u8) 5 v6 q3.1]) hp [0] (by decide) (by simp) rfl
  exact ⟨rfl, ⟨_, hf.sub ⟨rfl, rfl, trivial⟩, hp⟩⟩

noncomputable def f_foghornlaw06_awake  : Option Bool := ((f_turns_Into ([(1 : Int), (1 : Int), (3 : Int), (2 : Int)])).bind fun q3 => ((f_turns_Out ([(1 : Int), (2 : Int), (1 : Int), (3 : Int)])).bind fun q14 => ((if ((q3.2 == (0 : Int)) && (q14.2 == (0 : Int))) = true then ((f_foghornlaw06_quarters q3.1 ([(1 : Int), (2 : Int), (1 : Int), (3 : Int)])).bind fun q30 => (some q30)) else (some false)).bind fun z27 => ((if z27 = true then ((f_foghornlaw06_quarters q14.1 ([(1 : Int), (1 : Int), (3 : Int), (2 : Int)])).bind fun q47 => (some q47)) else (some false)).bind fun z44 => (some z44)))))
theorem f_foghornlaw06_awake_c {S : Nat → Prop} {w0 w : World} {ow : List Res} (hp : Hp S w0 w ow) {r : Bool} (h : f_foghornlaw06_awake = some r) :
    Calls Try.prog 14 #[] w (fun e w' => e = .returned (.bool r) ∧ Hp S w0 w' (ow)) := by
  unfold f_foghornlaw06_awake at h
  refine enter (n := 31) (args := []) Try.func14 rfl rfl (Nat.le_of_ble_eq_true rfl) fun a hf => ?_
  replace hf : Fr 31 a [] := hf
  refine wp_mono (Q := fun e a w => e = .ret ∧ Fr 31 a [(0, .bool r)] ∧ Hp S w0 w (ow)) ?_ ?_
  rotate_left
  · rintro e a w ⟨rfl, hf, hp⟩
    exact ret1 hf rfl rfl ⟨rfl, hp⟩
  refine wp_seq ?_
  refine wp_reg ?_
  refine st_assign hf rfl rfl (by decide) ?_
  clear hf; intro a ha hf; clear ha
  refine st_nil hf ?_
  refine th_n ?_
  refine wp_seq ?_
  refine wp_reg ?_
  refine st_build (E := (Ek.int .u8)) (xs := [(1 : Int), (1 : Int), (3 : Int), (2 : Int)]) hf (by decide) elt5 Try.underlying22 hp (vals := #[(0, .int .u8 (1 : Int)), (1, .int .u8 (1 : Int)), (2, .int .u8 (3 : Int)), (3, .int .u8 (2 : Int))]) (cells := #[.int .u8 (1 : Int), .int .u8 (1 : Int), .int .u8 (3 : Int), .int .u8 (2 : Int)]) rfl (by simp [hf.ev (x := (Operand.const (.int .u8 (1 : Int)))) rfl, hf.ev (x := (Operand.const (.int .u8 (1 : Int)))) rfl, hf.ev (x := (Operand.const (.int .u8 (3 : Int)))) rfl, hf.ev (x := (Operand.const (.int .u8 (2 : Int)))) rfl]) (by decide) (by decide) (z := .int .u8 0) (by kernel_rfl) (by kernel_rfl) rfl (reps_cons (cs := [.int .u8 (1 : Int)]) rfl (reps_cons (cs := [.int .u8 (1 : Int)]) rfl (reps_cons (cs := [.int .u8 (3 : Int)]) rfl (reps_cons (cs := [.int .u8 (2 : Int)]) rfl (reps_nil _))))) ?_
  clear hf; intro a w v1 hf hp0; clear hp; have hp := hp0; clear hp0
  replace hp : Hp _ _ _ (Res.sl (Ek.int .u8) 5 v1 ([(1 : Int), (1 : Int), (3 : Int), (2 : Int)]) :: ow) := hp
  obtain ⟨q3, hcall4, h⟩ := bnd h
  obtain ⟨S5, hp6, rd7, up8, bk9⟩ := Hp.lendS hp (i := 0) rfl
  refine st_call hf (by decide) Try.func9 rfl rfl rfl rfl rfl (f_turns_Into_c hp6 _ _ rd7 hcall4) ?_
  rintro _ w ⟨v10, rfl, hp0⟩
  have hp0 := bk9 _ _ hp0
  clear hp; have hp := hp0; clear hp0
  replace hp : Hp _ _ _ (Res.sl (Ek.int .u8) 5 v1 ([(1 : Int), (1 : Int), (3 : Int), (2 : Int)]) :: Res.sl (Ek.int .u8) 5 v10 q3.1 :: ow) := hp
  refine ⟨_, rfl, ?_⟩
  clear hf; intro a hf
  refine st_move hf rfl rfl (by decide) ?_
  clear hf; intro a ha hf; clear ha
  refine st_extract hf (by decide) rfl rfl rfl ?_
  clear hf; intro a ha hf; clear ha
  refine st_extract hf (by decide) rfl rfl rfl ?_
  clear hf; intro a ha hf; clear ha
  refine st_assign hf rfl rfl (by decide) ?_
  clear hf; intro a ha hf; clear ha
  refine st_assign hf rfl rfl (by decide) ?_
  clear hf; intro a ha hf; clear ha
  refine st_nil hf ?_
  refine th_n ?_
  refine wp_seq ?_
  refine wp_reg ?_
  refine st_build (E := (Ek.int .u8)) (xs := [(1 : Int), (2 : Int), (1 : Int), (3 : Int)]) hf (by decide) elt5 Try.underlying22 hp (vals := #[(0, .int .u8 (1 : Int)), (1, .int .u8 (2 : Int)), (2, .int .u8 (1 : Int)), (3, .int .u8 (3 : Int))]) (cells := #[.int .u8 (1 : Int), .int .u8 (2 : Int), .int .u8 (1 : Int), .int .u8 (3 : Int)]) rfl (by simp [hf.ev (x := (Operand.const (.int .u8 (1 : Int)))) rfl, hf.ev (x := (Operand.const (.int .u8 (2 : Int)))) rfl, hf.ev (x := (Operand.const (.int .u8 (1 : Int)))) rfl, hf.ev (x := (Operand.const (.int .u8 (3 : Int)))) rfl]) (by decide) (by decide) (z := .int .u8 0) (by kernel_rfl) (by kernel_rfl) rfl (reps_cons (cs := [.int .u8 (1 : Int)]) rfl (reps_cons (cs := [.int .u8 (2 : Int)]) rfl (reps_cons (cs := [.int .u8 (1 : Int)]) rfl (reps_cons (cs := [.int .u8 (3 : Int)]) rfl (reps_nil _))))) ?_
  clear hf; intro a w v12 hf hp0; clear hp; have hp := hp0; clear hp0
  replace hp : Hp _ _ _ (Res.sl (Ek.int .u8) 5 v12 ([(1 : Int), (2 : Int), (1 : Int), (3 : Int)]) :: Res.sl (Ek.int .u8) 5 v1 ([(1 : Int), (1 : Int), (3 : Int), (2 : Int)]) :: Res.sl (Ek.int .u8) 5 v10 q3.1 :: ow) := hp
  obtain ⟨q14, hcall15, h⟩ := bnd h
  obtain ⟨S16, hp17, rd18, up19, bk20⟩ := Hp.lendS hp (i := 0) rfl
  refine st_call hf (by decide) Try.func10 rfl rfl rfl rfl rfl (f_turns_Out_c hp17 _ _ rd18 hcall15) ?_
  rintro _ w ⟨v21, rfl, hp0⟩
  have hp0 := bk20 _ _ hp0
  clear hp; have hp := hp0; clear hp0
  replace hp : Hp _ _ _ (Res.sl (Ek.int .u8) 5 v12 ([(1 : Int), (2 : Int), (1 : Int), (3 : Int)]) :: Res.sl (Ek.int .u8) 5 v21 q14.1 :: Res.sl (Ek.int .u8) 5 v1 ([(1 : Int), (1 : Int), (3 : Int), (2 : Int)]) :: Res.sl (Ek.int .u8) 5 v10 q3.1 :: ow) := hp
  refine ⟨_, rfl, ?_⟩
  clear hf; intro a hf
  refine st_move hf rfl rfl (by decide) ?_
  clear hf; intro a ha hf; clear ha
  refine st_extract hf (by decide) rfl rfl rfl ?_
  clear hf; intro a ha hf; clear ha
  refine st_extract hf (by decide) rfl rfl rfl ?_
  clear hf; intro a ha hf; clear ha
  refine st_assign hf rfl rfl (by decide) ?_
  clear hf; intro a ha hf; clear ha
  refine st_assign hf rfl rfl (by decide) ?_
  clear hf; intro a ha hf; clear ha
  refine st_nil hf ?_
  refine th_n ?_
  refine wp_seq ?_
  refine wp_reg ?_
  refine st_move hf rfl rfl (by decide) ?_
  clear hf; intro a ha hf; clear ha
  refine st_ieql hf (by decide) rfl rfl rfl ?_
  clear hf; intro a ha hf; clear ha
  refine st_move hf rfl rfl (by decide) ?_
  clear hf; intro a ha hf; clear ha
  refine wpList_cut 3 (fun a w => Fr 31 a [(1, v10), (3, v21), (20, .bool ((q3.2 == (0 : Int)) && (q14.2 == (0 : Int))))] ∧ Hp S w0 w (Res.sl (Ek.int .u8) 5 v12 ([(1 : Int), (2 : Int), (1 : Int), (3 : Int)]) :: Res.sl (Ek.int .u8) 5 v21 q14.1 :: Res.sl (Ek.int .u8) 5 v1 ([(1 : Int), (1 : Int), (3 : Int), (2 : Int)]) :: Res.sl (Ek.int .u8) 5 v10 q3.1 :: ow)) ?_ ?_
  · rcases Bool.eq_false_or_eq_true (q3.2 == (0 : Int)) with hb24 | hb24
    · skip
      refine st_move hf (wantY hf rfl rfl hb24) rfl (by decide) ?_
      clear hf; intro a ha hf; clear ha
      refine st_ieql hf (by decide) (wantY hf rfl rfl hb24) rfl rfl ?_
      clear hf; intro a ha hf; clear ha
      refine st_pick (v := .bool (q14.2 == (0 : Int))) hf rfl rfl (fun hb' => ?_) (fun hb' => ?_) (by decide) ?_
      · rfl
      · exact absurd (hb24.symm.trans hb') (by decide)
      clear hf; intro a ha hf; clear ha
      refine st_nil hf (th_n ?_)
      exact ⟨hf.sub ⟨rfl, rfl, (by rw [hb24]; rfl), trivial⟩, hp⟩
    refine st_skip hf (wantN hf rfl rfl hb24) rfl (by decide) ?_ rfl
    clear hf; intro a hf
    refine st_skip hf (wantN hf rfl rfl hb24) rfl (by decide) ?_ rfl
    clear hf; intro a hf
    refine st_pick (v := .bool false) hf rfl rfl (fun hb' => ?_) (fun hb' => ?_) (by decide) ?_
    · exact absurd (hb24.symm.trans hb') (by decide)
    · rfl
    clear hf; intro a ha hf; clear ha
    refine st_nil hf (th_n ?_)
    exact ⟨hf.sub ⟨rfl, rfl, (by rw [hb24]; rfl), trivial⟩, hp⟩
  rintro a w ⟨hf, hp⟩
  refine st_move hf rfl rfl (by decide) ?_
  clear hf; intro a ha hf; clear ha
  obtain ⟨z27, hz25, h⟩ := bnd h
  refine wpList_cut 4 (fun a w => Fr 31 a [(3, v21), (25, .bool z27)] ∧ Hp S w0 w (Res.sl (Ek.int .u8) 5 v12 ([(1 : Int), (2 : Int), (1 : Int), (3 : Int)]) :: Res.sl (Ek.int .u8) 5 v21 q14.1 :: Res.sl (Ek.int .u8) 5 v1 ([(1 : Int), (1 : Int), (3 : Int), (2 : Int)]) :: Res.sl (Ek.int .u8) 5 v10 q3.1 :: ow)) ?_ ?_
  · rcases Bool.eq_false_or_eq_true ((q3.2 == (0 : Int)) && (q14.2 == (0 : Int))) with hb26 | hb26
    · skip
      replace hz25 := ifT hz25 hb26
      refine st_move hf (wantY hf rfl rfl hb26) rfl (by decide) ?_
      clear hf; intro a ha hf; clear ha
      refine st_build (E := (Ek.int .u8)) (xs := [(1 : Int), (2 : Int), (1 : Int), (3 : Int)]) hf (by decide) elt5 Try.underlying22 hp (vals := #[(0, .int .u8 (1 : Int)), (1, .int .u8 (2 : Int)), (2, .int .u8 (1 : Int)), (3, .int .u8 (3 : Int))]) (cells := #[.int .u8 (1 : Int), .int .u8 (2 : Int), .int .u8 (1 : Int), .int .u8 (3 : Int)]) (wantY hf rfl rfl hb26) (by simp [hf.ev (x := (Operand.const (.int .u8 (1 : Int)))) rfl, hf.ev (x := (Operand.const (.int .u8 (2 : Int)))) rfl, hf.ev (x := (Operand.const (.int .u8 (1 : Int)))) rfl, hf.ev (x := (Operand.const (.int .u8 (3 : Int)))) rfl]) (by decide) (by decide) (z := .int .u8 0) (by kernel_rfl) (by kernel_rfl) rfl (reps_cons (cs := [.int .u8 (1 : Int)]) rfl (reps_cons (cs := [.int .u8 (2 : Int)]) rfl (reps_cons (cs := [.int .u8 (1 : Int)]) rfl (reps_cons (cs := [.int .u8 (3 : Int)]) rfl (reps_nil _))))) ?_
      clear hf; intro a w v28 hf hp0; clear hp; have hp := hp0; clear hp0
      replace hp : Hp _ _ _ (Res.sl (Ek.int .u8) 5 v28 ([(1 : Int), (2 : Int), (1 : Int), (3 : Int)]) :: Res.sl (Ek.int .u8) 5 v12 ([(1 : Int), (2 : Int), (1 : Int), (3 : Int)]) :: Res.sl (Ek.int .u8) 5 v21 q14.1 :: Res.sl (Ek.int .u8) 5 v1 ([(1 : Int), (1 : Int), (3 : Int), (2 : Int)]) :: Res.sl (Ek.int .u8) 5 v10 q3.1 :: ow) := hp
      obtain ⟨q30, hcall31, hz25⟩ := bnd hz25
      obtain ⟨S32, hp33, rd34, up35, bk36⟩ := Hp.lendS hp (i := 4) rfl
      obtain ⟨S37, hp38, rd39, up40, bk41⟩ := Hp.lendS hp33 (i := 0) rfl
      refine st_call hf (by decide) Try.func13 rfl rfl (wantY hf rfl rfl hb26) rfl rfl (f_foghornlaw06_quarters_c hp38 _ _ ((rd34.now hp33).mono up40) _ _ rd39 hcall31) ?_
      rintro _ w ⟨rfl, hp0⟩
      have hp0 := bk41 _ _ hp0
      have hp0 := bk36 _ _ hp0
      clear hp; have hp := hp0; clear hp0
      replace hp : Hp _ _ _ (Res.sl (Ek.int .u8) 5 v10 q3.1 :: Res.sl (Ek.int .u8) 5 v28 ([(1 : Int), (2 : Int), (1 : Int), (3 : Int)]) :: Res.sl (Ek.int .u8) 5 v12 ([(1 : Int), (2 : Int), (1 : Int), (3 : Int)]) :: Res.sl (Ek.int .u8) 5 v21 q14.1 :: Res.sl (Ek.int .u8) 5 v1 ([(1 : Int), (1 : Int), (3 : Int), (2 : Int)]) :: ow) := hp
      refine ⟨_, rfl, ?_⟩
      clear hf; intro a hf
      obtain rfl := Option.some.inj hz25
      refine st_pick (v := .bool q30) hf rfl rfl (fun hb' => ?_) (fun hb' => ?_) (by decide) ?_
      · rfl
      · exact absurd (hb26.symm.trans hb') (by decide)
      clear hf; intro a ha hf; clear ha
      refine st_nil hf (th_n ?_)
      have hp : Hp _ _ _ (Res.sl (Ek.int .u8) 5 v12 ([(1 : Int), (2 : Int), (1 : Int), (3 : Int)]) :: Res.sl (Ek.int .u8) 5 v21 q14.1 :: Res.sl (Ek.int .u8) 5 v1 ([(1 : Int), (1 : Int), (3 : Int), (2 : Int)]) :: Res.sl (Ek.int .u8) 5 v10 q3.1 :: ow) := Hp.sel (pre := [Res.sl (Ek.int .u8) 5 v10 q3.1, Res.sl (Ek.int .u8) 5 v28 ([(1 : Int), (2 : Int), (1 : Int), (3 : Int)]), Res.sl (Ek.int .u8) 5 v12 ([(1 : Int), (2 : Int), (1 : Int), (3 : Int)]), Res.sl (Ek.int .u8) 5 v21 q14.1, Res.sl (Ek.int .u8) 5 v1 ([(1 : Int), (1 : Int), (3 : Int), (2 : Int)])]) (tail := ow) (rs' := [Res.sl (Ek.int .u8) 5 v12 ([(1 : Int), (2 : Int), (1 : Int), (3 : Int)]), Res.sl (Ek.int .u8) 5 v21 q14.1, Res.sl (Ek.int .u8) 5 v1 ([(1 : Int), (1 : Int), (3 : Int), (2 : Int)]), Res.sl (Ek.int .u8) 5 v10 q3.1]) hp [2, 3, 4, 0] (by decide) (by simp) rfl
      exact ⟨hf.sub ⟨rfl, rfl, trivial⟩, hp⟩
    replace hz25 := ifF hz25 hb26
    refine st_skip hf (wantN hf rfl rfl hb26) rfl (by decide) ?_ rfl
    clear hf; intro a hf
    refine st_skip hf (wantN hf rfl rfl hb26) rfl (by decide) ?_ rfl
    clear hf; intro a hf
    refine st_skip hf (wantN hf rfl rfl hb26) rfl (by decide) ?_ rfl
    clear hf; intro a hf
    obtain rfl := Option.some.inj hz25
    refine st_pick (v := .bool false) hf rfl rfl (fun hb' => ?_) (fun hb' => ?_) (by decide) ?_
    · exact absurd (hb26.symm.trans hb') (by decide)
    · rfl
    clear hf; intro a ha hf; clear ha
    refine st_nil hf (th_n ?_)
    exact ⟨hf.sub ⟨rfl, rfl, trivial⟩, hp⟩
  rintro a w ⟨hf, hp⟩
  refine st_move hf rfl rfl (by decide) ?_
  clear hf; intro a ha hf; clear ha
  obtain ⟨z44, hz42, h⟩ := bnd h
  refine wpList_cut 4 (fun a w => Fr 31 a [(30, .bool z44)] ∧ Hp S w0 w (Res.sl (Ek.int .u8) 5 v12 ([(1 : Int), (2 : Int), (1 : Int), (3 : Int)]) :: Res.sl (Ek.int .u8) 5 v21 q14.1 :: Res.sl (Ek.int .u8) 5 v1 ([(1 : Int), (1 : Int), (3 : Int), (2 : Int)]) :: Res.sl (Ek.int .u8) 5 v10 q3.1 :: ow)) ?_ ?_
  · rcases Bool.eq_false_or_eq_true z27 with hb43 | hb43
    · skip
      replace hz42 := ifT hz42 hb43
      refine st_move hf (wantY hf rfl rfl hb43) rfl (by decide) ?_
      clear hf; intro a ha hf; clear ha
      refine st_build (E := (Ek.int .u8)) (xs := [(1 : Int), (1 : Int), (3 : Int), (2 : Int)]) hf (by decide) elt5 Try.underlying22 hp (vals := #[(0, .int .u8 (1 : Int)), (1, .int .u8 (1 : Int)), (2, .int .u8 (3 : Int)), (3, .int .u8 (2 : Int))]) (cells := #[.int .u8 (1 : Int), .int .u8 (1 : Int), .int .u8 (3 : Int), .int .u8 (2 : Int)]) (wantY hf rfl rfl hb43) (by simp [hf.ev (x := (Operand.const (.int .u8 (1 : Int)))) rfl, hf.ev (x := (Operand.const (.int .u8 (1 : Int)))) rfl, hf.ev (x := (Operand.const (.int .u8 (3 : Int)))) rfl, hf.ev (x := (Operand.const (.int .u8 (2 : Int)))) rfl]) (by decide) (by decide) (z := .int .u8 0) (by kernel_rfl) (by kernel_rfl) rfl (reps_cons (cs := [.int .u8 (1 : Int)]) rfl (reps_cons (cs := [.int .u8 (1 : Int)]) rfl (reps_cons (cs := [.int .u8 (3 : Int)]) rfl (reps_cons (cs := [.int .u8 (2 : Int)]) rfl (reps_nil _))))) ?_
      clear hf; intro a w v45 hf hp0; clear hp; have hp := hp0; clear hp0
      replace hp : Hp _ _ _ (Res.sl (Ek.int .u8) 5 v45 ([(1 : Int), (1 : Int), (3 : Int), (2 : Int)]) :: Res.sl (Ek.int .u8) 5 v12 ([(1 : Int), (2 : Int), (1 : Int), (3 : Int)]) :: Res.sl (Ek.int .u8) 5 v21 q14.1 :: Res.sl (Ek.int .u8) 5 v1 ([(1 : Int), (1 : Int), (3 : Int), (2 : Int)]) :: Res.sl (Ek.int .u8) 5 v10 q3.1 :: ow) := hp
      obtain ⟨q47, hcall48, hz42⟩ := bnd hz42
      obtain ⟨S49, hp50, rd51, up52, bk53⟩ := Hp.lendS hp (i := 2) rfl
      obtain ⟨S54, hp55, rd56, up57, bk58⟩ := Hp.lendS hp50 (i := 0) rfl
      refine st_call hf (by decide) Try.func13 rfl rfl (wantY hf rfl rfl hb43) rfl rfl (f_foghornlaw06_quarters_c hp55 _ _ ((rd51.now hp50).mono up57) _ _ rd56 hcall48) ?_
      rintro _ w ⟨rfl, hp0⟩
      have hp0 := bk58 _ _ hp0
      have hp0 := bk53 _ _ hp0
      clear hp; have hp := hp0; clear hp0
      replace hp : Hp _ _ _ (Res.sl (Ek.int .u8) 5 v21 q14.1 :: Res.sl (Ek.int .u8) 5 v45 ([(1 : Int), (1 : Int), (3 : Int), (2 : Int)]) :: Res.sl (Ek.int .u8) 5 v12 ([(1 : Int), (2 : Int), (1 : Int), (3 : Int)]) :: Res.sl (Ek.int .u8) 5 v1 ([(1 : Int), (1 : Int), (3 : Int), (2 : Int)]) :: Res.sl (Ek.int .u8) 5 v10 q3.1 :: ow) := hp
      refine ⟨_, rfl, ?_⟩
      clear hf; intro a hf
      obtain rfl := Option.some.inj hz42
      refine st_pick (v := .bool q47) hf rfl rfl (fun hb' => ?_) (fun hb' => ?_) (by decide) ?_
      · rfl
      · exact absurd (hb43.symm.trans hb') (by decide)
      clear hf; intro a ha hf; clear ha
      refine st_nil hf (th_n ?_)
      have hp : Hp _ _ _ (Res.sl (Ek.int .u8) 5 v12 ([(1 : Int), (2 : Int), (1 : Int), (3 : Int)]) :: Res.sl (Ek.int .u8) 5 v21 q14.1 :: Res.sl (Ek.int .u8) 5 v1 ([(1 : Int), (1 : Int), (3 : Int), (2 : Int)]) :: Res.sl (Ek.int .u8) 5 v10 q3.1 :: ow) := Hp.sel (pre := [Res.sl (Ek.int .u8) 5 v21 q14.1, Res.sl (Ek.int .u8) 5 v45 ([(1 : Int), (1 : Int), (3 : Int), (2 : Int)]), Res.sl (Ek.int .u8) 5 v12 ([(1 : Int), (2 : Int), (1 : Int), (3 : Int)]), Res.sl (Ek.int .u8) 5 v1 ([(1 : Int), (1 : Int), (3 : Int), (2 : Int)]), Res.sl (Ek.int .u8) 5 v10 q3.1]) (tail := ow) (rs' := [Res.sl (Ek.int .u8) 5 v12 ([(1 : Int), (2 : Int), (1 : Int), (3 : Int)]), Res.sl (Ek.int .u8) 5 v21 q14.1, Res.sl (Ek.int .u8) 5 v1 ([(1 : Int), (1 : Int), (3 : Int), (2 : Int)]), Res.sl (Ek.int .u8) 5 v10 q3.1]) hp [2, 0, 3, 4] (by decide) (by simp) rfl
      exact ⟨hf.sub ⟨rfl, trivial⟩, hp⟩
    replace hz42 := ifF hz42 hb43
    refine st_skip hf (wantN hf rfl rfl hb43) rfl (by decide) ?_ rfl
    clear hf; intro a hf
    refine st_skip hf (wantN hf rfl rfl hb43) rfl (by decide) ?_ rfl
    clear hf; intro a hf
    refine st_skip hf (wantN hf rfl rfl hb43) rfl (by decide) ?_ rfl
    clear hf; intro a hf
    obtain rfl := Option.some.inj hz42
    refine st_pick (v := .bool false) hf rfl rfl (fun hb' => ?_) (fun hb' => ?_) (by decide) ?_
    · exact absurd (hb43.symm.trans hb') (by decide)
    · rfl
    clear hf; intro a ha hf; clear ha
    refine st_nil hf (th_n ?_)
    exact ⟨hf.sub ⟨rfl, trivial⟩, hp⟩
  rintro a w ⟨hf, hp⟩
  refine st_assign hf rfl rfl (by decide) ?_
  clear hf; intro a ha hf; clear ha
  refine st_nil hf ?_
  refine th_n ?_
  refine wp_ret ?_
  obtain rfl := Option.some.inj h
  have hp : Hp _ _ _ (ow) := Hp.sel (pre := [Res.sl (Ek.int .u8) 5 v12 ([(1 : Int), (2 : Int), (1 : Int), (3 : Int)]), Res.sl (Ek.int .u8) 5 v21 q14.1, Res.sl (Ek.int .u8) 5 v1 ([(1 : Int), (1 : Int), (3 : Int), (2 : Int)]), Res.sl (Ek.int .u8) 5 v10 q3.1]) (tail := ow) (rs' := []) hp [] (by decide) (by simp) rfl
  exact ⟨rfl, ⟨hf.sub ⟨rfl, trivial⟩, hp⟩⟩

noncomputable def f_foghornlaw06_TurnsPoints.s1c (q3 : (List ((Fl × Fl) × Bool))) (i15 : Int) : Option (Int ⊕ (Unit ⊕ Bool)) := (if (decide (i15 < (q3.length : Int))) = true then (if 0 ≤ i15 ∧ i15 < (((([] : List ((Fl × Fl) × Bool)) ++ q3) ++ [((Fl.bits 0, Fl.bits 4619567317775286272), false)]).length : Int) then (if 0 ≤ i15 ∧ i15 < (q3.length : Int) then ((if (((gt ((([] : List ((Fl × Fl) × Bool)) ++ q3) ++ [((Fl.bits 0, Fl.bits 4619567317775286272), false)]) i15).2) != ((gt q3 i15).2)) = true then (some true) else (if 0 ≤ i15 ∧ i15 < (((([] : List ((Fl × Fl) × Bool)) ++ q3) ++ [((Fl.bits 0, Fl.bits 4619567317775286272), false)]).length : Int) then (if 0 ≤ i15 ∧ i15 < (q3.length : Int) then ((f_foghornref03_Same ((gt ((([] : List ((Fl × Fl) × Bool)) ++ q3) ++ [((Fl.bits 0, Fl.bits 4619567317775286272), false)]) i15).1) ((gt q3 i15).1) true).bind fun q156 => (some (!q156))) else none) else none)).bind fun z158 => (if z158 = true then (some (Sum.inr (Sum.inr false))) else (if 0 ≤ i15 ∧ i15 < (q3.length : Int) then ((f_turns_Near ((gt q3 i15).1)).bind fun q164 => (if 0 ≤ i15 ∧ i15 < (q3.length : Int) then ((f_foghornref06_Near ((gt q3 i15).1)).bind fun q171 => (if ((q164.1 != q171.1) || (q164.2 != q171.2)) = true then (some (Sum.inr (Sum.inr false))) else (some (Sum.inl (IntKind.i64.wrap (i15 + (1 : Int))))))) else none)) else none))) else none) else none) else (some (Sum.inr (Sum.inl ()))))
noncomputable def f_foghornlaw06_TurnsPoints.s1 (q3 : (List ((Fl × Fl) × Bool))) (s : Int) : Option (Int ⊕ (Unit ⊕ Bool)) := f_foghornlaw06_TurnsPoints.s1c q3 s
noncomputable def f_foghornlaw06_TurnsPoints.s2c (q215 : ((List (Fl × Fl)) × Int)) (t21 : (List (Fl × Fl))) (i23 : Int) : Option (((List (Fl × Fl)) × Int) ⊕ (Unit ⊕ Bool)) := (if (decide (i23 < (t21.length : Int))) = true then (if 0 ≤ i23 ∧ i23 < (t21.length : Int) then (if 0 ≤ i23 ∧ i23 < (q215.1.length : Int) then ((f_foghornref03_Same (gt t21 i23) (gt q215.1 i23) true).bind fun q278 => (if (!q278) = true then (some (Sum.inr (Sum.inr false))) else (if 0 ≤ i23 ∧ i23 < (t21.length : Int) then (some (Sum.inl ((t21.set (i23).toNat (Fl.bits 0, Fl.bits 4613937818241073152)), (IntKind.i64.wrap (i23 + (1 : Int)))))) else none))) else none) else none) else (some (Sum.inr (Sum.inl ()))))
noncomputable def f_foghornlaw06_TurnsPoints.s2 (q215 : ((List (Fl × Fl)) × Int)) (s : ((List (Fl × Fl)) × Int)) : Option (((List (Fl × Fl)) × Int) ⊕ (Unit ⊕ Bool)) := f_foghornlaw06_TurnsPoints.s2c q215 s.1 s.2
noncomputable def f_foghornlaw06_TurnsPoints (xx0_P : (List Int)) (xx0_Size : Fl) (xx0_L : (List (Fl × Fl × Bool))) (xx0_A : (List (Fl × Fl))) (xx0_B : (List (Fl × Fl))) (xx0_N : Int) : Option Bool := ((f_foghornlaw06_samples xx0_L).bind fun q3 => ((f_foghornlaw06_many xx0_A).bind fun q7 => ((f_foghornlaw06_many xx0_B).bind fun q11 => (if (([] : List Int).length + xx0_P.length) * 1 ≤ 140737488355328 then ((f_turns_Points (([] : List Int) ++ xx0_P) xx0_Size).bind fun q29 => ((f_foghornref06_Points xx0_P xx0_Size).bind fun q38 => ((if (q29.2 != q38.2) = true then (some true) else ((f_foghornref03_SameRow q29.1 q38.1).bind fun q45 => (some (!q45)))).bind fun z44 => (if z44 = true then (some false) else (if (([] : List ((Fl × Fl) × Bool)).length + q3.length) * 24 ≤ 140737488355328 then (if ((([] : List ((Fl × Fl) × Bool)) ++ q3).length + ([((Fl.bits 0, Fl.bits 4619567317775286272), false)]).length) * 24 ≤ 140737488355328 then (if 0 ≤ (q3.length : Int) ∧ (q3.length : Int) ≤ (((([] : List ((Fl × Fl) × Bool)) ++ q3) ++ [((Fl.bits 0, Fl.bits 4619567317775286272), false)]).length : Int) then ((f_turns_Row ((((([] : List ((Fl × Fl) × Bool)) ++ q3) ++ [((Fl.bits 0, Fl.bits 4619567317775286272), false)]).drop 0).take (((q3.length : Int)).toNat - 0))).bind fun q68 => ((f_foghornref06_Row q3).bind fun q79 => ((if (q68.2.2 != q79.2.2) = true then (some true) else ((f_foghornlaw06_quarters q68.1 q79.1).bind fun q93 => (some (!q93)))).bind fun z92 => ((if z92 = true then (some true) else ((f_foghornlaw06_truths q68.2.1 q79.2.1).bind fun q108 => (some (!q108)))).bind fun z107 => ((if z107 = true then (some true) else (if 0 ≤ (q3.length : Int) ∧ (q3.length : Int) < (((([] : List ((Fl × Fl) × Bool)) ++ q3) ++ [((Fl.bits 0, Fl.bits 4619567317775286272), false)]).length : Int) then (some (!ceq ((gt ((([] : List ((Fl × Fl) × Bool)) ++ q3) ++ [((Fl.bits 0, Fl.bits 4619567317775286272), false)]) (q3.length : Int)).1) (Fl.bits 0, Fl.bits 4619567317775286272))) else none)).bind fun z122 => (if z122 = true then (some false) else ((loop (f_foghornlaw06_TurnsPoints.s1 q3) (0 : Int)).bind (fun q175 => sm q175 (fun q176 => (if (([] : List (Fl × Fl)).length + q7.length) * 16 ≤ 140737488355328 then (if ((([] : List (Fl × Fl)) ++ q7).length + ([(Fl.bits 0, Fl.bits 4621256167635550208)]).length) * 16 ≤ 140737488355328 then (if 0 ≤ (q7.length : Int) ∧ (q7.length : Int) ≤ (((([] : List (Fl × Fl)) ++ q7) ++ [(Fl.bits 0, Fl.bits 4621256167635550208)]).length : Int) then ((f_turns_Whole ((((([] : List (Fl × Fl)) ++ q7) ++ [(Fl.bits 0, Fl.bits 4621256167635550208)]).drop 0).take (((q7.length : Int)).toNat - 0)) xx0_N).bind fun q211 => ((f_foghornref06_Whole q7 xx0_N).bind fun q215 => ((if ((q211.2 != q215.2) || ((q211.1.length : Int) != (q215.1.length : Int))) = true then (some true) else (if 0 ≤ (q7.length : Int) ∧ (q7.length : Int) ≤ (((([] : List (Fl × Fl)) ++ q7) ++ [(Fl.bits 0, Fl.bits 4621256167635550208)]).length : Int) then ((f_foghornref03_SameRow ((((([] : List (Fl × Fl)) ++ q7) ++ [(Fl.bits 0, Fl.bits 4621256167635550208)]).drop 0).take (((q7.length : Int)).toNat - 0)) q7).bind fun q232 => (some (!q232))) else none)).bind fun z228 => ((if z228 = true then (some true) else (if 0 ≤ (q7.length : Int) ∧ (q7.length : Int) < (((([] : List (Fl × Fl)) ++ q7) ++ [(Fl.bits 0, Fl.bits 4621256167635550208)]).length : Int) then (some (!ceq (gt ((([] : List (Fl × Fl)) ++ q7) ++ [(Fl.bits 0, Fl.bits 4621256167635550208)]) (q7.length : Int)) (Fl.bits 0, Fl.bits 4621256167635550208))) else none)).bind fun z246 => (if z246 = true then (some false) else ((loop (f_foghornlaw06_TurnsPoints.s2 q215) (q211.1, (0 : Int))).bind (fun q281 => sm q281 (fun q282 => (if 0 ≤ (q7.length : Int) ∧ (q7.length : Int) ≤ (((([] : List (Fl × Fl)) ++ q7) ++ [(Fl.bits 0, Fl.bits 4621256167635550208)]).length : Int) then (if (([] : List (Fl × Fl)).length + q11.length) * 16 ≤ 140737488355328 then ((f_turns_Found ((((([] : List (Fl × Fl)) ++ q7) ++ [(Fl.bits 0, Fl.bits 4621256167635550208)]).drop 0).take (((q7.length : Int)).toNat - 0)) (([] : List (Fl × Fl)) ++ q11)).bind fun q303 => ((f_foghornref06_Found q7 q11).bind fun q310 => ((if ((q303.1 == q310.1) && (q303.2 == q310.2)) = true then ((f_foghornlaw06_awake).bind fun q327 => (some q327)) else (some false)).bind fun z326 => (some z326)))) else none) else none)) (fun q283 => (some q283))))))))) else none) else none) else none)) (fun q177 => (some q177)))))))))) else none) else none) else none))))) else none))))
theorem f_foghornlaw06_TurnsPoints_c {S : Nat → Prop} {w0 w : World} {ow : List Res} (hp : Hp S w0 w ow) (vxx0_P : Value) (xx0_P : (List Int)) (hxx0_P : RdS (Ek.int .u8) S w0 vxx0_P xx0_P) (bxx0_Size : Nat) (xx0_Size : Fl) (hxx0_Size : xx0_Size.rep bxx0_Size) (vxx0_L : Value) (xx0_L : (List (Fl × Fl × Bool))) (hxx0_L : RdS (Ek.pair Ek.f64 (Ek.pair Ek.f64 Ek.bool)) S w0 vxx0_L xx0_L) (vxx0_A : Value) (xx0_A : (List (Fl × Fl))) (hxx0_A : RdS (Ek.pair Ek.f64 Ek.f64) S w0 vxx0_A xx0_A) (vxx0_B : Value) (xx0_B : (List (Fl × Fl))) (hxx0_B : RdS (Ek.pair Ek.f64 Ek.f64) S w0 vxx0_B xx0_B) (xx0_N : Int) {r : Bool} (h : f_foghornlaw06_TurnsPoints xx0_P xx0_Size xx0_L xx0_A xx0_B xx0_N = some r) :
    Calls Try.prog 5 #[.agg #[vxx0_P, .float .f64 bxx0_Size, vxx0_L, vxx0_A, vxx0_B, .int .i64 xx0_N]] w (fun e w' => e = .returned (.bool r) ∧ Hp S w0 w' (ow)) := by
  unfold f_foghornlaw06_TurnsPoints at h
  refine enter (n := 260) (args := [.agg #[vxx0_P, .float .f64 bxx0_Size, vxx0_L, vxx0_A, vxx0_B, .int .i64 xx0_N]]) Try.func5 rfl rfl (Nat.le_of_ble_eq_true rfl) fun a hf => ?_
  replace hf : Fr 260 a [(0, .agg #[vxx0_P, .float .f64 bxx0_Size, vxx0_L, vxx0_A, vxx0_B, .int .i64 xx0_N])] := hf
  refine wp_mono (Q := fun e a w => e = .ret ∧ Fr 260 a [(2, .bool r)] ∧ Hp S w0 w (ow)) ?_ ?_
  rotate_left
  · rintro e a w ⟨rfl, hf, hp⟩
    exact ret1 hf rfl rfl ⟨rfl, hp⟩
  refine wp_seq ?_
  refine wp_reg ?_
  refine st_boxO (cs := [vxx0_P, .float .f64 bxx0_Size, vxx0_L, vxx0_A, vxx0_B, .int .i64 xx0_N]) hf (by decide) hp rfl rfl rfl ?_
  clear hf; intro a w v1 hf hp0; clear hp; have hp := hp0; clear hp0
  replace hp : Hp _ _ _ (Res.obj 41 v1 [vxx0_P, .float .f64 bxx0_Size, vxx0_L, vxx0_A, vxx0_B, .int .i64 xx0_N] :: ow) := hp
  refine st_assign hf rfl rfl (by decide) ?_
  clear hf; intro a ha hf; clear ha
  refine st_nil hf ?_
  refine th_n ?_
  refine wp_seq ?_
  refine wp_reg ?_
  refine st_fa (o' := 2) hf (by decide) (off := 2) (sz := 1) (by kernel_rfl) (by decide) rfl rfl (hp.ob (i := 0) rfl) rfl ?_
  clear hf; intro a ha hf; clear ha
  refine st_ldO (u := vxx0_L) hf (by decide) pl38 rfl rfl (hp.ob (i := 0) rfl) rfl ?_
  clear hf; intro a ha hf; clear ha
  obtain ⟨q3, hcall4, h⟩ := bnd h
  refine st_call hf (by decide) Try.func18 rfl rfl rfl rfl rfl (f_foghornlaw06_samples_c hp _ _ hxx0_L hcall4) ?_
  rintro _ w ⟨v5, rfl, hp0⟩
  clear hp; have hp := hp0; clear hp0
  replace hp : Hp _ _ _ (Res.sl (Ek.pair Ek.c128 Ek.bool) 51 v5 q3 :: Res.obj 41 v1 [vxx0_P, .float .f64 bxx0_Size, vxx0_L, vxx0_A, vxx0_B, .int .i64 xx0_N] :: ow) := hp
  refine ⟨_, rfl, ?_⟩
  clear hf; intro a hf
  refine st_assign hf rfl rfl (by decide) ?_
  clear hf; intro a ha hf; clear ha
  refine st_nil hf ?_
  refine th_n ?_
  refine wp_seq ?_
  refine wp_reg ?_
  refine st_fa (o' := 3) hf (by decide) (off := 3) (sz := 1) (by kernel_rfl) (by decide) rfl rfl (hp.ob (i := 1) rfl) rfl ?_
  clear hf; intro a ha hf; clear ha
  refine st_ldO (u := vxx0_A) hf (by decide) pl39 rfl rfl (hp.ob (i := 1) rfl) rfl ?_
  clear hf; intro a ha hf; clear ha
  obtain ⟨q7, hcall8, h⟩ := bnd h
  refine st_call hf (by decide) Try.func19 rfl rfl rfl rfl rfl (f_foghornlaw06_many_c hp _ _ hxx0_A hcall8) ?_
  rintro _ w ⟨v9, rfl, hp0⟩
  clear hp; have hp := hp0; clear hp0
  replace hp : Hp _ _ _ (Res.sl Ek.c128 49 v9 q7 :: Res.sl (Ek.pair Ek.c128 Ek.bool) 51 v5 q3 :: Res.obj 41 v1 [vxx0_P, .float .f64 bxx0_Size, vxx0_L, vxx0_A, vxx0_B, .int .i64 xx0_N] :: ow) := hp
  refine ⟨_, rfl, ?_⟩
  clear hf; intro a hf
  refine st_assign hf rfl rfl (by decide) ?_
  clear hf; intro a ha hf; clear ha
  refine st_nil hf ?_
  refine th_n ?_
  refine wp_seq ?_
  refine wp_reg ?_
  refine st_fa (o' := 4) hf (by decide) (off := 4) (sz := 1) (by kernel_rfl) (by decide) rfl rfl (hp.ob (i := 2) rfl) rfl ?_
  clear hf; intro a ha hf; clear ha
  refine st_ldO (u := vxx0_B) hf (by decide) pl39 rfl rfl (hp.ob (i := 2) rfl) rfl ?_
  clear hf; intro a ha hf; clear ha
  obtain ⟨q11, hcall12, h⟩ := bnd h
  refine st_call hf (by decide) Try.func19 rfl rfl rfl rfl rfl (f_foghornlaw06_many_c hp _ _ hxx0_B hcall12) ?_
  rintro _ w ⟨v13, rfl, hp0⟩
  clear hp; have hp := hp0; clear hp0
  replace hp : Hp _ _ _ (Res.sl Ek.c128 49 v13 q11 :: Res.sl Ek.c128 49 v9 q7 :: Res.sl (Ek.pair Ek.c128 Ek.bool) 51 v5 q3 :: Res.obj 41 v1 [vxx0_P, .float .f64 bxx0_Size, vxx0_L, vxx0_A, vxx0_B, .int .i64 xx0_N] :: ow) := hp
  refine ⟨_, rfl, ?_⟩
  clear hf; intro a hf
  refine st_assign hf rfl rfl (by decide) ?_
  clear hf; intro a ha hf; clear ha
  refine st_nil hf ?_
  refine th_n ?_
  refine wp_seq ?_
  obtain ⟨S15, hp16, rd17, up18, bk19⟩ := Hp.lendO hp (i := 3) rfl
  have rl20 := ((hxx0_P.now hp).mono up18)
  have rl21 := ((hxx0_L.now hp).mono up18)
  have rl22 := ((hxx0_A.now hp).mono up18)
  have rl23 := ((hxx0_B.now hp).mono up18)
  have rl24 := rd17
  obtain ⟨hc27, h⟩ := chk h
  obtain ⟨q29, hcall30, h⟩ := bnd h
  refine wp_cutN (fun a w => ∃ (v28 : Value) (v36 : Value), Fr 260 a [(1, optr v1 0), (3, v5), (4, v9), (5, v13), (6, v36), (7, .int .i64 q29.2)] ∧ Hp S w0 w (Res.obj 41 v1 [vxx0_P, .float .f64 bxx0_Size, vxx0_L, vxx0_A, vxx0_B, .int .i64 xx0_N] :: Res.sl (Ek.int .u8) 5 v28 (([] : List Int) ++ xx0_P) :: Res.sl Ek.c128 49 v36 q29.1 :: Res.sl Ek.c128 49 v13 q11 :: Res.sl Ek.c128 49 v9 q7 :: Res.sl (Ek.pair Ek.c128 Ek.bool) 51 v5 q3 :: ow)) ?_ ?_
  · have hp := hp16.same (Same.drew w)
    refine dr_begin' (fun a w => ∃ (v28 : Value) (v36 : Value), Fr 260 a [(1, optr v1 0), (3, v5), (4, v9), (5, v13), (6, v36), (7, .int .i64 q29.2)] ∧ Hp S w0 w (Res.obj 41 v1 [vxx0_P, .float .f64 bxx0_Size, vxx0_L, vxx0_A, vxx0_B, .int .i64 xx0_N] :: Res.sl (Ek.int .u8) 5 v28 (([] : List Int) ++ xx0_P) :: Res.sl Ek.c128 49 v36 q29.1 :: Res.sl Ek.c128 49 v13 q11 :: Res.sl Ek.c128 49 v9 q7 :: Res.sl (Ek.pair Ek.c128 Ek.bool) 51 v5 q3 :: ow)) (fun w' => ∃ l, Hp S15 w w' l) [] (by kernel_rfl) ?_
    refine dr_take 1 (optr v1 0) rfl (by kernel_rfl) (by kernel_rfl) (by kernel_rfl) (by kernel_rfl) rfl rfl hf (by decide) rfl (fun w hp => ?_) ⟨_, hp⟩ ?_
    · obtain ⟨_, hp⟩ := hp
      refine st_fa (o' := 0) hf (by decide) (off := 0) (sz := 1) (by kernel_rfl) (by decide) rfl rfl (rl24.ob hp) rfl ?_
      clear hf; intro a ha hf
      exact st_nil hf (th_n ⟨ha, rfl⟩)
    clear hf; intro a hf
    refine dr_take 2 (vxx0_P) rfl (by kernel_rfl) (by kernel_rfl) (by kernel_rfl) (by kernel_rfl) rfl rfl hf (by decide) rfl (fun w hp => ?_) ⟨_, hp⟩ ?_
    · obtain ⟨_, hp⟩ := hp
      refine st_ldO (u := vxx0_P) hf (by decide) pl22 rfl rfl (rl24.ob hp) rfl ?_
      clear hf; intro a ha hf
      exact st_nil hf (th_n ⟨ha, rfl⟩)
    clear hf; intro a hf
    refine dr_take 4 (optr v1 1) rfl (by kernel_rfl) (by kernel_rfl) (by kernel_rfl) (by kernel_rfl) rfl rfl hf (by decide) rfl (fun w hp => ?_) ⟨_, hp⟩ ?_
    · obtain ⟨_, hp⟩ := hp
      refine st_fa (o' := 1) hf (by decide) (off := 1) (sz := 1) (by kernel_rfl) (by decide) rfl rfl (rl24.ob hp) rfl ?_
      clear hf; intro a ha hf
      exact st_nil hf (th_n ⟨ha, rfl⟩)
    clear hf; intro a hf
    refine dr_take 5 (.float .f64 bxx0_Size) rfl (by kernel_rfl) (by kernel_rfl) (by kernel_rfl) (by kernel_rfl) rfl rfl hf (by decide) rfl (fun w hp => ?_) ⟨_, hp⟩ ?_
    · obtain ⟨_, hp⟩ := hp
      refine st_ldO (u := .float .f64 bxx0_Size) hf (by decide) pl37 rfl rfl (rl24.ob hp) rfl ?_
      clear hf; intro a ha hf
      exact st_nil hf (th_n ⟨ha, rfl⟩)
    clear hf; intro a hf
    refine dr_one 0 rfl (by kernel_rfl) ?_
    refine st_build0 (E := (Ek.int .u8)) hf (by decide) elt5 Try.underlying22 hp rfl ?_
    clear hf; intro a w v25 hf hp0; clear hp; have hp := hp0; clear hp0
    replace hp : Hp _ _ _ (Res.sl (Ek.int .u8) 5 v25 ([] : List Int) :: Res.sl Ek.c128 49 v13 q11 :: Res.sl Ek.c128 49 v9 q7 :: Res.sl (Ek.pair Ek.c128 Ek.bool) 51 v5 q3 :: ow) := hp
    refine st_nil hf (th_n ⟨fun _ _ => ⟨_, hp⟩, ?_⟩)
    refine dr_one 3 rfl (by kernel_rfl) ?_
    refine st_append (E := (Ek.int .u8)) hf (by decide) elt5 Try.underlying22 (by decide) hp (i := 0) rfl rfl rfl rfl (rl20.sl hp) hc27 ?_
    clear hf; intro a w v28 hf hp0; clear hp; have hp := hp0; clear hp0
    replace hp : Hp _ _ _ (Res.sl (Ek.int .u8) 5 v28 (([] : List Int) ++ xx0_P) :: Res.sl Ek.c128 49 v13 q11 :: Res.sl Ek.c128 49 v9 q7 :: Res.sl (Ek.pair Ek.c128 Ek.bool) 51 v5 q3 :: ow) := hp
    refine st_nil hf (th_n ⟨fun _ _ => ⟨_, hp⟩, ?_⟩)
    refine dr_one 6 rfl (by kernel_rfl) ?_
    obtain ⟨S31, hp32, rd33, up34, bk35⟩ := Hp.lendS hp (i := 0) rfl
    refine st_call hf (by decide) Try.func20 rfl rfl rfl rfl rfl (f_turns_Points_c hp32 _ _ rd33 _ _ (show Fl.rep bxx0_Size xx0_Size from hxx0_Size) hcall30) ?_
    rintro _ w ⟨v36, rfl, hp0⟩
    have hp0 := bk35 _ _ hp0
    clear hp; have hp := hp0; clear hp0
    replace hp : Hp _ _ _ (Res.sl (Ek.int .u8) 5 v28 (([] : List Int) ++ xx0_P) :: Res.sl Ek.c128 49 v36 q29.1 :: Res.sl Ek.c128 49 v13 q11 :: Res.sl Ek.c128 49 v9 q7 :: Res.sl (Ek.pair Ek.c128 Ek.bool) 51 v5 q3 :: ow) := hp
    refine ⟨_, rfl, ?_⟩
    clear hf; intro a hf
    refine st_nil hf (th_n ⟨fun _ _ => ⟨_, hp⟩, ?_⟩)
    refine dr_take 7 (.tuple #[v36, .int .i64 q29.2]) rfl (by kernel_rfl) (by kernel_rfl) (by kernel_rfl) (by kernel_rfl) rfl rfl hf (by decide) rfl (fun w hp => ?_) ⟨_, hp⟩ ?_
    · obtain ⟨_, hp⟩ := hp
      refine st_move hf rfl rfl (by decide) ?_
      clear hf; intro a ha hf
      exact st_nil hf (th_n ⟨ha, rfl⟩)
    clear hf; intro a hf
    refine dr_take 8 (v36) rfl (by kernel_rfl) (by kernel_rfl) (by kernel_rfl) (by kernel_rfl) rfl rfl hf (by decide) rfl (fun w hp => ?_) ⟨_, hp⟩ ?_
    · obtain ⟨_, hp⟩ := hp
      refine st_extract hf (by decide) rfl rfl rfl ?_
      clear hf; intro a ha hf
      exact st_nil hf (th_n ⟨ha, rfl⟩)
    clear hf; intro a hf
    refine dr_take 9 (.int .i64 q29.2) rfl (by kernel_rfl) (by kernel_rfl) (by kernel_rfl) (by kernel_rfl) rfl rfl hf (by decide) rfl (fun w hp => ?_) ⟨_, hp⟩ ?_
    · obtain ⟨_, hp⟩ := hp
      refine st_extract hf (by decide) rfl rfl rfl ?_
      clear hf; intro a ha hf
      exact st_nil hf (th_n ⟨ha, rfl⟩)
    clear hf; intro a hf
    refine dr_take 10 (v36) rfl (by kernel_rfl) (by kernel_rfl) (by kernel_rfl) (by kernel_rfl) rfl rfl hf (by decide) rfl (fun w hp => ?_) ⟨_, hp⟩ ?_
    · obtain ⟨_, hp⟩ := hp
      refine st_assign hf rfl rfl (by decide) ?_
      clear hf; intro a ha hf
      exact st_nil hf (th_n ⟨ha, rfl⟩)
    clear hf; intro a hf
    refine dr_take 11 (.int .i64 q29.2) rfl (by kernel_rfl) (by kernel_rfl) (by kernel_rfl) (by kernel_rfl) rfl rfl hf (by decide) rfl (fun w hp => ?_) ⟨_, hp⟩ ?_
    · obtain ⟨_, hp⟩ := hp
      refine st_assign hf rfl rfl (by decide) ?_
      clear hf; intro a ha hf
      exact st_nil hf (th_n ⟨ha, rfl⟩)
    clear hf; intro a hf
    refine dr_end (by kernel_rfl) ?_ _
    have hp := bk19 _ _ hp
    exact ⟨v28, v36, hf.sub ⟨rfl, rfl, rfl, rfl, rfl, rfl, trivial⟩, hp⟩
  rintro a w ⟨v28, v36, hf, hp⟩
  refine th_n ?_
  refine wp_seq ?_
  refine wp_reg ?_
  refine st_fa (o' := 0) hf (by decide) (off := 0) (sz := 1) (by kernel_rfl) (by decide) rfl rfl (hp.ob (i := 0) rfl) rfl ?_
  clear hf; intro a ha hf; clear ha
  refine st_ldO (u := vxx0_P) hf (by decide) pl22 rfl rfl (hp.ob (i := 0) rfl) rfl ?_
  clear hf; intro a ha hf; clear ha
  refine st_fa (o' := 1) hf (by decide) (off := 1) (sz := 1) (by kernel_rfl) (by decide) rfl rfl (hp.ob (i := 0) rfl) rfl ?_
  clear hf; intro a ha hf; clear ha
  refine st_ldO (u := .float .f64 bxx0_Size) hf (by decide) pl37 rfl rfl (hp.ob (i := 0) rfl) rfl ?_
  clear hf; intro a ha hf; clear ha
  obtain ⟨q38, hcall39, h⟩ := bnd h
  refine st_call hf (by decide) Try.func21 rfl rfl rfl rfl rfl (f_foghornref06_Points_c hp _ _ hxx0_P _ _ (show Fl.rep bxx0_Size xx0_Size from hxx0_Size) hcall39) ?_
  rintro _ w ⟨v40, rfl, hp0⟩
  clear hp; have hp := hp0; clear hp0
  replace hp : Hp _ _ _ (Res.sl Ek.c128 49 v40 q38.1 :: Res.obj 41 v1 [vxx0_P, .float .f64 bxx0_Size, vxx0_L, vxx0_A, vxx0_B, .int .i64 xx0_N] :: Res.sl (Ek.int .u8) 5 v28 (([] : List Int) ++ xx0_P) :: Res.sl Ek.c128 49 v36 q29.1 :: Res.sl Ek.c128 49 v13 q11 :: Res.sl Ek.c128 49 v9 q7 :: Res.sl (Ek.pair Ek.c128 Ek.bool) 51 v5 q3 :: ow) := hp
  refine ⟨_, rfl, ?_⟩
  clear hf; intro a hf
  refine st_move hf rfl rfl (by decide) ?_
  clear hf; intro a ha hf; clear ha
  refine st_extract hf (by decide) rfl rfl rfl ?_
  clear hf; intro a ha hf; clear ha
  refine st_extract hf (by decide) rfl rfl rfl ?_
  clear hf; intro a ha hf; clear ha
  refine st_assign hf rfl rfl (by decide) ?_
  clear hf; intro a ha hf; clear ha
  refine st_assign hf rfl rfl (by decide) ?_
  clear hf; intro a ha hf; clear ha
  refine st_nil hf ?_
  refine th_n ?_
  refine wp_seq ?_
  refine wp_seq ?_
  refine wp_reg ?_
  refine st_move hf rfl rfl (by decide) ?_
  clear hf; intro a ha hf; clear ha
  refine st_move hf rfl rfl (by decide) ?_
  clear hf; intro a ha hf; clear ha
  refine st_ineq hf (by decide) rfl rfl rfl ?_
  clear hf; intro a ha hf; clear ha
  refine st_move hf rfl rfl (by decide) ?_
  clear hf; intro a ha hf; clear ha
  obtain ⟨z44, hz42, h⟩ := bnd h
  refine wpList_cut 5 (fun a w => Fr 260 a [(1, optr v1 0), (3, v5), (4, v9), (5, v13), (61, .bool z44)] ∧ Hp S w0 w (Res.sl Ek.c128 49 v40 q38.1 :: Res.obj 41 v1 [vxx0_P, .float .f64 bxx0_Size, vxx0_L, vxx0_A, vxx0_B, .int .i64 xx0_N] :: Res.sl (Ek.int .u8) 5 v28 (([] : List Int) ++ xx0_P) :: Res.sl Ek.c128 49 v36 q29.1 :: Res.sl Ek.c128 49 v13 q11 :: Res.sl Ek.c128 49 v9 q7 :: Res.sl (Ek.pair Ek.c128 Ek.bool) 51 v5 q3 :: ow)) ?_ ?_
  · rcases Bool.eq_false_or_eq_true (q29.2 != q38.2) with hb43 | hb43
    · skip
      replace hz42 := ifT hz42 hb43
      refine st_skip hf (wantN hf rfl rfl hb43) rfl (by decide) ?_ rfl
      clear hf; intro a hf
      refine st_skip hf (wantN hf rfl rfl hb43) rfl (by decide) ?_ rfl
      clear hf; intro a hf
      refine st_skip hf (wantN hf rfl rfl hb43) rfl (by decide) ?_ rfl
      clear hf; intro a hf
      refine st_skip hf (wantN hf rfl rfl hb43) rfl (by decide) ?_ rfl
      clear hf; intro a hf
      obtain rfl := Option.some.inj hz42
      refine st_pick (v := .bool true) hf rfl rfl (fun hb' => ?_) (fun hb' => ?_) (by decide) ?_
      · rfl
      · exact absurd (hb43.symm.trans hb') (by decide)
      clear hf; intro a ha hf; clear ha
      refine st_nil hf (th_n ?_)
      exact ⟨hf.sub ⟨rfl, rfl, rfl, rfl, rfl, trivial⟩, hp⟩
    replace hz42 := ifF hz42 hb43
    refine st_move hf (wantY hf rfl rfl hb43) rfl (by decide) ?_
    clear hf; intro a ha hf; clear ha
    refine st_move hf (wantY hf rfl rfl hb43) rfl (by decide) ?_
    clear hf; intro a ha hf; clear ha
    obtain ⟨q45, hcall46, hz42⟩ := bnd hz42
    obtain ⟨S47, hp48, rd49, up50, bk51⟩ := Hp.lendS hp (i := 3) rfl
    obtain ⟨S52, hp53, rd54, up55, bk56⟩ := Hp.lendS hp48 (i := 0) rfl
    refine st_call hf (by decide) Try.func22 rfl rfl (wantY hf rfl rfl hb43) rfl rfl (f_foghornref03_SameRow_c hp53 _ _ ((rd49.now hp48).mono up55) _ _ rd54 hcall46) ?_
    rintro _ w ⟨rfl, hp0⟩
    have hp0 := bk56 _ _ hp0
    have hp0 := bk51 _ _ hp0
    clear hp; have hp := hp0; clear hp0
    replace hp : Hp _ _ _ (Res.sl Ek.c128 49 v36 q29.1 :: Res.sl Ek.c128 49 v40 q38.1 :: Res.obj 41 v1 [vxx0_P, .float .f64 bxx0_Size, vxx0_L, vxx0_A, vxx0_B, .int .i64 xx0_N] :: Res.sl (Ek.int .u8) 5 v28 (([] : List Int) ++ xx0_P) :: Res.sl Ek.c128 49 v13 q11 :: Res.sl Ek.c128 49 v9 q7 :: Res.sl (Ek.pair Ek.c128 Ek.bool) 51 v5 q3 :: ow) := hp
    refine ⟨_, rfl, ?_⟩
    clear hf; intro a hf
    refine st_not hf (by decide) (wantY hf rfl rfl hb43) rfl ?_
    clear hf; intro a ha hf; clear ha
    obtain rfl := Option.some.inj hz42
    refine st_pick (v := .bool (!q45)) hf rfl rfl (fun hb' => ?_) (fun hb' => ?_) (by decide) ?_
    · exact absurd (hb43.symm.trans hb') (by decide)
    · rfl
    clear hf; intro a ha hf; clear ha
    refine st_nil hf (th_n ?_)
    have hp : Hp _ _ _ (Res.sl Ek.c128 49 v40 q38.1 :: Res.obj 41 v1 [vxx0_P, .float .f64 bxx0_Size, vxx0_L, vxx0_A, vxx0_B, .int .i64 xx0_N] :: Res.sl (Ek.int .u8) 5 v28 (([] : List Int) ++ xx0_P) :: Res.sl Ek.c128 49 v36 q29.1 :: Res.sl Ek.c128 49 v13 q11 :: Res.sl Ek.c128 49 v9 q7 :: Res.sl (Ek.pair Ek.c128 Ek.bool) 51 v5 q3 :: ow) := Hp.sel (pre := [Res.sl Ek.c128 49 v36 q29.1, Res.sl Ek.c128 49 v40 q38.1, Res.obj 41 v1 [vxx0_P, .float .f64 bxx0_Size, vxx0_L, vxx0_A, vxx0_B, .int .i64 xx0_N], Res.sl (Ek.int .u8) 5 v28 (([] : List Int) ++ xx0_P), Res.sl Ek.c128 49 v13 q11, Res.sl Ek.c128 49 v9 q7, Res.sl (Ek.pair Ek.c128 Ek.bool) 51 v5 q3]) (tail := ow) (rs' := [Res.sl Ek.c128 49 v40 q38.1, Res.obj 41 v1 [vxx0_P, .float .f64 bxx0_Size, vxx0_L, vxx0_A, vxx0_B, .int .i64 xx0_N], Res.sl (Ek.int .u8) 5 v28 (([] : List Int) ++ xx0_P), Res.sl Ek.c128 49 v36 q29.1, Res.sl Ek.c128 49 v13 q11, Res.sl Ek.c128 49 v9 q7, Res.sl (Ek.pair Ek.c128 Ek.bool) 51 v5 q3]) hp [1, 2, 3, 0, 4, 5, 6] (by decide) (by simp) rfl
    exact ⟨hf.sub ⟨rfl, rfl, rfl, rfl, rfl, trivial⟩, hp⟩
  rintro a w ⟨hf, hp⟩
  refine st_nil hf ?_
  refine th_n ?_
  refine wp_if hf rfl (fun hb => ?_) (fun hb => ?_)
  · replace h := ifT h hb
    refine wp_seq ?_
    refine wp_reg ?_
    refine st_assign hf rfl rfl (by decide) ?_
    clear hf; intro a ha hf; clear ha
    refine st_nil hf ?_
    refine th_n ?_
    refine wp_ret ?_
    refine th_r ?_
    obtain rfl := Option.some.inj h
    have hp : Hp _ _ _ (ow) := Hp.sel (pre := [Res.sl Ek.c128 49 v40 q38.1, Res.obj 41 v1 [vxx0_P, .float .f64 bxx0_Size, vxx0_L, vxx0_A, vxx0_B, .int .i64 xx0_N], Res.sl (Ek.int .u8) 5 v28 (([] : List Int) ++ xx0_P), Res.sl Ek.c128 49 v36 q29.1, Res.sl Ek.c128 49 v13 q11, Res.sl Ek.c128 49 v9 q7, Res.sl (Ek.pair Ek.c128 Ek.bool) 51 v5 q3]) (tail := ow) (rs' := []) hp [] (by decide) (by simp) rfl
    exact ⟨rfl, ⟨hf.sub ⟨rfl, trivial⟩, hp⟩⟩
  replace h := ifF h hb
  refine wp_skip ?_
  refine th_n ?_
  refine wp_seq ?_
  refine wp_reg ?_
  refine st_build0 (E := (Ek.pair Ek.c128 Ek.bool)) hf (by decide) elt51 Try.underlying42 hp rfl ?_
  clear hf; intro a w v57 hf hp0; clear hp; have hp := hp0; clear hp0
  replace hp : Hp _ _ _ (Res.sl (Ek.pair Ek.c128 Ek.bool) 51 v57 ([] : List ((Fl × Fl) × Bool)) :: Res.sl Ek.c128 49 v40 q38.1 :: Res.obj 41 v1 [vxx0_P, .float .f64 bxx0_Size, vxx0_L, vxx0_A, vxx0_B, .int .i64 xx0_N] :: Res.sl (Ek.int .u8) 5 v28 (([] : List Int) ++ xx0_P) :: Res.sl Ek.c128 49 v36 q29.1 :: Res.sl Ek.c128 49 v13 q11 :: Res.sl Ek.c128 49 v9 q7 :: Res.sl (Ek.pair Ek.c128 Ek.bool) 51 v5 q3 :: ow) := hp
  refine st_move hf rfl rfl (by decide) ?_
  clear hf; intro a ha hf; clear ha
  obtain ⟨hc59, h⟩ := chk h
  refine st_append (E := (Ek.pair Ek.c128 Ek.bool)) hf (by decide) elt51 Try.underlying42 (by decide) hp (i := 0) rfl rfl rfl rfl (hp.sl (i := 7) rfl) hc59 ?_
  clear hf; intro a w v60 hf hp0; clear hp; have hp := hp0; clear hp0
  replace hp : Hp _ _ _ (Res.sl (Ek.pair Ek.c128 Ek.bool) 51 v60 (([] : List ((Fl × Fl) × Bool)) ++ q3) :: Res.sl Ek.c128 49 v40 q38.1 :: Res.obj 41 v1 [vxx0_P, .float .f64 bxx0_Size, vxx0_L, vxx0_A, vxx0_B, .int .i64 xx0_N] :: Res.sl (Ek.int .u8) 5 v28 (([] : List Int) ++ xx0_P) :: Res.sl Ek.c128 49 v36 q29.1 :: Res.sl Ek.c128 49 v13 q11 :: Res.sl Ek.c128 49 v9 q7 :: Res.sl (Ek.pair Ek.c128 Ek.bool) 51 v5 q3 :: ow) := hp
  refine st_buildA (vals := [(0, .complex .f64 0 4619567317775286272)]) (cells := [.complex .f64 0 4619567317775286272, .bool false]) hf (by decide) rfl (by simp [hf.ev (x := (Operand.const (.complex .f64 0 4619567317775286272))) rfl]) (fun w => by kernel_rfl) ?_
  clear hf; intro a ha hf; clear ha
  refine st_build (E := (Ek.pair Ek.c128 Ek.bool)) (xs := [((Fl.bits 0, Fl.bits 4619567317775286272), false)]) hf (by decide) elt51 Try.underlying42 hp (vals := #[(0, .agg #[.complex .f64 0 4619567317775286272, .bool false])]) (cells := #[.complex .f64 0 4619567317775286272, .bool false]) rfl (by simp [hf.ev (x := (Operand.tmp 65)) rfl]) (by decide) (by decide) (z := .agg #[.complex .f64 0 0, .bool false]) (by kernel_rfl) (by kernel_rfl) rfl (reps_cons (cs := [.complex .f64 0 4619567317775286272, .bool false]) ⟨[.complex .f64 0 4619567317775286272], [.bool false], rfl, (show Ek.c128.rep [.complex .f64 0 4619567317775286272] (Fl.bits 0, Fl.bits 4619567317775286272) from ⟨_, _, rfl, rfl, rfl⟩), rfl⟩ (reps_nil _)) ?_
  clear hf; intro a w v61 hf hp0; clear hp; have hp := hp0; clear hp0
  replace hp : Hp _ _ _ (Res.sl (Ek.pair Ek.c128 Ek.bool) 51 v61 ([((Fl.bits 0, Fl.bits 4619567317775286272), false)]) :: Res.sl (Ek.pair Ek.c128 Ek.bool) 51 v60 (([] : List ((Fl × Fl) × Bool)) ++ q3) :: Res.sl Ek.c128 49 v40 q38.1 :: Res.obj 41 v1 [vxx0_P, .float .f64 bxx0_Size, vxx0_L, vxx0_A, vxx0_B, .int .i64 xx0_N] :: Res.sl (Ek.int .u8) 5 v28 (([] : List Int) ++ xx0_P) :: Res.sl Ek.c128 49 v36 q29.1 :: Res.sl Ek.c128 49 v13 q11 :: Res.sl Ek.c128 49 v9 q7 :: Res.sl (Ek.pair Ek.c128 Ek.bool) 51 v5 q3 :: ow) := hp
  obtain ⟨hc63, h⟩ := chk h
  refine st_append (E := (Ek.pair Ek.c128 Ek.bool)) hf (by decide) elt51 Try.underlying42 (by decide) hp (i := 1) rfl rfl rfl rfl (hp.sl (i := 0) rfl) hc63 ?_
  clear hf; intro a w v64 hf hp0; clear hp; have hp := hp0; clear hp0
  replace hp : Hp _ _ _ (Res.sl (Ek.pair Ek.c128 Ek.bool) 51 v61 ([((Fl.bits 0, Fl.bits 4619567317775286272), false)]) :: Res.sl (Ek.pair Ek.c128 Ek.bool) 51 v64 ((([] : List ((Fl × Fl) × Bool)) ++ q3) ++ [((Fl.bits 0, Fl.bits 4619567317775286272), false)]) :: Res.sl Ek.c128 49 v40 q38.1 :: Res.obj 41 v1 [vxx0_P, .float .f64 bxx0_Size, vxx0_L, vxx0_A, vxx0_B, .int .i64 xx0_N] :: Res.sl (Ek.int .u8) 5 v28 (([] : List Int) ++ xx0_P) :: Res.sl Ek.c128 49 v36 q29.1 :: Res.sl Ek.c128 49 v13 q11 :: Res.sl Ek.c128 49 v9 q7 :: Res.sl (Ek.pair Ek.c128 Ek.bool) 51 v5 q3 :: ow) := hp
  refine st_assign hf rfl rfl (by decide) ?_
  clear hf; intro a ha hf; clear ha
  refine st_nil hf ?_
  refine th_n ?_
  refine wp_seq ?_
  refine wp_reg ?_
  refine st_move hf rfl rfl (by decide) ?_
  clear hf; intro a ha hf; clear ha
  refine st_move hf rfl rfl (by decide) ?_
  clear hf; intro a ha hf; clear ha
  refine st_len (E := (Ek.pair Ek.c128 Ek.bool)) hf (by decide) Try.underlying42 rfl rfl (hp.sl (i := 8) rfl) ?_
  clear hf; intro a ha hf; clear ha
  obtain ⟨hc65, h⟩ := chk h
  have hc66 : 0 ≤ ((q3.length : Int)).toNat := by omega
  have hc67 : ((q3.length : Int)).toNat ≤ ((([] : List ((Fl × Fl) × Bool)) ++ q3) ++ [((Fl.bits 0, Fl.bits 4619567317775286272), false)]).length := by omega
  refine st_cutS (E := (Ek.pair Ek.c128 Ek.bool)) hf (by decide) Try.underlying42 elt51 rfl rfl (hp.sl (i := 1) rfl) (.inl ⟨rfl, rfl⟩) (.inr ⟨_, _, rfl, evI rfl (by omega)⟩) hc66 hc67 ?_
  clear hf; intro a ha hf; clear ha
  obtain ⟨q68, hcall69, h⟩ := bnd h
  obtain ⟨S70, hp71, rd72, up73, bk74⟩ := Hp.lendS hp (i := 1) rfl
  refine st_call hf (by decide) Try.func23 rfl rfl rfl rfl rfl (f_turns_Row_c hp71 _ _ (RdS.cut rd72 hc66 hc67) hcall69) ?_
  rintro _ w ⟨v75, v76, rfl, hp0⟩
  have hp0 := bk74 _ _ hp0
  clear hp; have hp := hp0; clear hp0
  replace hp : Hp _ _ _ (Res.sl (Ek.pair Ek.c128 Ek.bool) 51 v64 ((([] : List ((Fl × Fl) × Bool)) ++ q3) ++ [((Fl.bits 0, Fl.bits 4619567317775286272), false)]) :: Res.sl (Ek.int .u8) 5 v75 q68.1 :: Res.sl Ek.bool 4 v76 q68.2.1 :: Res.sl (Ek.pair Ek.c128 Ek.bool) 51 v61 ([((Fl.bits 0, Fl.bits 4619567317775286272), false)]) :: Res.sl Ek.c128 49 v40 q38.1 :: Res.obj 41 v1 [vxx0_P, .float .f64 bxx0_Size, vxx0_L, vxx0_A, vxx0_B, .int .i64 xx0_N] :: Res.sl (Ek.int .u8) 5 v28 (([] : List Int) ++ xx0_P) :: Res.sl Ek.c128 49 v36 q29.1 :: Res.sl Ek.c128 49 v13 q11 :: Res.sl Ek.c128 49 v9 q7 :: Res.sl (Ek.pair Ek.c128 Ek.bool) 51 v5 q3 :: ow) := hp
  refine ⟨_, rfl, ?_⟩
  clear hf; intro a hf
  refine st_move hf rfl rfl (by decide) ?_
  clear hf; intro a ha hf; clear ha
  refine st_extract hf (by decide) rfl rfl rfl ?_
  clear hf; intro a ha hf; clear ha
  refine st_extract hf (by decide) rfl rfl rfl ?_
  clear hf; intro a ha hf; clear ha
  refine st_extract hf (by decide) rfl rfl rfl ?_
  clear hf; intro a ha hf; clear ha
  refine st_assign hf rfl rfl (by decide) ?_
  clear hf; intro a ha hf; clear ha
  refine st_assign hf rfl rfl (by decide) ?_
  clear hf; intro a ha hf; clear ha
  refine st_assign hf rfl rfl (by decide) ?_
  clear hf; intro a ha hf; clear ha
  refine st_nil hf ?_
  refine th_n ?_
  refine wp_seq ?_
  refine wp_reg ?_
  refine st_move hf rfl rfl (by decide) ?_
  clear hf; intro a ha hf; clear ha
  obtain ⟨q79, hcall80, h⟩ := bnd h
  obtain ⟨S81, hp82, rd83, up84, bk85⟩ := Hp.lendS hp (i := 10) rfl
  refine st_call hf (by decide) Try.func24 rfl rfl rfl rfl rfl (f_foghornref06_Row_c hp82 _ _ rd83 hcall80) ?_
  rintro _ w ⟨v86, v87, rfl, hp0⟩
  have hp0 := bk85 _ _ hp0
  clear hp; have hp := hp0; clear hp0
  replace hp : Hp _ _ _ (Res.sl (Ek.pair Ek.c128 Ek.bool) 51 v5 q3 :: Res.sl (Ek.int .u8) 5 v86 q79.1 :: Res.sl Ek.bool 4 v87 q79.2.1 :: Res.sl (Ek.pair Ek.c128 Ek.bool) 51 v64 ((([] : List ((Fl × Fl) × Bool)) ++ q3) ++ [((Fl.bits 0, Fl.bits 4619567317775286272), false)]) :: Res.sl (Ek.int .u8) 5 v75 q68.1 :: Res.sl Ek.bool 4 v76 q68.2.1 :: Res.sl (Ek.pair Ek.c128 Ek.bool) 51 v61 ([((Fl.bits 0, Fl.bits 4619567317775286272), false)]) :: Res.sl Ek.c128 49 v40 q38.1 :: Res.obj 41 v1 [vxx0_P, .float .f64 bxx0_Size, vxx0_L, vxx0_A, vxx0_B, .int .i64 xx0_N] :: Res.sl (Ek.int .u8) 5 v28 (([] : List Int) ++ xx0_P) :: Res.sl Ek.c128 49 v36 q29.1 :: Res.sl Ek.c128 49 v13 q11 :: Res.sl Ek.c128 49 v9 q7 :: ow) := hp
  refine ⟨_, rfl, ?_⟩
  clear hf; intro a hf
  refine st_move hf rfl rfl (by decide) ?_
  clear hf; intro a ha hf; clear ha
  refine st_extract hf (by decide) rfl rfl rfl ?_
  clear hf; intro a ha hf; clear ha
  refine st_extract hf (by decide) rfl rfl rfl ?_
  clear hf; intro a ha hf; clear ha
  refine st_extract hf (by decide) rfl rfl rfl ?_
  clear hf; intro a ha hf; clear ha
  refine st_assign hf rfl rfl (by decide) ?_
  clear hf; intro a ha hf; clear ha
  refine st_assign hf rfl rfl (by decide) ?_
  clear hf; intro a ha hf; clear ha
  refine st_assign hf rfl rfl (by decide) ?_
  clear hf; intro a ha hf; clear ha
  refine st_nil hf ?_
  refine th_n ?_
  refine wp_seq ?_
  refine wp_seq ?_
  refine wp_reg ?_
  refine st_move hf rfl rfl (by decide) ?_
  clear hf; intro a ha hf; clear ha
  refine st_move hf rfl rfl (by decide) ?_
  clear hf; intro a ha hf; clear ha
  refine st_ineq hf (by decide) rfl rfl rfl ?_
  clear hf; intro a ha hf; clear ha
  refine st_move hf rfl rfl (by decide) ?_
  clear hf; intro a ha hf; clear ha
  obtain ⟨z92, hz90, h⟩ := bnd h
  refine wpList_cut 5 (fun a w => Fr 260 a [(1, optr v1 0), (3, v5), (4, v9), (5, v13), (10, v64), (12, v76), (14, v87), (91, .bool z92)] ∧ Hp S w0 w (Res.sl (Ek.pair Ek.c128 Ek.bool) 51 v5 q3 :: Res.sl (Ek.int .u8) 5 v86 q79.1 :: Res.sl Ek.bool 4 v87 q79.2.1 :: Res.sl (Ek.pair Ek.c128 Ek.bool) 51 v64 ((([] : List ((Fl × Fl) × Bool)) ++ q3) ++ [((Fl.bits 0, Fl.bits 4619567317775286272), false)]) :: Res.sl (Ek.int .u8) 5 v75 q68.1 :: Res.sl Ek.bool 4 v76 q68.2.1 :: Res.sl (Ek.pair Ek.c128 Ek.bool) 51 v61 ([((Fl.bits 0, Fl.bits 4619567317775286272), false)]) :: Res.sl Ek.c128 49 v40 q38.1 :: Res.obj 41 v1 [vxx0_P, .float .f64 bxx0_Size, vxx0_L, vxx0_A, vxx0_B, .int .i64 xx0_N] :: Res.sl (Ek.int .u8) 5 v28 (([] : List Int) ++ xx0_P) :: Res.sl Ek.c128 49 v36 q29.1 :: Res.sl Ek.c128 49 v13 q11 :: Res.sl Ek.c128 49 v9 q7 :: ow)) ?_ ?_
  · rcases Bool.eq_false_or_eq_true (q68.2.2 != q79.2.2) with hb91 | hb91
    · skip
      replace hz90 := ifT hz90 hb91
      refine st_skip hf (wantN hf rfl rfl hb91) rfl (by decide) ?_ rfl
      clear hf; intro a hf
      refine st_skip hf (wantN hf rfl rfl hb91) rfl (by decide) ?_ rfl
      clear hf; intro a hf
      refine st_skip hf (wantN hf rfl rfl hb91) rfl (by decide) ?_ rfl
      clear hf; intro a hf
      refine st_skip hf (wantN hf rfl rfl hb91) rfl (by decide) ?_ rfl
      clear hf; intro a hf
      obtain rfl := Option.some.inj hz90
      refine st_pick (v := .bool true) hf rfl rfl (fun hb' => ?_) (fun hb' => ?_) (by decide) ?_
      · rfl
      · exact absurd (hb91.symm.trans hb') (by decide)
      clear hf; intro a ha hf; clear ha
      refine st_nil hf (th_n ?_)
      exact ⟨hf.sub ⟨rfl, rfl, rfl, rfl, rfl, rfl, rfl, rfl, trivial⟩, hp⟩
    replace hz90 := ifF hz90 hb91
    refine st_move hf (wantY hf rfl rfl hb91) rfl (by decide) ?_
    clear hf; intro a ha hf; clear ha
    refine st_move hf (wantY hf rfl rfl hb91) rfl (by decide) ?_
    clear hf; intro a ha hf; clear ha
    obtain ⟨q93, hcall94, hz90⟩ := bnd hz90
    obtain ⟨S95, hp96, rd97, up98, bk99⟩ := Hp.lendS hp (i := 4) rfl
    obtain ⟨S100, hp101, rd102, up103, bk104⟩ := Hp.lendS hp96 (i := 1) rfl
    refine st_call hf (by decide) Try.func13 rfl rfl (wantY hf rfl rfl hb91) rfl rfl (f_foghornlaw06_quarters_c hp101 _ _ ((rd97.now hp96).mono up103) _ _ rd102 hcall94) ?_
    rintro _ w ⟨rfl, hp0⟩
    have hp0 := bk104 _ _ hp0
    have hp0 := bk99 _ _ hp0
    clear hp; have hp := hp0; clear hp0
    replace hp : Hp _ _ _ (Res.sl (Ek.int .u8) 5 v75 q68.1 :: Res.sl (Ek.int .u8) 5 v86 q79.1 :: Res.sl (Ek.pair Ek.c128 Ek.bool) 51 v5 q3 :: Res.sl Ek.bool 4 v87 q79.2.1 :: Res.sl (Ek.pair Ek.c128 Ek.bool) 51 v64 ((([] : List ((Fl × Fl) × Bool)) ++ q3) ++ [((Fl.bits 0, Fl.bits 4619567317775286272), false)]) :: Res.sl Ek.bool 4 v76 q68.2.1 :: Res.sl (Ek.pair Ek.c128 Ek.bool) 51 v61 ([((Fl.bits 0, Fl.bits 4619567317775286272), false)]) :: Res.sl Ek.c128 49 v40 q38.1 :: Res.obj 41 v1 [vxx0_P, .float .f64 bxx0_Size, vxx0_L, vxx0_A, vxx0_B, .int .i64 xx0_N] :: Res.sl (Ek.int .u8) 5 v28 (([] : List Int) ++ xx0_P) :: Res.sl Ek.c128 49 v36 q29.1 :: Res.sl Ek.c128 49 v13 q11 :: Res.sl Ek.c128 49 v9 q7 :: ow) := hp
    refine ⟨_, rfl, ?_⟩
    clear hf; intro a hf
    refine st_not hf (by decide) (wantY hf rfl rfl hb91) rfl ?_
    clear hf; intro a ha hf; clear ha
    obtain rfl := Option.some.inj hz90
    refine st_pick (v := .bool (!q93)) hf rfl rfl (fun hb' => ?_) (fun hb' => ?_) (by decide) ?_
    · exact absurd (hb91.symm.trans hb') (by decide)
    · rfl
    clear hf; intro a ha hf; clear ha
    refine st_nil hf (th_n ?_)
    have hp : Hp _ _ _ (Res.sl (Ek.pair Ek.c128 Ek.bool) 51 v5 q3 :: Res.sl (Ek.int .u8) 5 v86 q79.1 :: Res.sl Ek.bool 4 v87 q79.2.1 :: Res.sl (Ek.pair Ek.c128 Ek.bool) 51 v64 ((([] : List ((Fl × Fl) × Bool)) ++ q3) ++ [((Fl.bits 0, Fl.bits 4619567317775286272), false)]) :: Res.sl (Ek.int .u8) 5 v75 q68.1 :: Res.sl Ek.bool 4 v76 q68.2.1 :: Res.sl (Ek.pair Ek.c128 Ek.bool) 51 v61 ([((Fl.bits 0, Fl.bits 4619567317775286272), false)]) :: Res.sl Ek.c128 49 v40 q38.1 :: Res.obj 41 v1 [vxx0_P, .float .f64 bxx0_Size, vxx0_L, vxx0_A, vxx0_B, .int .i64 xx0_N] :: Res.sl (Ek.int .u8) 5 v28 (([] : List Int) ++ xx0_P) :: Res.sl Ek.c128 49 v36 q29.1 :: Res.sl Ek.c128 49 v13 q11 :: Res.sl Ek.c128 49 v9 q7 :: ow) := Hp.sel (pre := [Res.sl (Ek.int .u8) 5 v75 q68.1, Res.sl (Ek.int .u8) 5 v86 q79.1, Res.sl (Ek.pair Ek.c128 Ek.bool) 51 v5 q3, Res.sl Ek.bool 4 v87 q79.2.1, Res.sl (Ek.pair Ek.c128 Ek.bool) 51 v64 ((([] : List ((Fl × Fl) × Bool)) ++ q3) ++ [((Fl.bits 0, Fl.bits 4619567317775286272), false)]), Res.sl Ek.bool 4 v76 q68.2.1, Res.sl (Ek.pair Ek.c128 Ek.bool) 51 v61 ([((Fl.bits 0, Fl.bits 4619567317775286272), false)]), Res.sl Ek.c128 49 v40 q38.1, Res.obj 41 v1 [vxx0_P, .float .f64 bxx0_Size, vxx0_L, vxx0_A, vxx0_B, .int .i64 xx0_N], Res.sl (Ek.int .u8) 5 v28 (([] : List Int) ++ xx0_P), Res.sl Ek.c128 49 v36 q29.1, Res.sl Ek.c128 49 v13 q11, Res.sl Ek.c128 49 v9 q7]) (tail := ow) (rs' := [Res.sl (Ek.pair Ek.c128 Ek.bool) 51 v5 q3, Res.sl (Ek.int .u8) 5 v86 q79.1, Res.sl Ek.bool 4 v87 q79.2.1, Res.sl (Ek.pair Ek.c128 Ek.bool) 51 v64 ((([] : List ((Fl × Fl) × Bool)) ++ q3) ++ [((Fl.bits 0, Fl.bits 4619567317775286272), false)]), Res.sl (Ek.int .u8) 5 v75 q68.1, Res.sl Ek.bool 4 v76 q68.2.1, Res.sl (Ek.pair Ek.c128 Ek.bool) 51 v61 ([((Fl.bits 0, Fl.bits 4619567317775286272), false)]), Res.sl Ek.c128 49 v40 q38.1, Res.obj 41 v1 [vxx0_P, .float .f64 bxx0_Size, vxx0_L, vxx0_A, vxx0_B, .int .i64 xx0_N], Res.sl (Ek.int .u8) 5 v28 (([] : List Int) ++ xx0_P), Res.sl Ek.c128 49 v36 q29.1, Res.sl Ek.c128 49 v13 q11, Res.sl Ek.c128 49 v9 q7]) hp [2, 1, 3, 4, 0, 5, 6, 7, 8, 9, 10, 11, 12] (by decide) (by simp) rfl
    exact ⟨hf.sub ⟨rfl, rfl, rfl, rfl, rfl, rfl, rfl, rfl, trivial⟩, hp⟩
  rintro a w ⟨hf, hp⟩
  refine st_move hf rfl rfl (by decide) ?_
  clear hf; intro a ha hf; clear ha
  obtain ⟨z107, hz105, h⟩ := bnd h
  refine wpList_cut 5 (fun a w => Fr 260 a [(1, optr v1 0), (3, v5), (4, v9), (5, v13), (10, v64), (97, .bool z107)] ∧ Hp S w0 w (Res.sl (Ek.pair Ek.c128 Ek.bool) 51 v5 q3 :: Res.sl (Ek.int .u8) 5 v86 q79.1 :: Res.sl Ek.bool 4 v87 q79.2.1 :: Res.sl (Ek.pair Ek.c128 Ek.bool) 51 v64 ((([] : List ((Fl × Fl) × Bool)) ++ q3) ++ [((Fl.bits 0, Fl.bits 4619567317775286272), false)]) :: Res.sl (Ek.int .u8) 5 v75 q68.1 :: Res.sl Ek.bool 4 v76 q68.2.1 :: Res.sl (Ek.pair Ek.c128 Ek.bool) 51 v61 ([((Fl.bits 0, Fl.bits 4619567317775286272), false)]) :: Res.sl Ek.c128 49 v40 q38.1 :: Res.obj 41 v1 [vxx0_P, .float .f64 bxx0_Size, vxx0_L, vxx0_A, vxx0_B, .int .i64 xx0_N] :: Res.sl (Ek.int .u8) 5 v28 (([] : List Int) ++ xx0_P) :: Res.sl Ek.c128 49 v36 q29.1 :: Res.sl Ek.c128 49 v13 q11 :: Res.sl Ek.c128 49 v9 q7 :: ow)) ?_ ?_
  · rcases Bool.eq_false_or_eq_true z92 with hb106 | hb106
    · skip
      replace hz105 := ifT hz105 hb106
      refine st_skip hf (wantN hf rfl rfl hb106) rfl (by decide) ?_ rfl
      clear hf; intro a hf
      refine st_skip hf (wantN hf rfl rfl hb106) rfl (by decide) ?_ rfl
      clear hf; intro a hf
      refine st_skip hf (wantN hf rfl rfl hb106) rfl (by decide) ?_ rfl
      clear hf; intro a hf
      refine st_skip hf (wantN hf rfl rfl hb106) rfl (by decide) ?_ rfl
      clear hf; intro a hf
      obtain rfl := Option.some.inj hz105
      refine st_pick (v := .bool true) hf rfl rfl (fun hb' => ?_) (fun hb' => ?_) (by decide) ?_
      · rfl
      · exact absurd (hb106.symm.trans hb') (by decide)
      clear hf; intro a ha hf; clear ha
      refine st_nil hf (th_n ?_)
      exact ⟨hf.sub ⟨rfl, rfl, rfl, rfl, rfl, rfl, trivial⟩, hp⟩
    replace hz105 := ifF hz105 hb106
    refine st_move hf (wantY hf rfl rfl hb106) rfl (by decide) ?_
    clear hf; intro a ha hf; clear ha
    refine st_move hf (wantY hf rfl rfl hb106) rfl (by decide) ?_
    clear hf; intro a ha hf; clear ha
    obtain ⟨q108, hcall109, hz105⟩ := bnd hz105
    obtain ⟨S110, hp111, rd112, up113, bk114⟩ := Hp.lendS hp (i := 5) rfl
    obtain ⟨S115, hp116, rd117, up118, bk119⟩ := Hp.lendS hp111 (i := 2) rfl
    refine st_call hf (by decide) Try.func16 rfl rfl (wantY hf rfl rfl hb106) rfl rfl (f_foghornlaw06_truths_c hp116 _ _ ((rd112.now hp111).mono up118) _ _ rd117 hcall109) ?_
    rintro _ w ⟨rfl, hp0⟩
    have hp0 := bk119 _ _ hp0
    have hp0 := bk114 _ _ hp0
    clear hp; have hp := hp0; clear hp0
    replace hp : Hp _ _ _ (Res.sl Ek.bool 4 v76 q68.2.1 :: Res.sl Ek.bool 4 v87 q79.2.1 :: Res.sl (Ek.pair Ek.c128 Ek.bool) 51 v5 q3 :: Res.sl (Ek.int .u8) 5 v86 q79.1 :: Res.sl (Ek.pair Ek.c128 Ek.bool) 51 v64 ((([] : List ((Fl × Fl) × Bool)) ++ q3) ++ [((Fl.bits 0, Fl.bits 4619567317775286272), false)]) :: Res.sl (Ek.int .u8) 5 v75 q68.1 :: Res.sl (Ek.pair Ek.c128 Ek.bool) 51 v61 ([((Fl.bits 0, Fl.bits 4619567317775286272), false)]) :: Res.sl Ek.c128 49 v40 q38.1 :: Res.obj 41 v1 [vxx0_P, .float .f64 bxx0_Size, vxx0_L, vxx0_A, vxx0_B, .int .i64 xx0_N] :: Res.sl (Ek.int .u8) 5 v28 (([] : List Int) ++ xx0_P) :: Res.sl Ek.c128 49 v36 q29.1 :: Res.sl Ek.c128 49 v13 q11 :: Res.sl Ek.c128 49 v9 q7 :: ow) := hp
    refine ⟨_, rfl, ?_⟩
    clear hf; intro a hf
    refine st_not hf (by decide) (wantY hf rfl rfl hb106) rfl ?_
    clear hf; intro a ha hf; clear ha
    obtain rfl := Option.some.inj hz105
    refine st_pick (v := .bool (!q108)) hf rfl rfl (fun hb' => ?_) (fun hb' => ?_) (by decide) ?_
    · exact absurd (hb106.symm.trans hb') (by decide)
    · rfl
    clear hf; intro a ha hf; clear ha
    refine st_nil hf (th_n ?_)
    have hp : Hp _ _ _ (Res.sl (Ek.pair Ek.c128 Ek.bool) 51 v5 q3 :: Res.sl (Ek.int .u8) 5 v86 q79.1 :: Res.sl Ek.bool 4 v87 q79.2.1 :: Res.sl (Ek.pair Ek.c128 Ek.bool) 51 v64 ((([] : List ((Fl × Fl) × Bool)) ++ q3) ++ [((Fl.bits 0, Fl.bits 4619567317775286272), false)]) :: Res.sl (Ek.int .u8) 5 v75 q68.1 :: Res.sl Ek.bool 4 v76 q68.2.1 :: Res.sl (Ek.pair Ek.c128 Ek.bool) 51 v61 ([((Fl.bits 0, Fl.bits 4619567317775286272), false)]) :: Res.sl Ek.c128 49 v40 q38.1 :: Res.obj 41 v1 [vxx0_P, .float .f64 bxx0_Size, vxx0_L, vxx0_A, vxx0_B, .int .i64 xx0_N] :: Res.sl (Ek.int .u8) 5 v28 (([] : List Int) ++ xx0_P) :: Res.sl Ek.c128 49 v36 q29.1 :: Res.sl Ek.c128 49 v13 q11 :: Res.sl Ek.c128 49 v9 q7 :: ow) := Hp.sel (pre := [Res.sl Ek.bool 4 v76 q68.2.1, Res.sl Ek.bool 4 v87 q79.2.1, Res.sl (Ek.pair Ek.c128 Ek.bool) 51 v5 q3, Res.sl (Ek.int .u8) 5 v86 q79.1, Res.sl (Ek.pair Ek.c128 Ek.bool) 51 v64 ((([] : List ((Fl × Fl) × Bool)) ++ q3) ++ [((Fl.bits 0, Fl.bits 4619567317775286272), false)]), Res.sl (Ek.int .u8) 5 v75 q68.1, Res.sl (Ek.pair Ek.c128 Ek.bool) 51 v61 ([((Fl.bits 0, Fl.bits 4619567317775286272), false)]), Res.sl Ek.c128 49 v40 q38.1, Res.obj 41 v1 [vxx0_P, .float .f64 bxx0_Size, vxx0_L, vxx0_A, vxx0_B, .int .i64 xx0_N], Res.sl (Ek.int .u8) 5 v28 (([] : List Int) ++ xx0_P), Res.sl Ek.c128 49 v36 q29.1, Res.sl Ek.c128 49 v13 q11, Res.sl Ek.c128 49 v9 q7]) (tail := ow) (rs' := [Res.sl (Ek.pair Ek.c128 Ek.bool) 51 v5 q3, Res.sl (Ek.int .u8) 5 v86 q79.1, Res.sl Ek.bool 4 v87 q79.2.1, Res.sl (Ek.pair Ek.c128 Ek.bool) 51 v64 ((([] : List ((Fl × Fl) × Bool)) ++ q3) ++ [((Fl.bits 0, Fl.bits 4619567317775286272), false)]), Res.sl (Ek.int .u8) 5 v75 q68.1, Res.sl Ek.bool 4 v76 q68.2.1, Res.sl (Ek.pair Ek.c128 Ek.bool) 51 v61 ([((Fl.bits 0, Fl.bits 4619567317775286272), false)]), Res.sl Ek.c128 49 v40 q38.1, Res.obj 41 v1 [vxx0_P, .float .f64 bxx0_Size, vxx0_L, vxx0_A, vxx0_B, .int .i64 xx0_N], Res.sl (Ek.int .u8) 5 v28 (([] : List Int) ++ xx0_P), Res.sl Ek.c128 49 v36 q29.1, Res.sl Ek.c128 49 v13 q11, Res.sl Ek.c128 49 v9 q7]) hp [2, 3, 1, 4, 5, 0, 6, 7, 8, 9, 10, 11, 12] (by decide) (by simp) rfl
    exact ⟨hf.sub ⟨rfl, rfl, rfl, rfl, rfl, rfl, trivial⟩, hp⟩
  rintro a w ⟨hf, hp⟩
  refine st_move hf rfl rfl (by decide) ?_
  clear hf; intro a ha hf; clear ha
  obtain ⟨z122, hz120, h⟩ := bnd h
  refine wpList_cut 8 (fun a w => Fr 260 a [(1, optr v1 0), (3, v5), (4, v9), (5, v13), (10, v64), (106, .bool z122)] ∧ Hp S w0 w (Res.sl (Ek.pair Ek.c128 Ek.bool) 51 v5 q3 :: Res.sl (Ek.int .u8) 5 v86 q79.1 :: Res.sl Ek.bool 4 v87 q79.2.1 :: Res.sl (Ek.pair Ek.c128 Ek.bool) 51 v64 ((([] : List ((Fl × Fl) × Bool)) ++ q3) ++ [((Fl.bits 0, Fl.bits 4619567317775286272), false)]) :: Res.sl (Ek.int .u8) 5 v75 q68.1 :: Res.sl Ek.bool 4 v76 q68.2.1 :: Res.sl (Ek.pair Ek.c128 Ek.bool) 51 v61 ([((Fl.bits 0, Fl.bits 4619567317775286272), false)]) :: Res.sl Ek.c128 49 v40 q38.1 :: Res.obj 41 v1 [vxx0_P, .float .f64 bxx0_Size, vxx0_L, vxx0_A, vxx0_B, .int .i64 xx0_N] :: Res.sl (Ek.int .u8) 5 v28 (([] : List Int) ++ xx0_P) :: Res.sl Ek.c128 49 v36 q29.1 :: Res.sl Ek.c128 49 v13 q11 :: Res.sl Ek.c128 49 v9 q7 :: ow)) ?_ ?_
  · rcases Bool.eq_false_or_eq_true z107 with hb121 | hb121
    · skip
      replace hz120 := ifT hz120 hb121
      refine st_skip hf (wantN hf rfl rfl hb121) rfl (by decide) ?_ rfl
      clear hf; intro a hf
      refine st_skip hf (wantN hf rfl rfl hb121) rfl (by decide) ?_ rfl
      clear hf; intro a hf
      refine st_skip hf (wantN hf rfl rfl hb121) rfl (by decide) ?_ rfl
      clear hf; intro a hf
      refine st_skip hf (wantN hf rfl rfl hb121) rfl (by decide) ?_ rfl
      clear hf; intro a hf
      refine st_skip hf (wantN hf rfl rfl hb121) rfl (by decide) ?_ rfl
      clear hf; intro a hf
      refine st_skip hf (wantN hf rfl rfl hb121) rfl (by decide) ?_ rfl
      clear hf; intro a hf
      refine st_skip hf (wantN hf rfl rfl hb121) rfl (by decide) ?_ rfl
      clear hf; intro a hf
      obtain rfl := Option.some.inj hz120
      refine st_pick (v := .bool true) hf rfl rfl (fun hb' => ?_) (fun hb' => ?_) (by decide) ?_
      · rfl
      · exact absurd (hb121.symm.trans hb') (by decide)
      clear hf; intro a ha hf; clear ha
      refine st_nil hf (th_n ?_)
      exact ⟨hf.sub ⟨rfl, rfl, rfl, rfl, rfl, rfl, trivial⟩, hp⟩
    replace hz120 := ifF hz120 hb121
    refine st_move hf (wantY hf rfl rfl hb121) rfl (by decide) ?_
    clear hf; intro a ha hf; clear ha
    refine st_move hf (wantY hf rfl rfl hb121) rfl (by decide) ?_
    clear hf; intro a ha hf; clear ha
    refine st_len (E := (Ek.pair Ek.c128 Ek.bool)) hf (by decide) Try.underlying42 (wantY hf rfl rfl hb121) rfl (hp.sl (i := 0) rfl) ?_
    clear hf; intro a ha hf; clear ha
    obtain ⟨hc123, hz120⟩ := chk hz120
    refine st_index (E := (Ek.pair Ek.c128 Ek.bool)) hf (by decide) Try.underlying42 elt51 (wantY hf rfl rfl hb121) rfl rfl (hp.sl (i := 3) rfl) hc123.1 hc123.2 ?_
    clear hf; intro a ha hf; clear ha
    refine st_faP (off := 0) (sz := 1) hf (by decide) (by kernel_rfl) (by decide) (wantY hf rfl rfl hb121) rfl (Sl.isP (hp.sl (i := 3) rfl) hc123.1 hc123.2) ?_
    clear hf; intro a ha hf; clear ha
    refine st_ldQC (yv := (gt ((([] : List ((Fl × Fl) × Bool)) ++ q3) ++ [((Fl.bits 0, Fl.bits 4619567317775286272), false)]) (q3.length : Int)).1) hf (by decide) pl49 (wantY hf rfl rfl hb121) rfl (Sl.part (E := (Ek.pair Ek.c128 Ek.bool)) (F := Ek.c128) (o := 0) (Sub.fst (E := Ek.c128) (F := Ek.bool)) (hp.sl (i := 3) rfl) hc123.1 hc123.2) ?_
    clear hf; intro a bb124 bb125 y126 y127 ha hf; clear ha
    refine st_ccmp (r_cne (x := (gt ((([] : List ((Fl × Fl) × Bool)) ++ q3) ++ [((Fl.bits 0, Fl.bits 4619567317775286272), false)]) (q3.length : Int)).1) (y := (Fl.bits 0, Fl.bits 4619567317775286272)) y126 y127 rfl rfl) hf (by decide) (wantY hf rfl rfl hb121) rfl rfl ?_
    clear hf; intro a ha hf; clear ha
    obtain rfl := Option.some.inj hz120
    refine st_pick (v := .bool (!ceq ((gt ((([] : List ((Fl × Fl) × Bool)) ++ q3) ++ [((Fl.bits 0, Fl.bits 4619567317775286272), false)]) (q3.length : Int)).1) (Fl.bits 0, Fl.bits 4619567317775286272))) hf rfl rfl (fun hb' => ?_) (fun hb' => ?_) (by decide) ?_
    · exact absurd (hb121.symm.trans hb') (by decide)
    · rfl
    clear hf; intro a ha hf; clear ha
    refine st_nil hf (th_n ?_)
    exact ⟨hf.sub ⟨rfl, rfl, rfl, rfl, rfl, rfl, trivial⟩, hp⟩
  rintro a w ⟨hf, hp⟩
  refine st_nil hf ?_
  refine th_n ?_
  refine wp_if hf rfl (fun hb => ?_) (fun hb => ?_)
  · replace h := ifT h hb
    refine wp_seq ?_
    refine wp_reg ?_
    refine st_assign hf rfl rfl (by decide) ?_
    clear hf; intro a ha hf; clear ha
    refine st_nil hf ?_
    refine th_n ?_
    refine wp_ret ?_
    refine th_r ?_
    obtain rfl := Option.some.inj h
    have hp : Hp _ _ _ (ow) := Hp.sel (pre := [Res.sl (Ek.pair Ek.c128 Ek.bool) 51 v5 q3, Res.sl (Ek.int .u8) 5 v86 q79.1, Res.sl Ek.bool 4 v87 q79.2.1, Res.sl (Ek.pair Ek.c128 Ek.bool) 51 v64 ((([] : List ((Fl × Fl) × Bool)) ++ q3) ++ [((Fl.bits 0, Fl.bits 4619567317775286272), false)]), Res.sl (Ek.int .u8) 5 v75 q68.1, Res.sl Ek.bool 4 v76 q68.2.1, Res.sl (Ek.pair Ek.c128 Ek.bool) 51 v61 ([((Fl.bits 0, Fl.bits 4619567317775286272), false)]), Res.sl Ek.c128 49 v40 q38.1, Res.obj 41 v1 [vxx0_P, .float .f64 bxx0_Size, vxx0_L, vxx0_A, vxx0_B, .int .i64 xx0_N], Res.sl (Ek.int .u8) 5 v28 (([] : List Int) ++ xx0_P), Res.sl Ek.c128 49 v36 q29.1, Res.sl Ek.c128 49 v13 q11, Res.sl Ek.c128 49 v9 q7]) (tail := ow) (rs' := []) hp [] (by decide) (by simp) rfl
    exact ⟨rfl, ⟨hf.sub ⟨rfl, trivial⟩, hp⟩⟩
  replace h := ifF h hb
  refine wp_skip ?_
  refine th_n ?_
  refine wp_seq ?_
  refine wp_seq ?_
  refine wp_reg ?_
  refine st_assign hf rfl rfl (by decide) ?_
  clear hf; intro a ha hf; clear ha
  refine st_nil hf ?_
  refine th_n ?_
  refine wp_block ?_
  obtain ⟨q175, hl, h⟩ := bnd h
  have hp : Hp _ _ _ (Res.obj 41 v1 [vxx0_P, .float .f64 bxx0_Size, vxx0_L, vxx0_A, vxx0_B, .int .i64 xx0_N] :: Res.sl (Ek.pair Ek.c128 Ek.bool) 51 v5 q3 :: Res.sl Ek.c128 49 v9 q7 :: Res.sl Ek.c128 49 v13 q11 :: Res.sl (Ek.pair Ek.c128 Ek.bool) 51 v64 ((([] : List ((Fl × Fl) × Bool)) ++ q3) ++ [((Fl.bits 0, Fl.bits 4619567317775286272), false)]) :: ow) := Hp.sel (pre := [Res.sl (Ek.pair Ek.c128 Ek.bool) 51 v5 q3, Res.sl (Ek.int .u8) 5 v86 q79.1, Res.sl Ek.bool 4 v87 q79.2.1, Res.sl (Ek.pair Ek.c128 Ek.bool) 51 v64 ((([] : List ((Fl × Fl) × Bool)) ++ q3) ++ [((Fl.bits 0, Fl.bits 4619567317775286272), false)]), Res.sl (Ek.int .u8) 5 v75 q68.1, Res.sl Ek.bool 4 v76 q68.2.1, Res.sl (Ek.pair Ek.c128 Ek.bool) 51 v61 ([((Fl.bits 0, Fl.bits 4619567317775286272), false)]), Res.sl Ek.c128 49 v40 q38.1, Res.obj 41 v1 [vxx0_P, .float .f64 bxx0_Size, vxx0_L, vxx0_A, vxx0_B, .int .i64 xx0_N], Res.sl (Ek.int .u8) 5 v28 (([] : List Int) ++ xx0_P), Res.sl Ek.c128 49 v36 q29.1, Res.sl Ek.c128 49 v13 q11, Res.sl Ek.c128 49 v9 q7]) (tail := ow) (rs' := [Res.obj 41 v1 [vxx0_P, .float .f64 bxx0_Size, vxx0_L, vxx0_A, vxx0_B, .int .i64 xx0_N], Res.sl (Ek.pair Ek.c128 Ek.bool) 51 v5 q3, Res.sl Ek.c128 49 v9 q7, Res.sl Ek.c128 49 v13 q11, Res.sl (Ek.pair Ek.c128 Ek.bool) 51 v64 ((([] : List ((Fl × Fl) × Bool)) ++ q3) ++ [((Fl.bits 0, Fl.bits 4619567317775286272), false)])]) hp [8, 0, 12, 11, 3] (by decide) (by simp) rfl
  refine wp_loop_pure (f := (f_foghornlaw06_TurnsPoints.s1 q3)) (s := (0 : Int)) (fun s a w => Fr 260 a [(1, optr v1 0), (3, v5), (4, v9), (5, v13), (10, v64), (15, .int .i64 s)] ∧ Hp S w0 w (Res.obj 41 v1 [vxx0_P, .float .f64 bxx0_Size, vxx0_L, vxx0_A, vxx0_B, .int .i64 xx0_N] :: Res.sl (Ek.pair Ek.c128 Ek.bool) 51 v5 q3 :: Res.sl Ek.c128 49 v9 q7 :: Res.sl Ek.c128 49 v13 q11 :: Res.sl (Ek.pair Ek.c128 Ek.bool) 51 v64 ((([] : List ((Fl × Fl) × Bool)) ++ q3) ++ [((Fl.bits 0, Fl.bits 4619567317775286272), false)]) :: ow)) (fun q e a w => match q with | (Sum.inl q) => e = .exit 0 ∧ Fr 260 a [(1, optr v1 0), (4, v9), (5, v13)] ∧ Hp S w0 w (Res.obj 41 v1 [vxx0_P, .float .f64 bxx0_Size, vxx0_L, vxx0_A, vxx0_B, .int .i64 xx0_N] :: Res.sl Ek.c128 49 v9 q7 :: Res.sl Ek.c128 49 v13 q11 :: ow) | (Sum.inr q) => e = .ret ∧ Fr 260 a [(2, .bool q)] ∧ Hp S w0 w (ow)) ?_ hl ⟨hf.sub ⟨rfl, rfl, rfl, rfl, rfl, rfl, trivial⟩, hp⟩ ?_
  · clear hl hf hp
    intro s x a w h hI
    obtain ⟨i15, hs⟩ : ∃ z, z = s := ⟨s, rfl⟩; subst hs
    obtain ⟨hf, hp⟩ : Fr 260 a [(1, optr v1 0), (3, v5), (4, v9), (5, v13), (10, v64), (15, .int .i64 i15)] ∧ Hp S w0 w (Res.obj 41 v1 [vxx0_P, .float .f64 bxx0_Size, vxx0_L, vxx0_A, vxx0_B, .int .i64 xx0_N] :: Res.sl (Ek.pair Ek.c128 Ek.bool) 51 v5 q3 :: Res.sl Ek.c128 49 v9 q7 :: Res.sl Ek.c128 49 v13 q11 :: Res.sl (Ek.pair Ek.c128 Ek.bool) 51 v64 ((([] : List ((Fl × Fl) × Bool)) ++ q3) ++ [((Fl.bits 0, Fl.bits 4619567317775286272), false)]) :: ow) := hI
    replace h : f_foghornlaw06_TurnsPoints.s1c q3 i15 = some x := h
    unfold f_foghornlaw06_TurnsPoints.s1c at h
    refine wp_seq ?_
    refine wp_seq ?_
    refine wp_reg ?_
    refine st_move hf rfl rfl (by decide) ?_
    clear hf; intro a ha hf; clear ha
    refine st_move hf rfl rfl (by decide) ?_
    clear hf; intro a ha hf; clear ha
    refine st_len (E := (Ek.pair Ek.c128 Ek.bool)) hf (by decide) Try.underlying42 rfl rfl (hp.sl (i := 1) rfl) ?_
    clear hf; intro a ha hf; clear ha
    refine st_ilss hf (by decide) rfl rfl rfl ?_
    clear hf; intro a ha hf; clear ha
    refine st_nil hf ?_
    refine th_n ?_
    refine wp_if hf rfl (fun hb => ?_) (fun hb => ?_)
    · replace h := ifT h hb
      refine wp_skip ?_
      refine th_n ?_
      refine wp_seq ?_
      refine wp_block ?_
      refine wp_seq ?_
      refine wp_seq ?_
      obtain ⟨S128, hp129, rd130, up131, bk132⟩ := Hp.lendS hp (i := 4) rfl
      obtain ⟨S133, hp134, rd135, up136, bk137⟩ := Hp.lendS hp129 (i := 1) rfl
      have rl138 := rd135
      have rl139 := ((rd130.now hp129).mono up136)
      obtain ⟨hc140, h⟩ := chk h
      obtain ⟨hc141, h⟩ := chk h
      obtain ⟨z158, hz142, h⟩ := bnd h
      refine wp_cutN (fun a w => Fr 260 a [(1, optr v1 0), (3, v5), (4, v9), (5, v13), (10, v64), (15, .int .i64 i15), (137, .bool z158)] ∧ Hp S w0 w (Res.sl (Ek.pair Ek.c128 Ek.bool) 51 v64 ((([] : List ((Fl × Fl) × Bool)) ++ q3) ++ [((Fl.bits 0, Fl.bits 4619567317775286272), false)]) :: Res.sl (Ek.pair Ek.c128 Ek.bool) 51 v5 q3 :: Res.obj 41 v1 [vxx0_P, .float .f64 bxx0_Size, vxx0_L, vxx0_A, vxx0_B, .int .i64 xx0_N] :: Res.sl Ek.c128 49 v9 q7 :: Res.sl Ek.c128 49 v13 q11 :: ow)) ?_ ?_
      · have hp := hp134.same (Same.drew w)
        rcases Bool.eq_false_or_eq_true (((gt ((([] : List ((Fl × Fl) × Bool)) ++ q3) ++ [((Fl.bits 0, Fl.bits 4619567317775286272), false)]) i15).2) != ((gt q3 i15).2)) with hb143 | hb143
        · skip
          replace hz142 := ifT hz142 hb143
          replace hz142 := Option.some.inj hz142
          refine dr_begin' (fun a w => Fr 260 a [(1, optr v1 0), (3, v5), (4, v9), (5, v13), (10, v64), (15, .int .i64 i15), (137, .bool z158)] ∧ Hp S w0 w (Res.sl (Ek.pair Ek.c128 Ek.bool) 51 v64 ((([] : List ((Fl × Fl) × Bool)) ++ q3) ++ [((Fl.bits 0, Fl.bits 4619567317775286272), false)]) :: Res.sl (Ek.pair Ek.c128 Ek.bool) 51 v5 q3 :: Res.obj 41 v1 [vxx0_P, .float .f64 bxx0_Size, vxx0_L, vxx0_A, vxx0_B, .int .i64 xx0_N] :: Res.sl Ek.c128 49 v9 q7 :: Res.sl Ek.c128 49 v13 q11 :: ow)) (fun w' => ∃ l, Hp S133 w w' l) [] (by kernel_rfl) ?_
          refine dr_take 0 (v64) rfl (by kernel_rfl) (by kernel_rfl) (by kernel_rfl) (by kernel_rfl) rfl rfl hf (by decide) rfl (fun w hp => ?_) ⟨_, hp⟩ ?_
          · obtain ⟨_, hp⟩ := hp
            refine st_move hf rfl rfl (by decide) ?_
            clear hf; intro a ha hf
            exact st_nil hf (th_n ⟨ha, rfl⟩)
          clear hf; intro a hf
          refine dr_take 1 (.int .i64 i15) rfl (by kernel_rfl) (by kernel_rfl) (by kernel_rfl) (by kernel_rfl) rfl rfl hf (by decide) rfl (fun w hp => ?_) ⟨_, hp⟩ ?_
          · obtain ⟨_, hp⟩ := hp
            refine st_move hf rfl rfl (by decide) ?_
            clear hf; intro a ha hf
            exact st_nil hf (th_n ⟨ha, rfl⟩)
          clear hf; intro a hf
          refine dr_take 2 (eptr v64 i15 2) rfl (by kernel_rfl) (by kernel_rfl) (by kernel_rfl) (by kernel_rfl) rfl rfl hf (by decide) rfl (fun w hp => ?_) ⟨_, hp⟩ ?_
          · obtain ⟨_, hp⟩ := hp
            refine st_index (E := (Ek.pair Ek.c128 Ek.bool)) hf (by decide) Try.underlying42 elt51 rfl rfl rfl (rl139.sl hp) hc140.1 hc140.2 ?_
            clear hf; intro a ha hf
            exact st_nil hf (th_n ⟨ha, rfl⟩)
          clear hf; intro a hf
          refine dr_take 3 (optr (eptr v64 i15 2) 1) rfl (by kernel_rfl) (by kernel_rfl) (by kernel_rfl) (by kernel_rfl) rfl rfl hf (by decide) rfl (fun w hp => ?_) ⟨_, hp⟩ ?_
          · obtain ⟨_, hp⟩ := hp
            refine st_faP (off := 1) (sz := 1) hf (by decide) (by kernel_rfl) (by decide) rfl rfl (Sl.isP (rl139.sl hp) hc140.1 hc140.2) ?_
            clear hf; intro a ha hf
            exact st_nil hf (th_n ⟨ha, rfl⟩)
          clear hf; intro a hf
          refine dr_take 4 (.bool ((gt ((([] : List ((Fl × Fl) × Bool)) ++ q3) ++ [((Fl.bits 0, Fl.bits 4619567317775286272), false)]) i15).2)) rfl (by kernel_rfl) (by kernel_rfl) (by kernel_rfl) (by kernel_rfl) rfl rfl hf (by decide) rfl (fun w hp => ?_) ⟨_, hp⟩ ?_
          · obtain ⟨_, hp⟩ := hp
            refine st_ldQ (F := Ek.bool) (yv := (gt ((([] : List ((Fl × Fl) × Bool)) ++ q3) ++ [((Fl.bits 0, Fl.bits 4619567317775286272), false)]) i15).2) hf (by decide) pl4 (fun x => .bool x) (fun _ _ h => h) rfl rfl (Sl.part (E := (Ek.pair Ek.c128 Ek.bool)) (F := Ek.bool) (o := 1) (Sub.snd (E := Ek.c128) (F := Ek.bool)) (rl139.sl hp) hc140.1 hc140.2) ?_
            clear hf; intro a ha hf
            exact st_nil hf (th_n ⟨ha, rfl⟩)
          clear hf; intro a hf
          refine dr_take 5 (v5) rfl (by kernel_rfl) (by kernel_rfl) (by kernel_rfl) (by kernel_rfl) rfl rfl hf (by decide) rfl (fun w hp => ?_) ⟨_, hp⟩ ?_
          · obtain ⟨_, hp⟩ := hp
            refine st_move hf rfl rfl (by decide) ?_
            clear hf; intro a ha hf
            exact st_nil hf (th_n ⟨ha, rfl⟩)
          clear hf; intro a hf
          refine dr_take 6 (.int .i64 i15) rfl (by kernel_rfl) (by kernel_rfl) (by kernel_rfl) (by kernel_rfl) rfl rfl hf (by decide) rfl (fun w hp => ?_) ⟨_, hp⟩ ?_
          · obtain ⟨_, hp⟩ := hp
            refine st_move hf rfl rfl (by decide) ?_
            clear hf; intro a ha hf
            exact st_nil hf (th_n ⟨ha, rfl⟩)
          clear hf; intro a hf
          refine dr_take 7 (eptr v5 i15 2) rfl (by kernel_rfl) (by kernel_rfl) (by kernel_rfl) (by kernel_rfl) rfl rfl hf (by decide) rfl (fun w hp => ?_) ⟨_, hp⟩ ?_
          · obtain ⟨_, hp⟩ := hp
            refine st_index (E := (Ek.pair Ek.c128 Ek.bool)) hf (by decide) Try.underlying42 elt51 rfl rfl rfl (rl138.sl hp) hc141.1 hc141.2 ?_
            clear hf; intro a ha hf
            exact st_nil hf (th_n ⟨ha, rfl⟩)
          clear hf; intro a hf
          refine dr_take 8 (optr (eptr v5 i15 2) 1) rfl (by kernel_rfl) (by kernel_rfl) (by kernel_rfl) (by kernel_rfl) rfl rfl hf (by decide) rfl (fun w hp => ?_) ⟨_, hp⟩ ?_
          · obtain ⟨_, hp⟩ := hp
            refine st_faP (off := 1) (sz := 1) hf (by decide) (by kernel_rfl) (by decide) rfl rfl (Sl.isP (rl138.sl hp) hc141.1 hc141.2) ?_
            clear hf; intro a ha hf
            exact st_nil hf (th_n ⟨ha, rfl⟩)
          clear hf; intro a hf
          refine dr_take 9 (.bool ((gt q3 i15).2)) rfl (by kernel_rfl) (by kernel_rfl) (by kernel_rfl) (by kernel_rfl) rfl rfl hf (by decide) rfl (fun w hp => ?_) ⟨_, hp⟩ ?_
          · obtain ⟨_, hp⟩ := hp
            refine st_ldQ (F := Ek.bool) (yv := (gt q3 i15).2) hf (by decide) pl4 (fun x => .bool x) (fun _ _ h => h) rfl rfl (Sl.part (E := (Ek.pair Ek.c128 Ek.bool)) (F := Ek.bool) (o := 1) (Sub.snd (E := Ek.c128) (F := Ek.bool)) (rl138.sl hp) hc141.1 hc141.2) ?_
            clear hf; intro a ha hf
            exact st_nil hf (th_n ⟨ha, rfl⟩)
          clear hf; intro a hf
          refine dr_take 10 (.bool (((gt ((([] : List ((Fl × Fl) × Bool)) ++ q3) ++ [((Fl.bits 0, Fl.bits 4619567317775286272), false)]) i15).2) != ((gt q3 i15).2))) rfl (by kernel_rfl) (by kernel_rfl) (by kernel_rfl) (by kernel_rfl) rfl rfl hf (by decide) rfl (fun w hp => ?_) ⟨_, hp⟩ ?_
          · obtain ⟨_, hp⟩ := hp
            refine st_bneq hf (by decide) Try.underlying4 rfl rfl rfl ?_
            clear hf; intro a ha hf
            exact st_nil hf (th_n ⟨ha, rfl⟩)
          clear hf; intro a hf
          refine dr_take 11 (.bool (((gt ((([] : List ((Fl × Fl) × Bool)) ++ q3) ++ [((Fl.bits 0, Fl.bits 4619567317775286272), false)]) i15).2) != ((gt q3 i15).2))) rfl (by kernel_rfl) (by kernel_rfl) (by kernel_rfl) (by kernel_rfl) rfl rfl hf (by decide) rfl (fun w hp => ?_) ⟨_, hp⟩ ?_
          · obtain ⟨_, hp⟩ := hp
            refine st_move hf rfl rfl (by decide) ?_
            clear hf; intro a ha hf
            exact st_nil hf (th_n ⟨ha, rfl⟩)
          clear hf; intro a hf
          refine dr_out 12 rfl (by kernel_rfl) (by kernel_rfl) (by kernel_rfl) (by kernel_rfl) rfl hf (by decide) rfl (wantN hf rfl rfl hb143) ⟨_, hp⟩ ?_
          clear hf; intro a hf
          refine dr_out 13 rfl (by kernel_rfl) (by kernel_rfl) (by kernel_rfl) (by kernel_rfl) rfl hf (by decide) rfl (wantN hf rfl rfl hb143) ⟨_, hp⟩ ?_
          clear hf; intro a hf
          refine dr_out 14 rfl (by kernel_rfl) (by kernel_rfl) (by kernel_rfl) (by kernel_rfl) rfl hf (by decide) rfl (wantN hf rfl rfl hb143) ⟨_, hp⟩ ?_
          clear hf; intro a hf
          refine dr_out 15 rfl (by kernel_rfl) (by kernel_rfl) (by kernel_rfl) (by kernel_rfl) rfl hf (by decide) rfl (wantN hf rfl rfl hb143) ⟨_, hp⟩ ?_
          clear hf; intro a hf
          refine dr_out 16 rfl (by kernel_rfl) (by kernel_rfl) (by kernel_rfl) (by kernel_rfl) rfl hf (by decide) rfl (wantN hf rfl rfl hb143) ⟨_, hp⟩ ?_
          clear hf; intro a hf
          refine dr_out 17 rfl (by kernel_rfl) (by kernel_rfl) (by kernel_rfl) (by kernel_rfl) rfl hf (by decide) rfl (wantN hf rfl rfl hb143) ⟨_, hp⟩ ?_
          clear hf; intro a hf
          refine dr_out 18 rfl (by kernel_rfl) (by kernel_rfl) (by kernel_rfl) (by kernel_rfl) rfl hf (by decide) rfl (wantN hf rfl rfl hb143) ⟨_, hp⟩ ?_
          clear hf; intro a hf
          refine dr_out 19 rfl (by kernel_rfl) (by kernel_rfl) (by kernel_rfl) (by kernel_rfl) rfl hf (by decide) rfl (wantN hf rfl rfl hb143) ⟨_, hp⟩ ?_
          clear hf; intro a hf
          refine dr_out 20 rfl (by kernel_rfl) (by kernel_rfl) (by kernel_rfl) (by kernel_rfl) rfl hf (by decide) rfl (wantN hf rfl rfl hb143) ⟨_, hp⟩ ?_
          clear hf; intro a hf
          refine dr_out 21 rfl (by kernel_rfl) (by kernel_rfl) (by kernel_rfl) (by kernel_rfl) rfl hf (by decide) rfl (wantN hf rfl rfl hb143) ⟨_, hp⟩ ?_
          clear hf; intro a hf
          refine dr_out 22 rfl (by kernel_rfl) (by kernel_rfl) (by kernel_rfl) (by kernel_rfl) rfl hf (by decide) rfl (wantN hf rfl rfl hb143) ⟨_, hp⟩ ?_
          clear hf; intro a hf
          refine dr_out 23 rfl (by kernel_rfl) (by kernel_rfl) (by kernel_rfl) (by kernel_rfl) rfl hf (by decide) rfl (wantN hf rfl rfl hb143) ⟨_, hp⟩ ?_
          clear hf; intro a hf
          refine dr_take 24 (.bool z158) rfl (by kernel_rfl) (by kernel_rfl) (by kernel_rfl) (by kernel_rfl) rfl rfl hf (by decide) rfl (fun w hp => ?_) ⟨_, hp⟩ ?_
          · obtain ⟨_, hp⟩ := hp
            refine st_pick (v := .bool z158) hf rfl rfl (fun _ => by rw [← hz142]; rfl) (fun hb' => absurd (hb143.symm.trans hb') (by decide)) (by decide) ?_
            clear hf; intro a ha hf
            exact st_nil hf (th_n ⟨ha, rfl⟩)
          clear hf; intro a hf
          refine dr_end (by kernel_rfl) ?_ _
          have hp := bk137 _ _ hp
          have hp := bk132 _ _ hp
          exact ⟨hf.sub ⟨rfl, rfl, rfl, rfl, rfl, rfl, rfl, trivial⟩, hp⟩
        skip
        replace hz142 := ifF hz142 hb143
        obtain ⟨hc144, hz142⟩ := chk hz142
        obtain ⟨bb146, bb147, y148, y149, hl145⟩ := RdS.pinPC (p := i15) (o := 0) (Sub.fst (E := Ek.c128) (F := Ek.bool)) rl139 hc144.1 hc144.2
        obtain ⟨hc150, hz142⟩ := chk hz142
        obtain ⟨bb152, bb153, y154, y155, hl151⟩ := RdS.pinPC (p := i15) (o := 0) (Sub.fst (E := Ek.c128) (F := Ek.bool)) rl138 hc150.1 hc150.2
        obtain ⟨q156, hcall157, hz142⟩ := bnd hz142
        replace hz142 := Option.some.inj hz142
        refine dr_begin' (fun a w => Fr 260 a [(1, optr v1 0), (3, v5), (4, v9), (5, v13), (10, v64), (15, .int .i64 i15), (137, .bool z158)] ∧ Hp S w0 w (Res.sl (Ek.pair Ek.c128 Ek.bool) 51 v64 ((([] : List ((Fl × Fl) × Bool)) ++ q3) ++ [((Fl.bits 0, Fl.bits 4619567317775286272), false)]) :: Res.sl (Ek.pair Ek.c128 Ek.bool) 51 v5 q3 :: Res.obj 41 v1 [vxx0_P, .float .f64 bxx0_Size, vxx0_L, vxx0_A, vxx0_B, .int .i64 xx0_N] :: Res.sl Ek.c128 49 v9 q7 :: Res.sl Ek.c128 49 v13 q11 :: ow)) (fun w' => ∃ l, Hp S133 w w' l) [] (by kernel_rfl) ?_
        refine dr_take 0 (v64) rfl (by kernel_rfl) (by kernel_rfl) (by kernel_rfl) (by kernel_rfl) rfl rfl hf (by decide) rfl (fun w hp => ?_) ⟨_, hp⟩ ?_
        · obtain ⟨_, hp⟩ := hp
          refine st_move hf rfl rfl (by decide) ?_
          clear hf; intro a ha hf
          exact st_nil hf (th_n ⟨ha, rfl⟩)
        clear hf; intro a hf
        refine dr_take 1 (.int .i64 i15) rfl (by kernel_rfl) (by kernel_rfl) (by kernel_rfl) (by kernel_rfl) rfl rfl hf (by decide) rfl (fun w hp => ?_) ⟨_, hp⟩ ?_
        · obtain ⟨_, hp⟩ := hp
          refine st_move hf rfl rfl (by decide) ?_
          clear hf; intro a ha hf
          exact st_nil hf (th_n ⟨ha, rfl⟩)
        clear hf; intro a hf
        refine dr_take 2 (eptr v64 i15 2) rfl (by kernel_rfl) (by kernel_rfl) (by kernel_rfl) (by kernel_rfl) rfl rfl hf (by decide) rfl (fun w hp => ?_) ⟨_, hp⟩ ?_
        · obtain ⟨_, hp⟩ := hp
          refine st_index (E := (Ek.pair Ek.c128 Ek.bool)) hf (by decide) Try.underlying42 elt51 rfl rfl rfl (rl139.sl hp) hc140.1 hc140.2 ?_
          clear hf; intro a ha hf
          exact st_nil hf (th_n ⟨ha, rfl⟩)
        clear hf; intro a hf
        refine dr_take 3 (optr (eptr v64 i15 2) 1) rfl (by kernel_rfl) (by kernel_rfl) (by kernel_rfl) (by kernel_rfl) rfl rfl hf (by decide) rfl (fun w hp => ?_) ⟨_, hp⟩ ?_
        · obtain ⟨_, hp⟩ := hp
          refine st_faP (off := 1) (sz := 1) hf (by decide) (by kernel_rfl) (by decide) rfl rfl (Sl.isP (rl139.sl hp) hc140.1 hc140.2) ?_
          clear hf; intro a ha hf
          exact st_nil hf (th_n ⟨ha, rfl⟩)
        clear hf; intro a hf
        refine dr_take 4 (.bool ((gt ((([] : List ((Fl × Fl) × Bool)) ++ q3) ++ [((Fl.bits 0, Fl.bits 4619567317775286272), false)]) i15).2)) rfl (by kernel_rfl) (by kernel_rfl) (by kernel_rfl) (by kernel_rfl) rfl rfl hf (by decide) rfl (fun w hp => ?_) ⟨_, hp⟩ ?_
        · obtain ⟨_, hp⟩ := hp
          refine st_ldQ (F := Ek.bool) (yv := (gt ((([] : List ((Fl × Fl) × Bool)) ++ q3) ++ [((Fl.bits 0, Fl.bits 4619567317775286272), false)]) i15).2) hf (by decide) pl4 (fun x => .bool x) (fun _ _ h => h) rfl rfl (Sl.part (E := (Ek.pair Ek.c128 Ek.bool)) (F := Ek.bool) (o := 1) (Sub.snd (E := Ek.c128) (F := Ek.bool)) (rl139.sl hp) hc140.1 hc140.2) ?_
          clear hf; intro a ha hf
          exact st_nil hf (th_n ⟨ha, rfl⟩)
        clear hf; intro a hf
        refine dr_take 5 (v5) rfl (by kernel_rfl) (by kernel_rfl) (by kernel_rfl) (by kernel_rfl) rfl rfl hf (by decide) rfl (fun w hp => ?_) ⟨_, hp⟩ ?_
        · obtain ⟨_, hp⟩ := hp
          refine st_move hf rfl rfl (by decide) ?_
          clear hf; intro a ha hf
          exact st_nil hf (th_n ⟨ha, rfl⟩)
        clear hf; intro a hf
        refine dr_take 6 (.int .i64 i15) rfl (by kernel_rfl) (by kernel_rfl) (by kernel_rfl) (by kernel_rfl) rfl rfl hf (by decide) rfl (fun w hp => ?_) ⟨_, hp⟩ ?_
        · obtain ⟨_, hp⟩ := hp
          refine st_move hf rfl rfl (by decide) ?_
          clear hf; intro a ha hf
          exact st_nil hf (th_n ⟨ha, rfl⟩)
        clear hf; intro a hf
        refine dr_take 7 (eptr v5 i15 2) rfl (by kernel_rfl) (by kernel_rfl) (by kernel_rfl) (by kernel_rfl) rfl rfl hf (by decide) rfl (fun w hp => ?_) ⟨_, hp⟩ ?_
        · obtain ⟨_, hp⟩ := hp
          refine st_index (E := (Ek.pair Ek.c128 Ek.bool)) hf (by decide) Try.underlying42 elt51 rfl rfl rfl (rl138.sl hp) hc141.1 hc141.2 ?_
          clear hf; intro a ha hf
          exact st_nil hf (th_n ⟨ha, rfl⟩)
        clear hf; intro a hf
        refine dr_take 8 (optr (eptr v5 i15 2) 1) rfl (by kernel_rfl) (by kernel_rfl) (by kernel_rfl) (by kernel_rfl) rfl rfl hf (by decide) rfl (fun w hp => ?_) ⟨_, hp⟩ ?_
        · obtain ⟨_, hp⟩ := hp
          refine st_faP (off := 1) (sz := 1) hf (by decide) (by kernel_rfl) (by decide) rfl rfl (Sl.isP (rl138.sl hp) hc141.1 hc141.2) ?_
          clear hf; intro a ha hf
          exact st_nil hf (th_n ⟨ha, rfl⟩)
        clear hf; intro a hf
        refine dr_take 9 (.bool ((gt q3 i15).2)) rfl (by kernel_rfl) (by kernel_rfl) (by kernel_rfl) (by kernel_rfl) rfl rfl hf (by decide) rfl (fun w hp => ?_) ⟨_, hp⟩ ?_
        · obtain ⟨_, hp⟩ := hp
          refine st_ldQ (F := Ek.bool) (yv := (gt q3 i15).2) hf (by decide) pl4 (fun x => .bool x) (fun _ _ h => h) rfl rfl (Sl.part (E := (Ek.pair Ek.c128 Ek.bool)) (F := Ek.bool) (o := 1) (Sub.snd (E := Ek.c128) (F := Ek.bool)) (rl138.sl hp) hc141.1 hc141.2) ?_
          clear hf; intro a ha hf
          exact st_nil hf (th_n ⟨ha, rfl⟩)
        clear hf; intro a hf
        refine dr_take 10 (.bool (((gt ((([] : List ((Fl × Fl) × Bool)) ++ q3) ++ [((Fl.bits 0, Fl.bits 4619567317775286272), false)]) i15).2) != ((gt q3 i15).2))) rfl (by kernel_rfl) (by kernel_rfl) (by kernel_rfl) (by kernel_rfl) rfl rfl hf (by decide) rfl (fun w hp => ?_) ⟨_, hp⟩ ?_
        · obtain ⟨_, hp⟩ := hp
          refine st_bneq hf (by decide) Try.underlying4 rfl rfl rfl ?_
          clear hf; intro a ha hf
          exact st_nil hf (th_n ⟨ha, rfl⟩)
        clear hf; intro a hf
        refine dr_take 11 (.bool (((gt ((([] : List ((Fl × Fl) × Bool)) ++ q3) ++ [((Fl.bits 0, Fl.bits 4619567317775286272), false)]) i15).2) != ((gt q3 i15).2))) rfl (by kernel_rfl) (by kernel_rfl) (by kernel_rfl) (by kernel_rfl) rfl rfl hf (by decide) rfl (fun w hp => ?_) ⟨_, hp⟩ ?_
        · obtain ⟨_, hp⟩ := hp
          refine st_move hf rfl rfl (by decide) ?_
          clear hf; intro a ha hf
          exact st_nil hf (th_n ⟨ha, rfl⟩)
        clear hf; intro a hf
        refine dr_take 12 (v64) rfl (by kernel_rfl) (by kernel_rfl) (by kernel_rfl) (by kernel_rfl) rfl rfl hf (by decide) (wantY hf rfl rfl hb143) (fun w hp => ?_) ⟨_, hp⟩ ?_
        · obtain ⟨_, hp⟩ := hp
          refine st_move hf (wantY hf rfl rfl hb143) rfl (by decide) ?_
          clear hf; intro a ha hf
          exact st_nil hf (th_n ⟨ha, rfl⟩)
        clear hf; intro a hf
        refine dr_take 13 (.int .i64 i15) rfl (by kernel_rfl) (by kernel_rfl) (by kernel_rfl) (by kernel_rfl) rfl rfl hf (by decide) (wantY hf rfl rfl hb143) (fun w hp => ?_) ⟨_, hp⟩ ?_
        · obtain ⟨_, hp⟩ := hp
          refine st_move hf (wantY hf rfl rfl hb143) rfl (by decide) ?_
          clear hf; intro a ha hf
          exact st_nil hf (th_n ⟨ha, rfl⟩)
        clear hf; intro a hf
        refine dr_take 14 (eptr v64 i15 2) rfl (by kernel_rfl) (by kernel_rfl) (by kernel_rfl) (by kernel_rfl) rfl rfl hf (by decide) (wantY hf rfl rfl hb143) (fun w hp => ?_) ⟨_, hp⟩ ?_
        · obtain ⟨_, hp⟩ := hp
          refine st_index (E := (Ek.pair Ek.c128 Ek.bool)) hf (by decide) Try.underlying42 elt51 (wantY hf rfl rfl hb143) rfl rfl (rl139.sl hp) hc144.1 hc144.2 ?_
          clear hf; intro a ha hf
          exact st_nil hf (th_n ⟨ha, rfl⟩)
        clear hf; intro a hf
        refine dr_take 15 (optr (eptr v64 i15 2) 0) rfl (by kernel_rfl) (by kernel_rfl) (by kernel_rfl) (by kernel_rfl) rfl rfl hf (by decide) (wantY hf rfl rfl hb143) (fun w hp => ?_) ⟨_, hp⟩ ?_
        · obtain ⟨_, hp⟩ := hp
          refine st_faP (off := 0) (sz := 1) hf (by decide) (by kernel_rfl) (by decide) (wantY hf rfl rfl hb143) rfl (Sl.isP (rl139.sl hp) hc144.1 hc144.2) ?_
          clear hf; intro a ha hf
          exact st_nil hf (th_n ⟨ha, rfl⟩)
        clear hf; intro a hf
        refine dr_take 16 (.complex .f64 bb146 bb147) rfl (by kernel_rfl) (by kernel_rfl) (by kernel_rfl) (by kernel_rfl) rfl rfl hf (by decide) (wantY hf rfl rfl hb143) (fun w hp => ?_) ⟨_, hp⟩ ?_
        · obtain ⟨_, hp⟩ := hp
          refine st_ldP hf (by decide) pl49 (wantY hf rfl rfl hb143) rfl (hl145 _ _ hp) ?_
          clear hf; intro a ha hf
          exact st_nil hf (th_n ⟨ha, rfl⟩)
        clear hf; intro a hf
        refine dr_take 17 (v5) rfl (by kernel_rfl) (by kernel_rfl) (by kernel_rfl) (by kernel_rfl) rfl rfl hf (by decide) (wantY hf rfl rfl hb143) (fun w hp => ?_) ⟨_, hp⟩ ?_
        · obtain ⟨_, hp⟩ := hp
          refine st_move hf (wantY hf rfl rfl hb143) rfl (by decide) ?_
          clear hf; intro a ha hf
          exact st_nil hf (th_n ⟨ha, rfl⟩)
        clear hf; intro a hf
        refine dr_take 18 (.int .i64 i15) rfl (by kernel_rfl) (by kernel_rfl) (by kernel_rfl) (by kernel_rfl) rfl rfl hf (by decide) (wantY hf rfl rfl hb143) (fun w hp => ?_) ⟨_, hp⟩ ?_
        · obtain ⟨_, hp⟩ := hp
          refine st_move hf (wantY hf rfl rfl hb143) rfl (by decide) ?_
          clear hf; intro a ha hf
          exact st_nil hf (th_n ⟨ha, rfl⟩)
        clear hf; intro a hf
        refine dr_take 19 (eptr v5 i15 2) rfl (by kernel_rfl) (by kernel_rfl) (by kernel_rfl) (by kernel_rfl) rfl rfl hf (by decide) (wantY hf rfl rfl hb143) (fun w hp => ?_) ⟨_, hp⟩ ?_
        · obtain ⟨_, hp⟩ := hp
          refine st_index (E := (Ek.pair Ek.c128 Ek.bool)) hf (by decide) Try.underlying42 elt51 (wantY hf rfl rfl hb143) rfl rfl (rl138.sl hp) hc150.1 hc150.2 ?_
          clear hf; intro a ha hf
          exact st_nil hf (th_n ⟨ha, rfl⟩)
        clear hf; intro a hf
        refine dr_take 20 (optr (eptr v5 i15 2) 0) rfl (by kernel_rfl) (by kernel_rfl) (by kernel_rfl) (by kernel_rfl) rfl rfl hf (by decide) (wantY hf rfl rfl hb143) (fun w hp => ?_) ⟨_, hp⟩ ?_
        · obtain ⟨_, hp⟩ := hp
          refine st_faP (off := 0) (sz := 1) hf (by decide) (by kernel_rfl) (by decide) (wantY hf rfl rfl hb143) rfl (Sl.isP (rl138.sl hp) hc150.1 hc150.2) ?_
          clear hf; intro a ha hf
          exact st_nil hf (th_n ⟨ha, rfl⟩)
        clear hf; intro a hf
        refine dr_take 21 (.complex .f64 bb152 bb153) rfl (by kernel_rfl) (by kernel_rfl) (by kernel_rfl) (by kernel_rfl) rfl rfl hf (by decide) (wantY hf rfl rfl hb143) (fun w hp => ?_) ⟨_, hp⟩ ?_
        · obtain ⟨_, hp⟩ := hp
          refine st_ldP hf (by decide) pl49 (wantY hf rfl rfl hb143) rfl (hl151 _ _ hp) ?_
          clear hf; intro a ha hf
          exact st_nil hf (th_n ⟨ha, rfl⟩)
        clear hf; intro a hf
        refine dr_one 22 rfl (by kernel_rfl) ?_
        refine st_call hf (by decide) Try.func25 rfl rfl (wantY hf rfl rfl hb143) rfl rfl (f_foghornref03_Same_c hp _ _ _ (show Fl.rep bb146 ((gt ((([] : List ((Fl × Fl) × Bool)) ++ q3) ++ [((Fl.bits 0, Fl.bits 4619567317775286272), false)]) i15).1).1 from y148) (show Fl.rep bb147 ((gt ((([] : List ((Fl × Fl) × Bool)) ++ q3) ++ [((Fl.bits 0, Fl.bits 4619567317775286272), false)]) i15).1).2 from y149) _ _ _ (show Fl.rep bb152 ((gt q3 i15).1).1 from y154) (show Fl.rep bb153 ((gt q3 i15).1).2 from y155) _ hcall157) ?_
        rintro _ w ⟨rfl, hp0⟩
        clear hp; have hp := hp0; clear hp0
        replace hp : Hp _ _ _ (Res.obj 41 v1 [vxx0_P, .float .f64 bxx0_Size, vxx0_L, vxx0_A, vxx0_B, .int .i64 xx0_N] :: Res.sl Ek.c128 49 v9 q7 :: Res.sl Ek.c128 49 v13 q11 :: ow) := hp
        refine ⟨_, rfl, ?_⟩
        clear hf; intro a hf
        refine st_nil hf (th_n ⟨fun _ _ => ⟨_, hp⟩, ?_⟩)
        refine dr_take 23 (.bool (!q156)) rfl (by kernel_rfl) (by kernel_rfl) (by kernel_rfl) (by kernel_rfl) rfl rfl hf (by decide) (wantY hf rfl rfl hb143) (fun w hp => ?_) ⟨_, hp⟩ ?_
        · obtain ⟨_, hp⟩ := hp
          refine st_not hf (by decide) (wantY hf rfl rfl hb143) rfl ?_
          clear hf; intro a ha hf
          exact st_nil hf (th_n ⟨ha, rfl⟩)
        clear hf; intro a hf
        refine dr_take 24 (.bool z158) rfl (by kernel_rfl) (by kernel_rfl) (by kernel_rfl) (by kernel_rfl) rfl rfl hf (by decide) rfl (fun w hp => ?_) ⟨_, hp⟩ ?_
        · obtain ⟨_, hp⟩ := hp
          refine st_pick (v := .bool z158) hf rfl rfl (fun hb' => absurd (hb143.symm.trans hb') (by decide)) (fun _ => by rw [← hz142]; rfl) (by decide) ?_
          clear hf; intro a ha hf
          exact st_nil hf (th_n ⟨ha, rfl⟩)
        clear hf; intro a hf
        refine dr_end (by kernel_rfl) ?_ _
        have hp := bk137 _ _ hp
        have hp := bk132 _ _ hp
        exact ⟨hf.sub ⟨rfl, rfl, rfl, rfl, rfl, rfl, rfl, trivial⟩, hp⟩
      rintro a w ⟨hf, hp⟩
      refine th_n ?_
      refine wp_if hf rfl (fun hb => ?_) (fun hb => ?_)
      · replace h := ifT h hb
        refine wp_seq ?_
        refine wp_reg ?_
        refine st_assign hf rfl rfl (by decide) ?_
        clear hf; intro a ha hf; clear ha
        refine st_nil hf ?_
        refine th_n ?_
        refine wp_ret ?_
        refine th_r ?_
        refine ib_r ?_
        refine th_r ?_
        obtain rfl := Option.some.inj h
        have hp : Hp _ _ _ (ow) := Hp.sel (pre := [Res.sl (Ek.pair Ek.c128 Ek.bool) 51 v64 ((([] : List ((Fl × Fl) × Bool)) ++ q3) ++ [((Fl.bits 0, Fl.bits 4619567317775286272), false)]), Res.sl (Ek.pair Ek.c128 Ek.bool) 51 v5 q3, Res.obj 41 v1 [vxx0_P, .float .f64 bxx0_Size, vxx0_L, vxx0_A, vxx0_B, .int .i64 xx0_N], Res.sl Ek.c128 49 v9 q7, Res.sl Ek.c128 49 v13 q11]) (tail := ow) (rs' := []) hp [] (by decide) (by simp) rfl
        exact rnd_r (by simp) ⟨rfl, ⟨hf.sub ⟨rfl, trivial⟩, hp⟩⟩
      replace h := ifF h hb
      refine wp_skip ?_
      refine th_n ?_
      refine wp_seq ?_
      refine wp_reg ?_
      refine st_move hf rfl rfl (by decide) ?_
      clear hf; intro a ha hf; clear ha
      refine st_move hf rfl rfl (by decide) ?_
      clear hf; intro a ha hf; clear ha
      obtain ⟨hc159, h⟩ := chk h
      refine st_index (E := (Ek.pair Ek.c128 Ek.bool)) hf (by decide) Try.underlying42 elt51 rfl rfl rfl (hp.sl (i := 1) rfl) hc159.1 hc159.2 ?_
      clear hf; intro a ha hf; clear ha
      refine st_faP (off := 0) (sz := 1) hf (by decide) (by kernel_rfl) (by decide) rfl rfl (Sl.isP (hp.sl (i := 1) rfl) hc159.1 hc159.2) ?_
      clear hf; intro a ha hf; clear ha
      refine st_ldQC (yv := (gt q3 i15).1) hf (by decide) pl49 rfl rfl (Sl.part (E := (Ek.pair Ek.c128 Ek.bool)) (F := Ek.c128) (o := 0) (Sub.fst (E := Ek.c128) (F := Ek.bool)) (hp.sl (i := 1) rfl) hc159.1 hc159.2) ?_
      clear hf; intro a bb160 bb161 y162 y163 ha hf; clear ha
      obtain ⟨q164, hcall165, h⟩ := bnd h
      refine st_call hf (by decide) Try.func26 rfl rfl rfl rfl rfl (f_turns_Near_c hp _ _ _ (show Fl.rep bb160 ((gt q3 i15).1).1 from y162) (show Fl.rep bb161 ((gt q3 i15).1).2 from y163) hcall165) ?_
      rintro _ w ⟨rfl, hp0⟩
      clear hp; have hp := hp0; clear hp0
      replace hp : Hp _ _ _ (Res.sl (Ek.pair Ek.c128 Ek.bool) 51 v64 ((([] : List ((Fl × Fl) × Bool)) ++ q3) ++ [((Fl.bits 0, Fl.bits 4619567317775286272), false)]) :: Res.sl (Ek.pair Ek.c128 Ek.bool) 51 v5 q3 :: Res.obj 41 v1 [vxx0_P, .float .f64 bxx0_Size, vxx0_L, vxx0_A, vxx0_B, .int .i64 xx0_N] :: Res.sl Ek.c128 49 v9 q7 :: Res.sl Ek.c128 49 v13 q11 :: ow) := hp
      refine ⟨_, rfl, ?_⟩
      clear hf; intro a hf
      refine st_move hf rfl rfl (by decide) ?_
      clear hf; intro a ha hf; clear ha
      refine st_extract hf (by decide) rfl rfl rfl ?_
      clear hf; intro a ha hf; clear ha
      refine st_extract hf (by decide) rfl rfl rfl ?_
      clear hf; intro a ha hf; clear ha
      refine st_assign hf rfl rfl (by decide) ?_
      clear hf; intro a ha hf; clear ha
      refine st_assign hf rfl rfl (by decide) ?_
      clear hf; intro a ha hf; clear ha
      refine st_nil hf ?_
      refine th_n ?_
      refine wp_seq ?_
      refine wp_reg ?_
      refine st_move hf rfl rfl (by decide) ?_
      clear hf; intro a ha hf; clear ha
      refine st_move hf rfl rfl (by decide) ?_
      clear hf; intro a ha hf; clear ha
      obtain ⟨hc166, h⟩ := chk h
      refine st_index (E := (Ek.pair Ek.c128 Ek.bool)) hf (by decide) Try.underlying42 elt51 rfl rfl rfl (hp.sl (i := 1) rfl) hc166.1 hc166.2 ?_
      clear hf; intro a ha hf; clear ha
      refine st_faP (off := 0) (sz := 1) hf (by decide) (by kernel_rfl) (by decide) rfl rfl (Sl.isP (hp.sl (i := 1) rfl) hc166.1 hc166.2) ?_
      clear hf; intro a ha hf; clear ha
      refine st_ldQC (yv := (gt q3 i15).1) hf (by decide) pl49 rfl rfl (Sl.part (E := (Ek.pair Ek.c128 Ek.bool)) (F := Ek.c128) (o := 0) (Sub.fst (E := Ek.c128) (F := Ek.bool)) (hp.sl (i := 1) rfl) hc166.1 hc166.2) ?_
      clear hf; intro a bb167 bb168 y169 y170 ha hf; clear ha
      obtain ⟨q171, hcall172, h⟩ := bnd h
      refine st_call hf (by decide) Try.func27 rfl rfl rfl rfl rfl (f_foghornref06_Near_c hp _ _ _ (show Fl.rep bb167 ((gt q3 i15).1).1 from y169) (show Fl.rep bb168 ((gt q3 i15).1).2 from y170) hcall172) ?_
      rintro _ w ⟨rfl, hp0⟩
      clear hp; have hp := hp0; clear hp0
      replace hp : Hp _ _ _ (Res.sl (Ek.pair Ek.c128 Ek.bool) 51 v64 ((([] : List ((Fl × Fl) × Bool)) ++ q3) ++ [((Fl.bits 0, Fl.bits 4619567317775286272), false)]) :: Res.sl (Ek.pair Ek.c128 Ek.bool) 51 v5 q3 :: Res.obj 41 v1 [vxx0_P, .float .f64 bxx0_Size, vxx0_L, vxx0_A, vxx0_B, .int .i64 xx0_N] :: Res.sl Ek.c128 49 v9 q7 :: Res.sl Ek.c128 49 v13 q11 :: ow) := hp
      refine ⟨_, rfl, ?_⟩
      clear hf; intro a hf
      refine st_move hf rfl rfl (by decide) ?_
      clear hf; intro a ha hf; clear ha
      refine st_extract hf (by decide) rfl rfl rfl ?_
      clear hf; intro a ha hf; clear ha
      refine st_extract hf (by decide) rfl rfl rfl ?_
      clear hf; intro a ha hf; clear ha
      refine st_assign hf rfl rfl (by decide) ?_
      clear hf; intro a ha hf; clear ha
      refine st_assign hf rfl rfl (by decide) ?_
      clear hf; intro a ha hf; clear ha
      refine st_nil hf ?_
      refine th_n ?_
      refine wp_seq ?_
      refine wp_reg ?_
      refine st_move hf rfl rfl (by decide) ?_
      clear hf; intro a ha hf; clear ha
      refine st_move hf rfl rfl (by decide) ?_
      clear hf; intro a ha hf; clear ha
      refine st_ineq hf (by decide) rfl rfl rfl ?_
      clear hf; intro a ha hf; clear ha
      refine st_move hf rfl rfl (by decide) ?_
      clear hf; intro a ha hf; clear ha
      refine wpList_cut 4 (fun a w => Fr 260 a [(1, optr v1 0), (3, v5), (4, v9), (5, v13), (10, v64), (15, .int .i64 i15), (163, .bool ((q164.1 != q171.1) || (q164.2 != q171.2)))] ∧ Hp S w0 w (Res.sl (Ek.pair Ek.c128 Ek.bool) 51 v64 ((([] : List ((Fl × Fl) × Bool)) ++ q3) ++ [((Fl.bits 0, Fl.bits 4619567317775286272), false)]) :: Res.sl (Ek.pair Ek.c128 Ek.bool) 51 v5 q3 :: Res.obj 41 v1 [vxx0_P, .float .f64 bxx0_Size, vxx0_L, vxx0_A, vxx0_B, .int .i64 xx0_N] :: Res.sl Ek.c128 49 v9 q7 :: Res.sl Ek.c128 49 v13 q11 :: ow)) ?_ ?_
      · rcases Bool.eq_false_or_eq_true (q164.1 != q171.1) with hb174 | hb174
        · skip
          refine st_skip hf (wantN hf rfl rfl hb174) rfl (by decide) ?_ rfl
          clear hf; intro a hf
          refine st_skip hf (wantN hf rfl rfl hb174) rfl (by decide) ?_ rfl
          clear hf; intro a hf
          refine st_skip hf (wantN hf rfl rfl hb174) rfl (by decide) ?_ rfl
          clear hf; intro a hf
          refine st_pick (v := .bool true) hf rfl rfl (fun hb' => ?_) (fun hb' => ?_) (by decide) ?_
          · rfl
          · exact absurd (hb174.symm.trans hb') (by decide)
          clear hf; intro a ha hf; clear ha
          refine st_nil hf (th_n ?_)
          exact ⟨hf.sub ⟨rfl, rfl, rfl, rfl, rfl, rfl, (by rw [hb174]; rfl), trivial⟩, hp⟩
        refine st_move hf (wantY hf rfl rfl hb174) rfl (by decide) ?_
        clear hf; intro a ha hf; clear ha
        refine st_move hf (wantY hf rfl rfl hb174) rfl (by decide) ?_
        clear hf; intro a ha hf; clear ha
        refine st_bneq hf (by decide) Try.underlying4 (wantY hf rfl rfl hb174) rfl rfl ?_
        clear hf; intro a ha hf; clear ha
        refine st_pick (v := .bool (q164.2 != q171.2)) hf rfl rfl (fun hb' => ?_) (fun hb' => ?_) (by decide) ?_
        · exact absurd (hb174.symm.trans hb') (by decide)
        · rfl
        clear hf; intro a ha hf; clear ha
        refine st_nil hf (th_n ?_)
        exact ⟨hf.sub ⟨rfl, rfl, rfl, rfl, rfl, rfl, (by rw [hb174]; rfl), trivial⟩, hp⟩
      rintro a w ⟨hf, hp⟩
      refine st_nil hf ?_
      refine th_n ?_
      refine wp_if hf rfl (fun hb => ?_) (fun hb => ?_)
      · replace h := ifT h hb
        refine wp_seq ?_
        refine wp_reg ?_
        refine st_assign hf rfl rfl (by decide) ?_
        clear hf; intro a ha hf; clear ha
        refine st_nil hf ?_
        refine th_n ?_
        refine wp_ret ?_
        refine ib_r ?_
        refine th_r ?_
        obtain rfl := Option.some.inj h
        have hp : Hp _ _ _ (ow) := Hp.sel (pre := [Res.sl (Ek.pair Ek.c128 Ek.bool) 51 v64 ((([] : List ((Fl × Fl) × Bool)) ++ q3) ++ [((Fl.bits 0, Fl.bits 4619567317775286272), false)]), Res.sl (Ek.pair Ek.c128 Ek.bool) 51 v5 q3, Res.obj 41 v1 [vxx0_P, .float .f64 bxx0_Size, vxx0_L, vxx0_A, vxx0_B, .int .i64 xx0_N], Res.sl Ek.c128 49 v9 q7, Res.sl Ek.c128 49 v13 q11]) (tail := ow) (rs' := []) hp [] (by decide) (by simp) rfl
        exact rnd_r (by simp) ⟨rfl, ⟨hf.sub ⟨rfl, trivial⟩, hp⟩⟩
      replace h := ifF h hb
      refine wp_skip ?_
      refine ib_n ?_
      refine th_n ?_
      refine wp_reg ?_
      refine st_move hf rfl rfl (by decide) ?_
      clear hf; intro a ha hf; clear ha
      refine st_iadd hf (by decide) rfl rfl rfl ?_
      clear hf; intro a ha hf; clear ha
      refine st_assign hf rfl rfl (by decide) ?_
      clear hf; intro a ha hf; clear ha
      refine st_nil hf ?_
      obtain rfl := Option.some.inj h
      have hp : Hp _ _ _ (Res.obj 41 v1 [vxx0_P, .float .f64 bxx0_Size, vxx0_L, vxx0_A, vxx0_B, .int .i64 xx0_N] :: Res.sl (Ek.pair Ek.c128 Ek.bool) 51 v5 q3 :: Res.sl Ek.c128 49 v9 q7 :: Res.sl Ek.c128 49 v13 q11 :: Res.sl (Ek.pair Ek.c128 Ek.bool) 51 v64 ((([] : List ((Fl × Fl) × Bool)) ++ q3) ++ [((Fl.bits 0, Fl.bits 4619567317775286272), false)]) :: ow) := Hp.sel (pre := [Res.sl (Ek.pair Ek.c128 Ek.bool) 51 v64 ((([] : List ((Fl × Fl) × Bool)) ++ q3) ++ [((Fl.bits 0, Fl.bits 4619567317775286272), false)]), Res.sl (Ek.pair Ek.c128 Ek.bool) 51 v5 q3, Res.obj 41 v1 [vxx0_P, .float .f64 bxx0_Size, vxx0_L, vxx0_A, vxx0_B, .int .i64 xx0_N], Res.sl Ek.c128 49 v9 q7, Res.sl Ek.c128 49 v13 q11]) (tail := ow) (rs' := [Res.obj 41 v1 [vxx0_P, .float .f64 bxx0_Size, vxx0_L, vxx0_A, vxx0_B, .int .i64 xx0_N], Res.sl (Ek.pair Ek.c128 Ek.bool) 51 v5 q3, Res.sl Ek.c128 49 v9 q7, Res.sl Ek.c128 49 v13 q11, Res.sl (Ek.pair Ek.c128 Ek.bool) 51 v64 ((([] : List ((Fl × Fl) × Bool)) ++ q3) ++ [((Fl.bits 0, Fl.bits 4619567317775286272), false)])]) hp [2, 1, 3, 4, 0] (by decide) (by simp) rfl
      exact rnd_l ⟨hf.sub ⟨rfl, rfl, rfl, rfl, rfl, rfl, trivial⟩, hp⟩
    replace h := ifF h hb
    refine wp_exit ?_
    refine th_e ?_
    obtain rfl := Option.some.inj h
    have hp : Hp _ _ _ (Res.obj 41 v1 [vxx0_P, .float .f64 bxx0_Size, vxx0_L, vxx0_A, vxx0_B, .int .i64 xx0_N] :: Res.sl Ek.c128 49 v9 q7 :: Res.sl Ek.c128 49 v13 q11 :: ow) := Hp.sel (pre := [Res.obj 41 v1 [vxx0_P, .float .f64 bxx0_Size, vxx0_L, vxx0_A, vxx0_B, .int .i64 xx0_N], Res.sl (Ek.pair Ek.c128 Ek.bool) 51 v5 q3, Res.sl Ek.c128 49 v9 q7, Res.sl Ek.c128 49 v13 q11, Res.sl (Ek.pair Ek.c128 Ek.bool) 51 v64 ((([] : List ((Fl × Fl) × Bool)) ++ q3) ++ [((Fl.bits 0, Fl.bits 4619567317775286272), false)])]) (tail := ow) (rs' := [Res.obj 41 v1 [vxx0_P, .float .f64 bxx0_Size, vxx0_L, vxx0_A, vxx0_B, .int .i64 xx0_N], Res.sl Ek.c128 49 v9 q7, Res.sl Ek.c128 49 v13 q11]) hp [0, 2, 3] (by decide) (by simp) rfl
    exact rnd_r (by simp) ⟨rfl, hf.sub ⟨rfl, rfl, rfl, trivial⟩, hp⟩
  clear hl hf hp
  intro e a w hne hO
  rcases q175 with q176 | q177
  · replace h := smL h
    obtain ⟨rfl, hf, hp⟩ := hO
    refine ib_same ?_
    refine th_n ?_
    refine wp_seq ?_
    refine wp_reg ?_
    refine st_build0 (E := Ek.c128) hf (by decide) elt49 Try.underlying44 hp rfl ?_
    clear hf; intro a w v178 hf hp0; clear hp; have hp := hp0; clear hp0
    replace hp : Hp _ _ _ (Res.sl Ek.c128 49 v178 ([] : List (Fl × Fl)) :: Res.obj 41 v1 [vxx0_P, .float .f64 bxx0_Size, vxx0_L, vxx0_A, vxx0_B, .int .i64 xx0_N] :: Res.sl Ek.c128 49 v9 q7 :: Res.sl Ek.c128 49 v13 q11 :: ow) := hp
    refine st_move hf rfl rfl (by decide) ?_
    clear hf; intro a ha hf; clear ha
    obtain ⟨hc180, h⟩ := chk h
    refine st_append (E := Ek.c128) hf (by decide) elt49 Try.underlying44 (by decide) hp (i := 0) rfl rfl rfl rfl (hp.sl (i := 2) rfl) hc180 ?_
    clear hf; intro a w v181 hf hp0; clear hp; have hp := hp0; clear hp0
    replace hp : Hp _ _ _ (Res.sl Ek.c128 49 v181 (([] : List (Fl × Fl)) ++ q7) :: Res.obj 41 v1 [vxx0_P, .float .f64 bxx0_Size, vxx0_L, vxx0_A, vxx0_B, .int .i64 xx0_N] :: Res.sl Ek.c128 49 v9 q7 :: Res.sl Ek.c128 49 v13 q11 :: ow) := hp
    refine st_build (E := Ek.c128) (xs := [(Fl.bits 0, Fl.bits 4621256167635550208)]) hf (by decide) elt49 Try.underlying44 hp (vals := #[(0, .complex .f64 0 4621256167635550208)]) (cells := #[.complex .f64 0 4621256167635550208]) rfl (by simp [hf.ev (x := (Operand.const (.complex .f64 0 4621256167635550208))) rfl]) (by decide) (by decide) (z := .complex .f64 0 0) (by kernel_rfl) (by kernel_rfl) rfl (reps_cons (cs := [.complex .f64 0 4621256167635550208]) (show Ek.c128.rep [.complex .f64 0 4621256167635550208] (Fl.bits 0, Fl.bits 4621256167635550208) from ⟨_, _, rfl, rfl, rfl⟩) (reps_nil _)) ?_
    clear hf; intro a w v182 hf hp0; clear hp; have hp := hp0; clear hp0
    replace hp : Hp _ _ _ (Res.sl Ek.c128 49 v182 ([(Fl.bits 0, Fl.bits 4621256167635550208)]) :: Res.sl Ek.c128 49 v181 (([] : List (Fl × Fl)) ++ q7) :: Res.obj 41 v1 [vxx0_P, .float .f64 bxx0_Size, vxx0_L, vxx0_A, vxx0_B, .int .i64 xx0_N] :: Res.sl Ek.c128 49 v9 q7 :: Res.sl Ek.c128 49 v13 q11 :: ow) := hp
    obtain ⟨hc184, h⟩ := chk h
    refine st_append (E := Ek.c128) hf (by decide) elt49 Try.underlying44 (by decide) hp (i := 1) rfl rfl rfl rfl (hp.sl (i := 0) rfl) hc184 ?_
    clear hf; intro a w v185 hf hp0; clear hp; have hp := hp0; clear hp0
    replace hp : Hp _ _ _ (Res.sl Ek.c128 49 v182 ([(Fl.bits 0, Fl.bits 4621256167635550208)]) :: Res.sl Ek.c128 49 v185 ((([] : List (Fl × Fl)) ++ q7) ++ [(Fl.bits 0, Fl.bits 4621256167635550208)]) :: Res.obj 41 v1 [vxx0_P, .float .f64 bxx0_Size, vxx0_L, vxx0_A, vxx0_B, .int .i64 xx0_N] :: Res.sl Ek.c128 49 v9 q7 :: Res.sl Ek.c128 49 v13 q11 :: ow) := hp
    refine st_assign hf rfl rfl (by decide) ?_
    clear hf; intro a ha hf; clear ha
    refine st_nil hf ?_
    refine th_n ?_
    refine wp_seq ?_
    obtain ⟨S186, hp187, rd188, up189, bk190⟩ := Hp.lendS hp (i := 3) rfl
    obtain ⟨S191, hp192, rd193, up194, bk195⟩ := Hp.lendS hp187 (i := 1) rfl
    obtain ⟨S196, hp197, rd198, up199, bk200⟩ := Hp.lendO hp192 (i := 1) rfl
    have rl201 := rd198
    have rl202 := ((((((hxx0_P.now hp).mono up189).now hp187).mono up194).now hp192).mono up199)
    have rl203 := ((((((hxx0_L.now hp).mono up189).now hp187).mono up194).now hp192).mono up199)
    have rl204 := ((((((hxx0_A.now hp).mono up189).now hp187).mono up194).now hp192).mono up199)
    have rl205 := ((((((hxx0_B.now hp).mono up189).now hp187).mono up194).now hp192).mono up199)
    have rl206 := ((((rd188.now hp187).mono up194).now hp192).mono up199)
    have rl207 := ((rd193.now hp192).mono up199)
    obtain ⟨hc208, h⟩ := chk h
    have hc209 : 0 ≤ ((q7.length : Int)).toNat := by omega
    have hc210 : ((q7.length : Int)).toNat ≤ ((([] : List (Fl × Fl)) ++ q7) ++ [(Fl.bits 0, Fl.bits 4621256167635550208)]).length := by omega
    obtain ⟨q211, hcall212, h⟩ := bnd h
    refine wp_cutN (fun a w => ∃ (v213 : Value), Fr 260 a [(1, optr v1 0), (4, v9), (5, v13), (7, .int .i64 q211.2), (20, v185), (21, v213)] ∧ Hp S w0 w (Res.sl Ek.c128 49 v9 q7 :: Res.sl Ek.c128 49 v185 ((([] : List (Fl × Fl)) ++ q7) ++ [(Fl.bits 0, Fl.bits 4621256167635550208)]) :: Res.obj 41 v1 [vxx0_P, .float .f64 bxx0_Size, vxx0_L, vxx0_A, vxx0_B, .int .i64 xx0_N] :: Res.sl Ek.c128 49 v213 q211.1 :: Res.sl Ek.c128 49 v182 ([(Fl.bits 0, Fl.bits 4621256167635550208)]) :: Res.sl Ek.c128 49 v13 q11 :: ow)) ?_ ?_
    · have hp := hp197.same (Same.drew w)
      refine dr_begin' (fun a w => ∃ (v213 : Value), Fr 260 a [(1, optr v1 0), (4, v9), (5, v13), (7, .int .i64 q211.2), (20, v185), (21, v213)] ∧ Hp S w0 w (Res.sl Ek.c128 49 v9 q7 :: Res.sl Ek.c128 49 v185 ((([] : List (Fl × Fl)) ++ q7) ++ [(Fl.bits 0, Fl.bits 4621256167635550208)]) :: Res.obj 41 v1 [vxx0_P, .float .f64 bxx0_Size, vxx0_L, vxx0_A, vxx0_B, .int .i64 xx0_N] :: Res.sl Ek.c128 49 v213 q211.1 :: Res.sl Ek.c128 49 v182 ([(Fl.bits 0, Fl.bits 4621256167635550208)]) :: Res.sl Ek.c128 49 v13 q11 :: ow)) (fun w' => ∃ l, Hp S196 w w' l) [] (by kernel_rfl) ?_
      refine dr_take 0 (v185) rfl (by kernel_rfl) (by kernel_rfl) (by kernel_rfl) (by kernel_rfl) rfl rfl hf (by decide) rfl (fun w hp => ?_) ⟨_, hp⟩ ?_
      · obtain ⟨_, hp⟩ := hp
        refine st_move hf rfl rfl (by decide) ?_
        clear hf; intro a ha hf
        exact st_nil hf (th_n ⟨ha, rfl⟩)
      clear hf; intro a hf
      refine dr_take 1 (v9) rfl (by kernel_rfl) (by kernel_rfl) (by kernel_rfl) (by kernel_rfl) rfl rfl hf (by decide) rfl (fun w hp => ?_) ⟨_, hp⟩ ?_
      · obtain ⟨_, hp⟩ := hp
        refine st_move hf rfl rfl (by decide) ?_
        clear hf; intro a ha hf
        exact st_nil hf (th_n ⟨ha, rfl⟩)
      clear hf; intro a hf
      refine dr_take 2 (.int .i64 (q7.length : Int)) rfl (by kernel_rfl) (by kernel_rfl) (by kernel_rfl) (by kernel_rfl) rfl rfl hf (by decide) rfl (fun w hp => ?_) ⟨_, hp⟩ ?_
      · obtain ⟨_, hp⟩ := hp
        refine st_len (E := Ek.c128) hf (by decide) Try.underlying44 rfl rfl (rl206.sl hp) ?_
        clear hf; intro a ha hf
        exact st_nil hf (th_n ⟨ha, rfl⟩)
      clear hf; intro a hf
      refine dr_take 3 ((GL.cut v185 0 (((q7.length : Int)).toNat) 1)) rfl (by kernel_rfl) (by kernel_rfl) (by kernel_rfl) (by kernel_rfl) rfl rfl hf (by decide) rfl (fun w hp => ?_) ⟨_, hp⟩ ?_
      · obtain ⟨_, hp⟩ := hp
        refine st_cutS (E := Ek.c128) hf (by decide) Try.underlying44 elt49 rfl rfl (rl207.sl hp) (.inl ⟨rfl, rfl⟩) (.inr ⟨_, _, rfl, evI rfl (by omega)⟩) hc209 hc210 ?_
        clear hf; intro a ha hf
        exact st_nil hf (th_n ⟨ha, rfl⟩)
      clear hf; intro a hf
      refine dr_take 4 (optr v1 5) rfl (by kernel_rfl) (by kernel_rfl) (by kernel_rfl) (by kernel_rfl) rfl rfl hf (by decide) rfl (fun w hp => ?_) ⟨_, hp⟩ ?_
      · obtain ⟨_, hp⟩ := hp
        refine st_fa (o' := 5) hf (by decide) (off := 5) (sz := 1) (by kernel_rfl) (by decide) rfl rfl (rl201.ob hp) rfl ?_
        clear hf; intro a ha hf
        exact st_nil hf (th_n ⟨ha, rfl⟩)
      clear hf; intro a hf
      refine dr_take 5 (.int .i64 xx0_N) rfl (by kernel_rfl) (by kernel_rfl) (by kernel_rfl) (by kernel_rfl) rfl rfl hf (by decide) rfl (fun w hp => ?_) ⟨_, hp⟩ ?_
      · obtain ⟨_, hp⟩ := hp
        refine st_ldO (u := .int .i64 xx0_N) hf (by decide) pl3 rfl rfl (rl201.ob hp) rfl ?_
        clear hf; intro a ha hf
        exact st_nil hf (th_n ⟨ha, rfl⟩)
      clear hf; intro a hf
      refine dr_one 6 rfl (by kernel_rfl) ?_
      refine st_call hf (by decide) Try.func28 rfl rfl rfl rfl rfl (f_turns_Whole_c hp _ _ (RdS.cut rl207 hc209 hc210) _ hcall212) ?_
      rintro _ w ⟨v213, rfl, hp0⟩
      clear hp; have hp := hp0; clear hp0
      replace hp : Hp _ _ _ (Res.sl Ek.c128 49 v213 q211.1 :: Res.sl Ek.c128 49 v182 ([(Fl.bits 0, Fl.bits 4621256167635550208)]) :: Res.sl Ek.c128 49 v13 q11 :: ow) := hp
      refine ⟨_, rfl, ?_⟩
      clear hf; intro a hf
      refine st_nil hf (th_n ⟨fun _ _ => ⟨_, hp⟩, ?_⟩)
      refine dr_take 7 (.tuple #[v213, .int .i64 q211.2]) rfl (by kernel_rfl) (by kernel_rfl) (by kernel_rfl) (by kernel_rfl) rfl rfl hf (by decide) rfl (fun w hp => ?_) ⟨_, hp⟩ ?_
      · obtain ⟨_, hp⟩ := hp
        refine st_move hf rfl rfl (by decide) ?_
        clear hf; intro a ha hf
        exact st_nil hf (th_n ⟨ha, rfl⟩)
      clear hf; intro a hf
      refine dr_take 8 (v213) rfl (by kernel_rfl) (by kernel_rfl) (by kernel_rfl) (by kernel_rfl) rfl rfl hf (by decide) rfl (fun w hp => ?_) ⟨_, hp⟩ ?_
      · obtain ⟨_, hp⟩ := hp
        refine st_extract hf (by decide) rfl rfl rfl ?_
        clear hf; intro a ha hf
        exact st_nil hf (th_n ⟨ha, rfl⟩)
      clear hf; intro a hf
      refine dr_take 9 (.int .i64 q211.2) rfl (by kernel_rfl) (by kernel_rfl) (by kernel_rfl) (by kernel_rfl) rfl rfl hf (by decide) rfl (fun w hp => ?_) ⟨_, hp⟩ ?_
      · obtain ⟨_, hp⟩ := hp
        refine st_extract hf (by decide) rfl rfl rfl ?_
        clear hf; intro a ha hf
        exact st_nil hf (th_n ⟨ha, rfl⟩)
      clear hf; intro a hf
      refine dr_take 10 (v213) rfl (by kernel_rfl) (by kernel_rfl) (by kernel_rfl) (by kernel_rfl) rfl rfl hf (by decide) rfl (fun w hp => ?_) ⟨_, hp⟩ ?_
      · obtain ⟨_, hp⟩ := hp
        refine st_assign hf rfl rfl (by decide) ?_
        clear hf; intro a ha hf
        exact st_nil hf (th_n ⟨ha, rfl⟩)
      clear hf; intro a hf
      refine dr_take 11 (.int .i64 q211.2) rfl (by kernel_rfl) (by kernel_rfl) (by kernel_rfl) (by kernel_rfl) rfl rfl hf (by decide) rfl (fun w hp => ?_) ⟨_, hp⟩ ?_
      · obtain ⟨_, hp⟩ := hp
        refine st_assign hf rfl rfl (by decide) ?_
        clear hf; intro a ha hf
        exact st_nil hf (th_n ⟨ha, rfl⟩)
      clear hf; intro a hf
      refine dr_end (by kernel_rfl) ?_ _
      have hp := bk200 _ _ hp
      have hp := bk195 _ _ hp
      have hp := bk190 _ _ hp
      exact ⟨v213, hf.sub ⟨rfl, rfl, rfl, rfl, rfl, rfl, trivial⟩, hp⟩
    rintro a w ⟨v213, hf, hp⟩
    refine th_n ?_
    refine wp_seq ?_
    refine wp_reg ?_
    refine st_move hf rfl rfl (by decide) ?_
    clear hf; intro a ha hf; clear ha
    refine st_fa (o' := 5) hf (by decide) (off := 5) (sz := 1) (by kernel_rfl) (by decide) rfl rfl (hp.ob (i := 2) rfl) rfl ?_
    clear hf; intro a ha hf; clear ha
    refine st_ldO (u := .int .i64 xx0_N) hf (by decide) pl3 rfl rfl (hp.ob (i := 2) rfl) rfl ?_
    clear hf; intro a ha hf; clear ha
    obtain ⟨q215, hcall216, h⟩ := bnd h
    obtain ⟨S217, hp218, rd219, up220, bk221⟩ := Hp.lendS hp (i := 0) rfl
    refine st_call hf (by decide) Try.func29 rfl rfl rfl rfl rfl (f_foghornref06_Whole_c hp218 _ _ rd219 _ hcall216) ?_
    rintro _ w ⟨v222, rfl, hp0⟩
    have hp0 := bk221 _ _ hp0
    clear hp; have hp := hp0; clear hp0
    replace hp : Hp _ _ _ (Res.sl Ek.c128 49 v9 q7 :: Res.sl Ek.c128 49 v222 q215.1 :: Res.sl Ek.c128 49 v185 ((([] : List (Fl × Fl)) ++ q7) ++ [(Fl.bits 0, Fl.bits 4621256167635550208)]) :: Res.obj 41 v1 [vxx0_P, .float .f64 bxx0_Size, vxx0_L, vxx0_A, vxx0_B, .int .i64 xx0_N] :: Res.sl Ek.c128 49 v213 q211.1 :: Res.sl Ek.c128 49 v182 ([(Fl.bits 0, Fl.bits 4621256167635550208)]) :: Res.sl Ek.c128 49 v13 q11 :: ow) := hp
    refine ⟨_, rfl, ?_⟩
    clear hf; intro a hf
    refine st_move hf rfl rfl (by decide) ?_
    clear hf; intro a ha hf; clear ha
    refine st_extract hf (by decide) rfl rfl rfl ?_
    clear hf; intro a ha hf; clear ha
    refine st_extract hf (by decide) rfl rfl rfl ?_
    clear hf; intro a ha hf; clear ha
    refine st_assign hf rfl rfl (by decide) ?_
    clear hf; intro a ha hf; clear ha
    refine st_assign hf rfl rfl (by decide) ?_
    clear hf; intro a ha hf; clear ha
    refine st_nil hf ?_
    refine th_n ?_
    refine wp_seq ?_
    refine wp_seq ?_
    refine wp_reg ?_
    refine st_move hf rfl rfl (by decide) ?_
    clear hf; intro a ha hf; clear ha
    refine st_move hf rfl rfl (by decide) ?_
    clear hf; intro a ha hf; clear ha
    refine st_ineq hf (by decide) rfl rfl rfl ?_
    clear hf; intro a ha hf; clear ha
    refine st_move hf rfl rfl (by decide) ?_
    clear hf; intro a ha hf; clear ha
    refine wpList_cut 6 (fun a w => Fr 260 a [(4, v9), (5, v13), (20, v185), (21, v213), (22, v222), (195, .bool ((q211.2 != q215.2) || ((q211.1.length : Int) != (q215.1.length : Int))))] ∧ Hp S w0 w (Res.sl Ek.c128 49 v9 q7 :: Res.sl Ek.c128 49 v222 q215.1 :: Res.sl Ek.c128 49 v185 ((([] : List (Fl × Fl)) ++ q7) ++ [(Fl.bits 0, Fl.bits 4621256167635550208)]) :: Res.obj 41 v1 [vxx0_P, .float .f64 bxx0_Size, vxx0_L, vxx0_A, vxx0_B, .int .i64 xx0_N] :: Res.sl Ek.c128 49 v213 q211.1 :: Res.sl Ek.c128 49 v182 ([(Fl.bits 0, Fl.bits 4621256167635550208)]) :: Res.sl Ek.c128 49 v13 q11 :: ow)) ?_ ?_
    · rcases Bool.eq_false_or_eq_true (q211.2 != q215.2) with hb225 | hb225
      · skip
        refine st_skip hf (wantN hf rfl rfl hb225) rfl (by decide) ?_ rfl
        clear hf; intro a hf
        refine st_skip hf (wantN hf rfl rfl hb225) rfl (by decide) ?_ rfl
        clear hf; intro a hf
        refine st_skip hf (wantN hf rfl rfl hb225) rfl (by decide) ?_ rfl
        clear hf; intro a hf
        refine st_skip hf (wantN hf rfl rfl hb225) rfl (by decide) ?_ rfl
        clear hf; intro a hf
        refine st_skip hf (wantN hf rfl rfl hb225) rfl (by decide) ?_ rfl
        clear hf; intro a hf
        refine st_pick (v := .bool true) hf rfl rfl (fun hb' => ?_) (fun hb' => ?_) (by decide) ?_
        · rfl
        · exact absurd (hb225.symm.trans hb') (by decide)
        clear hf; intro a ha hf; clear ha
        refine st_nil hf (th_n ?_)
        exact ⟨hf.sub ⟨rfl, rfl, rfl, rfl, rfl, (by rw [hb225]; rfl), trivial⟩, hp⟩
      refine st_move hf (wantY hf rfl rfl hb225) rfl (by decide) ?_
      clear hf; intro a ha hf; clear ha
      refine st_len (E := Ek.c128) hf (by decide) Try.underlying44 (wantY hf rfl rfl hb225) rfl (hp.sl (i := 4) rfl) ?_
      clear hf; intro a ha hf; clear ha
      refine st_move hf (wantY hf rfl rfl hb225) rfl (by decide) ?_
      clear hf; intro a ha hf; clear ha
      refine st_len (E := Ek.c128) hf (by decide) Try.underlying44 (wantY hf rfl rfl hb225) rfl (hp.sl (i := 1) rfl) ?_
      clear hf; intro a ha hf; clear ha
      refine st_ineq hf (by decide) (wantY hf rfl rfl hb225) rfl rfl ?_
      clear hf; intro a ha hf; clear ha
      refine st_pick (v := .bool ((q211.1.length : Int) != (q215.1.length : Int))) hf rfl rfl (fun hb' => ?_) (fun hb' => ?_) (by decide) ?_
      · exact absurd (hb225.symm.trans hb') (by decide)
      · rfl
      clear hf; intro a ha hf; clear ha
      refine st_nil hf (th_n ?_)
      exact ⟨hf.sub ⟨rfl, rfl, rfl, rfl, rfl, (by rw [hb225]; rfl), trivial⟩, hp⟩
    rintro a w ⟨hf, hp⟩
    refine st_move hf rfl rfl (by decide) ?_
    clear hf; intro a ha hf; clear ha
    obtain ⟨z228, hz226, h⟩ := bnd h
    refine wpList_cut 8 (fun a w => Fr 260 a [(4, v9), (5, v13), (20, v185), (21, v213), (22, v222), (204, .bool z228)] ∧ Hp S w0 w (Res.sl Ek.c128 49 v9 q7 :: Res.sl Ek.c128 49 v222 q215.1 :: Res.sl Ek.c128 49 v185 ((([] : List (Fl × Fl)) ++ q7) ++ [(Fl.bits 0, Fl.bits 4621256167635550208)]) :: Res.obj 41 v1 [vxx0_P, .float .f64 bxx0_Size, vxx0_L, vxx0_A, vxx0_B, .int .i64 xx0_N] :: Res.sl Ek.c128 49 v213 q211.1 :: Res.sl Ek.c128 49 v182 ([(Fl.bits 0, Fl.bits 4621256167635550208)]) :: Res.sl Ek.c128 49 v13 q11 :: ow)) ?_ ?_
    · rcases Bool.eq_false_or_eq_true ((q211.2 != q215.2) || ((q211.1.length : Int) != (q215.1.length : Int))) with hb227 | hb227
      · skip
        replace hz226 := ifT hz226 hb227
        refine st_skip hf (wantN hf rfl rfl hb227) rfl (by decide) ?_ rfl
        clear hf; intro a hf
        refine st_skip hf (wantN hf rfl rfl hb227) rfl (by decide) ?_ rfl
        clear hf; intro a hf
        refine st_skip hf (wantN hf rfl rfl hb227) rfl (by decide) ?_ rfl
        clear hf; intro a hf
        refine st_skip hf (wantN hf rfl rfl hb227) rfl (by decide) ?_ rfl
        clear hf; intro a hf
        refine st_skip hf (wantN hf rfl rfl hb227) rfl (by decide) ?_ rfl
        clear hf; intro a hf
        refine st_skip hf (wantN hf rfl rfl hb227) rfl (by decide) ?_ rfl
        clear hf; intro a hf
        refine st_skip hf (wantN hf rfl rfl hb227) rfl (by decide) ?_ rfl
        clear hf; intro a hf
        obtain rfl := Option.some.inj hz226
        refine st_pick (v := .bool true) hf rfl rfl (fun hb' => ?_) (fun hb' => ?_) (by decide) ?_
        · rfl
        · exact absurd (hb227.symm.trans hb') (by decide)
        clear hf; intro a ha hf; clear ha
        refine st_nil hf (th_n ?_)
        exact ⟨hf.sub ⟨rfl, rfl, rfl, rfl, rfl, rfl, trivial⟩, hp⟩
      replace hz226 := ifF hz226 hb227
      refine st_move hf (wantY hf rfl rfl hb227) rfl (by decide) ?_
      clear hf; intro a ha hf; clear ha
      refine st_move hf (wantY hf rfl rfl hb227) rfl (by decide) ?_
      clear hf; intro a ha hf; clear ha
      refine st_len (E := Ek.c128) hf (by decide) Try.underlying44 (wantY hf rfl rfl hb227) rfl (hp.sl (i := 0) rfl) ?_
      clear hf; intro a ha hf; clear ha
      obtain ⟨hc229, hz226⟩ := chk hz226
      have hc230 : 0 ≤ ((q7.length : Int)).toNat := by omega
      have hc231 : ((q7.length : Int)).toNat ≤ ((([] : List (Fl × Fl)) ++ q7) ++ [(Fl.bits 0, Fl.bits 4621256167635550208)]).length := by omega
      refine st_cutS (E := Ek.c128) hf (by decide) Try.underlying44 elt49 (wantY hf rfl rfl hb227) rfl (hp.sl (i := 2) rfl) (.inl ⟨rfl, rfl⟩) (.inr ⟨_, _, rfl, evI rfl (by omega)⟩) hc230 hc231 ?_
      clear hf; intro a ha hf; clear ha
      refine st_move hf (wantY hf rfl rfl hb227) rfl (by decide) ?_
      clear hf; intro a ha hf; clear ha
      obtain ⟨q232, hcall233, hz226⟩ := bnd hz226
      obtain ⟨S234, hp235, rd236, up237, bk238⟩ := Hp.lendS hp (i := 2) rfl
      obtain ⟨S239, hp240, rd241, up242, bk243⟩ := Hp.lendS hp235 (i := 0) rfl
      refine st_call hf (by decide) Try.func22 rfl rfl (wantY hf rfl rfl hb227) rfl rfl (f_foghornref03_SameRow_c hp240 _ _ (RdS.cut ((rd236.now hp235).mono up242) hc230 hc231) _ _ rd241 hcall233) ?_
      rintro _ w ⟨rfl, hp0⟩
      have hp0 := bk243 _ _ hp0
      have hp0 := bk238 _ _ hp0
      clear hp; have hp := hp0; clear hp0
      replace hp : Hp _ _ _ (Res.sl Ek.c128 49 v185 ((([] : List (Fl × Fl)) ++ q7) ++ [(Fl.bits 0, Fl.bits 4621256167635550208)]) :: Res.sl Ek.c128 49 v9 q7 :: Res.sl Ek.c128 49 v222 q215.1 :: Res.obj 41 v1 [vxx0_P, .float .f64 bxx0_Size, vxx0_L, vxx0_A, vxx0_B, .int .i64 xx0_N] :: Res.sl Ek.c128 49 v213 q211.1 :: Res.sl Ek.c128 49 v182 ([(Fl.bits 0, Fl.bits 4621256167635550208)]) :: Res.sl Ek.c128 49 v13 q11 :: ow) := hp
      refine ⟨_, rfl, ?_⟩
      clear hf; intro a hf
      refine st_not hf (by decide) (wantY hf rfl rfl hb227) rfl ?_
      clear hf; intro a ha hf; clear ha
      obtain rfl := Option.some.inj hz226
      refine st_pick (v := .bool (!q232)) hf rfl rfl (fun hb' => ?_) (fun hb' => ?_) (by decide) ?_
      · exact absurd (hb227.symm.trans hb') (by decide)
      · rfl
      clear hf; intro a ha hf; clear ha
      refine st_nil hf (th_n ?_)
      have hp : Hp _ _ _ (Res.sl Ek.c128 49 v9 q7 :: Res.sl Ek.c128 49 v222 q215.1 :: Res.sl Ek.c128 49 v185 ((([] : List (Fl × Fl)) ++ q7) ++ [(Fl.bits 0, Fl.bits 4621256167635550208)]) :: Res.obj 41 v1 [vxx0_P, .float .f64 bxx0_Size, vxx0_L, vxx0_A, vxx0_B, .int .i64 xx0_N] :: Res.sl Ek.c128 49 v213 q211.1 :: Res.sl Ek.c128 49 v182 ([(Fl.bits 0, Fl.bits 4621256167635550208)]) :: Res.sl Ek.c128 49 v13 q11 :: ow) := Hp.sel (pre := [Res.sl Ek.c128 49 v185 ((([] : List (Fl × Fl)) ++ q7) ++ [(Fl.bits 0, Fl.bits 4621256167635550208)]), Res.sl Ek.c128 49 v9 q7, Res.sl Ek.c128 49 v222 q215.1, Res.obj 41 v1 [vxx0_P, .float .f64 bxx0_Size, vxx0_L, vxx0_A, vxx0_B, .int .i64 xx0_N], Res.sl Ek.c128 49 v213 q211.1, Res.sl Ek.c128 49 v182 ([(Fl.bits 0, Fl.bits 4621256167635550208)]), Res.sl Ek.c128 49 v13 q11]) (tail := ow) (rs' := [Res.sl Ek.c128 49 v9 q7, Res.sl Ek.c128 49 v222 q215.1, Res.sl Ek.c128 49 v185 ((([] : List (Fl × Fl)) ++ q7) ++ [(Fl.bits 0, Fl.bits 4621256167635550208)]), Res.obj 41 v1 [vxx0_P, .float .f64 bxx0_Size, vxx0_L, vxx0_A, vxx0_B, .int .i64 xx0_N], Res.sl Ek.c128 49 v213 q211.1, Res.sl Ek.c128 49 v182 ([(Fl.bits 0, Fl.bits 4621256167635550208)]), Res.sl Ek.c128 49 v13 q11]) hp [1, 2, 0, 3, 4, 5, 6] (by decide) (by simp) rfl
      exact ⟨hf.sub ⟨rfl, rfl, rfl, rfl, rfl, rfl, trivial⟩, hp⟩
    rintro a w ⟨hf, hp⟩
    refine st_move hf rfl rfl (by decide) ?_
    clear hf; intro a ha hf; clear ha
    obtain ⟨z246, hz244, h⟩ := bnd h
    refine wpList_cut 7 (fun a w => Fr 260 a [(4, v9), (5, v13), (20, v185), (21, v213), (22, v222), (212, .bool z246)] ∧ Hp S w0 w (Res.sl Ek.c128 49 v9 q7 :: Res.sl Ek.c128 49 v222 q215.1 :: Res.sl Ek.c128 49 v185 ((([] : List (Fl × Fl)) ++ q7) ++ [(Fl.bits 0, Fl.bits 4621256167635550208)]) :: Res.obj 41 v1 [vxx0_P, .float .f64 bxx0_Size, vxx0_L, vxx0_A, vxx0_B, .int .i64 xx0_N] :: Res.sl Ek.c128 49 v213 q211.1 :: Res.sl Ek.c128 49 v182 ([(Fl.bits 0, Fl.bits 4621256167635550208)]) :: Res.sl Ek.c128 49 v13 q11 :: ow)) ?_ ?_
    · rcases Bool.eq_false_or_eq_true z228 with hb245 | hb245
      · skip
        replace hz244 := ifT hz244 hb245
        refine st_skip hf (wantN hf rfl rfl hb245) rfl (by decide) ?_ rfl
        clear hf; intro a hf
        refine st_skip hf (wantN hf rfl rfl hb245) rfl (by decide) ?_ rfl
        clear hf; intro a hf
        refine st_skip hf (wantN hf rfl rfl hb245) rfl (by decide) ?_ rfl
        clear hf; intro a hf
        refine st_skip hf (wantN hf rfl rfl hb245) rfl (by decide) ?_ rfl
        clear hf; intro a hf
        refine st_skip hf (wantN hf rfl rfl hb245) rfl (by decide) ?_ rfl
        clear hf; intro a hf
        refine st_skip hf (wantN hf rfl rfl hb245) rfl (by decide) ?_ rfl
        clear hf; intro a hf
        obtain rfl := Option.some.inj hz244
        refine st_pick (v := .bool true) hf rfl rfl (fun hb' => ?_) (fun hb' => ?_) (by decide) ?_
        · rfl
        · exact absurd (hb245.symm.trans hb') (by decide)
        clear hf; intro a ha hf; clear ha
        refine st_nil hf (th_n ?_)
        exact ⟨hf.sub ⟨rfl, rfl, rfl, rfl, rfl, rfl, trivial⟩, hp⟩
      replace hz244 := ifF hz244 hb245
      refine st_move hf (wantY hf rfl rfl hb245) rfl (by decide) ?_
      clear hf; intro a ha hf; clear ha
      refine st_move hf (wantY hf rfl rfl hb245) rfl (by decide) ?_
      clear hf; intro a ha hf; clear ha
      refine st_len (E := Ek.c128) hf (by decide) Try.underlying44 (wantY hf rfl rfl hb245) rfl (hp.sl (i := 0) rfl) ?_
      clear hf; intro a ha hf; clear ha
      obtain ⟨hc247, hz244⟩ := chk hz244
      refine st_index (E := Ek.c128) hf (by decide) Try.underlying44 elt49 (wantY hf rfl rfl hb245) rfl rfl (hp.sl (i := 2) rfl) hc247.1 hc247.2 ?_
      clear hf; intro a ha hf; clear ha
      refine st_ldC hf (by decide) pl49 (wantY hf rfl rfl hb245) rfl (hp.sl (i := 2) rfl) hc247.1 hc247.2 ?_
      clear hf; intro a bb248 bb249 y250 y251 ha hf; clear ha
      refine st_ccmp (r_cne (x := (gt ((([] : List (Fl × Fl)) ++ q7) ++ [(Fl.bits 0, Fl.bits 4621256167635550208)]) (q7.length : Int))) (y := (Fl.bits 0, Fl.bits 4621256167635550208)) y250 y251 rfl rfl) hf (by decide) (wantY hf rfl rfl hb245) rfl rfl ?_
      clear hf; intro a ha hf; clear ha
      obtain rfl := Option.some.inj hz244
      refine st_pick (v := .bool (!ceq (gt ((([] : List (Fl × Fl)) ++ q7) ++ [(Fl.bits 0, Fl.bits 4621256167635550208)]) (q7.length : Int)) (Fl.bits 0, Fl.bits 4621256167635550208))) hf rfl rfl (fun hb' => ?_) (fun hb' => ?_) (by decide) ?_
      · exact absurd (hb245.symm.trans hb') (by decide)
      · rfl
      clear hf; intro a ha hf; clear ha
      refine st_nil hf (th_n ?_)
      exact ⟨hf.sub ⟨rfl, rfl, rfl, rfl, rfl, rfl, trivial⟩, hp⟩
    rintro a w ⟨hf, hp⟩
    refine st_nil hf ?_
    refine th_n ?_
    refine wp_if hf rfl (fun hb => ?_) (fun hb => ?_)
    · replace h := ifT h hb
      refine wp_seq ?_
      refine wp_reg ?_
      refine st_assign hf rfl rfl (by decide) ?_
      clear hf; intro a ha hf; clear ha
      refine st_nil hf ?_
      refine th_n ?_
      refine wp_ret ?_
      refine th_r ?_
      obtain rfl := Option.some.inj h
      have hp : Hp _ _ _ (ow) := Hp.sel (pre := [Res.sl Ek.c128 49 v9 q7, Res.sl Ek.c128 49 v222 q215.1, Res.sl Ek.c128 49 v185 ((([] : List (Fl × Fl)) ++ q7) ++ [(Fl.bits 0, Fl.bits 4621256167635550208)]), Res.obj 41 v1 [vxx0_P, .float .f64 bxx0_Size, vxx0_L, vxx0_A, vxx0_B, .int .i64 xx0_N], Res.sl Ek.c128 49 v213 q211.1, Res.sl Ek.c128 49 v182 ([(Fl.bits 0, Fl.bits 4621256167635550208)]), Res.sl Ek.c128 49 v13 q11]) (tail := ow) (rs' := []) hp [] (by decide) (by simp) rfl
      exact ⟨rfl, ⟨hf.sub ⟨rfl, trivial⟩, hp⟩⟩
    replace h := ifF h hb
    refine wp_skip ?_
    refine th_n ?_
    refine wp_seq ?_
    refine wp_seq ?_
    refine wp_reg ?_
    refine st_assign hf rfl rfl (by decide) ?_
    clear hf; intro a ha hf; clear ha
    refine st_nil hf ?_
    refine th_n ?_
    refine wp_block ?_
    obtain ⟨q281, hl, h⟩ := bnd h
    have hp : Hp _ _ _ (Res.sl Ek.c128 49 v213 q211.1 :: Res.sl Ek.c128 49 v9 q7 :: Res.sl Ek.c128 49 v13 q11 :: Res.sl Ek.c128 49 v185 ((([] : List (Fl × Fl)) ++ q7) ++ [(Fl.bits 0, Fl.bits 4621256167635550208)]) :: Res.sl Ek.c128 49 v222 q215.1 :: ow) := Hp.sel (pre := [Res.sl Ek.c128 49 v9 q7, Res.sl Ek.c128 49 v222 q215.1, Res.sl Ek.c128 49 v185 ((([] : List (Fl × Fl)) ++ q7) ++ [(Fl.bits 0, Fl.bits 4621256167635550208)]), Res.obj 41 v1 [vxx0_P, .float .f64 bxx0_Size, vxx0_L, vxx0_A, vxx0_B, .int .i64 xx0_N], Res.sl Ek.c128 49 v213 q211.1, Res.sl Ek.c128 49 v182 ([(Fl.bits 0, Fl.bits 4621256167635550208)]), Res.sl Ek.c128 49 v13 q11]) (tail := ow) (rs' := [Res.sl Ek.c128 49 v213 q211.1, Res.sl Ek.c128 49 v9 q7, Res.sl Ek.c128 49 v13 q11, Res.sl Ek.c128 49 v185 ((([] : List (Fl × Fl)) ++ q7) ++ [(Fl.bits 0, Fl.bits 4621256167635550208)]), Res.sl Ek.c128 49 v222 q215.1]) hp [4, 0, 6, 2, 1] (by decide) (by simp) rfl
    refine wp_loop_pure (f := (f_foghornlaw06_TurnsPoints.s2 q215)) (s := (q211.1, (0 : Int))) (fun s a w => ∃ (v252 : Value), Fr 260 a [(4, v9), (5, v13), (20, v185), (21, v252), (22, v222), (23, .int .i64 s.2)] ∧ Hp S w0 w (Res.sl Ek.c128 49 v252 s.1 :: Res.sl Ek.c128 49 v9 q7 :: Res.sl Ek.c128 49 v13 q11 :: Res.sl Ek.c128 49 v185 ((([] : List (Fl × Fl)) ++ q7) ++ [(Fl.bits 0, Fl.bits 4621256167635550208)]) :: Res.sl Ek.c128 49 v222 q215.1 :: ow)) (fun q e a w => match q with | (Sum.inl q) => e = .exit 2 ∧ Fr 260 a [(4, v9), (5, v13), (20, v185)] ∧ Hp S w0 w (Res.sl Ek.c128 49 v9 q7 :: Res.sl Ek.c128 49 v13 q11 :: Res.sl Ek.c128 49 v185 ((([] : List (Fl × Fl)) ++ q7) ++ [(Fl.bits 0, Fl.bits 4621256167635550208)]) :: ow) | (Sum.inr q) => e = .ret ∧ Fr 260 a [(2, .bool q)] ∧ Hp S w0 w (ow)) ?_ hl ⟨_, hf.sub ⟨rfl, rfl, rfl, rfl, rfl, rfl, trivial⟩, hp⟩ ?_
    · clear hl hf hp
      intro s x a w h hI
      obtain ⟨t21, i23⟩ := s
      obtain ⟨v252, hf, hp⟩ : ∃ (v252 : Value), Fr 260 a [(4, v9), (5, v13), (20, v185), (21, v252), (22, v222), (23, .int .i64 i23)] ∧ Hp S w0 w (Res.sl Ek.c128 49 v252 t21 :: Res.sl Ek.c128 49 v9 q7 :: Res.sl Ek.c128 49 v13 q11 :: Res.sl Ek.c128 49 v185 ((([] : List (Fl × Fl)) ++ q7) ++ [(Fl.bits 0, Fl.bits 4621256167635550208)]) :: Res.sl Ek.c128 49 v222 q215.1 :: ow) := hI
      replace h : f_foghornlaw06_TurnsPoints.s2c q215 t21 i23 = some x := h
      unfold f_foghornlaw06_TurnsPoints.s2c at h
      refine wp_seq ?_
      refine wp_seq ?_
      refine wp_reg ?_
      refine st_move hf rfl rfl (by decide) ?_
      clear hf; intro a ha hf; clear ha
      refine st_move hf rfl rfl (by decide) ?_
      clear hf; intro a ha hf; clear ha
      refine st_len (E := Ek.c128) hf (by decide) Try.underlying44 rfl rfl (hp.sl (i := 0) rfl) ?_
      clear hf; intro a ha hf; clear ha
      refine st_ilss hf (by decide) rfl rfl rfl ?_
      clear hf; intro a ha hf; clear ha
      refine st_nil hf ?_
      refine th_n ?_
      refine wp_if hf rfl (fun hb => ?_) (fun hb => ?_)
      · replace h := ifT h hb
        refine wp_skip ?_
        refine th_n ?_
        refine wp_seq ?_
        refine wp_block ?_
        refine wp_seq ?_
        refine wp_seq ?_
        obtain ⟨S254, hp255, rd256, up257, bk258⟩ := Hp.lendS hp (i := 0) rfl
        obtain ⟨S259, hp260, rd261, up262, bk263⟩ := Hp.lendS hp255 (i := 3) rfl
        have rl264 := ((rd256.now hp255).mono up262)
        have rl265 := rd261
        obtain ⟨hc266, h⟩ := chk h
        obtain ⟨bb268, bb269, y270, y271, hl267⟩ := RdS.pinC (p := i23) rl264 hc266.1 hc266.2
        obtain ⟨hc272, h⟩ := chk h
        obtain ⟨bb274, bb275, y276, y277, hl273⟩ := RdS.pinC (p := i23) rl265 hc272.1 hc272.2
        obtain ⟨q278, hcall279, h⟩ := bnd h
        refine wp_cutN (fun a w => Fr 260 a [(4, v9), (5, v13), (20, v185), (21, v252), (22, v222), (23, .int .i64 i23), (228, .bool (!q278))] ∧ Hp S w0 w (Res.sl Ek.c128 49 v252 t21 :: Res.sl Ek.c128 49 v222 q215.1 :: Res.sl Ek.c128 49 v9 q7 :: Res.sl Ek.c128 49 v13 q11 :: Res.sl Ek.c128 49 v185 ((([] : List (Fl × Fl)) ++ q7) ++ [(Fl.bits 0, Fl.bits 4621256167635550208)]) :: ow)) ?_ ?_
        · have hp := hp260.same (Same.drew w)
          refine dr_begin' (fun a w => Fr 260 a [(4, v9), (5, v13), (20, v185), (21, v252), (22, v222), (23, .int .i64 i23), (228, .bool (!q278))] ∧ Hp S w0 w (Res.sl Ek.c128 49 v252 t21 :: Res.sl Ek.c128 49 v222 q215.1 :: Res.sl Ek.c128 49 v9 q7 :: Res.sl Ek.c128 49 v13 q11 :: Res.sl Ek.c128 49 v185 ((([] : List (Fl × Fl)) ++ q7) ++ [(Fl.bits 0, Fl.bits 4621256167635550208)]) :: ow)) (fun w' => ∃ l, Hp S259 w w' l) [] (by kernel_rfl) ?_
          refine dr_take 0 (v252) rfl (by kernel_rfl) (by kernel_rfl) (by kernel_rfl) (by kernel_rfl) rfl rfl hf (by decide) rfl (fun w hp => ?_) ⟨_, hp⟩ ?_
          · obtain ⟨_, hp⟩ := hp
            refine st_move hf rfl rfl (by decide) ?_
            clear hf; intro a ha hf
            exact st_nil hf (th_n ⟨ha, rfl⟩)
          clear hf; intro a hf
          refine dr_take 1 (.int .i64 i23) rfl (by kernel_rfl) (by kernel_rfl) (by kernel_rfl) (by kernel_rfl) rfl rfl hf (by decide) rfl (fun w hp => ?_) ⟨_, hp⟩ ?_
          · obtain ⟨_, hp⟩ := hp
            refine st_move hf rfl rfl (by decide) ?_
            clear hf; intro a ha hf
            exact st_nil hf (th_n ⟨ha, rfl⟩)
          clear hf; intro a hf
          refine dr_take 2 (eptr v252 i23 1) rfl (by kernel_rfl) (by kernel_rfl) (by kernel_rfl) (by kernel_rfl) rfl rfl hf (by decide) rfl (fun w hp => ?_) ⟨_, hp⟩ ?_
          · obtain ⟨_, hp⟩ := hp
            refine st_index (E := Ek.c128) hf (by decide) Try.underlying44 elt49 rfl rfl rfl (rl264.sl hp) hc266.1 hc266.2 ?_
            clear hf; intro a ha hf
            exact st_nil hf (th_n ⟨ha, rfl⟩)
          clear hf; intro a hf
          refine dr_take 3 (.complex .f64 bb268 bb269) rfl (by kernel_rfl) (by kernel_rfl) (by kernel_rfl) (by kernel_rfl) rfl rfl hf (by decide) rfl (fun w hp => ?_) ⟨_, hp⟩ ?_
          · obtain ⟨_, hp⟩ := hp
            refine st_ldP hf (by decide) pl49 rfl rfl (hl267 _ _ hp) ?_
            clear hf; intro a ha hf
            exact st_nil hf (th_n ⟨ha, rfl⟩)
          clear hf; intro a hf
          refine dr_take 4 (v222) rfl (by kernel_rfl) (by kernel_rfl) (by kernel_rfl) (by kernel_rfl) rfl rfl hf (by decide) rfl (fun w hp => ?_) ⟨_, hp⟩ ?_
          · obtain ⟨_, hp⟩ := hp
            refine st_move hf rfl rfl (by decide) ?_
            clear hf; intro a ha hf
            exact st_nil hf (th_n ⟨ha, rfl⟩)
          clear hf; intro a hf
          refine dr_take 5 (.int .i64 i23) rfl (by kernel_rfl) (by kernel_rfl) (by kernel_rfl) (by kernel_rfl) rfl rfl hf (by decide) rfl (fun w hp => ?_) ⟨_, hp⟩ ?_
          · obtain ⟨_, hp⟩ := hp
            refine st_move hf rfl rfl (by decide) ?_
            clear hf; intro a ha hf
            exact st_nil hf (th_n ⟨ha, rfl⟩)
          clear hf; intro a hf
          refine dr_take 6 (eptr v222 i23 1) rfl (by kernel_rfl) (by kernel_rfl) (by kernel_rfl) (by kernel_rfl) rfl rfl hf (by decide) rfl (fun w hp => ?_) ⟨_, hp⟩ ?_
          · obtain ⟨_, hp⟩ := hp
            refine st_index (E := Ek.c128) hf (by decide) Try.underlying44 elt49 rfl rfl rfl (rl265.sl hp) hc272.1 hc272.2 ?_
            clear hf; intro a ha hf
            exact st_nil hf (th_n ⟨ha, rfl⟩)
          clear hf; intro a hf
          refine dr_take 7 (.complex .f64 bb274 bb275) rfl (by kernel_rfl) (by kernel_rfl) (by kernel_rfl) (by kernel_rfl) rfl rfl hf (by decide) rfl (fun w hp => ?_) ⟨_, hp⟩ ?_
          · obtain ⟨_, hp⟩ := hp
            refine st_ldP hf (by decide) pl49 rfl rfl (hl273 _ _ hp) ?_
            clear hf; intro a ha hf
            exact st_nil hf (th_n ⟨ha, rfl⟩)
          clear hf; intro a hf
          refine dr_one 8 rfl (by kernel_rfl) ?_
          refine st_call hf (by decide) Try.func25 rfl rfl rfl rfl rfl (f_foghornref03_Same_c hp _ _ _ (show Fl.rep bb268 ((gt t21 i23)).1 from y270) (show Fl.rep bb269 ((gt t21 i23)).2 from y271) _ _ _ (show Fl.rep bb274 ((gt q215.1 i23)).1 from y276) (show Fl.rep bb275 ((gt q215.1 i23)).2 from y277) _ hcall279) ?_
          rintro _ w ⟨rfl, hp0⟩
          clear hp; have hp := hp0; clear hp0
          replace hp : Hp _ _ _ (Res.sl Ek.c128 49 v9 q7 :: Res.sl Ek.c128 49 v13 q11 :: Res.sl Ek.c128 49 v185 ((([] : List (Fl × Fl)) ++ q7) ++ [(Fl.bits 0, Fl.bits 4621256167635550208)]) :: ow) := hp
          refine ⟨_, rfl, ?_⟩
          clear hf; intro a hf
          refine st_nil hf (th_n ⟨fun _ _ => ⟨_, hp⟩, ?_⟩)
          refine dr_take 9 (.bool (!q278)) rfl (by kernel_rfl) (by kernel_rfl) (by kernel_rfl) (by kernel_rfl) rfl rfl hf (by decide) rfl (fun w hp => ?_) ⟨_, hp⟩ ?_
          · obtain ⟨_, hp⟩ := hp
            refine st_not hf (by decide) rfl rfl ?_
            clear hf; intro a ha hf
            exact st_nil hf (th_n ⟨ha, rfl⟩)
          clear hf; intro a hf
          refine dr_end (by kernel_rfl) ?_ _
          have hp := bk263 _ _ hp
          have hp := bk258 _ _ hp
          exact ⟨hf.sub ⟨rfl, rfl, rfl, rfl, rfl, rfl, rfl, trivial⟩, hp⟩
        rintro a w ⟨hf, hp⟩
        refine th_n ?_
        refine wp_if hf rfl (fun hb => ?_) (fun hb => ?_)
        · replace h := ifT h hb
          refine wp_seq ?_
          refine wp_reg ?_
          refine st_assign hf rfl rfl (by decide) ?_
          clear hf; intro a ha hf; clear ha
          refine st_nil hf ?_
          refine th_n ?_
          refine wp_ret ?_
          refine th_r ?_
          refine ib_r ?_
          refine th_r ?_
          obtain rfl := Option.some.inj h
          have hp : Hp _ _ _ (ow) := Hp.sel (pre := [Res.sl Ek.c128 49 v252 t21, Res.sl Ek.c128 49 v222 q215.1, Res.sl Ek.c128 49 v9 q7, Res.sl Ek.c128 49 v13 q11, Res.sl Ek.c128 49 v185 ((([] : List (Fl × Fl)) ++ q7) ++ [(Fl.bits 0, Fl.bits 4621256167635550208)])]) (tail := ow) (rs' := []) hp [] (by decide) (by simp) rfl
          exact rnd_r (by simp) ⟨rfl, ⟨hf.sub ⟨rfl, trivial⟩, hp⟩⟩
        replace h := ifF h hb
        refine wp_skip ?_
        refine th_n ?_
        refine wp_reg ?_
        refine st_move hf rfl rfl (by decide) ?_
        clear hf; intro a ha hf; clear ha
        refine st_move hf rfl rfl (by decide) ?_
        clear hf; intro a ha hf; clear ha
        obtain ⟨hc280, h⟩ := chk h
        refine st_index (E := Ek.c128) hf (by decide) Try.underlying44 elt49 rfl rfl rfl (hp.sl (i := 0) rfl) hc280.1 hc280.2 ?_
        clear hf; intro a ha hf; clear ha
        refine st_store (E := Ek.c128) hf elt49 hp (i := 0) rfl rfl rfl rfl (show Ek.c128.rep [.complex .f64 0 4613937818241073152] (Fl.bits 0, Fl.bits 4613937818241073152) from ⟨_, _, rfl, rfl, rfl⟩) hc280.1 hc280.2 ?_
        clear hf; intro a w hf hp0; clear hp; have hp := hp0; clear hp0
        replace hp : Hp _ _ _ (Res.sl Ek.c128 49 v252 (t21.set (i23).toNat (Fl.bits 0, Fl.bits 4613937818241073152)) :: Res.sl Ek.c128 49 v222 q215.1 :: Res.sl Ek.c128 49 v9 q7 :: Res.sl Ek.c128 49 v13 q11 :: Res.sl Ek.c128 49 v185 ((([] : List (Fl × Fl)) ++ q7) ++ [(Fl.bits 0, Fl.bits 4621256167635550208)]) :: ow) := hp
        refine st_nil hf ?_
        refine ib_n ?_
        refine th_n ?_
        refine wp_reg ?_
        refine st_move hf rfl rfl (by decide) ?_
        clear hf; intro a ha hf; clear ha
        refine st_iadd hf (by decide) rfl rfl rfl ?_
        clear hf; intro a ha hf; clear ha
        refine st_assign hf rfl rfl (by decide) ?_
        clear hf; intro a ha hf; clear ha
        refine st_nil hf ?_
        obtain rfl := Option.some.inj h
        have hp : Hp _ _ _ (Res.sl Ek.c128 49 v252 (t21.set (i23).toNat (Fl.bits 0, Fl.bits 4613937818241073152)) :: Res.sl Ek.c128 49 v9 q7 :: Res.sl Ek.c128 49 v13 q11 :: Res.sl Ek.c128 49 v185 ((([] : List (Fl × Fl)) ++ q7) ++ [(Fl.bits 0, Fl.bits 4621256167635550208)]) :: Res.sl Ek.c128 49 v222 q215.1 :: ow) := Hp.sel (pre := [Res.sl Ek.c128 49 v252 (t21.set (i23).toNat (Fl.bits 0, Fl.bits 4613937818241073152)), Res.sl Ek.c128 49 v222 q215.1, Res.sl Ek.c128 49 v9 q7, Res.sl Ek.c128 49 v13 q11, Res.sl Ek.c128 49 v185 ((([] : List (Fl × Fl)) ++ q7) ++ [(Fl.bits 0, Fl.bits 4621256167635550208)])]) (tail := ow) (rs' := [Res.sl Ek.c128 49 v252 (t21.set (i23).toNat (Fl.bits 0, Fl.bits 4613937818241073152)), Res.sl Ek.c128 49 v9 q7, Res.sl Ek.c128 49 v13 q11, Res.sl Ek.c128 49 v185 ((([] : List (Fl × Fl)) ++ q7) ++ [(Fl.bits 0, Fl.bits 4621256167635550208)]), Res.sl Ek.c128 49 v222 q215.1]) hp [0, 2, 3, 4, 1] (by decide) (by simp) rfl
        exact rnd_l ⟨_, hf.sub ⟨rfl, rfl, rfl, rfl, rfl, rfl, trivial⟩, hp⟩
      replace h := ifF h hb
      refine wp_exit ?_
      refine th_e ?_
      obtain rfl := Option.some.inj h
      have hp : Hp _ _ _ (Res.sl Ek.c128 49 v9 q7 :: Res.sl Ek.c128 49 v13 q11 :: Res.sl Ek.c128 49 v185 ((([] : List (Fl × Fl)) ++ q7) ++ [(Fl.bits 0, Fl.bits 4621256167635550208)]) :: ow) := Hp.sel (pre := [Res.sl Ek.c128 49 v252 t21, Res.sl Ek.c128 49 v9 q7, Res.sl Ek.c128 49 v13 q11, Res.sl Ek.c128 49 v185 ((([] : List (Fl × Fl)) ++ q7) ++ [(Fl.bits 0, Fl.bits 4621256167635550208)]), Res.sl Ek.c128 49 v222 q215.1]) (tail := ow) (rs' := [Res.sl Ek.c128 49 v9 q7, Res.sl Ek.c128 49 v13 q11, Res.sl Ek.c128 49 v185 ((([] : List (Fl × Fl)) ++ q7) ++ [(Fl.bits 0, Fl.bits 4621256167635550208)])]) hp [1, 2, 3] (by decide) (by simp) rfl
      exact rnd_r (by simp) ⟨rfl, hf.sub ⟨rfl, rfl, rfl, trivial⟩, hp⟩
    clear hl hf hp
    intro e a w hne hO
    rcases q281 with q282 | q283
    · replace h := smL h
      obtain ⟨rfl, hf, hp⟩ := hO
      refine ib_same ?_
      refine th_n ?_
      refine wp_seq ?_
      obtain ⟨S284, hp285, rd286, up287, bk288⟩ := Hp.lendS hp (i := 0) rfl
      obtain ⟨S289, hp290, rd291, up292, bk293⟩ := Hp.lendS hp285 (i := 1) rfl
      have rl294 := ((rd286.now hp285).mono up292)
      have rl295 := rd291
      obtain ⟨hc296, h⟩ := chk h
      have hc297 : 0 ≤ ((q7.length : Int)).toNat := by omega
      have hc298 : ((q7.length : Int)).toNat ≤ ((([] : List (Fl × Fl)) ++ q7) ++ [(Fl.bits 0, Fl.bits 4621256167635550208)]).length := by omega
      obtain ⟨hc301, h⟩ := chk h
      obtain ⟨q303, hcall304, h⟩ := bnd h
      refine wp_cutN (fun a w => ∃ (v302 : Value), Fr 260 a [(4, v9), (5, v13), (7, .int .i64 q303.2), (24, .int .i64 q303.1)] ∧ Hp S w0 w (Res.sl Ek.c128 49 v9 q7 :: Res.sl Ek.c128 49 v185 ((([] : List (Fl × Fl)) ++ q7) ++ [(Fl.bits 0, Fl.bits 4621256167635550208)]) :: Res.sl Ek.c128 49 v302 (([] : List (Fl × Fl)) ++ q11) :: Res.sl Ek.c128 49 v13 q11 :: ow)) ?_ ?_
      · have hp := hp290.same (Same.drew w)
        refine dr_begin' (fun a w => ∃ (v302 : Value), Fr 260 a [(4, v9), (5, v13), (7, .int .i64 q303.2), (24, .int .i64 q303.1)] ∧ Hp S w0 w (Res.sl Ek.c128 49 v9 q7 :: Res.sl Ek.c128 49 v185 ((([] : List (Fl × Fl)) ++ q7) ++ [(Fl.bits 0, Fl.bits 4621256167635550208)]) :: Res.sl Ek.c128 49 v302 (([] : List (Fl × Fl)) ++ q11) :: Res.sl Ek.c128 49 v13 q11 :: ow)) (fun w' => ∃ l, Hp S289 w w' l) [] (by kernel_rfl) ?_
        refine dr_take 0 (v185) rfl (by kernel_rfl) (by kernel_rfl) (by kernel_rfl) (by kernel_rfl) rfl rfl hf (by decide) rfl (fun w hp => ?_) ⟨_, hp⟩ ?_
        · obtain ⟨_, hp⟩ := hp
          refine st_move hf rfl rfl (by decide) ?_
          clear hf; intro a ha hf
          exact st_nil hf (th_n ⟨ha, rfl⟩)
        clear hf; intro a hf
        refine dr_take 1 (v9) rfl (by kernel_rfl) (by kernel_rfl) (by kernel_rfl) (by kernel_rfl) rfl rfl hf (by decide) rfl (fun w hp => ?_) ⟨_, hp⟩ ?_
        · obtain ⟨_, hp⟩ := hp
          refine st_move hf rfl rfl (by decide) ?_
          clear hf; intro a ha hf
          exact st_nil hf (th_n ⟨ha, rfl⟩)
        clear hf; intro a hf
        refine dr_take 2 (.int .i64 (q7.length : Int)) rfl (by kernel_rfl) (by kernel_rfl) (by kernel_rfl) (by kernel_rfl) rfl rfl hf (by decide) rfl (fun w hp => ?_) ⟨_, hp⟩ ?_
        · obtain ⟨_, hp⟩ := hp
          refine st_len (E := Ek.c128) hf (by decide) Try.underlying44 rfl rfl (rl294.sl hp) ?_
          clear hf; intro a ha hf
          exact st_nil hf (th_n ⟨ha, rfl⟩)
        clear hf; intro a hf
        refine dr_take 3 ((GL.cut v185 0 (((q7.length : Int)).toNat) 1)) rfl (by kernel_rfl) (by kernel_rfl) (by kernel_rfl) (by kernel_rfl) rfl rfl hf (by decide) rfl (fun w hp => ?_) ⟨_, hp⟩ ?_
        · obtain ⟨_, hp⟩ := hp
          refine st_cutS (E := Ek.c128) hf (by decide) Try.underlying44 elt49 rfl rfl (rl295.sl hp) (.inl ⟨rfl, rfl⟩) (.inr ⟨_, _, rfl, evI rfl (by omega)⟩) hc297 hc298 ?_
          clear hf; intro a ha hf
          exact st_nil hf (th_n ⟨ha, rfl⟩)
        clear hf; intro a hf
        refine dr_take 5 (v13) rfl (by kernel_rfl) (by kernel_rfl) (by kernel_rfl) (by kernel_rfl) rfl rfl hf (by decide) rfl (fun w hp => ?_) ⟨_, hp⟩ ?_
        · obtain ⟨_, hp⟩ := hp
          refine st_move hf rfl rfl (by decide) ?_
          clear hf; intro a ha hf
          exact st_nil hf (th_n ⟨ha, rfl⟩)
        clear hf; intro a hf
        refine dr_one 4 rfl (by kernel_rfl) ?_
        refine st_build0 (E := Ek.c128) hf (by decide) elt49 Try.underlying44 hp rfl ?_
        clear hf; intro a w v299 hf hp0; clear hp; have hp := hp0; clear hp0
        replace hp : Hp _ _ _ (Res.sl Ek.c128 49 v299 ([] : List (Fl × Fl)) :: Res.sl Ek.c128 49 v13 q11 :: ow) := hp
        refine st_nil hf (th_n ⟨fun _ _ => ⟨_, hp⟩, ?_⟩)
        refine dr_one 6 rfl (by kernel_rfl) ?_
        refine st_append (E := Ek.c128) hf (by decide) elt49 Try.underlying44 (by decide) hp (i := 0) rfl rfl rfl rfl (hp.sl (i := 1) rfl) hc301 ?_
        clear hf; intro a w v302 hf hp0; clear hp; have hp := hp0; clear hp0
        replace hp : Hp _ _ _ (Res.sl Ek.c128 49 v302 (([] : List (Fl × Fl)) ++ q11) :: Res.sl Ek.c128 49 v13 q11 :: ow) := hp
        refine st_nil hf (th_n ⟨fun _ _ => ⟨_, hp⟩, ?_⟩)
        refine dr_one 7 rfl (by kernel_rfl) ?_
        obtain ⟨S305, hp306, rd307, up308, bk309⟩ := Hp.lendS hp (i := 0) rfl
        refine st_call hf (by decide) Try.func30 rfl rfl rfl rfl rfl (f_turns_Found_c hp306 _ _ (((RdS.cut rl295 hc297 hc298).now hp).mono up308) _ _ rd307 hcall304) ?_
        rintro _ w ⟨rfl, hp0⟩
        have hp0 := bk309 _ _ hp0
        clear hp; have hp := hp0; clear hp0
        replace hp : Hp _ _ _ (Res.sl Ek.c128 49 v302 (([] : List (Fl × Fl)) ++ q11) :: Res.sl Ek.c128 49 v13 q11 :: ow) := hp
        refine ⟨_, rfl, ?_⟩
        clear hf; intro a hf
        refine st_nil hf (th_n ⟨fun _ _ => ⟨_, hp⟩, ?_⟩)
        refine dr_take 8 (.tuple #[.int .i64 q303.1, .int .i64 q303.2]) rfl (by kernel_rfl) (by kernel_rfl) (by kernel_rfl) (by kernel_rfl) rfl rfl hf (by decide) rfl (fun w hp => ?_) ⟨_, hp⟩ ?_
        · obtain ⟨_, hp⟩ := hp
          refine st_move hf rfl rfl (by decide) ?_
          clear hf; intro a ha hf
          exact st_nil hf (th_n ⟨ha, rfl⟩)
        clear hf; intro a hf
        refine dr_take 9 (.int .i64 q303.1) rfl (by kernel_rfl) (by kernel_rfl) (by kernel_rfl) (by kernel_rfl) rfl rfl hf (by decide) rfl (fun w hp => ?_) ⟨_, hp⟩ ?_
        · obtain ⟨_, hp⟩ := hp
          refine st_extract hf (by decide) rfl rfl rfl ?_
          clear hf; intro a ha hf
          exact st_nil hf (th_n ⟨ha, rfl⟩)
        clear hf; intro a hf
        refine dr_take 10 (.int .i64 q303.2) rfl (by kernel_rfl) (by kernel_rfl) (by kernel_rfl) (by kernel_rfl) rfl rfl hf (by decide) rfl (fun w hp => ?_) ⟨_, hp⟩ ?_
        · obtain ⟨_, hp⟩ := hp
          refine st_extract hf (by decide) rfl rfl rfl ?_
          clear hf; intro a ha hf
          exact st_nil hf (th_n ⟨ha, rfl⟩)
        clear hf; intro a hf
        refine dr_take 11 (.int .i64 q303.1) rfl (by kernel_rfl) (by kernel_rfl) (by kernel_rfl) (by kernel_rfl) rfl rfl hf (by decide) rfl (fun w hp => ?_) ⟨_, hp⟩ ?_
        · obtain ⟨_, hp⟩ := hp
          refine st_assign hf rfl rfl (by decide) ?_
          clear hf; intro a ha hf
          exact st_nil hf (th_n ⟨ha, rfl⟩)
        clear hf; intro a hf
        refine dr_take 12 (.int .i64 q303.2) rfl (by kernel_rfl) (by kernel_rfl) (by kernel_rfl) (by kernel_rfl) rfl rfl hf (by decide) rfl (fun w hp => ?_) ⟨_, hp⟩ ?_
        · obtain ⟨_, hp⟩ := hp
          refine st_assign hf rfl rfl (by decide) ?_
          clear hf; intro a ha hf
          exact st_nil hf (th_n ⟨ha, rfl⟩)
        clear hf; intro a hf
        refine dr_end (by kernel_rfl) ?_ _
        have hp := bk293 _ _ hp
        have hp := bk288 _ _ hp
        exact ⟨v302, hf.sub ⟨rfl, rfl, rfl, rfl, trivial⟩, hp⟩
      rintro a w ⟨v302, hf, hp⟩
      refine th_n ?_
      refine wp_seq ?_
      refine wp_reg ?_
      refine st_move hf rfl rfl (by decide) ?_
      clear hf; intro a ha hf; clear ha
      refine st_move hf rfl rfl (by decide) ?_
      clear hf; intro a ha hf; clear ha
      obtain ⟨q310, hcall311, h⟩ := bnd h
      obtain ⟨S312, hp313, rd314, up315, bk316⟩ := Hp.lendS hp (i := 0) rfl
      obtain ⟨S317, hp318, rd319, up320, bk321⟩ := Hp.lendS hp313 (i := 2) rfl
      refine st_call hf (by decide) Try.func31 rfl rfl rfl rfl rfl (f_foghornref06_Found_c hp318 _ _ ((rd314.now hp313).mono up320) _ _ rd319 hcall311) ?_
      rintro _ w ⟨rfl, hp0⟩
      have hp0 := bk321 _ _ hp0
      have hp0 := bk316 _ _ hp0
      clear hp; have hp := hp0; clear hp0
      replace hp : Hp _ _ _ (Res.sl Ek.c128 49 v9 q7 :: Res.sl Ek.c128 49 v13 q11 :: Res.sl Ek.c128 49 v185 ((([] : List (Fl × Fl)) ++ q7) ++ [(Fl.bits 0, Fl.bits 4621256167635550208)]) :: Res.sl Ek.c128 49 v302 (([] : List (Fl × Fl)) ++ q11) :: ow) := hp
      refine ⟨_, rfl, ?_⟩
      clear hf; intro a hf
      refine st_move hf rfl rfl (by decide) ?_
      clear hf; intro a ha hf; clear ha
      refine st_extract hf (by decide) rfl rfl rfl ?_
      clear hf; intro a ha hf; clear ha
      refine st_extract hf (by decide) rfl rfl rfl ?_
      clear hf; intro a ha hf; clear ha
      refine st_assign hf rfl rfl (by decide) ?_
      clear hf; intro a ha hf; clear ha
      refine st_assign hf rfl rfl (by decide) ?_
      clear hf; intro a ha hf; clear ha
      refine st_nil hf ?_
      refine th_n ?_
      refine wp_seq ?_
      refine wp_reg ?_
      refine st_move hf rfl rfl (by decide) ?_
      clear hf; intro a ha hf; clear ha
      refine st_move hf rfl rfl (by decide) ?_
      clear hf; intro a ha hf; clear ha
      refine st_ieql hf (by decide) rfl rfl rfl ?_
      clear hf; intro a ha hf; clear ha
      refine st_move hf rfl rfl (by decide) ?_
      clear hf; intro a ha hf; clear ha
      refine wpList_cut 4 (fun a w => Fr 260 a [(256, .bool ((q303.1 == q310.1) && (q303.2 == q310.2)))] ∧ Hp S w0 w (Res.sl Ek.c128 49 v9 q7 :: Res.sl Ek.c128 49 v13 q11 :: Res.sl Ek.c128 49 v185 ((([] : List (Fl × Fl)) ++ q7) ++ [(Fl.bits 0, Fl.bits 4621256167635550208)]) :: Res.sl Ek.c128 49 v302 (([] : List (Fl × Fl)) ++ q11) :: ow)) ?_ ?_
      · rcases Bool.eq_false_or_eq_true (q303.1 == q310.1) with hb323 | hb323
        · skip
          refine st_move hf (wantY hf rfl rfl hb323) rfl (by decide) ?_
          clear hf; intro a ha hf; clear ha
          refine st_move hf (wantY hf rfl rfl hb323) rfl (by decide) ?_
          clear hf; intro a ha hf; clear ha
          refine st_ieql hf (by decide) (wantY hf rfl rfl hb323) rfl rfl ?_
          clear hf; intro a ha hf; clear ha
          refine st_pick (v := .bool (q303.2 == q310.2)) hf rfl rfl (fun hb' => ?_) (fun hb' => ?_) (by decide) ?_
          · rfl
          · exact absurd (hb323.symm.trans hb') (by decide)
          clear hf; intro a ha hf; clear ha
          refine st_nil hf (th_n ?_)
          exact ⟨hf.sub ⟨(by rw [hb323]; rfl), trivial⟩, hp⟩
        refine st_skip hf (wantN hf rfl rfl hb323) rfl (by decide) ?_ rfl
        clear hf; intro a hf
        refine st_skip hf (wantN hf rfl rfl hb323) rfl (by decide) ?_ rfl
        clear hf; intro a hf
        refine st_skip hf (wantN hf rfl rfl hb323) rfl (by decide) ?_ rfl
        clear hf; intro a hf
        refine st_pick (v := .bool false) hf rfl rfl (fun hb' => ?_) (fun hb' => ?_) (by decide) ?_
        · exact absurd (hb323.symm.trans hb') (by decide)
        · rfl
        clear hf; intro a ha hf; clear ha
        refine st_nil hf (th_n ?_)
        exact ⟨hf.sub ⟨(by rw [hb323]; rfl), trivial⟩, hp⟩
      rintro a w ⟨hf, hp⟩
      refine st_move hf rfl rfl (by decide) ?_
      clear hf; intro a ha hf; clear ha
      obtain ⟨z326, hz324, h⟩ := bnd h
      refine wpList_cut 2 (fun a w => Fr 260 a [(259, .bool z326)] ∧ Hp S w0 w (Res.sl Ek.c128 49 v9 q7 :: Res.sl Ek.c128 49 v13 q11 :: Res.sl Ek.c128 49 v185 ((([] : List (Fl × Fl)) ++ q7) ++ [(Fl.bits 0, Fl.bits 4621256167635550208)]) :: Res.sl Ek.c128 49 v302 (([] : List (Fl × Fl)) ++ q11) :: ow)) ?_ ?_
      · rcases Bool.eq_false_or_eq_true ((q303.1 == q310.1) && (q303.2 == q310.2)) with hb325 | hb325
        · skip
          replace hz324 := ifT hz324 hb325
          obtain ⟨q327, hcall328, hz324⟩ := bnd hz324
          refine st_call hf (by decide) Try.func14 rfl rfl (wantY hf rfl rfl hb325) rfl rfl (f_foghornlaw06_awake_c hp  hcall328) ?_
          rintro _ w ⟨rfl, hp0⟩
          clear hp; have hp := hp0; clear hp0
          replace hp : Hp _ _ _ (Res.sl Ek.c128 49 v9 q7 :: Res.sl Ek.c128 49 v13 q11 :: Res.sl Ek.c128 49 v185 ((([] : List (Fl × Fl)) ++ q7) ++ [(Fl.bits 0, Fl.bits 4621256167635550208)]) :: Res.sl Ek.c128 49 v302 (([] : List (Fl × Fl)) ++ q11) :: ow) := hp
          refine ⟨_, rfl, ?_⟩
          clear hf; intro a hf
          obtain rfl := Option.some.inj hz324
          refine st_pick (v := .bool q327) hf rfl rfl (fun hb' => ?_) (fun hb' => ?_) (by decide) ?_
          · rfl
          · exact absurd (hb325.symm.trans hb') (by decide)
          clear hf; intro a ha hf; clear ha
          refine st_nil hf (th_n ?_)
          exact ⟨hf.sub ⟨rfl, trivial⟩, hp⟩
        replace hz324 := ifF hz324 hb325
        refine st_skip hf (wantN hf rfl rfl hb325) rfl (by decide) ?_ rfl
        clear hf; intro a hf
        obtain rfl := Option.some.inj hz324
        refine st_pick (v := .bool false) hf rfl rfl (fun hb' => ?_) (fun hb' => ?_) (by decide) ?_
        · exact absurd (hb325.symm.trans hb') (by decide)
        · rfl
        clear hf; intro a ha hf; clear ha
        refine st_nil hf (th_n ?_)
        exact ⟨hf.sub ⟨rfl, trivial⟩, hp⟩
      rintro a w ⟨hf, hp⟩
      refine st_assign hf rfl rfl (by decide) ?_
      clear hf; intro a ha hf; clear ha
      refine st_nil hf ?_
      refine th_n ?_
      refine wp_ret ?_
      obtain rfl := Option.some.inj h
      have hp : Hp _ _ _ (ow) := Hp.sel (pre := [Res.sl Ek.c128 49 v9 q7, Res.sl Ek.c128 49 v13 q11, Res.sl Ek.c128 49 v185 ((([] : List (Fl × Fl)) ++ q7) ++ [(Fl.bits 0, Fl.bits 4621256167635550208)]), Res.sl Ek.c128 49 v302 (([] : List (Fl × Fl)) ++ q11)]) (tail := ow) (rs' := []) hp [] (by decide) (by simp) rfl
      exact ⟨rfl, ⟨hf.sub ⟨rfl, trivial⟩, hp⟩⟩
    replace h := smR h
    obtain ⟨rfl, hf, hp⟩ := hO
    refine ib_r ?_
    refine th_r ?_
    obtain rfl := Option.some.inj h
    exact ⟨rfl, ⟨hf.sub ⟨rfl, trivial⟩, hp⟩⟩
  replace h := smR h
  obtain ⟨rfl, hf, hp⟩ := hO
  refine ib_r ?_
  refine th_r ?_
  obtain rfl := Option.some.inj h
  exact ⟨rfl, ⟨hf.sub ⟨rfl, trivial⟩, hp⟩⟩

end Go.Proofs.Ytienojgmpjpcjaa
