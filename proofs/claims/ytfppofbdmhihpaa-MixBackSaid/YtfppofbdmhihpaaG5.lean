/- The functions foghorn foghornlaw08.MixBack, foghorn foghornlaw08.MixNames, foghorn foghornlaw08.MixShares: what each answers, as a plain function, and that its call answers it; printed by gen.py. -/
import Derived.Test.YtfppofbdmhihpaaProg
import Derived.Test.YtfppofbdmhihpaaGlP
import Derived.KernelRfl
import Derived.Test.YtfppofbdmhihpaaG5p2
set_option linter.unusedVariables false
set_option maxRecDepth 100000
set_option maxHeartbeats 4000000
namespace Go.Proofs.Ytfppofbdmhihpaa
open GL
noncomputable def f_foghornlaw08_kept.s1c (z0 : (List (Fl × Fl))) (l1 : (List Int)) (i6 : Int) : Option (Int ⊕ (Unit ⊕ Bool)) := (if (decide (i6 < (z0.length : Int))) = true then (if 0 ≤ i6 ∧ i6 < (z0.length : Int) then ((fbits ((gt z0 i6).1)).bind fun q18 => (if 0 ≤ (IntKind.i64.wrap ((2 : Int) * i6)) ∧ (IntKind.i64.wrap ((2 : Int) * i6)) < (l1.length : Int) then ((if (q18 != (gt l1 (IntKind.i64.wrap ((2 : Int) * i6)))) = true then (some true) else (if 0 ≤ i6 ∧ i6 < (z0.length : Int) then ((fbits ((gt z0 i6).2)).bind fun q30 => (if 0 ≤ (IntKind.i64.wrap ((IntKind.i64.wrap ((2 : Int) * i6)) + (1 : Int))) ∧ (IntKind.i64.wrap ((IntKind.i64.wrap ((2 : Int) * i6)) + (1 : Int))) < (l1.length : Int) then (some (q30 != (gt l1 (IntKind.i64.wrap ((IntKind.i64.wrap ((2 : Int) * i6)) + (1 : Int)))))) else none)) else none)).bind fun z34 => (if z34 = true then (some (Sum.inr (Sum.inr false))) else (some (Sum.inl (IntKind.i64.wrap (i6 + (1 : Int))))))) else none)) else none) else (some (Sum.inr (Sum.inl ()))))
noncomputable def f_foghornlaw08_kept.s1 (z0 : (List (Fl × Fl))) (l1 : (List Int)) (s : Int) : Option (Int ⊕ (Unit ⊕ Bool)) := f_foghornlaw08_kept.s1c z0 l1 s
noncomputable def f_foghornlaw08_kept (z0 : (List (Fl × Fl))) (z0S : (List (Fl × Fl))) (l1 : (List Int)) : Option Bool := ((if ((z0.length : Int) != (IntKind.i64.wrap (((l1.length : Int)).tdiv (2 : Int)))) = true then (some true) else (if 0 ≤ (IntKind.i64.wrap ((z0.length : Int) + (1 : Int))) ∧ (IntKind.i64.wrap ((z0.length : Int) + (1 : Int))) ≤ ((z0 ++ z0S).length : Int) then (if 0 ≤ (z0.length : Int) ∧ (z0.length : Int) < (((z0 ++ z0S).take (((IntKind.i64.wrap ((z0.length : Int) + (1 : Int)))).toNat)).length : Int) then (some (!ceq (gt ((z0 ++ z0S).take (((IntKind.i64.wrap ((z0.length : Int) + (1 : Int)))).toNat)) (z0.length : Int)) (Fl.bits 4651892959631900672, Fl.bits 0))) else none) else none)).bind fun z3 => (if z3 = true then (some false) else ((loop (f_foghornlaw08_kept.s1 z0 l1) (0 : Int)).bind (fun q35 => sm q35 (fun q36 => (some true)) (fun q37 => (some q37))))))
theorem f_foghornlaw08_kept_c {S : Nat → Prop} {w0 w : World} {ow : List Res} (hp : Hp S w0 w ow) (vz0 : Value) (z0 : (List (Fl × Fl))) (z0S : (List (Fl × Fl))) (hz0 : RdX Ek.c128 S w0 vz0 z0 z0S) (vl1 : Value) (l1 : (List Int)) (hl1 : RdS (Ek.int .u64) S w0 vl1 l1) {r : Bool} (h : f_foghornlaw08_kept z0 z0S l1 = some r) :
    Calls Try.prog 13 #[vz0, vl1] w (fun e w' => e = .returned (.bool r) ∧ Hp S w0 w' (ow)) := by
  unfold f_foghornlaw08_kept at h
  refine enter (n := 56) (args := [vz0, vl1]) Try.func13 rfl rfl (Nat.le_of_ble_eq_true rfl) fun a hf => ?_
  replace hf : Fr 56 a [(0, vz0), (1, vl1)] := hf
  refine wp_mono (Q := fun e a w => e = .ret ∧ Fr 56 a [(4, .bool r)] ∧ Hp S w0 w (ow)) ?_ ?_
  rotate_left
  · rintro e a w ⟨rfl, hf, hp⟩
    exact ret1 hf rfl rfl ⟨rfl, hp⟩
  refine wp_seq ?_
  refine wp_reg ?_
  refine st_assign hf rfl rfl (by decide) ?_
  clear hf; intro a ha hf; clear ha
  refine st_nil hf ?_
  refine th_n ?_
  refine wp_seq ?_
  refine wp_reg ?_
  refine st_move hf rfl rfl (by decide) ?_
  clear hf; intro a ha hf; clear ha
  refine st_len (E := Ek.c128) hf (by decide) Try.underlying24 rfl rfl (hz0.rd.sl hp) ?_
  clear hf; intro a ha hf; clear ha
  refine st_assign hf rfl rfl (by decide) ?_
  clear hf; intro a ha hf; clear ha
  refine st_nil hf ?_
  refine th_n ?_
  refine wp_seq ?_
  refine wp_seq ?_
  refine wp_reg ?_
  refine st_move hf rfl rfl (by decide) ?_
  clear hf; intro a ha hf; clear ha
  refine st_move hf rfl rfl (by decide) ?_
  clear hf; intro a ha hf; clear ha
  refine st_len (E := (Ek.int .u64)) hf (by decide) Try.underlying22 rfl rfl (hl1.sl hp) ?_
  clear hf; intro a ha hf; clear ha
  refine st_iquo hf (by decide) rfl rfl rfl (by decide) ?_
  clear hf; intro a ha hf; clear ha
  refine st_ineq hf (by decide) rfl rfl rfl ?_
  clear hf; intro a ha hf; clear ha
  refine st_move hf rfl rfl (by decide) ?_
  clear hf; intro a ha hf; clear ha
  obtain ⟨z3, hz1, h⟩ := bnd h
  refine wpList_cut 9 (fun a w => Fr 56 a [(0, vz0), (1, vl1), (5, .int .i64 (z0.length : Int)), (23, .bool z3)] ∧ Hp S w0 w (ow)) ?_ ?_
  · rcases Bool.eq_false_or_eq_true ((z0.length : Int) != (IntKind.i64.wrap (((l1.length : Int)).tdiv (2 : Int)))) with hb2 | hb2
    · skip
      replace hz1 := ifT hz1 hb2
      refine st_skip hf (wantN hf rfl rfl hb2) rfl (by decide) ?_ rfl
      clear hf; intro a hf
      refine st_skip hf (wantN hf rfl rfl hb2) rfl (by decide) ?_ rfl
      clear hf; intro a hf
      refine st_skip hf (wantN hf rfl rfl hb2) rfl (by decide) ?_ rfl
      clear hf; intro a hf
      refine st_skip hf (wantN hf rfl rfl hb2) rfl (by decide) ?_ rfl
      clear hf; intro a hf
      refine st_skip hf (wantN hf rfl rfl hb2) rfl (by decide) ?_ rfl
      clear hf; intro a hf
      refine st_skip hf (wantN hf rfl rfl hb2) rfl (by decide) ?_ rfl
      clear hf; intro a hf
      refine st_skip hf (wantN hf rfl rfl hb2) rfl (by decide) ?_ rfl
      clear hf; intro a hf
      refine st_skip hf (wantN hf rfl rfl hb2) rfl (by decide) ?_ rfl
      clear hf; intro a hf
      obtain rfl := Option.some.inj hz1
      refine st_pick (v := .bool true) hf rfl rfl (fun hb' => ?_) (fun hb' => ?_) (by decide) ?_
      · rfl
      · exact absurd (hb2.symm.trans hb') (by decide)
      clear hf; intro a ha hf; clear ha
      refine st_nil hf (th_n ?_)
      exact ⟨hf.sub ⟨rfl, rfl, rfl, rfl, trivial⟩, hp⟩
    · skip
      replace hz1 := ifF hz1 hb2
      refine st_move hf (wantY hf rfl rfl hb2) rfl (by decide) ?_
      clear hf; intro a ha hf; clear ha
      refine st_move hf (wantY hf rfl rfl hb2) rfl (by decide) ?_
      clear hf; intro a ha hf; clear ha
      refine st_iadd hf (by decide) (wantY hf rfl rfl hb2) rfl rfl ?_
      clear hf; intro a ha hf; clear ha
      obtain ⟨hc4, hz1⟩ := chk hz1
      have hc5 : 0 ≤ ((IntKind.i64.wrap ((z0.length : Int) + (1 : Int)))).toNat := by omega
      have hc6 : ((IntKind.i64.wrap ((z0.length : Int) + (1 : Int)))).toNat ≤ (z0 ++ z0S).length := by omega
      refine st_cutXr (E := Ek.c128) hf (by decide) Try.underlying24 elt36 (hz0.now hp) (wantY hf rfl rfl hb2) rfl (.inl ⟨rfl, rfl⟩) (.inr ⟨_, _, rfl, evI rfl (by omega)⟩) hc5 hc6 ?_
      clear hf; intro a ha hf; clear ha
      refine st_move hf (wantY hf rfl rfl hb2) rfl (by decide) ?_
      clear hf; intro a ha hf; clear ha
      obtain ⟨hc7, hz1⟩ := chk hz1
      refine st_index (E := Ek.c128) hf (by decide) Try.underlying24 elt36 (wantY hf rfl rfl hb2) rfl rfl ((RdX.take hz0 hc6).sl hp) hc7.1 hc7.2 ?_
      clear hf; intro a ha hf; clear ha
      refine st_ldC hf (by decide) pl36 (wantY hf rfl rfl hb2) rfl ((RdX.take hz0 hc6).sl hp) hc7.1 hc7.2 ?_
      clear hf; intro a b8 b9 y10 y11 ha hf; clear ha
      refine st_ccmp (r_cne (x := (gt ((z0 ++ z0S).take (((IntKind.i64.wrap ((z0.length : Int) + (1 : Int)))).toNat)) (z0.length : Int))) (y := (Fl.bits 4651892959631900672, Fl.bits 0)) y10 y11 rfl rfl) hf (by decide) (wantY hf rfl rfl hb2) rfl rfl ?_
      clear hf; intro a ha hf; clear ha
      obtain rfl := Option.some.inj hz1
      refine st_pick (v := .bool (!ceq (gt ((z0 ++ z0S).take (((IntKind.i64.wrap ((z0.length : Int) + (1 : Int)))).toNat)) (z0.length : Int)) (Fl.bits 4651892959631900672, Fl.bits 0))) hf rfl rfl (fun hb' => ?_) (fun hb' => ?_) (by decide) ?_
      · exact absurd (hb2.symm.trans hb') (by decide)
      · rfl
      clear hf; intro a ha hf; clear ha
      refine st_nil hf (th_n ?_)
      exact ⟨hf.sub ⟨rfl, rfl, rfl, rfl, trivial⟩, hp⟩
  · rintro a w ⟨hf, hp⟩
    refine st_nil hf ?_
    refine th_n ?_
    refine wp_if hf rfl (fun hb => ?_) (fun hb => ?_)
    · replace h := ifT h hb
      refine wp_seq ?_
      refine wp_reg ?_
      refine st_assign hf rfl rfl (by decide) ?_
      clear hf; intro a ha hf; clear ha
      refine st_nil hf ?_
      refine th_n ?_
      refine wp_ret ?_
      refine th_r ?_
      obtain rfl := Option.some.inj h
      exact ⟨rfl, ⟨hf.sub ⟨rfl, trivial⟩, hp⟩⟩
    · replace h := ifF h hb
      refine wp_skip ?_
      refine th_n ?_
      refine wp_seq ?_
      refine wp_seq ?_
      refine wp_reg ?_
      refine st_assign hf rfl rfl (by decide) ?_
      clear hf; intro a ha hf; clear ha
      refine st_nil hf ?_
      refine th_n ?_
      refine wp_block ?_
      obtain ⟨q35, hl, h⟩ := bnd h
      refine wp_loop_pure (f := (f_foghornlaw08_kept.s1 z0 l1)) (s := (0 : Int)) (fun s a w => Fr 56 a [(0, vz0), (1, vl1), (5, .int .i64 (z0.length : Int)), (6, .int .i64 s)] ∧ Hp S w0 w (ow)) (fun q e a w => match q with | (Sum.inl q) => e = .exit 0 ∧ Fr 56 a [] ∧ Hp S w0 w (ow) | (Sum.inr q) => e = .ret ∧ Fr 56 a [(4, .bool q)] ∧ Hp S w0 w (ow)) ?_ hl ⟨hf.sub ⟨rfl, rfl, rfl, rfl, trivial⟩, hp⟩ ?_
      · clear hl hf hp
        intro s x a w h hI
        obtain ⟨i6, hs⟩ : ∃ z, z = s := ⟨s, rfl⟩; subst hs
        obtain ⟨hf, hp⟩ : Fr 56 a [(0, vz0), (1, vl1), (5, .int .i64 (z0.length : Int)), (6, .int .i64 i6)] ∧ Hp S w0 w (ow) := hI
        replace h : f_foghornlaw08_kept.s1c z0 l1 i6 = some x := h
        unfold f_foghornlaw08_kept.s1c at h
        refine wp_seq ?_
        refine wp_seq ?_
        refine wp_reg ?_
        refine st_move hf rfl rfl (by decide) ?_
        clear hf; intro a ha hf; clear ha
        refine st_move hf rfl rfl (by decide) ?_
        clear hf; intro a ha hf; clear ha
        refine st_ilss hf (by decide) rfl rfl rfl ?_
        clear hf; intro a ha hf; clear ha
        refine st_nil hf ?_
        refine th_n ?_
        refine wp_if hf rfl (fun hb => ?_) (fun hb => ?_)
        · replace h := ifT h hb
          refine wp_skip ?_
          refine th_n ?_
          refine wp_seq ?_
          refine wp_block ?_
          refine wp_seq ?_
          obtain ⟨hc12, h⟩ := chk h
          obtain ⟨b14, b15, y16, y17, hl13⟩ := RdS.pinC (p := i6) hz0.rd hc12.1 hc12.2
          obtain ⟨q18, hq19, h⟩ := bnd h
          obtain ⟨hc21, h⟩ := chk h
          obtain ⟨z34, hz22, h⟩ := bnd h
          refine wp_cutN (fun a w => Fr 56 a [(0, vz0), (1, vl1), (5, .int .i64 (z0.length : Int)), (6, .int .i64 i6), (55, .bool z34)] ∧ Hp S w0 w (ow)) ?_ ?_
          · have hp := hp.same (Same.drew w)
            rcases Bool.eq_false_or_eq_true (q18 != (gt l1 (IntKind.i64.wrap ((2 : Int) * i6)))) with hb23 | hb23
            · skip
              replace hz22 := ifT hz22 hb23
              replace hz22 := Option.some.inj hz22
              refine dr_begin' (fun a w => Fr 56 a [(0, vz0), (1, vl1), (5, .int .i64 (z0.length : Int)), (6, .int .i64 i6), (55, .bool z34)] ∧ Hp S w0 w (ow)) (fun w' => ∃ l, Hp S w0 w' l) [] (by kernel_rfl) ?_
              refine dr_take 0 (vz0) rfl (by kernel_rfl) (by kernel_rfl) (by kernel_rfl) (by kernel_rfl) rfl rfl hf (by decide) rfl (fun w hp => ?_) ⟨_, hp⟩ ?_
              · obtain ⟨_, hp⟩ := hp
                refine st_move hf rfl rfl (by decide) ?_
                clear hf; intro a ha hf
                exact st_nil hf (th_n ⟨ha, rfl⟩)
              clear hf; intro a hf
              refine dr_take 1 (.int .i64 i6) rfl (by kernel_rfl) (by kernel_rfl) (by kernel_rfl) (by kernel_rfl) rfl rfl hf (by decide) rfl (fun w hp => ?_) ⟨_, hp⟩ ?_
              · obtain ⟨_, hp⟩ := hp
                refine st_move hf rfl rfl (by decide) ?_
                clear hf; intro a ha hf
                exact st_nil hf (th_n ⟨ha, rfl⟩)
              clear hf; intro a hf
              refine dr_take 2 (eptr vz0 i6 1) rfl (by kernel_rfl) (by kernel_rfl) (by kernel_rfl) (by kernel_rfl) rfl rfl hf (by decide) rfl (fun w hp => ?_) ⟨_, hp⟩ ?_
              · obtain ⟨_, hp⟩ := hp
                refine st_index (E := Ek.c128) hf (by decide) Try.underlying24 elt36 rfl rfl rfl (hz0.rd.sl hp) hc12.1 hc12.2 ?_
                clear hf; intro a ha hf
                exact st_nil hf (th_n ⟨ha, rfl⟩)
              clear hf; intro a hf
              refine dr_take 3 (.complex .f64 b14 b15) rfl (by kernel_rfl) (by kernel_rfl) (by kernel_rfl) (by kernel_rfl) rfl rfl hf (by decide) rfl (fun w hp => ?_) ⟨_, hp⟩ ?_
              · obtain ⟨_, hp⟩ := hp
                refine st_ldP hf (by decide) pl36 rfl rfl (hl13 _ _ hp) ?_
                clear hf; intro a ha hf
                exact st_nil hf (th_n ⟨ha, rfl⟩)
              clear hf; intro a hf
              refine dr_take 4 (.float .f64 b14) rfl (by kernel_rfl) (by kernel_rfl) (by kernel_rfl) (by kernel_rfl) rfl rfl hf (by decide) rfl (fun w hp => ?_) ⟨_, hp⟩ ?_
              · obtain ⟨_, hp⟩ := hp
                refine st_real hf (by decide) rfl rfl ?_
                clear hf; intro a ha hf
                exact st_nil hf (th_n ⟨ha, rfl⟩)
              clear hf; intro a hf
              refine dr_take 6 (vl1) rfl (by kernel_rfl) (by kernel_rfl) (by kernel_rfl) (by kernel_rfl) rfl rfl hf (by decide) rfl (fun w hp => ?_) ⟨_, hp⟩ ?_
              · obtain ⟨_, hp⟩ := hp
                refine st_move hf rfl rfl (by decide) ?_
                clear hf; intro a ha hf
                exact st_nil hf (th_n ⟨ha, rfl⟩)
              clear hf; intro a hf
              refine dr_take 7 (.int .i64 i6) rfl (by kernel_rfl) (by kernel_rfl) (by kernel_rfl) (by kernel_rfl) rfl rfl hf (by decide) rfl (fun w hp => ?_) ⟨_, hp⟩ ?_
              · obtain ⟨_, hp⟩ := hp
                refine st_move hf rfl rfl (by decide) ?_
                clear hf; intro a ha hf
                exact st_nil hf (th_n ⟨ha, rfl⟩)
              clear hf; intro a hf
              refine dr_take 8 (.int .i64 (IntKind.i64.wrap ((2 : Int) * i6))) rfl (by kernel_rfl) (by kernel_rfl) (by kernel_rfl) (by kernel_rfl) rfl rfl hf (by decide) rfl (fun w hp => ?_) ⟨_, hp⟩ ?_
              · obtain ⟨_, hp⟩ := hp
                refine st_imul hf (by decide) rfl rfl rfl ?_
                clear hf; intro a ha hf
                exact st_nil hf (th_n ⟨ha, rfl⟩)
              clear hf; intro a hf
              refine dr_take 9 (eptr vl1 (IntKind.i64.wrap ((2 : Int) * i6)) 1) rfl (by kernel_rfl) (by kernel_rfl) (by kernel_rfl) (by kernel_rfl) rfl rfl hf (by decide) rfl (fun w hp => ?_) ⟨_, hp⟩ ?_
              · obtain ⟨_, hp⟩ := hp
                refine st_index (E := (Ek.int .u64)) hf (by decide) Try.underlying22 elt42 rfl rfl rfl (hl1.sl hp) hc21.1 hc21.2 ?_
                clear hf; intro a ha hf
                exact st_nil hf (th_n ⟨ha, rfl⟩)
              clear hf; intro a hf
              refine dr_take 10 (.int .u64 (gt l1 (IntKind.i64.wrap ((2 : Int) * i6)))) rfl (by kernel_rfl) (by kernel_rfl) (by kernel_rfl) (by kernel_rfl) rfl rfl hf (by decide) rfl (fun w hp => ?_) ⟨_, hp⟩ ?_
              · obtain ⟨_, hp⟩ := hp
                refine st_ldI hf (by decide) pl42 rfl rfl (hl1.sl hp) hc21.1 hc21.2 ?_
                clear hf; intro a ha hf
                exact st_nil hf (th_n ⟨ha, rfl⟩)
              clear hf; intro a hf
              refine dr_one 5 rfl (by kernel_rfl) ?_
              refine st_extern (ex := Extern.MathFloatBits.float64bits) (r := .int .u64 (b14 : Int)) (f := 30) (vs := [.float .f64 b14]) hf (by decide) Try.func30 rfl rfl (by kernel_rfl) (by kernel_rfl) rfl rfl rfl rfl ?_
              clear hf; intro a ha hf; clear ha
              have he20 := fbits_rep y16 hq19; rw [← he20] at hf
              refine st_nil hf (th_n ⟨fun _ _ => ⟨_, hp⟩, ?_⟩)
              refine dr_take 11 (.bool (q18 != (gt l1 (IntKind.i64.wrap ((2 : Int) * i6))))) rfl (by kernel_rfl) (by kernel_rfl) (by kernel_rfl) (by kernel_rfl) rfl rfl hf (by decide) rfl (fun w hp => ?_) ⟨_, hp⟩ ?_
              · obtain ⟨_, hp⟩ := hp
                refine st_ineq hf (by decide) rfl rfl rfl ?_
                clear hf; intro a ha hf
                exact st_nil hf (th_n ⟨ha, rfl⟩)
              clear hf; intro a hf
              refine dr_take 12 (.bool (q18 != (gt l1 (IntKind.i64.wrap ((2 : Int) * i6))))) rfl (by kernel_rfl) (by kernel_rfl) (by kernel_rfl) (by kernel_rfl) rfl rfl hf (by decide) rfl (fun w hp => ?_) ⟨_, hp⟩ ?_
              · obtain ⟨_, hp⟩ := hp
                refine st_move hf rfl rfl (by decide) ?_
                clear hf; intro a ha hf
                exact st_nil hf (th_n ⟨ha, rfl⟩)
              clear hf; intro a hf
              refine dr_out 13 rfl (by kernel_rfl) (by kernel_rfl) (by kernel_rfl) (by kernel_rfl) rfl hf (by decide) rfl (wantN hf rfl rfl hb23) ⟨_, hp⟩ ?_
              clear hf; intro a hf
              refine dr_out 14 rfl (by kernel_rfl) (by kernel_rfl) (by kernel_rfl) (by kernel_rfl) rfl hf (by decide) rfl (wantN hf rfl rfl hb23) ⟨_, hp⟩ ?_
              clear hf; intro a hf
              refine dr_out 15 rfl (by kernel_rfl) (by kernel_rfl) (by kernel_rfl) (by kernel_rfl) rfl hf (by decide) rfl (wantN hf rfl rfl hb23) ⟨_, hp⟩ ?_
              clear hf; intro a hf
              refine dr_out 16 rfl (by kernel_rfl) (by kernel_rfl) (by kernel_rfl) (by kernel_rfl) rfl hf (by decide) rfl (wantN hf rfl rfl hb23) ⟨_, hp⟩ ?_
              clear hf; intro a hf
              refine dr_out 17 rfl (by kernel_rfl) (by kernel_rfl) (by kernel_rfl) (by kernel_rfl) rfl hf (by decide) rfl (wantN hf rfl rfl hb23) ⟨_, hp⟩ ?_
              clear hf; intro a hf
              refine dr_out 18 rfl (by kernel_rfl) (by kernel_rfl) (by kernel_rfl) (by kernel_rfl) rfl hf (by decide) rfl (wantN hf rfl rfl hb23) ⟨_, hp⟩ ?_
              clear hf; intro a hf
              refine dr_out 19 rfl (by kernel_rfl) (by kernel_rfl) (by kernel_rfl) (by kernel_rfl) rfl hf (by decide) rfl (wantN hf rfl rfl hb23) ⟨_, hp⟩ ?_
              clear hf; intro a hf
              refine dr_out 20 rfl (by kernel_rfl) (by kernel_rfl) (by kernel_rfl) (by kernel_rfl) rfl hf (by decide) rfl (wantN hf rfl rfl hb23) ⟨_, hp⟩ ?_
              clear hf; intro a hf
              refine dr_out 21 rfl (by kernel_rfl) (by kernel_rfl) (by kernel_rfl) (by kernel_rfl) rfl hf (by decide) rfl (wantN hf rfl rfl hb23) ⟨_, hp⟩ ?_
              clear hf; intro a hf
              refine dr_out 22 rfl (by kernel_rfl) (by kernel_rfl) (by kernel_rfl) (by kernel_rfl) rfl hf (by decide) rfl (wantN hf rfl rfl hb23) ⟨_, hp⟩ ?_
              clear hf; intro a hf
              refine dr_out 23 rfl (by kernel_rfl) (by kernel_rfl) (by kernel_rfl) (by kernel_rfl) rfl hf (by decide) rfl (wantN hf rfl rfl hb23) ⟨_, hp⟩ ?_
              clear hf; intro a hf
              refine dr_out 24 rfl (by kernel_rfl) (by kernel_rfl) (by kernel_rfl) (by kernel_rfl) rfl hf (by decide) rfl (wantN hf rfl rfl hb23) ⟨_, hp⟩ ?_
              clear hf; intro a hf
              refine dr_out 25 rfl (by kernel_rfl) (by kernel_rfl) (by kernel_rfl) (by kernel_rfl) rfl hf (by decide) rfl (wantN hf rfl rfl hb23) ⟨_, hp⟩ ?_
              clear hf; intro a hf
              refine dr_take 26 (.bool z34) rfl (by kernel_rfl) (by kernel_rfl) (by kernel_rfl) (by kernel_rfl) rfl rfl hf (by decide) rfl (fun w hp => ?_) ⟨_, hp⟩ ?_
              · obtain ⟨_, hp⟩ := hp
                refine st_pick (v := .bool z34) hf rfl rfl (fun _ => by rw [← hz22]; rfl) (fun hb' => absurd (hb23.symm.trans hb') (by decide)) (by decide) ?_
                clear hf; intro a ha hf
                exact st_nil hf (th_n ⟨ha, rfl⟩)
              clear hf; intro a hf
              refine dr_end (by kernel_rfl) ?_ _
              exact ⟨hf.sub ⟨rfl, rfl, rfl, rfl, rfl, trivial⟩, hp⟩
            · skip
              replace hz22 := ifF hz22 hb23
              obtain ⟨hc24, hz22⟩ := chk hz22
              obtain ⟨b26, b27, y28, y29, hl25⟩ := RdS.pinC (p := i6) hz0.rd hc24.1 hc24.2
              obtain ⟨q30, hq31, hz22⟩ := bnd hz22
              obtain ⟨hc33, hz22⟩ := chk hz22
              replace hz22 := Option.some.inj hz22
              refine dr_begin' (fun a w => Fr 56 a [(0, vz0), (1, vl1), (5, .int .i64 (z0.length : Int)), (6, .int .i64 i6), (55, .bool z34)] ∧ Hp S w0 w (ow)) (fun w' => ∃ l, Hp S w0 w' l) [] (by kernel_rfl) ?_
              refine dr_take 0 (vz0) rfl (by kernel_rfl) (by kernel_rfl) (by kernel_rfl) (by kernel_rfl) rfl rfl hf (by decide) rfl (fun w hp => ?_) ⟨_, hp⟩ ?_
              · obtain ⟨_, hp⟩ := hp
                refine st_move hf rfl rfl (by decide) ?_
                clear hf; intro a ha hf
                exact st_nil hf (th_n ⟨ha, rfl⟩)
              clear hf; intro a hf
              refine dr_take 1 (.int .i64 i6) rfl (by kernel_rfl) (by kernel_rfl) (by kernel_rfl) (by kernel_rfl) rfl rfl hf (by decide) rfl (fun w hp => ?_) ⟨_, hp⟩ ?_
              · obtain ⟨_, hp⟩ := hp
                refine st_move hf rfl rfl (by decide) ?_
                clear hf; intro a ha hf
                exact st_nil hf (th_n ⟨ha, rfl⟩)
              clear hf; intro a hf
              refine dr_take 2 (eptr vz0 i6 1) rfl (by kernel_rfl) (by kernel_rfl) (by kernel_rfl) (by kernel_rfl) rfl rfl hf (by decide) rfl (fun w hp => ?_) ⟨_, hp⟩ ?_
              · obtain ⟨_, hp⟩ := hp
                refine st_index (E := Ek.c128) hf (by decide) Try.underlying24 elt36 rfl rfl rfl (hz0.rd.sl hp) hc12.1 hc12.2 ?_
                clear hf; intro a ha hf
                exact st_nil hf (th_n ⟨ha, rfl⟩)
              clear hf; intro a hf
              refine dr_take 3 (.complex .f64 b14 b15) rfl (by kernel_rfl) (by kernel_rfl) (by kernel_rfl) (by kernel_rfl) rfl rfl hf (by decide) rfl (fun w hp => ?_) ⟨_, hp⟩ ?_
              · obtain ⟨_, hp⟩ := hp
                refine st_ldP hf (by decide) pl36 rfl rfl (hl13 _ _ hp) ?_
                clear hf; intro a ha hf
                exact st_nil hf (th_n ⟨ha, rfl⟩)
              clear hf; intro a hf
              refine dr_take 4 (.float .f64 b14) rfl (by kernel_rfl) (by kernel_rfl) (by kernel_rfl) (by kernel_rfl) rfl rfl hf (by decide) rfl (fun w hp => ?_) ⟨_, hp⟩ ?_
              · obtain ⟨_, hp⟩ := hp
                refine st_real hf (by decide) rfl rfl ?_
                clear hf; intro a ha hf
                exact st_nil hf (th_n ⟨ha, rfl⟩)
              clear hf; intro a hf
              refine dr_take 6 (vl1) rfl (by kernel_rfl) (by kernel_rfl) (by kernel_rfl) (by kernel_rfl) rfl rfl hf (by decide) rfl (fun w hp => ?_) ⟨_, hp⟩ ?_
              · obtain ⟨_, hp⟩ := hp
                refine st_move hf rfl rfl (by decide) ?_
                clear hf; intro a ha hf
                exact st_nil hf (th_n ⟨ha, rfl⟩)
              clear hf; intro a hf
              refine dr_take 7 (.int .i64 i6) rfl (by kernel_rfl) (by kernel_rfl) (by kernel_rfl) (by kernel_rfl) rfl rfl hf (by decide) rfl (fun w hp => ?_) ⟨_, hp⟩ ?_
              · obtain ⟨_, hp⟩ := hp
                refine st_move hf rfl rfl (by decide) ?_
                clear hf; intro a ha hf
                exact st_nil hf (th_n ⟨ha, rfl⟩)
              clear hf; intro a hf
              refine dr_take 8 (.int .i64 (IntKind.i64.wrap ((2 : Int) * i6))) rfl (by kernel_rfl) (by kernel_rfl) (by kernel_rfl) (by kernel_rfl) rfl rfl hf (by decide) rfl (fun w hp => ?_) ⟨_, hp⟩ ?_
              · obtain ⟨_, hp⟩ := hp
                refine st_imul hf (by decide) rfl rfl rfl ?_
                clear hf; intro a ha hf
                exact st_nil hf (th_n ⟨ha, rfl⟩)
              clear hf; intro a hf
              refine dr_take 9 (eptr vl1 (IntKind.i64.wrap ((2 : Int) * i6)) 1) rfl (by kernel_rfl) (by kernel_rfl) (by kernel_rfl) (by kernel_rfl) rfl rfl hf (by decide) rfl (fun w hp => ?_) ⟨_, hp⟩ ?_
              · obtain ⟨_, hp⟩ := hp
                refine st_index (E := (Ek.int .u64)) hf (by decide) Try.underlying22 elt42 rfl rfl rfl (hl1.sl hp) hc21.1 hc21.2 ?_
                clear hf; intro a ha hf
                exact st_nil hf (th_n ⟨ha, rfl⟩)
              clear hf; intro a hf
              refine dr_take 10 (.int .u64 (gt l1 (IntKind.i64.wrap ((2 : Int) * i6)))) rfl (by kernel_rfl) (by kernel_rfl) (by kernel_rfl) (by kernel_rfl) rfl rfl hf (by decide) rfl (fun w hp => ?_) ⟨_, hp⟩ ?_
              · obtain ⟨_, hp⟩ := hp
                refine st_ldI hf (by decide) pl42 rfl rfl (hl1.sl hp) hc21.1 hc21.2 ?_
                clear hf; intro a ha hf
                exact st_nil hf (th_n ⟨ha, rfl⟩)
              clear hf; intro a hf
              refine dr_one 5 rfl (by kernel_rfl) ?_
              refine st_extern (ex := Extern.MathFloatBits.float64bits) (r := .int .u64 (b14 : Int)) (f := 30) (vs := [.float .f64 b14]) hf (by decide) Try.func30 rfl rfl (by kernel_rfl) (by kernel_rfl) rfl rfl rfl rfl ?_
              clear hf; intro a ha hf; clear ha
              have he20 := fbits_rep y16 hq19; rw [← he20] at hf
              refine st_nil hf (th_n ⟨fun _ _ => ⟨_, hp⟩, ?_⟩)
              refine dr_take 11 (.bool (q18 != (gt l1 (IntKind.i64.wrap ((2 : Int) * i6))))) rfl (by kernel_rfl) (by kernel_rfl) (by kernel_rfl) (by kernel_rfl) rfl rfl hf (by decide) rfl (fun w hp => ?_) ⟨_, hp⟩ ?_
              · obtain ⟨_, hp⟩ := hp
                refine st_ineq hf (by decide) rfl rfl rfl ?_
                clear hf; intro a ha hf
                exact st_nil hf (th_n ⟨ha, rfl⟩)
              clear hf; intro a hf
              refine dr_take 12 (.bool (q18 != (gt l1 (IntKind.i64.wrap ((2 : Int) * i6))))) rfl (by kernel_rfl) (by kernel_rfl) (by kernel_rfl) (by kernel_rfl) rfl rfl hf (by decide) rfl (fun w hp => ?_) ⟨_, hp⟩ ?_
              · obtain ⟨_, hp⟩ := hp
                refine st_move hf rfl rfl (by decide) ?_
                clear hf; intro a ha hf
                exact st_nil hf (th_n ⟨ha, rfl⟩)
              clear hf; intro a hf
              refine dr_take 13 (vz0) rfl (by kernel_rfl) (by kernel_rfl) (by kernel_rfl) (by kernel_rfl) rfl rfl hf (by decide) (wantY hf rfl rfl hb23) (fun w hp => ?_) ⟨_, hp⟩ ?_
              · obtain ⟨_, hp⟩ := hp
                refine st_move hf (wantY hf rfl rfl hb23) rfl (by decide) ?_
                clear hf; intro a ha hf
                exact st_nil hf (th_n ⟨ha, rfl⟩)
              clear hf; intro a hf
              refine dr_take 14 (.int .i64 i6) rfl (by kernel_rfl) (by kernel_rfl) (by kernel_rfl) (by kernel_rfl) rfl rfl hf (by decide) (wantY hf rfl rfl hb23) (fun w hp => ?_) ⟨_, hp⟩ ?_
              · obtain ⟨_, hp⟩ := hp
                refine st_move hf (wantY hf rfl rfl hb23) rfl (by decide) ?_
                clear hf; intro a ha hf
                exact st_nil hf (th_n ⟨ha, rfl⟩)
              clear hf; intro a hf
              refine dr_take 15 (eptr vz0 i6 1) rfl (by kernel_rfl) (by kernel_rfl) (by kernel_rfl) (by kernel_rfl) rfl rfl hf (by decide) (wantY hf rfl rfl hb23) (fun w hp => ?_) ⟨_, hp⟩ ?_
              · obtain ⟨_, hp⟩ := hp
                refine st_index (E := Ek.c128) hf (by decide) Try.underlying24 elt36 (wantY hf rfl rfl hb23) rfl rfl (hz0.rd.sl hp) hc24.1 hc24.2 ?_
                clear hf; intro a ha hf
                exact st_nil hf (th_n ⟨ha, rfl⟩)
              clear hf; intro a hf
              refine dr_take 16 (.complex .f64 b26 b27) rfl (by kernel_rfl) (by kernel_rfl) (by kernel_rfl) (by kernel_rfl) rfl rfl hf (by decide) (wantY hf rfl rfl hb23) (fun w hp => ?_) ⟨_, hp⟩ ?_
              · obtain ⟨_, hp⟩ := hp
                refine st_ldP hf (by decide) pl36 (wantY hf rfl rfl hb23) rfl (hl25 _ _ hp) ?_
                clear hf; intro a ha hf
                exact st_nil hf (th_n ⟨ha, rfl⟩)
              clear hf; intro a hf
              refine dr_take 17 (.float .f64 b27) rfl (by kernel_rfl) (by kernel_rfl) (by kernel_rfl) (by kernel_rfl) rfl rfl hf (by decide) (wantY hf rfl rfl hb23) (fun w hp => ?_) ⟨_, hp⟩ ?_
              · obtain ⟨_, hp⟩ := hp
                refine st_imag hf (by decide) (wantY hf rfl rfl hb23) rfl ?_
                clear hf; intro a ha hf
                exact st_nil hf (th_n ⟨ha, rfl⟩)
              clear hf; intro a hf
              refine dr_take 19 (vl1) rfl (by kernel_rfl) (by kernel_rfl) (by kernel_rfl) (by kernel_rfl) rfl rfl hf (by decide) (wantY hf rfl rfl hb23) (fun w hp => ?_) ⟨_, hp⟩ ?_
              · obtain ⟨_, hp⟩ := hp
                refine st_move hf (wantY hf rfl rfl hb23) rfl (by decide) ?_
                clear hf; intro a ha hf
                exact st_nil hf (th_n ⟨ha, rfl⟩)
              clear hf; intro a hf
              refine dr_take 20 (.int .i64 i6) rfl (by kernel_rfl) (by kernel_rfl) (by kernel_rfl) (by kernel_rfl) rfl rfl hf (by decide) (wantY hf rfl rfl hb23) (fun w hp => ?_) ⟨_, hp⟩ ?_
              · obtain ⟨_, hp⟩ := hp
                refine st_move hf (wantY hf rfl rfl hb23) rfl (by decide) ?_
                clear hf; intro a ha hf
                exact st_nil hf (th_n ⟨ha, rfl⟩)
              clear hf; intro a hf
              refine dr_take 21 (.int .i64 (IntKind.i64.wrap ((2 : Int) * i6))) rfl (by kernel_rfl) (by kernel_rfl) (by kernel_rfl) (by kernel_rfl) rfl rfl hf (by decide) (wantY hf rfl rfl hb23) (fun w hp => ?_) ⟨_, hp⟩ ?_
              · obtain ⟨_, hp⟩ := hp
                refine st_imul hf (by decide) (wantY hf rfl rfl hb23) rfl rfl ?_
                clear hf; intro a ha hf
                exact st_nil hf (th_n ⟨ha, rfl⟩)
              clear hf; intro a hf
              refine dr_take 22 (.int .i64 (IntKind.i64.wrap ((IntKind.i64.wrap ((2 : Int) * i6)) + (1 : Int)))) rfl (by kernel_rfl) (by kernel_rfl) (by kernel_rfl) (by kernel_rfl) rfl rfl hf (by decide) (wantY hf rfl rfl hb23) (fun w hp => ?_) ⟨_, hp⟩ ?_
              · obtain ⟨_, hp⟩ := hp
                refine st_iadd hf (by decide) (wantY hf rfl rfl hb23) rfl rfl ?_
                clear hf; intro a ha hf
                exact st_nil hf (th_n ⟨ha, rfl⟩)
              clear hf; intro a hf
              refine dr_take 23 (eptr vl1 (IntKind.i64.wrap ((IntKind.i64.wrap ((2 : Int) * i6)) + (1 : Int))) 1) rfl (by kernel_rfl) (by kernel_rfl) (by kernel_rfl) (by kernel_rfl) rfl rfl hf (by decide) (wantY hf rfl rfl hb23) (fun w hp => ?_) ⟨_, hp⟩ ?_
              · obtain ⟨_, hp⟩ := hp
                refine st_index (E := (Ek.int .u64)) hf (by decide) Try.underlying22 elt42 (wantY hf rfl rfl hb23) rfl rfl (hl1.sl hp) hc33.1 hc33.2 ?_
                clear hf; intro a ha hf
                exact st_nil hf (th_n ⟨ha, rfl⟩)
              clear hf; intro a hf
              refine dr_take 24 (.int .u64 (gt l1 (IntKind.i64.wrap ((IntKind.i64.wrap ((2 : Int) * i6)) + (1 : Int))))) rfl (by kernel_rfl) (by kernel_rfl) (by kernel_rfl) (by kernel_rfl) rfl rfl hf (by decide) (wantY hf rfl rfl hb23) (fun w hp => ?_) ⟨_, hp⟩ ?_
              · obtain ⟨_, hp⟩ := hp
                refine st_ldI hf (by decide) pl42 (wantY hf rfl rfl hb23) rfl (hl1.sl hp) hc33.1 hc33.2 ?_
                clear hf; intro a ha hf
                exact st_nil hf (th_n ⟨ha, rfl⟩)
              clear hf; intro a hf
              refine dr_one 18 rfl (by kernel_rfl) ?_
              refine st_extern (ex := Extern.MathFloatBits.float64bits) (r := .int .u64 (b27 : Int)) (f := 30) (vs := [.float .f64 b27]) hf (by decide) Try.func30 rfl rfl (by kernel_rfl) (by kernel_rfl) (wantY hf rfl rfl hb23) rfl rfl rfl ?_
              clear hf; intro a ha hf; clear ha
              have he32 := fbits_rep y29 hq31; rw [← he32] at hf
              refine st_nil hf (th_n ⟨fun _ _ => ⟨_, hp⟩, ?_⟩)
              refine dr_take 25 (.bool (q30 != (gt l1 (IntKind.i64.wrap ((IntKind.i64.wrap ((2 : Int) * i6)) + (1 : Int)))))) rfl (by kernel_rfl) (by kernel_rfl) (by kernel_rfl) (by kernel_rfl) rfl rfl hf (by decide) (wantY hf rfl rfl hb23) (fun w hp => ?_) ⟨_, hp⟩ ?_
              · obtain ⟨_, hp⟩ := hp
                refine st_ineq hf (by decide) (wantY hf rfl rfl hb23) rfl rfl ?_
                clear hf; intro a ha hf
                exact st_nil hf (th_n ⟨ha, rfl⟩)
              clear hf; intro a hf
              refine dr_take 26 (.bool z34) rfl (by kernel_rfl) (by kernel_rfl) (by kernel_rfl) (by kernel_rfl) rfl rfl hf (by decide) rfl (fun w hp => ?_) ⟨_, hp⟩ ?_
              · obtain ⟨_, hp⟩ := hp
                refine st_pick (v := .bool z34) hf rfl rfl (fun hb' => absurd (hb23.symm.trans hb') (by decide)) (fun _ => by rw [← hz22]; rfl) (by decide) ?_
                clear hf; intro a ha hf
                exact st_nil hf (th_n ⟨ha, rfl⟩)
              clear hf; intro a hf
              refine dr_end (by kernel_rfl) ?_ _
              exact ⟨hf.sub ⟨rfl, rfl, rfl, rfl, rfl, trivial⟩, hp⟩
          · rintro a w ⟨hf, hp⟩
            refine th_n ?_
            refine wp_if hf rfl (fun hb => ?_) (fun hb => ?_)
            · replace h := ifT h hb
              refine wp_seq ?_
              refine wp_reg ?_
              refine st_assign hf rfl rfl (by decide) ?_
              clear hf; intro a ha hf; clear ha
              refine st_nil hf ?_
              refine th_n ?_
              refine wp_ret ?_
              refine ib_r ?_
              refine th_r ?_
              obtain rfl := Option.some.inj h
              exact rnd_r (by simp) ⟨rfl, ⟨hf.sub ⟨rfl, trivial⟩, hp⟩⟩
            · replace h := ifF h hb
              refine wp_skip ?_
              refine ib_n ?_
              refine th_n ?_
              refine wp_reg ?_
              refine st_move hf rfl rfl (by decide) ?_
              clear hf; intro a ha hf; clear ha
              refine st_iadd hf (by decide) rfl rfl rfl ?_
              clear hf; intro a ha hf; clear ha
              refine st_assign hf rfl rfl (by decide) ?_
              clear hf; intro a ha hf; clear ha
              refine st_nil hf ?_
              obtain rfl := Option.some.inj h
              exact rnd_l ⟨hf.sub ⟨rfl, rfl, rfl, rfl, trivial⟩, hp⟩
        · replace h := ifF h hb
          refine wp_exit ?_
          refine th_e ?_
          obtain rfl := Option.some.inj h
          exact rnd_r (by simp) ⟨rfl, hf.sub trivial, hp⟩
      · clear hl hf hp
        intro e a w hne hO
        cases q35 with
        | inl q36 =>
          replace h := smL h
          obtain ⟨rfl, hf, hp⟩ := hO
          refine ib_same ?_
          refine th_n ?_
          refine wp_seq ?_
          refine wp_reg ?_
          refine st_assign hf rfl rfl (by decide) ?_
          clear hf; intro a ha hf; clear ha
          refine st_nil hf ?_
          refine th_n ?_
          refine wp_ret ?_
          obtain rfl := Option.some.inj h
          exact ⟨rfl, ⟨hf.sub ⟨rfl, trivial⟩, hp⟩⟩
        | inr q37 =>
          replace h := smR h
          obtain ⟨rfl, hf, hp⟩ := hO
          refine ib_r ?_
          refine th_r ?_
          obtain rfl := Option.some.inj h
          exact ⟨rfl, ⟨hf.sub ⟨rfl, trivial⟩, hp⟩⟩

noncomputable def f_foghornref08_Merge.s1c (rows0 : (List (List (Fl × Fl)))) (all4 : Int) (i5 : Int) : Option ((Int × Int) ⊕ (Unit ⊕ ((List (Fl × Fl)) × Int))) := (if (decide (i5 < (rows0.length : Int))) = true then (if 0 ≤ i5 ∧ i5 < (rows0.length : Int) then (if 0 ≤ (0 : Int) ∧ (0 : Int) < (rows0.length : Int) then ((if (((gt rows0 i5).length : Int) != ((gt rows0 (0 : Int)).length : Int)) = true then (some true) else (if 0 ≤ i5 ∧ i5 < (rows0.length : Int) then (some (decide ((IntKind.i64.wrap ((65536 : Int) - all4)) < ((gt rows0 i5).length : Int)))) else none)).bind fun z7 => (if z7 = true then (some (Sum.inr (Sum.inr ([], (1 : Int))))) else (if 0 ≤ i5 ∧ i5 < (rows0.length : Int) then (some (Sum.inl ((IntKind.i64.wrap (all4 + ((gt rows0 i5).length : Int))), (IntKind.i64.wrap (i5 + (1 : Int)))))) else none))) else none) else none) else (some (Sum.inr (Sum.inl ()))))
noncomputable def f_foghornref08_Merge.s1 (rows0 : (List (List (Fl × Fl)))) (s : (Int × Int)) : Option ((Int × Int) ⊕ (Unit ⊕ ((List (Fl × Fl)) × Int))) := f_foghornref08_Merge.s1c rows0 s.1 s.2
noncomputable def f_foghornref08_Merge.s3c (rows0 : (List (List (Fl × Fl)))) (n7 : Int) (out6 : (List (Fl × Fl))) (i8 : Int) : Option (((List (Fl × Fl)) × Int) ⊕ (List (Fl × Fl))) := (if (decide (i8 < (rows0.length : Int))) = true then (if 0 ≤ i8 ∧ i8 < (rows0.length : Int) then (if 0 ≤ n7 ∧ n7 < ((gt rows0 i8).length : Int) then (if (out6.length + ([(gt (gt rows0 i8) n7)]).length) * 16 ≤ 140737488355328 then (some (Sum.inl ((out6 ++ [(gt (gt rows0 i8) n7)]), (IntKind.i64.wrap (i8 + (1 : Int)))))) else none) else none) else none) else (some (Sum.inr out6)))
noncomputable def f_foghornref08_Merge.s3 (rows0 : (List (List (Fl × Fl)))) (n7 : Int) (s : ((List (Fl × Fl)) × Int)) : Option (((List (Fl × Fl)) × Int) ⊕ (List (Fl × Fl))) := f_foghornref08_Merge.s3c rows0 n7 s.1 s.2
noncomputable def f_foghornref08_Merge.s2c (rows0 : (List (List (Fl × Fl)))) (out6 : (List (Fl × Fl))) (n7 : Int) : Option (((List (Fl × Fl)) × Int) ⊕ (List (Fl × Fl))) := ((if (decide ((0 : Int) < (rows0.length : Int))) = true then (if 0 ≤ (0 : Int) ∧ (0 : Int) < (rows0.length : Int) then (some (decide (n7 < ((gt rows0 (0 : Int)).length : Int)))) else none) else (some false)).bind fun z19 => (if z19 = true then ((loop (f_foghornref08_Merge.s3 rows0 n7) (out6, (0 : Int))).bind (fun q35 => (some (Sum.inl (q35, (IntKind.i64.wrap (n7 + (1 : Int)))))))) else (some (Sum.inr out6))))
noncomputable def f_foghornref08_Merge.s2 (rows0 : (List (List (Fl × Fl)))) (s : ((List (Fl × Fl)) × Int)) : Option (((List (Fl × Fl)) × Int) ⊕ (List (Fl × Fl))) := f_foghornref08_Merge.s2c rows0 s.1 s.2
noncomputable def f_foghornref08_Merge (rows0 : (List (List (Fl × Fl)))) : Option ((List (Fl × Fl)) × Int) := (if (decide ((65536 : Int) < (rows0.length : Int))) = true then (some ([], (1 : Int))) else ((loop (f_foghornref08_Merge.s1 rows0) ((0 : Int), (0 : Int))).bind (fun q10 => sm q10 (fun q11 => ((loop (f_foghornref08_Merge.s2 rows0) ([], (0 : Int))).bind (fun q36 => (some (q36, (0 : Int)))))) (fun q12 => (some (q12.1, q12.2))))))
theorem f_foghornref08_Merge_c {S : Nat → Prop} {w0 w : World} {ow : List Res} (hp : Hp S w0 w ow) (vrows0 : Value) (srows0 : List Value) (rows0 : (List (List (Fl × Fl)))) (hrows0 : RdR (RowK.sl Ek.c128 36) S w0 vrows0 srows0 (rows0.map some)) {r : ((List (Fl × Fl)) × Int)} (h : f_foghornref08_Merge rows0 = some r) :
    Calls Try.prog 14 #[vrows0] w (fun e w' => ∃ (u0 : Value), e = .returned (.tuple #[u0, .int .i64 r.2]) ∧ Hp S w0 w' (Res.sl Ek.c128 36 u0 r.1 :: ow)) := by
  unfold f_foghornref08_Merge at h
  refine enter (n := 75) (args := [vrows0]) Try.func14 rfl rfl (Nat.le_of_ble_eq_true rfl) fun a hf => ?_
  replace hf : Fr 75 a [(0, vrows0)] := hf
  refine wp_mono (Q := fun e a w => e = .ret ∧ ∃ (u0 : Value), Fr 75 a [(2, u0), (3, .int .i64 r.2)] ∧ Hp S w0 w (Res.sl Ek.c128 36 u0 r.1 :: ow)) ?_ ?_
  rotate_left
  · rintro e a w ⟨rfl, x0, hf, hp⟩
    exact ret2 hf rfl rfl rfl ⟨x0, rfl, hp⟩
  refine wp_seq ?_
  refine wp_reg ?_
  refine st_assign hf rfl rfl (by decide) ?_
  clear hf; intro a ha hf; clear ha
  refine st_assign hf rfl rfl (by decide) ?_
  clear hf; intro a ha hf; clear ha
  refine st_nil hf ?_
  refine th_n ?_
  refine wp_seq ?_
  refine wp_seq ?_
  refine wp_reg ?_
  refine st_move hf rfl rfl (by decide) ?_
  clear hf; intro a ha hf; clear ha
  refine st_lenV hf (by decide) Try.underlying31 rfl rfl (hrows0.ob hp).shapeVY ?_
  clear hf; intro a ha hf; clear ha
  refine st_igtr hf (by decide) rfl rfl rfl ?_
  clear hf; intro a ha hf; clear ha
  refine st_nil hf ?_
  refine th_n ?_
  refine wp_if hf rfl (fun hb => ?_) (fun hb => ?_)
  · replace h := ifT h hb
    refine wp_seq ?_
    refine wp_reg ?_
    refine st_assign hf rfl rfl (by decide) ?_
    clear hf; intro a ha hf; clear ha
    refine st_assign hf rfl rfl (by decide) ?_
    clear hf; intro a ha hf; clear ha
    refine st_nil hf ?_
    refine th_n ?_
    refine wp_ret ?_
    refine th_r ?_
    obtain rfl := Option.some.inj h
    have hp := hp.nil Ek.c128 36
    exact ⟨rfl, ⟨_, hf.sub ⟨rfl, rfl, trivial⟩, hp⟩⟩
  · replace h := ifF h hb
    refine wp_skip ?_
    refine th_n ?_
    refine wp_seq ?_
    refine wp_reg ?_
    refine st_assign hf rfl rfl (by decide) ?_
    clear hf; intro a ha hf; clear ha
    refine st_nil hf ?_
    refine th_n ?_
    refine wp_seq ?_
    refine wp_seq ?_
    refine wp_reg ?_
    refine st_assign hf rfl rfl (by decide) ?_
    clear hf; intro a ha hf; clear ha
    refine st_nil hf ?_
    refine th_n ?_
    refine wp_block ?_
    obtain ⟨q10, hl, h⟩ := bnd h
    refine wp_loop_pure (f := (f_foghornref08_Merge.s1 rows0)) (s := ((0 : Int), (0 : Int))) (fun s a w => Fr 75 a [(0, vrows0), (4, .int .i64 s.1), (5, .int .i64 s.2)] ∧ Hp S w0 w (ow)) (fun q e a w => match q with | (Sum.inl q) => e = .exit 0 ∧ Fr 75 a [(0, vrows0)] ∧ Hp S w0 w (ow) | (Sum.inr q) => e = .ret ∧ ∃ (u0 : Value), Fr 75 a [(2, u0), (3, .int .i64 q.2)] ∧ Hp S w0 w (Res.sl Ek.c128 36 u0 q.1 :: ow)) ?_ hl ⟨hf.sub ⟨rfl, rfl, rfl, trivial⟩, hp⟩ ?_
    · clear hl hf hp
      intro s x a w h hI
      obtain ⟨all4, i5⟩ := s
      obtain ⟨hf, hp⟩ : Fr 75 a [(0, vrows0), (4, .int .i64 all4), (5, .int .i64 i5)] ∧ Hp S w0 w (ow) := hI
      replace h : f_foghornref08_Merge.s1c rows0 all4 i5 = some x := h
      unfold f_foghornref08_Merge.s1c at h
      refine wp_seq ?_
      refine wp_seq ?_
      refine wp_reg ?_
      refine st_move hf rfl rfl (by decide) ?_
      clear hf; intro a ha hf; clear ha
      refine st_move hf rfl rfl (by decide) ?_
      clear hf; intro a ha hf; clear ha
      refine st_lenV hf (by decide) Try.underlying31 rfl rfl (hrows0.ob hp).shapeVY ?_
      clear hf; intro a ha hf; clear ha
      refine st_ilss hf (by decide) rfl rfl rfl ?_
      clear hf; intro a ha hf; clear ha
      refine st_nil hf ?_
      refine th_n ?_
      refine wp_if hf rfl (fun hb => ?_) (fun hb => ?_)
      · replace h := ifT h hb
        refine wp_skip ?_
        refine th_n ?_
        refine wp_seq ?_
        refine wp_block ?_
        refine wp_seq ?_
        refine wp_seq ?_
        obtain ⟨hc2, h⟩ := chk h
        obtain ⟨hc3, h⟩ := chk h
        obtain ⟨z7, hz4, h⟩ := bnd h
        refine wp_cutN (fun a w => Fr 75 a [(0, vrows0), (4, .int .i64 all4), (5, .int .i64 i5), (37, .bool z7)] ∧ Hp S w0 w (ow)) ?_ ?_
        · have hp := hp.same (Same.drew w)
          rcases Bool.eq_false_or_eq_true (((gt rows0 i5).length : Int) != ((gt rows0 (0 : Int)).length : Int)) with hb5 | hb5
          · skip
            replace hz4 := ifT hz4 hb5
            replace hz4 := Option.some.inj hz4
            refine dr_begin' (fun a w => Fr 75 a [(0, vrows0), (4, .int .i64 all4), (5, .int .i64 i5), (37, .bool z7)] ∧ Hp S w0 w (ow)) (fun w' => ∃ l, Hp S w0 w' l) [] (by kernel_rfl) ?_
            refine dr_take 0 (vrows0) rfl (by kernel_rfl) (by kernel_rfl) (by kernel_rfl) (by kernel_rfl) rfl rfl hf (by decide) rfl (fun w hp => ?_) ⟨_, hp⟩ ?_
            · obtain ⟨_, hp⟩ := hp
              refine st_move hf rfl rfl (by decide) ?_
              clear hf; intro a ha hf
              exact st_nil hf (th_n ⟨ha, rfl⟩)
            clear hf; intro a hf
            refine dr_take 1 (.int .i64 i5) rfl (by kernel_rfl) (by kernel_rfl) (by kernel_rfl) (by kernel_rfl) rfl rfl hf (by decide) rfl (fun w hp => ?_) ⟨_, hp⟩ ?_
            · obtain ⟨_, hp⟩ := hp
              refine st_move hf rfl rfl (by decide) ?_
              clear hf; intro a ha hf
              exact st_nil hf (th_n ⟨ha, rfl⟩)
            clear hf; intro a hf
            refine dr_take 2 (eptr vrows0 i5 1) rfl (by kernel_rfl) (by kernel_rfl) (by kernel_rfl) (by kernel_rfl) rfl rfl hf (by decide) rfl (fun w hp => ?_) ⟨_, hp⟩ ?_
            · obtain ⟨_, hp⟩ := hp
              refine st_indexV (E := Ek.val) (m := rows0.length) hf (by decide) Try.underlying31 eltv24 rfl rfl rfl (hrows0.ob hp).shapeNY hc2.1 hc2.2 ?_
              clear hf; intro a ha hf
              exact st_nil hf (th_n ⟨ha, rfl⟩)
            clear hf; intro a hf
            refine dr_take 3 ((gtv srows0 i5)) rfl (by kernel_rfl) (by kernel_rfl) (by kernel_rfl) (by kernel_rfl) rfl rfl hf (by decide) rfl (fun w hp => ?_) ⟨_, hp⟩ ?_
            · obtain ⟨_, hp⟩ := hp
              refine st_ldRY hf (by decide) pl24 rfl rfl (hrows0.ob hp) hc2.1 hc2.2 ?_
              clear hf; intro a ha hf
              exact st_nil hf (th_n ⟨ha, rfl⟩)
            clear hf; intro a hf
            refine dr_take 4 (.int .i64 ((gt rows0 i5).length : Int)) rfl (by kernel_rfl) (by kernel_rfl) (by kernel_rfl) (by kernel_rfl) rfl rfl hf (by decide) rfl (fun w hp => ?_) ⟨_, hp⟩ ?_
            · obtain ⟨_, hp⟩ := hp
              refine st_len (E := Ek.c128) hf (by decide) Try.underlying24 rfl rfl ((RdR.rowS hrows0 hc2.1 hc2.2).sl hp) ?_
              clear hf; intro a ha hf
              exact st_nil hf (th_n ⟨ha, rfl⟩)
            clear hf; intro a hf
            refine dr_take 5 (vrows0) rfl (by kernel_rfl) (by kernel_rfl) (by kernel_rfl) (by kernel_rfl) rfl rfl hf (by decide) rfl (fun w hp => ?_) ⟨_, hp⟩ ?_
            · obtain ⟨_, hp⟩ := hp
              refine st_move hf rfl rfl (by decide) ?_
              clear hf; intro a ha hf
              exact st_nil hf (th_n ⟨ha, rfl⟩)
            clear hf; intro a hf
            refine dr_take 6 (eptr vrows0 (0 : Int) 1) rfl (by kernel_rfl) (by kernel_rfl) (by kernel_rfl) (by kernel_rfl) rfl rfl hf (by decide) rfl (fun w hp => ?_) ⟨_, hp⟩ ?_
            · obtain ⟨_, hp⟩ := hp
              refine st_indexV (E := Ek.val) (m := rows0.length) hf (by decide) Try.underlying31 eltv24 rfl rfl rfl (hrows0.ob hp).shapeNY hc3.1 hc3.2 ?_
              clear hf; intro a ha hf
              exact st_nil hf (th_n ⟨ha, rfl⟩)
            clear hf; intro a hf
            refine dr_take 7 ((gtv srows0 (0 : Int))) rfl (by kernel_rfl) (by kernel_rfl) (by kernel_rfl) (by kernel_rfl) rfl rfl hf (by decide) rfl (fun w hp => ?_) ⟨_, hp⟩ ?_
            · obtain ⟨_, hp⟩ := hp
              refine st_ldRY hf (by decide) pl24 rfl rfl (hrows0.ob hp) hc3.1 hc3.2 ?_
              clear hf; intro a ha hf
              exact st_nil hf (th_n ⟨ha, rfl⟩)
            clear hf; intro a hf
            refine dr_take 8 (.int .i64 ((gt rows0 (0 : Int)).length : Int)) rfl (by kernel_rfl) (by kernel_rfl) (by kernel_rfl) (by kernel_rfl) rfl rfl hf (by decide) rfl (fun w hp => ?_) ⟨_, hp⟩ ?_
            · obtain ⟨_, hp⟩ := hp
              refine st_len (E := Ek.c128) hf (by decide) Try.underlying24 rfl rfl ((RdR.rowS hrows0 hc3.1 hc3.2).sl hp) ?_
              clear hf; intro a ha hf
              exact st_nil hf (th_n ⟨ha, rfl⟩)
            clear hf; intro a hf
            refine dr_take 9 (.bool (((gt rows0 i5).length : Int) != ((gt rows0 (0 : Int)).length : Int))) rfl (by kernel_rfl) (by kernel_rfl) (by kernel_rfl) (by kernel_rfl) rfl rfl hf (by decide) rfl (fun w hp => ?_) ⟨_, hp⟩ ?_
            · obtain ⟨_, hp⟩ := hp
              refine st_ineq hf (by decide) rfl rfl rfl ?_
              clear hf; intro a ha hf
              exact st_nil hf (th_n ⟨ha, rfl⟩)
            clear hf; intro a hf
            refine dr_take 10 (.bool (((gt rows0 i5).length : Int) != ((gt rows0 (0 : Int)).length : Int))) rfl (by kernel_rfl) (by kernel_rfl) (by kernel_rfl) (by kernel_rfl) rfl rfl hf (by decide) rfl (fun w hp => ?_) ⟨_, hp⟩ ?_
            · obtain ⟨_, hp⟩ := hp
              refine st_move hf rfl rfl (by decide) ?_
              clear hf; intro a ha hf
              exact st_nil hf (th_n ⟨ha, rfl⟩)
            clear hf; intro a hf
            refine dr_out 11 rfl (by kernel_rfl) (by kernel_rfl) (by kernel_rfl) (by kernel_rfl) rfl hf (by decide) rfl (wantN hf rfl rfl hb5) ⟨_, hp⟩ ?_
            clear hf; intro a hf
            refine dr_out 12 rfl (by kernel_rfl) (by kernel_rfl) (by kernel_rfl) (by kernel_rfl) rfl hf (by decide) rfl (wantN hf rfl rfl hb5) ⟨_, hp⟩ ?_
            clear hf; intro a hf
            refine dr_out 13 rfl (by kernel_rfl) (by kernel_rfl) (by kernel_rfl) (by kernel_rfl) rfl hf (by decide) rfl (wantN hf rfl rfl hb5) ⟨_, hp⟩ ?_
            clear hf; intro a hf
            refine dr_out 14 rfl (by kernel_rfl) (by kernel_rfl) (by kernel_rfl) (by kernel_rfl) rfl hf (by decide) rfl (wantN hf rfl rfl hb5) ⟨_, hp⟩ ?_
            clear hf; intro a hf
            refine dr_out 15 rfl (by kernel_rfl) (by kernel_rfl) (by kernel_rfl) (by kernel_rfl) rfl hf (by decide) rfl (wantN hf rfl rfl hb5) ⟨_, hp⟩ ?_
            clear hf; intro a hf
            refine dr_out 16 rfl (by kernel_rfl) (by kernel_rfl) (by kernel_rfl) (by kernel_rfl) rfl hf (by decide) rfl (wantN hf rfl rfl hb5) ⟨_, hp⟩ ?_
            clear hf; intro a hf
            refine dr_out 17 rfl (by kernel_rfl) (by kernel_rfl) (by kernel_rfl) (by kernel_rfl) rfl hf (by decide) rfl (wantN hf rfl rfl hb5) ⟨_, hp⟩ ?_
            clear hf; intro a hf
            refine dr_out 18 rfl (by kernel_rfl) (by kernel_rfl) (by kernel_rfl) (by kernel_rfl) rfl hf (by decide) rfl (wantN hf rfl rfl hb5) ⟨_, hp⟩ ?_
            clear hf; intro a hf
            refine dr_take 19 (.bool z7) rfl (by kernel_rfl) (by kernel_rfl) (by kernel_rfl) (by kernel_rfl) rfl rfl hf (by decide) rfl (fun w hp => ?_) ⟨_, hp⟩ ?_
            · obtain ⟨_, hp⟩ := hp
              refine st_pick (v := .bool z7) hf rfl rfl (fun _ => by rw [← hz4]; rfl) (fun hb' => absurd (hb5.symm.trans hb') (by decide)) (by decide) ?_
              clear hf; intro a ha hf
              exact st_nil hf (th_n ⟨ha, rfl⟩)
            clear hf; intro a hf
            refine dr_end (by kernel_rfl) ?_ _
            exact ⟨hf.sub ⟨rfl, rfl, rfl, rfl, trivial⟩, hp⟩
          · skip
            replace hz4 := ifF hz4 hb5
            obtain ⟨hc6, hz4⟩ := chk hz4
            replace hz4 := Option.some.inj hz4
            refine dr_begin' (fun a w => Fr 75 a [(0, vrows0), (4, .int .i64 all4), (5, .int .i64 i5), (37, .bool z7)] ∧ Hp S w0 w (ow)) (fun w' => ∃ l, Hp S w0 w' l) [] (by kernel_rfl) ?_
            refine dr_take 0 (vrows0) rfl (by kernel_rfl) (by kernel_rfl) (by kernel_rfl) (by kernel_rfl) rfl rfl hf (by decide) rfl (fun w hp => ?_) ⟨_, hp⟩ ?_
            · obtain ⟨_, hp⟩ := hp
              refine st_move hf rfl rfl (by decide) ?_
              clear hf; intro a ha hf
              exact st_nil hf (th_n ⟨ha, rfl⟩)
            clear hf; intro a hf
            refine dr_take 1 (.int .i64 i5) rfl (by kernel_rfl) (by kernel_rfl) (by kernel_rfl) (by kernel_rfl) rfl rfl hf (by decide) rfl (fun w hp => ?_) ⟨_, hp⟩ ?_
            · obtain ⟨_, hp⟩ := hp
              refine st_move hf rfl rfl (by decide) ?_
              clear hf; intro a ha hf
              exact st_nil hf (th_n ⟨ha, rfl⟩)
            clear hf; intro a hf
            refine dr_take 2 (eptr vrows0 i5 1) rfl (by kernel_rfl) (by kernel_rfl) (by kernel_rfl) (by kernel_rfl) rfl rfl hf (by decide) rfl (fun w hp => ?_) ⟨_, hp⟩ ?_
            · obtain ⟨_, hp⟩ := hp
              refine st_indexV (E := Ek.val) (m := rows0.length) hf (by decide) Try.underlying31 eltv24 rfl rfl rfl (hrows0.ob hp).shapeNY hc2.1 hc2.2 ?_
              clear hf; intro a ha hf
              exact st_nil hf (th_n ⟨ha, rfl⟩)
            clear hf; intro a hf
            refine dr_take 3 ((gtv srows0 i5)) rfl (by kernel_rfl) (by kernel_rfl) (by kernel_rfl) (by kernel_rfl) rfl rfl hf (by decide) rfl (fun w hp => ?_) ⟨_, hp⟩ ?_
            · obtain ⟨_, hp⟩ := hp
              refine st_ldRY hf (by decide) pl24 rfl rfl (hrows0.ob hp) hc2.1 hc2.2 ?_
              clear hf; intro a ha hf
              exact st_nil hf (th_n ⟨ha, rfl⟩)
            clear hf; intro a hf
            refine dr_take 4 (.int .i64 ((gt rows0 i5).length : Int)) rfl (by kernel_rfl) (by kernel_rfl) (by kernel_rfl) (by kernel_rfl) rfl rfl hf (by decide) rfl (fun w hp => ?_) ⟨_, hp⟩ ?_
            · obtain ⟨_, hp⟩ := hp
              refine st_len (E := Ek.c128) hf (by decide) Try.underlying24 rfl rfl ((RdR.rowS hrows0 hc2.1 hc2.2).sl hp) ?_
              clear hf; intro a ha hf
              exact st_nil hf (th_n ⟨ha, rfl⟩)
            clear hf; intro a hf
            refine dr_take 5 (vrows0) rfl (by kernel_rfl) (by kernel_rfl) (by kernel_rfl) (by kernel_rfl) rfl rfl hf (by decide) rfl (fun w hp => ?_) ⟨_, hp⟩ ?_
            · obtain ⟨_, hp⟩ := hp
              refine st_move hf rfl rfl (by decide) ?_
              clear hf; intro a ha hf
              exact st_nil hf (th_n ⟨ha, rfl⟩)
            clear hf; intro a hf
            refine dr_take 6 (eptr vrows0 (0 : Int) 1) rfl (by kernel_rfl) (by kernel_rfl) (by kernel_rfl) (by kernel_rfl) rfl rfl hf (by decide) rfl (fun w hp => ?_) ⟨_, hp⟩ ?_
            · obtain ⟨_, hp⟩ := hp
              refine st_indexV (E := Ek.val) (m := rows0.length) hf (by decide) Try.underlying31 eltv24 rfl rfl rfl (hrows0.ob hp).shapeNY hc3.1 hc3.2 ?_
              clear hf; intro a ha hf
              exact st_nil hf (th_n ⟨ha, rfl⟩)
            clear hf; intro a hf
            refine dr_take 7 ((gtv srows0 (0 : Int))) rfl (by kernel_rfl) (by kernel_rfl) (by kernel_rfl) (by kernel_rfl) rfl rfl hf (by decide) rfl (fun w hp => ?_) ⟨_, hp⟩ ?_
            · obtain ⟨_, hp⟩ := hp
              refine st_ldRY hf (by decide) pl24 rfl rfl (hrows0.ob hp) hc3.1 hc3.2 ?_
              clear hf; intro a ha hf
              exact st_nil hf (th_n ⟨ha, rfl⟩)
            clear hf; intro a hf
            refine dr_take 8 (.int .i64 ((gt rows0 (0 : Int)).length : Int)) rfl (by kernel_rfl) (by kernel_rfl) (by kernel_rfl) (by kernel_rfl) rfl rfl hf (by decide) rfl (fun w hp => ?_) ⟨_, hp⟩ ?_
            · obtain ⟨_, hp⟩ := hp
              refine st_len (E := Ek.c128) hf (by decide) Try.underlying24 rfl rfl ((RdR.rowS hrows0 hc3.1 hc3.2).sl hp) ?_
              clear hf; intro a ha hf
              exact st_nil hf (th_n ⟨ha, rfl⟩)
            clear hf; intro a hf
            refine dr_take 9 (.bool (((gt rows0 i5).length : Int) != ((gt rows0 (0 : Int)).length : Int))) rfl (by kernel_rfl) (by kernel_rfl) (by kernel_rfl) (by kernel_rfl) rfl rfl hf (by decide) rfl (fun w hp => ?_) ⟨_, hp⟩ ?_
            · obtain ⟨_, hp⟩ := hp
              refine st_ineq hf (by decide) rfl rfl rfl ?_
              clear hf; intro a ha hf
              exact st_nil hf (th_n ⟨ha, rfl⟩)
            clear hf; intro a hf
            refine dr_take 10 (.bool (((gt rows0 i5).length : Int) != ((gt rows0 (0 : Int)).length : Int))) rfl (by kernel_rfl) (by kernel_rfl) (by kernel_rfl) (by kernel_rfl) rfl rfl hf (by decide) rfl (fun w hp => ?_) ⟨_, hp⟩ ?_
            · obtain ⟨_, hp⟩ := hp
              refine st_move hf rfl rfl (by decide) ?_
              clear hf; intro a ha hf
              exact st_nil hf (th_n ⟨ha, rfl⟩)
            clear hf; intro a hf
            refine dr_take 11 (vrows0) rfl (by kernel_rfl) (by kernel_rfl) (by kernel_rfl) (by kernel_rfl) rfl rfl hf (by decide) (wantY hf rfl rfl hb5) (fun w hp => ?_) ⟨_, hp⟩ ?_
            · obtain ⟨_, hp⟩ := hp
              refine st_move hf (wantY hf rfl rfl hb5) rfl (by decide) ?_
              clear hf; intro a ha hf
              exact st_nil hf (th_n ⟨ha, rfl⟩)
            clear hf; intro a hf
            refine dr_take 12 (.int .i64 i5) rfl (by kernel_rfl) (by kernel_rfl) (by kernel_rfl) (by kernel_rfl) rfl rfl hf (by decide) (wantY hf rfl rfl hb5) (fun w hp => ?_) ⟨_, hp⟩ ?_
            · obtain ⟨_, hp⟩ := hp
              refine st_move hf (wantY hf rfl rfl hb5) rfl (by decide) ?_
              clear hf; intro a ha hf
              exact st_nil hf (th_n ⟨ha, rfl⟩)
            clear hf; intro a hf
            refine dr_take 13 (eptr vrows0 i5 1) rfl (by kernel_rfl) (by kernel_rfl) (by kernel_rfl) (by kernel_rfl) rfl rfl hf (by decide) (wantY hf rfl rfl hb5) (fun w hp => ?_) ⟨_, hp⟩ ?_
            · obtain ⟨_, hp⟩ := hp
              refine st_indexV (E := Ek.val) (m := rows0.length) hf (by decide) Try.underlying31 eltv24 (wantY hf rfl rfl hb5) rfl rfl (hrows0.ob hp).shapeNY hc6.1 hc6.2 ?_
              clear hf; intro a ha hf
              exact st_nil hf (th_n ⟨ha, rfl⟩)
            clear hf; intro a hf
            refine dr_take 14 ((gtv srows0 i5)) rfl (by kernel_rfl) (by kernel_rfl) (by kernel_rfl) (by kernel_rfl) rfl rfl hf (by decide) (wantY hf rfl rfl hb5) (fun w hp => ?_) ⟨_, hp⟩ ?_
            · obtain ⟨_, hp⟩ := hp
              refine st_ldRY hf (by decide) pl24 (wantY hf rfl rfl hb5) rfl (hrows0.ob hp) hc6.1 hc6.2 ?_
              clear hf; intro a ha hf
              exact st_nil hf (th_n ⟨ha, rfl⟩)
            clear hf; intro a hf
            refine dr_take 15 (.int .i64 ((gt rows0 i5).length : Int)) rfl (by kernel_rfl) (by kernel_rfl) (by kernel_rfl) (by kernel_rfl) rfl rfl hf (by decide) (wantY hf rfl rfl hb5) (fun w hp => ?_) ⟨_, hp⟩ ?_
            · obtain ⟨_, hp⟩ := hp
              refine st_len (E := Ek.c128) hf (by decide) Try.underlying24 (wantY hf rfl rfl hb5) rfl ((RdR.rowS hrows0 hc6.1 hc6.2).sl hp) ?_
              clear hf; intro a ha hf
              exact st_nil hf (th_n ⟨ha, rfl⟩)
            clear hf; intro a hf
            refine dr_take 16 (.int .i64 all4) rfl (by kernel_rfl) (by kernel_rfl) (by kernel_rfl) (by kernel_rfl) rfl rfl hf (by decide) (wantY hf rfl rfl hb5) (fun w hp => ?_) ⟨_, hp⟩ ?_
            · obtain ⟨_, hp⟩ := hp
              refine st_move hf (wantY hf rfl rfl hb5) rfl (by decide) ?_
              clear hf; intro a ha hf
              exact st_nil hf (th_n ⟨ha, rfl⟩)
            clear hf; intro a hf
            refine dr_take 17 (.int .i64 (IntKind.i64.wrap ((65536 : Int) - all4))) rfl (by kernel_rfl) (by kernel_rfl) (by kernel_rfl) (by kernel_rfl) rfl rfl hf (by decide) (wantY hf rfl rfl hb5) (fun w hp => ?_) ⟨_, hp⟩ ?_
            · obtain ⟨_, hp⟩ := hp
              refine st_isub hf (by decide) (wantY hf rfl rfl hb5) rfl rfl ?_
              clear hf; intro a ha hf
              exact st_nil hf (th_n ⟨ha, rfl⟩)
            clear hf; intro a hf
            refine dr_take 18 (.bool (decide ((IntKind.i64.wrap ((65536 : Int) - all4)) < ((gt rows0 i5).length : Int)))) rfl (by kernel_rfl) (by kernel_rfl) (by kernel_rfl) (by kernel_rfl) rfl rfl hf (by decide) (wantY hf rfl rfl hb5) (fun w hp => ?_) ⟨_, hp⟩ ?_
            · obtain ⟨_, hp⟩ := hp
              refine st_igtr hf (by decide) (wantY hf rfl rfl hb5) rfl rfl ?_
              clear hf; intro a ha hf
              exact st_nil hf (th_n ⟨ha, rfl⟩)
            clear hf; intro a hf
            refine dr_take 19 (.bool z7) rfl (by kernel_rfl) (by kernel_rfl) (by kernel_rfl) (by kernel_rfl) rfl rfl hf (by decide) rfl (fun w hp => ?_) ⟨_, hp⟩ ?_
            · obtain ⟨_, hp⟩ := hp
              refine st_pick (v := .bool z7) hf rfl rfl (fun hb' => absurd (hb5.symm.trans hb') (by decide)) (fun _ => by rw [← hz4]; rfl) (by decide) ?_
              clear hf; intro a ha hf
              exact st_nil hf (th_n ⟨ha, rfl⟩)
            clear hf; intro a hf
            refine dr_end (by kernel_rfl) ?_ _
            exact ⟨hf.sub ⟨rfl, rfl, rfl, rfl, trivial⟩, hp⟩
        · rintro a w ⟨hf, hp⟩
          refine th_n ?_
          refine wp_if hf rfl (fun hb => ?_) (fun hb => ?_)
          · replace h := ifT h hb
            refine wp_seq ?_
            refine wp_reg ?_
            refine st_assign hf rfl rfl (by decide) ?_
            clear hf; intro a ha hf; clear ha
            refine st_assign hf rfl rfl (by decide) ?_
            clear hf; intro a ha hf; clear ha
            refine st_nil hf ?_
            refine th_n ?_
            refine wp_ret ?_
            refine th_r ?_
            refine ib_r ?_
            refine th_r ?_
            obtain rfl := Option.some.inj h
            have hp := hp.nil Ek.c128 36
            exact rnd_r (by simp) ⟨rfl, ⟨_, hf.sub ⟨rfl, rfl, trivial⟩, hp⟩⟩
          · replace h := ifF h hb
            refine wp_skip ?_
            refine th_n ?_
            refine wp_reg ?_
            refine st_move hf rfl rfl (by decide) ?_
            clear hf; intro a ha hf; clear ha
            refine st_move hf rfl rfl (by decide) ?_
            clear hf; intro a ha hf; clear ha
            refine st_move hf rfl rfl (by decide) ?_
            clear hf; intro a ha hf; clear ha
            obtain ⟨hc9, h⟩ := chk h
            refine st_indexV (E := Ek.val) (m := rows0.length) hf (by decide) Try.underlying31 eltv24 rfl rfl rfl (hrows0.ob hp).shapeNY hc9.1 hc9.2 ?_
            clear hf; intro a ha hf; clear ha
            refine st_ldRY hf (by decide) pl24 rfl rfl (hrows0.ob hp) hc9.1 hc9.2 ?_
            clear hf; intro a ha hf; clear ha
            refine st_len (E := Ek.c128) hf (by decide) Try.underlying24 rfl rfl ((RdR.rowS hrows0 hc9.1 hc9.2).sl hp) ?_
            clear hf; intro a ha hf; clear ha
            refine st_iadd hf (by decide) rfl rfl rfl ?_
            clear hf; intro a ha hf; clear ha
            refine st_assign hf rfl rfl (by decide) ?_
            clear hf; intro a ha hf; clear ha
            refine st_nil hf ?_
            refine ib_n ?_
            refine th_n ?_
            refine wp_reg ?_
            refine st_move hf rfl rfl (by decide) ?_
            clear hf; intro a ha hf; clear ha
            refine st_iadd hf (by decide) rfl rfl rfl ?_
            clear hf; intro a ha hf; clear ha
            refine st_assign hf rfl rfl (by decide) ?_
            clear hf; intro a ha hf; clear ha
            refine st_nil hf ?_
            obtain rfl := Option.some.inj h
            exact rnd_l ⟨hf.sub ⟨rfl, rfl, rfl, trivial⟩, hp⟩
      · replace h := ifF h hb
        refine wp_exit ?_
        refine th_e ?_
        obtain rfl := Option.some.inj h
        exact rnd_r (by simp) ⟨rfl, hf.sub ⟨rfl, trivial⟩, hp⟩
    · clear hl hf hp
      intro e a w hne hO
      cases q10 with
      | inl q11 =>
        replace h := smL h
        obtain ⟨rfl, hf, hp⟩ := hO
        refine ib_same ?_
        refine th_n ?_
        refine wp_seq ?_
        refine wp_reg ?_
        refine st_assign hf rfl rfl (by decide) ?_
        clear hf; intro a ha hf; clear ha
        refine st_nil hf ?_
        refine th_n ?_
        refine wp_seq ?_
        refine wp_seq ?_
        refine wp_reg ?_
        refine st_assign hf rfl rfl (by decide) ?_
        clear hf; intro a ha hf; clear ha
        refine st_nil hf ?_
        refine th_n ?_
        refine wp_block ?_
        obtain ⟨q36, hl, h⟩ := bnd h
        have hp := hp.nil Ek.c128 36
        refine wp_loop_pure (f := (f_foghornref08_Merge.s2 rows0)) (s := ([], (0 : Int))) (fun s a w => ∃ (v13 : Value), Fr 75 a [(0, vrows0), (6, v13), (7, .int .i64 s.2)] ∧ Hp S w0 w (Res.sl Ek.c128 36 v13 s.1 :: ow)) (fun q e a w => e = .exit 2 ∧ ∃ (v15 : Value), Fr 75 a [(6, v15)] ∧ Hp S w0 w (Res.sl Ek.c128 36 v15 q :: ow)) ?_ hl ⟨_, hf.sub ⟨rfl, rfl, rfl, trivial⟩, hp⟩ ?_
        · clear hl hf hp
          intro s x a w h hI
          obtain ⟨out6, n7⟩ := s
          obtain ⟨v13, hf, hp⟩ : ∃ (v13 : Value), Fr 75 a [(0, vrows0), (6, v13), (7, .int .i64 n7)] ∧ Hp S w0 w (Res.sl Ek.c128 36 v13 out6 :: ow) := hI
          replace h : f_foghornref08_Merge.s2c rows0 out6 n7 = some x := h
          unfold f_foghornref08_Merge.s2c at h
          refine wp_seq ?_
          refine wp_seq ?_
          refine wp_reg ?_
          refine st_move hf rfl rfl (by decide) ?_
          clear hf; intro a ha hf; clear ha
          refine st_lenV hf (by decide) Try.underlying31 rfl rfl (hrows0.ob hp).shapeVY ?_
          clear hf; intro a ha hf; clear ha
          refine st_igtr hf (by decide) rfl rfl rfl ?_
          clear hf; intro a ha hf; clear ha
          refine st_move hf rfl rfl (by decide) ?_
          clear hf; intro a ha hf; clear ha
          obtain ⟨z19, hz17, h⟩ := bnd h
          refine wpList_cut 7 (fun a w => Fr 75 a [(0, vrows0), (6, v13), (7, .int .i64 n7), (55, .bool z19)] ∧ Hp S w0 w (Res.sl Ek.c128 36 v13 out6 :: ow)) ?_ ?_
          · rcases Bool.eq_false_or_eq_true (decide ((0 : Int) < (rows0.length : Int))) with hb18 | hb18
            · skip
              replace hz17 := ifT hz17 hb18
              refine st_move hf (wantY hf rfl rfl hb18) rfl (by decide) ?_
              clear hf; intro a ha hf; clear ha
              refine st_move hf (wantY hf rfl rfl hb18) rfl (by decide) ?_
              clear hf; intro a ha hf; clear ha
              obtain ⟨hc20, hz17⟩ := chk hz17
              refine st_indexV (E := Ek.val) (m := rows0.length) hf (by decide) Try.underlying31 eltv24 (wantY hf rfl rfl hb18) rfl rfl (hrows0.ob hp).shapeNY hc20.1 hc20.2 ?_
              clear hf; intro a ha hf; clear ha
              refine st_ldRY hf (by decide) pl24 (wantY hf rfl rfl hb18) rfl (hrows0.ob hp) hc20.1 hc20.2 ?_
              clear hf; intro a ha hf; clear ha
              refine st_len (E := Ek.c128) hf (by decide) Try.underlying24 (wantY hf rfl rfl hb18) rfl ((RdR.rowS hrows0 hc20.1 hc20.2).sl hp) ?_
              clear hf; intro a ha hf; clear ha
              refine st_ilss hf (by decide) (wantY hf rfl rfl hb18) rfl rfl ?_
              clear hf; intro a ha hf; clear ha
              obtain rfl := Option.some.inj hz17
              refine st_pick (v := .bool (decide (n7 < ((gt rows0 (0 : Int)).length : Int)))) hf rfl rfl (fun hb' => ?_) (fun hb' => ?_) (by decide) ?_
              · rfl
              · exact absurd (hb18.symm.trans hb') (by decide)
              clear hf; intro a ha hf; clear ha
              refine st_nil hf (th_n ?_)
              exact ⟨hf.sub ⟨rfl, rfl, rfl, rfl, trivial⟩, hp⟩
            · skip
              replace hz17 := ifF hz17 hb18
              refine st_skip hf (wantN hf rfl rfl hb18) rfl (by decide) ?_ rfl
              clear hf; intro a hf
              refine st_skip hf (wantN hf rfl rfl hb18) rfl (by decide) ?_ rfl
              clear hf; intro a hf
              refine st_skip hf (wantN hf rfl rfl hb18) rfl (by decide) ?_ rfl
              clear hf; intro a hf
              refine st_skip hf (wantN hf rfl rfl hb18) rfl (by decide) ?_ rfl
              clear hf; intro a hf
              refine st_skip hf (wantN hf rfl rfl hb18) rfl (by decide) ?_ rfl
              clear hf; intro a hf
              refine st_skip hf (wantN hf rfl rfl hb18) rfl (by decide) ?_ rfl
              clear hf; intro a hf
              obtain rfl := Option.some.inj hz17
              refine st_pick (v := .bool false) hf rfl rfl (fun hb' => ?_) (fun hb' => ?_) (by decide) ?_
              · exact absurd (hb18.symm.trans hb') (by decide)
              · rfl
              clear hf; intro a ha hf; clear ha
              refine st_nil hf (th_n ?_)
              exact ⟨hf.sub ⟨rfl, rfl, rfl, rfl, trivial⟩, hp⟩
          · rintro a w ⟨hf, hp⟩
            refine st_nil hf ?_
            refine th_n ?_
            refine wp_if hf rfl (fun hb => ?_) (fun hb => ?_)
            · replace h := ifT h hb
              refine wp_skip ?_
              refine th_n ?_
              refine wp_seq ?_
              refine wp_block ?_
              refine wp_seq ?_
              refine wp_reg ?_
              refine st_assign hf rfl rfl (by decide) ?_
              clear hf; intro a ha hf; clear ha
              refine st_nil hf ?_
              refine th_n ?_
              refine wp_block ?_
              obtain ⟨q35, hl, h⟩ := bnd h
              refine wp_loop_pure (f := (f_foghornref08_Merge.s3 rows0 n7)) (s := (out6, (0 : Int))) (fun s a w => ∃ (v21 : Value), Fr 75 a [(0, vrows0), (6, v21), (7, .int .i64 n7), (8, .int .i64 s.2)] ∧ Hp S w0 w (Res.sl Ek.c128 36 v21 s.1 :: ow)) (fun q e a w => e = .exit 4 ∧ ∃ (v23 : Value), Fr 75 a [(0, vrows0), (6, v23), (7, .int .i64 n7)] ∧ Hp S w0 w (Res.sl Ek.c128 36 v23 q :: ow)) ?_ hl ⟨_, hf.sub ⟨rfl, rfl, rfl, rfl, trivial⟩, hp⟩ ?_
              · clear hl hf hp
                intro s x a w h hI
                obtain ⟨out6, i8⟩ := s
                obtain ⟨v21, hf, hp⟩ : ∃ (v21 : Value), Fr 75 a [(0, vrows0), (6, v21), (7, .int .i64 n7), (8, .int .i64 i8)] ∧ Hp S w0 w (Res.sl Ek.c128 36 v21 out6 :: ow) := hI
                replace h : f_foghornref08_Merge.s3c rows0 n7 out6 i8 = some x := h
                unfold f_foghornref08_Merge.s3c at h
                refine wp_seq ?_
                refine wp_seq ?_
                refine wp_reg ?_
                refine st_move hf rfl rfl (by decide) ?_
                clear hf; intro a ha hf; clear ha
                refine st_move hf rfl rfl (by decide) ?_
                clear hf; intro a ha hf; clear ha
                refine st_lenV hf (by decide) Try.underlying31 rfl rfl (hrows0.ob hp).shapeVY ?_
                clear hf; intro a ha hf; clear ha
                refine st_ilss hf (by decide) rfl rfl rfl ?_
                clear hf; intro a ha hf; clear ha
                refine st_nil hf ?_
                refine th_n ?_
                refine wp_if hf rfl (fun hb => ?_) (fun hb => ?_)
                · replace h := ifT h hb
                  refine wp_skip ?_
                  refine th_n ?_
                  refine wp_seq ?_
                  refine wp_block ?_
                  refine wp_reg ?_
                  refine st_move hf rfl rfl (by decide) ?_
                  clear hf; intro a ha hf; clear ha
                  refine st_move hf rfl rfl (by decide) ?_
                  clear hf; intro a ha hf; clear ha
                  refine st_move hf rfl rfl (by decide) ?_
                  clear hf; intro a ha hf; clear ha
                  obtain ⟨hc25, h⟩ := chk h
                  refine st_indexV (E := Ek.val) (m := rows0.length) hf (by decide) Try.underlying31 eltv24 rfl rfl rfl (hrows0.ob hp).shapeNY hc25.1 hc25.2 ?_
                  clear hf; intro a ha hf; clear ha
                  refine st_ldRY hf (by decide) pl24 rfl rfl (hrows0.ob hp) hc25.1 hc25.2 ?_
                  clear hf; intro a ha hf; clear ha
                  refine st_move hf rfl rfl (by decide) ?_
                  clear hf; intro a ha hf; clear ha
                  obtain ⟨hc26, h⟩ := chk h
                  refine st_index (E := Ek.c128) hf (by decide) Try.underlying24 elt36 rfl rfl rfl ((RdR.rowS hrows0 hc25.1 hc25.2).sl hp) hc26.1 hc26.2 ?_
                  clear hf; intro a ha hf; clear ha
                  refine st_ldC hf (by decide) pl36 rfl rfl ((RdR.rowS hrows0 hc25.1 hc25.2).sl hp) hc26.1 hc26.2 ?_
                  clear hf; intro a b27 b28 y29 y30 ha hf; clear ha
                  refine st_build (E := Ek.c128) (xs := [(gt (gt rows0 i8) n7)]) hf (by decide) elt36 Try.underlying24 hp (vals := #[(0, .complex .f64 b27 b28)]) (cells := #[.complex .f64 b27 b28]) rfl (by simp [hf.ev (x := (Operand.tmp 71)) rfl]) (by decide) (by decide) (z := .complex .f64 0 0) (by kernel_rfl) (by kernel_rfl) rfl (reps_cons (cs := [.complex .f64 b27 b28]) (show Ek.c128.rep [.complex .f64 b27 b28] (gt (gt rows0 i8) n7) from ⟨_, _, rfl, y29, y30⟩) (reps_nil _)) ?_
                  clear hf; intro a w v31 hf hp0; clear hp; have hp := hp0; clear hp0
                  replace hp : Hp _ _ w (Res.sl Ek.c128 36 v31 ([(gt (gt rows0 i8) n7)]) :: Res.sl Ek.c128 36 v21 out6 :: ow) := hp
                  obtain ⟨hc33, h⟩ := chk h
                  refine st_append (E := Ek.c128) hf (by decide) elt36 Try.underlying24 (by decide) hp (i := 1) rfl rfl rfl rfl (hp.sl (i := 0) rfl) hc33 ?_
                  clear hf; intro a w v34 hf hp0; clear hp; have hp := hp0; clear hp0
                  replace hp : Hp _ _ w (Res.sl Ek.c128 36 v31 ([(gt (gt rows0 i8) n7)]) :: Res.sl Ek.c128 36 v34 (out6 ++ [(gt (gt rows0 i8) n7)]) :: ow) := hp
                  refine st_assign hf rfl rfl (by decide) ?_
                  clear hf; intro a ha hf; clear ha
                  refine st_nil hf ?_
                  refine ib_n ?_
                  refine th_n ?_
                  refine wp_reg ?_
                  refine st_move hf rfl rfl (by decide) ?_
                  clear hf; intro a ha hf; clear ha
                  refine st_iadd hf (by decide) rfl rfl rfl ?_
                  clear hf; intro a ha hf; clear ha
                  refine st_assign hf rfl rfl (by decide) ?_
                  clear hf; intro a ha hf; clear ha
                  refine st_nil hf ?_
                  obtain rfl := Option.some.inj h
                  have hp : Hp _ _ w (Res.sl Ek.c128 36 v34 (out6 ++ [(gt (gt rows0 i8) n7)]) :: ow) := Hp.sel (pre := [Res.sl Ek.c128 36 v31 ([(gt (gt rows0 i8) n7)]), Res.sl Ek.c128 36 v34 (out6 ++ [(gt (gt rows0 i8) n7)])]) (tail := ow) (rs' := [Res.sl Ek.c128 36 v34 (out6 ++ [(gt (gt rows0 i8) n7)])]) hp [1] (by decide) (by simp) rfl
                  exact rnd_l ⟨_, hf.sub ⟨rfl, rfl, rfl, rfl, trivial⟩, hp⟩
                · replace h := ifF h hb
                  refine wp_exit ?_
                  refine th_e ?_
                  obtain rfl := Option.some.inj h
                  exact rnd_r (by simp) ⟨rfl, _, hf.sub ⟨rfl, rfl, rfl, trivial⟩, hp⟩
              · clear hl hf hp
                intro e a w hne hO
                obtain ⟨rfl, v23, hf, hp⟩ := hO
                refine ib_same ?_
                refine ib_n ?_
                refine th_n ?_
                refine wp_reg ?_
                refine st_move hf rfl rfl (by decide) ?_
                clear hf; intro a ha hf; clear ha
                refine st_iadd hf (by decide) rfl rfl rfl ?_
                clear hf; intro a ha hf; clear ha
                refine st_assign hf rfl rfl (by decide) ?_
                clear hf; intro a ha hf; clear ha
                refine st_nil hf ?_
                obtain rfl := Option.some.inj h
                exact rnd_l ⟨_, hf.sub ⟨rfl, rfl, rfl, trivial⟩, hp⟩
            · replace h := ifF h hb
              refine wp_exit ?_
              refine th_e ?_
              obtain rfl := Option.some.inj h
              exact rnd_r (by simp) ⟨rfl, _, hf.sub ⟨rfl, trivial⟩, hp⟩
        · clear hl hf hp
          intro e a w hne hO
          obtain ⟨rfl, v15, hf, hp⟩ := hO
          refine ib_same ?_
          refine th_n ?_
          refine wp_seq ?_
          refine wp_reg ?_
          refine st_move hf rfl rfl (by decide) ?_
          clear hf; intro a ha hf; clear ha
          refine st_assign hf rfl rfl (by decide) ?_
          clear hf; intro a ha hf; clear ha
          refine st_assign hf rfl rfl (by decide) ?_
          clear hf; intro a ha hf; clear ha
          refine st_nil hf ?_
          refine th_n ?_
          refine wp_ret ?_
          obtain rfl := Option.some.inj h
          exact ⟨rfl, ⟨_, hf.sub ⟨rfl, rfl, trivial⟩, hp⟩⟩
      | inr q12 =>
        replace h := smR h
        obtain ⟨rfl, x0, hf, hp⟩ := hO
        refine ib_r ?_
        refine th_r ?_
        obtain rfl := Option.some.inj h
        exact ⟨rfl, ⟨_, hf.sub ⟨rfl, rfl, trivial⟩, hp⟩⟩

noncomputable def f_foghornlaw08_MixShares.s1c (rows3 : (List (List Int))) (in16 : (List ((List (Fl × Fl)) × (List (Fl × Fl))))) (i17 : Int) : Option (((List ((List (Fl × Fl)) × (List (Fl × Fl)))) × Int) ⊕ (List ((List (Fl × Fl)) × (List (Fl × Fl))))) := (if (decide (i17 < (rows3.length : Int))) = true then (if 0 ≤ i17 ∧ i17 < (rows3.length : Int) then ((f_foghornlaw08_numbers (gt rows3 i17)).bind fun q65 => (if (in16.length + 1) * 24 ≤ 140737488355328 then (some (Sum.inl ((in16 ++ [(q65.1, q65.2)]), (IntKind.i64.wrap (i17 + (1 : Int)))))) else none)) else none) else (some (Sum.inr in16)))
noncomputable def f_foghornlaw08_MixShares.s1 (rows3 : (List (List Int))) (s : ((List ((List (Fl × Fl)) × (List (Fl × Fl)))) × Int)) : Option (((List ((List (Fl × Fl)) × (List (Fl × Fl)))) × Int) ⊕ (List ((List (Fl × Fl)) × (List (Fl × Fl))))) := f_foghornlaw08_MixShares.s1c rows3 s.1 s.2
noncomputable def f_foghornlaw08_MixShares.s2c (rows3 : (List (List Int))) (q73 : (List ((List (Fl × Fl)) × (List (Fl × Fl))))) (i24 : Int) : Option (Int ⊕ (Unit ⊕ Bool)) := (if (decide (i24 < (rows3.length : Int))) = true then (if 0 ≤ i24 ∧ i24 < (q73.length : Int) then (if 0 ≤ i24 ∧ i24 < (rows3.length : Int) then ((f_foghornlaw08_kept ((gt q73 i24).1) ((gt q73 i24).2) (gt rows3 i24)).bind fun q127 => (if (!q127) = true then (some (Sum.inr (Sum.inr false))) else (some (Sum.inl (IntKind.i64.wrap (i24 + (1 : Int))))))) else none) else none) else (some (Sum.inr (Sum.inl ()))))
noncomputable def f_foghornlaw08_MixShares.s2 (rows3 : (List (List Int))) (q73 : (List ((List (Fl × Fl)) × (List (Fl × Fl))))) (s : Int) : Option (Int ⊕ (Unit ⊕ Bool)) := f_foghornlaw08_MixShares.s2c rows3 q73 s
noncomputable def f_foghornlaw08_MixShares (l0 : (List Int)) (from1 : Int) (step2 : Int) (rows3 : (List (List Int))) : Option Bool := ((f_foghornlaw08_numbers l0).bind fun q1 => ((f_foghornref08_Share q1.1 from1 step2).bind fun q5 => ((f_mix_Share q1.1 from1 step2).bind fun q14 => ((f_mix_Share q1.1 from1 step2).bind fun q23 => ((if (q14.2 != q5.2) = true then (some true) else ((f_foghornlaw08_fresh q14.1 q23.1 q5.1).bind fun q35 => (some (!q35)))).bind fun z34 => ((if z34 = true then (some true) else ((f_foghornlaw08_kept q1.1 q1.2 l0).bind fun q51 => (some (!q51)))).bind fun z50 => (if z50 = true then (some false) else ((loop (f_foghornlaw08_MixShares.s1 rows3) ([], (0 : Int))).bind (fun q73 => ((f_foghornref08_Merge (q73.map Prod.fst)).bind fun q75 => ((f_mix_Merge (q73.map Prod.fst)).bind fun q84 => ((f_mix_Merge (q73.map Prod.fst)).bind fun q93 => ((if (q84.2 != q75.2) = true then (some true) else ((f_foghornlaw08_fresh q84.1 q93.1 q75.1).bind fun q105 => (some (!q105)))).bind fun z104 => (if z104 = true then (some false) else ((loop (f_foghornlaw08_MixShares.s2 rows3 q73) (0 : Int)).bind (fun q129 => sm q129 (fun q130 => (some true)) (fun q131 => (some q131))))))))))))))))))
theorem f_foghornlaw08_MixShares_c {S : Nat → Prop} {w0 w : World} {ow : List Res} (hp : Hp S w0 w ow) (vl0 : Value) (l0 : (List Int)) (hl0 : RdS (Ek.int .u64) S w0 vl0 l0) (from1 : Int) (step2 : Int) (vrows3 : Value) (srows3 : List Value) (rows3 : (List (List Int))) (hrows3 : RdR (RowK.sl (Ek.int .u64) 42) S w0 vrows3 srows3 (rows3.map some)) {r : Bool} (h : f_foghornlaw08_MixShares l0 from1 step2 rows3 = some r) :
    Calls Try.prog 3 #[vl0, .int .i64 from1, .int .i64 step2, vrows3] w (fun e w' => e = .returned (.bool r) ∧ Hp S w0 w' (ow)) := by
  unfold f_foghornlaw08_MixShares at h
  refine enter (n := 119) (args := [vl0, .int .i64 from1, .int .i64 step2, vrows3]) Try.func3 rfl rfl (Nat.le_of_ble_eq_true rfl) fun a hf => ?_
  replace hf : Fr 119 a [(0, vl0), (1, .int .i64 from1), (2, .int .i64 step2), (3, vrows3)] := hf
  refine wp_mono (Q := fun e a w => e = .ret ∧ Fr 119 a [(8, .bool r)] ∧ Hp S w0 w (ow)) ?_ ?_
  rotate_left
  · rintro e a w ⟨rfl, hf, hp⟩
    exact ret1 hf rfl rfl ⟨rfl, hp⟩
  refine wp_seq ?_
  refine wp_reg ?_
  refine st_assign hf rfl rfl (by decide) ?_
  clear hf; intro a ha hf; clear ha
  refine st_nil hf ?_
  refine th_n ?_
  refine wp_seq ?_
  refine wp_reg ?_
  refine st_move hf rfl rfl (by decide) ?_
  clear hf; intro a ha hf; clear ha
  obtain ⟨q1, hcall2, h⟩ := bnd h
  refine st_call hf (by decide) Try.func9 rfl rfl rfl rfl rfl (f_foghornlaw08_numbers_c hp _ _ hl0 hcall2) ?_
  rintro _ w ⟨v3, rfl, hp0⟩
  clear hp; have hp := hp0; clear hp0
  replace hp : Hp _ _ w (Res.slx Ek.c128 36 v3 q1.1 q1.2 :: ow) := hp
  refine ⟨_, rfl, ?_⟩
  clear hf; intro a hf
  refine st_assign hf rfl rfl (by decide) ?_
  clear hf; intro a ha hf; clear ha
  refine st_nil hf ?_
  refine th_n ?_
  refine wp_seq ?_
  refine wp_reg ?_
  refine st_move hf rfl rfl (by decide) ?_
  clear hf; intro a ha hf; clear ha
  refine st_move hf rfl rfl (by decide) ?_
  clear hf; intro a ha hf; clear ha
  refine st_move hf rfl rfl (by decide) ?_
  clear hf; intro a ha hf; clear ha
  obtain ⟨q5, hcall6, h⟩ := bnd h
  obtain ⟨S7, hp8, rd9, up10, bk11⟩ := Hp.lendS hp (i := 0) rfl
  refine st_call hf (by decide) Try.func10 rfl rfl rfl rfl rfl (f_foghornref08_Share_c hp8 _ _ rd9 _ _ hcall6) ?_
  rintro _ w ⟨v12, rfl, hp0⟩
  have hp0 := bk11 _ _ hp0
  clear hp; have hp := hp0; clear hp0
  replace hp : Hp _ _ w (Res.slx Ek.c128 36 v3 q1.1 q1.2 :: Res.sl Ek.c128 36 v12 q5.1 :: ow) := hp
  refine ⟨_, rfl, ?_⟩
  clear hf; intro a hf
  refine st_move hf rfl rfl (by decide) ?_
  clear hf; intro a ha hf; clear ha
  refine st_extract hf (by decide) rfl rfl rfl ?_
  clear hf; intro a ha hf; clear ha
  refine st_extract hf (by decide) rfl rfl rfl ?_
  clear hf; intro a ha hf; clear ha
  refine st_assign hf rfl rfl (by decide) ?_
  clear hf; intro a ha hf; clear ha
  refine st_assign hf rfl rfl (by decide) ?_
  clear hf; intro a ha hf; clear ha
  refine st_nil hf ?_
  refine th_n ?_
  refine wp_seq ?_
  refine wp_reg ?_
  refine st_move hf rfl rfl (by decide) ?_
  clear hf; intro a ha hf; clear ha
  refine st_move hf rfl rfl (by decide) ?_
  clear hf; intro a ha hf; clear ha
  refine st_move hf rfl rfl (by decide) ?_
  clear hf; intro a ha hf; clear ha
  obtain ⟨q14, hcall15, h⟩ := bnd h
  obtain ⟨S16, hp17, rd18, up19, bk20⟩ := Hp.lendS hp (i := 0) rfl
  refine st_call hf (by decide) Try.func11 rfl rfl rfl rfl rfl (f_mix_Share_c hp17 _ _ rd18 _ _ hcall15) ?_
  rintro _ w ⟨v21, rfl, hp0⟩
  have hp0 := bk20 _ _ hp0
  clear hp; have hp := hp0; clear hp0
  replace hp : Hp _ _ w (Res.slx Ek.c128 36 v3 q1.1 q1.2 :: Res.sl Ek.c128 36 v21 q14.1 :: Res.sl Ek.c128 36 v12 q5.1 :: ow) := hp
  refine ⟨_, rfl, ?_⟩
  clear hf; intro a hf
  refine st_move hf rfl rfl (by decide) ?_
  clear hf; intro a ha hf; clear ha
  refine st_extract hf (by decide) rfl rfl rfl ?_
  clear hf; intro a ha hf; clear ha
  refine st_extract hf (by decide) rfl rfl rfl ?_
  clear hf; intro a ha hf; clear ha
  refine st_assign hf rfl rfl (by decide) ?_
  clear hf; intro a ha hf; clear ha
  refine st_assign hf rfl rfl (by decide) ?_
  clear hf; intro a ha hf; clear ha
  refine st_nil hf ?_
  refine th_n ?_
  refine wp_seq ?_
  refine wp_reg ?_
  refine st_move hf rfl rfl (by decide) ?_
  clear hf; intro a ha hf; clear ha
  refine st_move hf rfl rfl (by decide) ?_
  clear hf; intro a ha hf; clear ha
  refine st_move hf rfl rfl (by decide) ?_
  clear hf; intro a ha hf; clear ha
  obtain ⟨q23, hcall24, h⟩ := bnd h
  obtain ⟨S25, hp26, rd27, up28, bk29⟩ := Hp.lendS hp (i := 0) rfl
  refine st_call hf (by decide) Try.func11 rfl rfl rfl rfl rfl (f_mix_Share_c hp26 _ _ rd27 _ _ hcall24) ?_
  rintro _ w ⟨v30, rfl, hp0⟩
  have hp0 := bk29 _ _ hp0
  clear hp; have hp := hp0; clear hp0
  replace hp : Hp _ _ w (Res.slx Ek.c128 36 v3 q1.1 q1.2 :: Res.sl Ek.c128 36 v30 q23.1 :: Res.sl Ek.c128 36 v21 q14.1 :: Res.sl Ek.c128 36 v12 q5.1 :: ow) := hp
  refine ⟨_, rfl, ?_⟩
  clear hf; intro a hf
  refine st_move hf rfl rfl (by decide) ?_
  clear hf; intro a ha hf; clear ha
  refine st_extract hf (by decide) rfl rfl rfl ?_
  clear hf; intro a ha hf; clear ha
  refine st_extract hf (by decide) rfl rfl rfl ?_
  clear hf; intro a ha hf; clear ha
  refine st_assign hf rfl rfl (by decide) ?_
  clear hf; intro a ha hf; clear ha
  refine st_assign hf rfl rfl (by decide) ?_
  clear hf; intro a ha hf; clear ha
  refine st_nil hf ?_
  refine th_n ?_
  refine wp_seq ?_
  refine wp_seq ?_
  refine wp_reg ?_
  refine st_move hf rfl rfl (by decide) ?_
  clear hf; intro a ha hf; clear ha
  refine st_move hf rfl rfl (by decide) ?_
  clear hf; intro a ha hf; clear ha
  refine st_ineq hf (by decide) rfl rfl rfl ?_
  clear hf; intro a ha hf; clear ha
  refine st_move hf rfl rfl (by decide) ?_
  clear hf; intro a ha hf; clear ha
  obtain ⟨z34, hz32, h⟩ := bnd h
  refine wpList_cut 6 (fun a w => Fr 119 a [(0, vl0), (3, vrows3), (9, v3), (57, .bool z34)] ∧ Hp S w0 w (Res.slx Ek.c128 36 v3 q1.1 q1.2 :: Res.sl Ek.c128 36 v30 q23.1 :: Res.sl Ek.c128 36 v12 q5.1 :: ow)) ?_ ?_
  · rcases Bool.eq_false_or_eq_true (q14.2 != q5.2) with hb33 | hb33
    · skip
      replace hz32 := ifT hz32 hb33
      refine st_skip hf (wantN hf rfl rfl hb33) rfl (by decide) ?_ rfl
      clear hf; intro a hf
      refine st_skip hf (wantN hf rfl rfl hb33) rfl (by decide) ?_ rfl
      clear hf; intro a hf
      refine st_skip hf (wantN hf rfl rfl hb33) rfl (by decide) ?_ rfl
      clear hf; intro a hf
      refine st_skip hf (wantN hf rfl rfl hb33) rfl (by decide) ?_ rfl
      clear hf; intro a hf
      refine st_skip hf (wantN hf rfl rfl hb33) rfl (by decide) ?_ rfl
      clear hf; intro a hf
      obtain rfl := Option.some.inj hz32
      refine st_pick (v := .bool true) hf rfl rfl (fun hb' => ?_) (fun hb' => ?_) (by decide) ?_
      · rfl
      · exact absurd (hb33.symm.trans hb') (by decide)
      clear hf; intro a ha hf; clear ha
      refine st_nil hf (th_n ?_)
      have hp : Hp _ _ w (Res.slx Ek.c128 36 v3 q1.1 q1.2 :: Res.sl Ek.c128 36 v30 q23.1 :: Res.sl Ek.c128 36 v12 q5.1 :: ow) := Hp.sel (pre := [Res.slx Ek.c128 36 v3 q1.1 q1.2, Res.sl Ek.c128 36 v30 q23.1, Res.sl Ek.c128 36 v21 q14.1, Res.sl Ek.c128 36 v12 q5.1]) (tail := ow) (rs' := [Res.slx Ek.c128 36 v3 q1.1 q1.2, Res.sl Ek.c128 36 v30 q23.1, Res.sl Ek.c128 36 v12 q5.1]) hp [0, 1, 3] (by decide) (by simp) rfl
      exact ⟨hf.sub ⟨rfl, rfl, rfl, rfl, trivial⟩, hp⟩
    · skip
      replace hz32 := ifF hz32 hb33
      refine st_move hf (wantY hf rfl rfl hb33) rfl (by decide) ?_
      clear hf; intro a ha hf; clear ha
      refine st_move hf (wantY hf rfl rfl hb33) rfl (by decide) ?_
      clear hf; intro a ha hf; clear ha
      refine st_move hf (wantY hf rfl rfl hb33) rfl (by decide) ?_
      clear hf; intro a ha hf; clear ha
      obtain ⟨q35, hcall36, hz32⟩ := bnd hz32
      obtain ⟨S37, hp38, rd39, up40, bk41⟩ := Hp.lendS hp (i := 1) rfl
      obtain ⟨S42, hp43, rd44, up45, bk46⟩ := Hp.lendS hp38 (i := 2) rfl
      have hp47 : Hp _ _ w (Res.sl Ek.c128 36 v21 q14.1 :: Res.slx Ek.c128 36 v3 q1.1 q1.2 :: ow) := Hp.sel (pre := [Res.slx Ek.c128 36 v3 q1.1 q1.2, Res.sl Ek.c128 36 v21 q14.1]) (tail := ow) (rs' := [Res.sl Ek.c128 36 v21 q14.1, Res.slx Ek.c128 36 v3 q1.1 q1.2]) hp43 [1, 0] (by decide) (by simp) rfl
      refine st_call hf (by decide) Try.func12 rfl rfl (wantY hf rfl rfl hb33) rfl rfl (f_foghornlaw08_fresh_c _ _ _ _ ((rd39.now hp38).mono up45) _ _ rd44 hp47 hcall36) ?_
      rintro _ w ⟨rfl, hp0⟩
      have hp0 := bk46 _ _ hp0
      have hp0 := bk41 _ _ hp0
      clear hp; have hp := hp0; clear hp0
      replace hp : Hp _ _ w (Res.sl Ek.c128 36 v30 q23.1 :: Res.sl Ek.c128 36 v12 q5.1 :: Res.slx Ek.c128 36 v3 q1.1 q1.2 :: ow) := hp
      refine ⟨_, rfl, ?_⟩
      clear hf; intro a hf
      refine st_not hf (by decide) (wantY hf rfl rfl hb33) rfl ?_
      clear hf; intro a ha hf; clear ha
      obtain rfl := Option.some.inj hz32
      refine st_pick (v := .bool (!q35)) hf rfl rfl (fun hb' => ?_) (fun hb' => ?_) (by decide) ?_
      · exact absurd (hb33.symm.trans hb') (by decide)
      · rfl
      clear hf; intro a ha hf; clear ha
      refine st_nil hf (th_n ?_)
      have hp : Hp _ _ w (Res.slx Ek.c128 36 v3 q1.1 q1.2 :: Res.sl Ek.c128 36 v30 q23.1 :: Res.sl Ek.c128 36 v12 q5.1 :: ow) := Hp.sel (pre := [Res.sl Ek.c128 36 v30 q23.1, Res.sl Ek.c128 36 v12 q5.1, Res.slx Ek.c128 36 v3 q1.1 q1.2]) (tail := ow) (rs' := [Res.slx Ek.c128 36 v3 q1.1 q1.2, Res.sl Ek.c128 36 v30 q23.1, Res.sl Ek.c128 36 v12 q5.1]) hp [2, 0, 1] (by decide) (by simp) rfl
      exact ⟨hf.sub ⟨rfl, rfl, rfl, rfl, trivial⟩, hp⟩
  · rintro a w ⟨hf, hp⟩
    refine st_move hf rfl rfl (by decide) ?_
    clear hf; intro a ha hf; clear ha
    obtain ⟨z50, hz48, h⟩ := bnd h
    refine wpList_cut 5 (fun a w => Fr 119 a [(3, vrows3), (63, .bool z50)] ∧ Hp S w0 w (Res.slx Ek.c128 36 v3 q1.1 q1.2 :: Res.sl Ek.c128 36 v30 q23.1 :: Res.sl Ek.c128 36 v12 q5.1 :: ow)) ?_ ?_
    · rcases Bool.eq_false_or_eq_true z34 with hb49 | hb49
      · skip
        replace hz48 := ifT hz48 hb49
        refine st_skip hf (wantN hf rfl rfl hb49) rfl (by decide) ?_ rfl
        clear hf; intro a hf
        refine st_skip hf (wantN hf rfl rfl hb49) rfl (by decide) ?_ rfl
        clear hf; intro a hf
        refine st_skip hf (wantN hf rfl rfl hb49) rfl (by decide) ?_ rfl
        clear hf; intro a hf
        refine st_skip hf (wantN hf rfl rfl hb49) rfl (by decide) ?_ rfl
        clear hf; intro a hf
        obtain rfl := Option.some.inj hz48
        refine st_pick (v := .bool true) hf rfl rfl (fun hb' => ?_) (fun hb' => ?_) (by decide) ?_
        · rfl
        · exact absurd (hb49.symm.trans hb') (by decide)
        clear hf; intro a ha hf; clear ha
        refine st_nil hf (th_n ?_)
        exact ⟨hf.sub ⟨rfl, rfl, trivial⟩, hp⟩
      · skip
        replace hz48 := ifF hz48 hb49
        refine st_move hf (wantY hf rfl rfl hb49) rfl (by decide) ?_
        clear hf; intro a ha hf; clear ha
        refine st_move hf (wantY hf rfl rfl hb49) rfl (by decide) ?_
        clear hf; intro a ha hf; clear ha
        obtain ⟨q51, hcall52, hz48⟩ := bnd hz48
        obtain ⟨S53, hp54, rd55, up56, bk57⟩ := Hp.lendX hp (i := 0) rfl
        refine st_call hf (by decide) Try.func13 rfl rfl (wantY hf rfl rfl hb49) rfl rfl (f_foghornlaw08_kept_c hp54 _ _ _ rd55 _ _ ((hl0.now hp).mono up56) hcall52) ?_
        rintro _ w ⟨rfl, hp0⟩
        have hp0 := bk57 _ _ hp0
        clear hp; have hp := hp0; clear hp0
        replace hp : Hp _ _ w (Res.slx Ek.c128 36 v3 q1.1 q1.2 :: Res.sl Ek.c128 36 v30 q23.1 :: Res.sl Ek.c128 36 v12 q5.1 :: ow) := hp
        refine ⟨_, rfl, ?_⟩
        clear hf; intro a hf
        refine st_not hf (by decide) (wantY hf rfl rfl hb49) rfl ?_
        clear hf; intro a ha hf; clear ha
        obtain rfl := Option.some.inj hz48
        refine st_pick (v := .bool (!q51)) hf rfl rfl (fun hb' => ?_) (fun hb' => ?_) (by decide) ?_
        · exact absurd (hb49.symm.trans hb') (by decide)
        · rfl
        clear hf; intro a ha hf; clear ha
        refine st_nil hf (th_n ?_)
        exact ⟨hf.sub ⟨rfl, rfl, trivial⟩, hp⟩
    · rintro a w ⟨hf, hp⟩
      refine st_nil hf ?_
      refine th_n ?_
      refine wp_if hf rfl (fun hb => ?_) (fun hb => ?_)
      · replace h := ifT h hb
        refine wp_seq ?_
        refine wp_reg ?_
        refine st_assign hf rfl rfl (by decide) ?_
        clear hf; intro a ha hf; clear ha
        refine st_nil hf ?_
        refine th_n ?_
        refine wp_ret ?_
        refine th_r ?_
        obtain rfl := Option.some.inj h
        have hp : Hp _ _ w (ow) := Hp.sel (pre := [Res.slx Ek.c128 36 v3 q1.1 q1.2, Res.sl Ek.c128 36 v30 q23.1, Res.sl Ek.c128 36 v12 q5.1]) (tail := ow) (rs' := []) hp [] (by decide) (by simp) rfl
        exact ⟨rfl, ⟨hf.sub ⟨rfl, trivial⟩, hp⟩⟩
      · replace h := ifF h hb
        refine wp_skip ?_
        refine th_n ?_
        refine wp_seq ?_
        refine wp_reg ?_
        refine st_assign hf rfl rfl (by decide) ?_
        clear hf; intro a ha hf; clear ha
        refine st_nil hf ?_
        refine th_n ?_
        refine wp_seq ?_
        refine wp_seq ?_
        refine wp_reg ?_
        refine st_assign hf rfl rfl (by decide) ?_
        clear hf; intro a ha hf; clear ha
        refine st_nil hf ?_
        refine th_n ?_
        refine wp_block ?_
        obtain ⟨q73, hl, h⟩ := bnd h
        have hp := hp.rowsNil (RowK.slx Ek.c128 36) 24
        have hp : Hp _ _ w (Res.rows (RowK.slx Ek.c128 36) 24 (.slice none 0 0) ([]) ([]) :: ow) := Hp.sel (pre := [Res.rows (RowK.slx Ek.c128 36) 24 (.slice none 0 0) ([]) ([]), Res.slx Ek.c128 36 v3 q1.1 q1.2, Res.sl Ek.c128 36 v30 q23.1, Res.sl Ek.c128 36 v12 q5.1]) (tail := ow) (rs' := [Res.rows (RowK.slx Ek.c128 36) 24 (.slice none 0 0) ([]) ([])]) hp [0] (by decide) (by simp) rfl
        refine wp_loop_pure (f := (f_foghornlaw08_MixShares.s1 rows3)) (s := ([], (0 : Int))) (fun s a w => ∃ (v58 : Value) (vs59 : List Value), Fr 119 a [(3, vrows3), (16, v58), (17, .int .i64 s.2)] ∧ Hp S w0 w (Res.rows (RowK.slx Ek.c128 36) 24 v58 vs59 s.1 :: ow)) (fun q e a w => e = .exit 0 ∧ ∃ (v61 : Value) (vs62 : List Value), Fr 119 a [(3, vrows3), (16, v61)] ∧ Hp S w0 w (Res.rows (RowK.slx Ek.c128 36) 24 v61 vs62 q :: ow)) ?_ hl ⟨_, _, hf.sub ⟨rfl, rfl, rfl, trivial⟩, hp⟩ ?_
        · clear hl hf hp
          intro s x a w h hI
          obtain ⟨in16, i17⟩ := s
          obtain ⟨v58, vs59, hf, hp⟩ : ∃ (v58 : Value) (vs59 : List Value), Fr 119 a [(3, vrows3), (16, v58), (17, .int .i64 i17)] ∧ Hp S w0 w (Res.rows (RowK.slx Ek.c128 36) 24 v58 vs59 in16 :: ow) := hI
          replace h : f_foghornlaw08_MixShares.s1c rows3 in16 i17 = some x := h
          unfold f_foghornlaw08_MixShares.s1c at h
          refine wp_seq ?_
          refine wp_seq ?_
          refine wp_reg ?_
          refine st_move hf rfl rfl (by decide) ?_
          clear hf; intro a ha hf; clear ha
          refine st_move hf rfl rfl (by decide) ?_
          clear hf; intro a ha hf; clear ha
          refine st_lenV hf (by decide) Try.underlying23 rfl rfl (hrows3.ob hp).shapeVY ?_
          clear hf; intro a ha hf; clear ha
          refine st_ilss hf (by decide) rfl rfl rfl ?_
          clear hf; intro a ha hf; clear ha
          refine st_nil hf ?_
          refine th_n ?_
          refine wp_if hf rfl (fun hb => ?_) (fun hb => ?_)
          · replace h := ifT h hb
            refine wp_skip ?_
            refine th_n ?_
            refine wp_seq ?_
            refine wp_block ?_
            refine wp_reg ?_
            refine st_move hf rfl rfl (by decide) ?_
            clear hf; intro a ha hf; clear ha
            refine st_move hf rfl rfl (by decide) ?_
            clear hf; intro a ha hf; clear ha
            refine st_move hf rfl rfl (by decide) ?_
            clear hf; intro a ha hf; clear ha
            obtain ⟨hc64, h⟩ := chk h
            refine st_indexV (E := Ek.val) (m := rows3.length) hf (by decide) Try.underlying23 eltv22 rfl rfl rfl (hrows3.ob hp).shapeNY hc64.1 hc64.2 ?_
            clear hf; intro a ha hf; clear ha
            refine st_ldRY hf (by decide) pl22 rfl rfl (hrows3.ob hp) hc64.1 hc64.2 ?_
            clear hf; intro a ha hf; clear ha
            obtain ⟨q65, hcall66, h⟩ := bnd h
            refine st_call hf (by decide) Try.func9 rfl rfl rfl rfl rfl (f_foghornlaw08_numbers_c hp _ _ (RdR.rowS hrows3 hc64.1 hc64.2) hcall66) ?_
            rintro _ w ⟨v67, rfl, hp0⟩
            clear hp; have hp := hp0; clear hp0
            replace hp : Hp _ _ w (Res.slx Ek.c128 36 v67 q65.1 q65.2 :: Res.rows (RowK.slx Ek.c128 36) 24 v58 vs59 in16 :: ow) := hp
            refine ⟨_, rfl, ?_⟩
            clear hf; intro a hf
            refine st_build (E := Ek.val) (xs := [v67]) hf (by decide) eltv24 Try.underlying31 hp (vals := #[(0, v67)]) (cells := #[v67]) rfl (by simp [hf.ev (x := (Operand.tmp 75)) rfl]) (by decide) (by decide) (z := .slice none 0 0) (by kernel_rfl) (fillv1 (hp.sl (i := 0) rfl).shapeV) rfl (reps_cons (E := Ek.val) (cs := [v67]) ⟨rfl, (one_of (hp.sl (i := 0) rfl).shapeV)⟩ (reps_nil _)) ?_
            clear hf; intro a w v69 hf hp0; clear hp; have hp := hp0; clear hp0
            replace hp : Hp _ _ w (Res.sl Ek.val 24 v69 [v67] :: Res.slx Ek.c128 36 v67 q65.1 q65.2 :: Res.rows (RowK.slx Ek.c128 36) 24 v58 vs59 in16 :: ow) := hp
            have hp : Hp _ _ w (Res.rows (RowK.slx Ek.c128 36) 24 v58 vs59 in16 :: Res.slx Ek.c128 36 v67 q65.1 q65.2 :: Res.sl Ek.val 24 v69 [v67] :: ow) := Hp.sel (pre := [Res.sl Ek.val 24 v69 [v67], Res.slx Ek.c128 36 v67 q65.1 q65.2, Res.rows (RowK.slx Ek.c128 36) 24 v58 vs59 in16]) (tail := ow) (rs' := [Res.rows (RowK.slx Ek.c128 36) 24 v58 vs59 in16, Res.slx Ek.c128 36 v67 q65.1 q65.2, Res.sl Ek.val 24 v69 [v67]]) hp [2, 1, 0] (by decide) (by simp) rfl
            obtain ⟨hc71, h⟩ := chk h
            refine st_appendR (K := (RowK.slx Ek.c128 36)) (b := (q65.1, q65.2)) hf (by decide) eltv24 Try.underlying31 (by decide) hp rfl rfl rfl (hp.sl (i := 2) rfl) (by rw [List.length_map]; exact hc71) ?_
            clear hf; intro a w v72 hf hp0; clear hp; have hp := hp0; clear hp0
            rw [fill3] at hp
            replace hp : Hp _ _ w (Res.rows (RowK.slx Ek.c128 36) 24 v72 (vs59 ++ [v67]) (in16 ++ [(q65.1, q65.2)]) :: Res.sl Ek.val 24 v69 [v67] :: ow) := hp
            refine st_assign hf rfl rfl (by decide) ?_
            clear hf; intro a ha hf; clear ha
            refine st_nil hf ?_
            refine ib_n ?_
            refine th_n ?_
            refine wp_reg ?_
            refine st_move hf rfl rfl (by decide) ?_
            clear hf; intro a ha hf; clear ha
            refine st_iadd hf (by decide) rfl rfl rfl ?_
            clear hf; intro a ha hf; clear ha
            refine st_assign hf rfl rfl (by decide) ?_
            clear hf; intro a ha hf; clear ha
            refine st_nil hf ?_
            obtain rfl := Option.some.inj h
            have hp : Hp _ _ w (Res.rows (RowK.slx Ek.c128 36) 24 v72 (vs59 ++ [v67]) (in16 ++ [(q65.1, q65.2)]) :: ow) := Hp.sel (pre := [Res.rows (RowK.slx Ek.c128 36) 24 v72 (vs59 ++ [v67]) (in16 ++ [(q65.1, q65.2)]), Res.sl Ek.val 24 v69 [v67]]) (tail := ow) (rs' := [Res.rows (RowK.slx Ek.c128 36) 24 v72 (vs59 ++ [v67]) (in16 ++ [(q65.1, q65.2)])]) hp [0] (by decide) (by simp) rfl
            exact rnd_l ⟨_, _, hf.sub ⟨rfl, rfl, rfl, trivial⟩, hp⟩
          · replace h := ifF h hb
            refine wp_exit ?_
            refine th_e ?_
            obtain rfl := Option.some.inj h
            exact rnd_r (by simp) ⟨rfl, _, _, hf.sub ⟨rfl, rfl, trivial⟩, hp⟩
        · clear hl hf hp
          intro e a w hne hO
          obtain ⟨rfl, v61, vs62, hf, hp⟩ := hO
          refine ib_same ?_
          refine th_n ?_
          refine wp_seq ?_
          refine wp_reg ?_
          refine st_move hf rfl rfl (by decide) ?_
          clear hf; intro a ha hf; clear ha
          obtain ⟨q75, hcall76, h⟩ := bnd h
          obtain ⟨S77, hp78, rd79, up80, bk81⟩ := Hp.lendR hp (i := 0) rfl
          refine st_call hf (by decide) Try.func14 rfl rfl rfl rfl rfl (f_foghornref08_Merge_c hp78 _ _ _ (RdR.plain rd79) hcall76) ?_
          rintro _ w ⟨v82, rfl, hp0⟩
          have hp0 := bk81 _ _ hp0
          clear hp; have hp := hp0; clear hp0
          replace hp : Hp _ _ w (Res.rows (RowK.slx Ek.c128 36) 24 v61 vs62 q73 :: Res.sl Ek.c128 36 v82 q75.1 :: ow) := hp
          refine ⟨_, rfl, ?_⟩
          clear hf; intro a hf
          refine st_move hf rfl rfl (by decide) ?_
          clear hf; intro a ha hf; clear ha
          refine st_extract hf (by decide) rfl rfl rfl ?_
          clear hf; intro a ha hf; clear ha
          refine st_extract hf (by decide) rfl rfl rfl ?_
          clear hf; intro a ha hf; clear ha
          refine st_assign hf rfl rfl (by decide) ?_
          clear hf; intro a ha hf; clear ha
          refine st_assign hf rfl rfl (by decide) ?_
          clear hf; intro a ha hf; clear ha
          refine st_nil hf ?_
          refine th_n ?_
          refine wp_seq ?_
          refine wp_reg ?_
          refine st_move hf rfl rfl (by decide) ?_
          clear hf; intro a ha hf; clear ha
          obtain ⟨q84, hcall85, h⟩ := bnd h
          obtain ⟨S86, hp87, rd88, up89, bk90⟩ := Hp.lendR hp (i := 0) rfl
          refine st_call hf (by decide) Try.func15 rfl rfl rfl rfl rfl (f_mix_Merge_c hp87 _ _ _ (RdR.plain rd88) hcall85) ?_
          rintro _ w ⟨v91, rfl, hp0⟩
          have hp0 := bk90 _ _ hp0
          clear hp; have hp := hp0; clear hp0
          replace hp : Hp _ _ w (Res.rows (RowK.slx Ek.c128 36) 24 v61 vs62 q73 :: Res.sl Ek.c128 36 v91 q84.1 :: Res.sl Ek.c128 36 v82 q75.1 :: ow) := hp
          refine ⟨_, rfl, ?_⟩
          clear hf; intro a hf
          refine st_move hf rfl rfl (by decide) ?_
          clear hf; intro a ha hf; clear ha
          refine st_extract hf (by decide) rfl rfl rfl ?_
          clear hf; intro a ha hf; clear ha
          refine st_extract hf (by decide) rfl rfl rfl ?_
          clear hf; intro a ha hf; clear ha
          refine st_assign hf rfl rfl (by decide) ?_
          clear hf; intro a ha hf; clear ha
          refine st_assign hf rfl rfl (by decide) ?_
          clear hf; intro a ha hf; clear ha
          refine st_nil hf ?_
          refine th_n ?_
          refine wp_seq ?_
          refine wp_reg ?_
          refine st_move hf rfl rfl (by decide) ?_
          clear hf; intro a ha hf; clear ha
          obtain ⟨q93, hcall94, h⟩ := bnd h
          obtain ⟨S95, hp96, rd97, up98, bk99⟩ := Hp.lendR hp (i := 0) rfl
          refine st_call hf (by decide) Try.func15 rfl rfl rfl rfl rfl (f_mix_Merge_c hp96 _ _ _ (RdR.plain rd97) hcall94) ?_
          rintro _ w ⟨v100, rfl, hp0⟩
          have hp0 := bk99 _ _ hp0
          clear hp; have hp := hp0; clear hp0
          replace hp : Hp _ _ w (Res.rows (RowK.slx Ek.c128 36) 24 v61 vs62 q73 :: Res.sl Ek.c128 36 v100 q93.1 :: Res.sl Ek.c128 36 v91 q84.1 :: Res.sl Ek.c128 36 v82 q75.1 :: ow) := hp
          refine ⟨_, rfl, ?_⟩
          clear hf; intro a hf
          refine st_move hf rfl rfl (by decide) ?_
          clear hf; intro a ha hf; clear ha
          refine st_extract hf (by decide) rfl rfl rfl ?_
          clear hf; intro a ha hf; clear ha
          refine st_extract hf (by decide) rfl rfl rfl ?_
          clear hf; intro a ha hf; clear ha
          refine st_assign hf rfl rfl (by decide) ?_
          clear hf; intro a ha hf; clear ha
          refine st_assign hf rfl rfl (by decide) ?_
          clear hf; intro a ha hf; clear ha
          refine st_nil hf ?_
          refine th_n ?_
          refine wp_seq ?_
          refine wp_seq ?_
          refine wp_reg ?_
          refine st_move hf rfl rfl (by decide) ?_
          clear hf; intro a ha hf; clear ha
          refine st_move hf rfl rfl (by decide) ?_
          clear hf; intro a ha hf; clear ha
          refine st_ineq hf (by decide) rfl rfl rfl ?_
          clear hf; intro a ha hf; clear ha
          refine st_move hf rfl rfl (by decide) ?_
          clear hf; intro a ha hf; clear ha
          obtain ⟨z104, hz102, h⟩ := bnd h
          refine wpList_cut 6 (fun a w => Fr 119 a [(3, vrows3), (16, v61), (102, .bool z104)] ∧ Hp S w0 w (Res.rows (RowK.slx Ek.c128 36) 24 v61 vs62 q73 :: Res.sl Ek.c128 36 v100 q93.1 :: Res.sl Ek.c128 36 v82 q75.1 :: ow)) ?_ ?_
          · rcases Bool.eq_false_or_eq_true (q84.2 != q75.2) with hb103 | hb103
            · skip
              replace hz102 := ifT hz102 hb103
              refine st_skip hf (wantN hf rfl rfl hb103) rfl (by decide) ?_ rfl
              clear hf; intro a hf
              refine st_skip hf (wantN hf rfl rfl hb103) rfl (by decide) ?_ rfl
              clear hf; intro a hf
              refine st_skip hf (wantN hf rfl rfl hb103) rfl (by decide) ?_ rfl
              clear hf; intro a hf
              refine st_skip hf (wantN hf rfl rfl hb103) rfl (by decide) ?_ rfl
              clear hf; intro a hf
              refine st_skip hf (wantN hf rfl rfl hb103) rfl (by decide) ?_ rfl
              clear hf; intro a hf
              obtain rfl := Option.some.inj hz102
              refine st_pick (v := .bool true) hf rfl rfl (fun hb' => ?_) (fun hb' => ?_) (by decide) ?_
              · rfl
              · exact absurd (hb103.symm.trans hb') (by decide)
              clear hf; intro a ha hf; clear ha
              refine st_nil hf (th_n ?_)
              have hp : Hp _ _ w (Res.rows (RowK.slx Ek.c128 36) 24 v61 vs62 q73 :: Res.sl Ek.c128 36 v100 q93.1 :: Res.sl Ek.c128 36 v82 q75.1 :: ow) := Hp.sel (pre := [Res.rows (RowK.slx Ek.c128 36) 24 v61 vs62 q73, Res.sl Ek.c128 36 v100 q93.1, Res.sl Ek.c128 36 v91 q84.1, Res.sl Ek.c128 36 v82 q75.1]) (tail := ow) (rs' := [Res.rows (RowK.slx Ek.c128 36) 24 v61 vs62 q73, Res.sl Ek.c128 36 v100 q93.1, Res.sl Ek.c128 36 v82 q75.1]) hp [0, 1, 3] (by decide) (by simp) rfl
              exact ⟨hf.sub ⟨rfl, rfl, rfl, trivial⟩, hp⟩
            · skip
              replace hz102 := ifF hz102 hb103
              refine st_move hf (wantY hf rfl rfl hb103) rfl (by decide) ?_
              clear hf; intro a ha hf; clear ha
              refine st_move hf (wantY hf rfl rfl hb103) rfl (by decide) ?_
              clear hf; intro a ha hf; clear ha
              refine st_move hf (wantY hf rfl rfl hb103) rfl (by decide) ?_
              clear hf; intro a ha hf; clear ha
              obtain ⟨q105, hcall106, hz102⟩ := bnd hz102
              obtain ⟨S107, hp108, rd109, up110, bk111⟩ := Hp.lendS hp (i := 1) rfl
              obtain ⟨S112, hp113, rd114, up115, bk116⟩ := Hp.lendS hp108 (i := 2) rfl
              have hp117 : Hp _ _ w (Res.sl Ek.c128 36 v91 q84.1 :: Res.rows (RowK.slx Ek.c128 36) 24 v61 vs62 q73 :: ow) := Hp.sel (pre := [Res.rows (RowK.slx Ek.c128 36) 24 v61 vs62 q73, Res.sl Ek.c128 36 v91 q84.1]) (tail := ow) (rs' := [Res.sl Ek.c128 36 v91 q84.1, Res.rows (RowK.slx Ek.c128 36) 24 v61 vs62 q73]) hp113 [1, 0] (by decide) (by simp) rfl
              refine st_call hf (by decide) Try.func12 rfl rfl (wantY hf rfl rfl hb103) rfl rfl (f_foghornlaw08_fresh_c _ _ _ _ ((rd109.now hp108).mono up115) _ _ rd114 hp117 hcall106) ?_
              rintro _ w ⟨rfl, hp0⟩
              have hp0 := bk116 _ _ hp0
              have hp0 := bk111 _ _ hp0
              clear hp; have hp := hp0; clear hp0
              replace hp : Hp _ _ w (Res.sl Ek.c128 36 v100 q93.1 :: Res.sl Ek.c128 36 v82 q75.1 :: Res.rows (RowK.slx Ek.c128 36) 24 v61 vs62 q73 :: ow) := hp
              refine ⟨_, rfl, ?_⟩
              clear hf; intro a hf
              refine st_not hf (by decide) (wantY hf rfl rfl hb103) rfl ?_
              clear hf; intro a ha hf; clear ha
              obtain rfl := Option.some.inj hz102
              refine st_pick (v := .bool (!q105)) hf rfl rfl (fun hb' => ?_) (fun hb' => ?_) (by decide) ?_
              · exact absurd (hb103.symm.trans hb') (by decide)
              · rfl
              clear hf; intro a ha hf; clear ha
              refine st_nil hf (th_n ?_)
              have hp : Hp _ _ w (Res.rows (RowK.slx Ek.c128 36) 24 v61 vs62 q73 :: Res.sl Ek.c128 36 v100 q93.1 :: Res.sl Ek.c128 36 v82 q75.1 :: ow) := Hp.sel (pre := [Res.sl Ek.c128 36 v100 q93.1, Res.sl Ek.c128 36 v82 q75.1, Res.rows (RowK.slx Ek.c128 36) 24 v61 vs62 q73]) (tail := ow) (rs' := [Res.rows (RowK.slx Ek.c128 36) 24 v61 vs62 q73, Res.sl Ek.c128 36 v100 q93.1, Res.sl Ek.c128 36 v82 q75.1]) hp [2, 0, 1] (by decide) (by simp) rfl
              exact ⟨hf.sub ⟨rfl, rfl, rfl, trivial⟩, hp⟩
          · rintro a w ⟨hf, hp⟩
            refine st_nil hf ?_
            refine th_n ?_
            refine wp_if hf rfl (fun hb => ?_) (fun hb => ?_)
            · replace h := ifT h hb
              refine wp_seq ?_
              refine wp_reg ?_
              refine st_assign hf rfl rfl (by decide) ?_
              clear hf; intro a ha hf; clear ha
              refine st_nil hf ?_
              refine th_n ?_
              refine wp_ret ?_
              refine th_r ?_
              obtain rfl := Option.some.inj h
              have hp : Hp _ _ w (ow) := Hp.sel (pre := [Res.rows (RowK.slx Ek.c128 36) 24 v61 vs62 q73, Res.sl Ek.c128 36 v100 q93.1, Res.sl Ek.c128 36 v82 q75.1]) (tail := ow) (rs' := []) hp [] (by decide) (by simp) rfl
              exact ⟨rfl, ⟨hf.sub ⟨rfl, trivial⟩, hp⟩⟩
            · replace h := ifF h hb
              refine wp_skip ?_
              refine th_n ?_
              refine wp_seq ?_
              refine wp_seq ?_
              refine wp_reg ?_
              refine st_assign hf rfl rfl (by decide) ?_
              clear hf; intro a ha hf; clear ha
              refine st_nil hf ?_
              refine th_n ?_
              refine wp_block ?_
              obtain ⟨q129, hl, h⟩ := bnd h
              have hp : Hp _ _ w (Res.rows (RowK.slx Ek.c128 36) 24 v61 vs62 q73 :: ow) := Hp.sel (pre := [Res.rows (RowK.slx Ek.c128 36) 24 v61 vs62 q73, Res.sl Ek.c128 36 v100 q93.1, Res.sl Ek.c128 36 v82 q75.1]) (tail := ow) (rs' := [Res.rows (RowK.slx Ek.c128 36) 24 v61 vs62 q73]) hp [0] (by decide) (by simp) rfl
              refine wp_loop_pure (f := (f_foghornlaw08_MixShares.s2 rows3 q73)) (s := (0 : Int)) (fun s a w => Fr 119 a [(3, vrows3), (16, v61), (24, .int .i64 s)] ∧ Hp S w0 w (Res.rows (RowK.slx Ek.c128 36) 24 v61 vs62 q73 :: ow)) (fun q e a w => match q with | (Sum.inl q) => e = .exit 2 ∧ Fr 119 a [] ∧ Hp S w0 w (ow) | (Sum.inr q) => e = .ret ∧ Fr 119 a [(8, .bool q)] ∧ Hp S w0 w (ow)) ?_ hl ⟨hf.sub ⟨rfl, rfl, rfl, trivial⟩, hp⟩ ?_
              · clear hl hf hp
                intro s x a w h hI
                obtain ⟨i24, hs⟩ : ∃ z, z = s := ⟨s, rfl⟩; subst hs
                obtain ⟨hf, hp⟩ : Fr 119 a [(3, vrows3), (16, v61), (24, .int .i64 i24)] ∧ Hp S w0 w (Res.rows (RowK.slx Ek.c128 36) 24 v61 vs62 q73 :: ow) := hI
                replace h : f_foghornlaw08_MixShares.s2c rows3 q73 i24 = some x := h
                unfold f_foghornlaw08_MixShares.s2c at h
                refine wp_seq ?_
                refine wp_seq ?_
                refine wp_reg ?_
                refine st_move hf rfl rfl (by decide) ?_
                clear hf; intro a ha hf; clear ha
                refine st_move hf rfl rfl (by decide) ?_
                clear hf; intro a ha hf; clear ha
                refine st_lenV hf (by decide) Try.underlying23 rfl rfl (hrows3.ob hp).shapeVY ?_
                clear hf; intro a ha hf; clear ha
                refine st_ilss hf (by decide) rfl rfl rfl ?_
                clear hf; intro a ha hf; clear ha
                refine st_nil hf ?_
                refine th_n ?_
                refine wp_if hf rfl (fun hb => ?_) (fun hb => ?_)
                · replace h := ifT h hb
                  refine wp_skip ?_
                  refine th_n ?_
                  refine wp_seq ?_
                  refine wp_block ?_
                  refine wp_seq ?_
                  obtain ⟨S118, hp119, rd120, up121, bk122⟩ := Hp.lendR hp (i := 0) rfl
                  have rl123 := ((hrows3.now hp).mono up121)
                  have rl124 := rd120
                  obtain ⟨hc125, h⟩ := chk h
                  obtain ⟨hc126, h⟩ := chk h
                  obtain ⟨q127, hcall128, h⟩ := bnd h
                  refine wp_cutN (fun a w => Fr 119 a [(3, vrows3), (16, v61), (24, .int .i64 i24), (118, .bool (!q127))] ∧ Hp S w0 w (Res.rows (RowK.slx Ek.c128 36) 24 v61 vs62 q73 :: ow)) ?_ ?_
                  · have hp := hp119.same (Same.drew w)
                    refine dr_begin' (fun a w => Fr 119 a [(3, vrows3), (16, v61), (24, .int .i64 i24), (118, .bool (!q127))] ∧ Hp S w0 w (Res.rows (RowK.slx Ek.c128 36) 24 v61 vs62 q73 :: ow)) (fun w' => ∃ l, Hp S118 w w' l) [] (by kernel_rfl) ?_
                    refine dr_take 0 (v61) rfl (by kernel_rfl) (by kernel_rfl) (by kernel_rfl) (by kernel_rfl) rfl rfl hf (by decide) rfl (fun w hp => ?_) ⟨_, hp⟩ ?_
                    · obtain ⟨_, hp⟩ := hp
                      refine st_move hf rfl rfl (by decide) ?_
                      clear hf; intro a ha hf
                      exact st_nil hf (th_n ⟨ha, rfl⟩)
                    clear hf; intro a hf
                    refine dr_take 1 (.int .i64 i24) rfl (by kernel_rfl) (by kernel_rfl) (by kernel_rfl) (by kernel_rfl) rfl rfl hf (by decide) rfl (fun w hp => ?_) ⟨_, hp⟩ ?_
                    · obtain ⟨_, hp⟩ := hp
                      refine st_move hf rfl rfl (by decide) ?_
                      clear hf; intro a ha hf
                      exact st_nil hf (th_n ⟨ha, rfl⟩)
                    clear hf; intro a hf
                    refine dr_take 2 (eptr v61 i24 1) rfl (by kernel_rfl) (by kernel_rfl) (by kernel_rfl) (by kernel_rfl) rfl rfl hf (by decide) rfl (fun w hp => ?_) ⟨_, hp⟩ ?_
                    · obtain ⟨_, hp⟩ := hp
                      refine st_indexV (E := Ek.val) (m := q73.length) hf (by decide) Try.underlying31 eltv24 rfl rfl rfl (rl124.ob hp).shapeNY hc125.1 hc125.2 ?_
                      clear hf; intro a ha hf
                      exact st_nil hf (th_n ⟨ha, rfl⟩)
                    clear hf; intro a hf
                    refine dr_take 3 ((gtv vs62 i24)) rfl (by kernel_rfl) (by kernel_rfl) (by kernel_rfl) (by kernel_rfl) rfl rfl hf (by decide) rfl (fun w hp => ?_) ⟨_, hp⟩ ?_
                    · obtain ⟨_, hp⟩ := hp
                      refine st_ldRY hf (by decide) pl24 rfl rfl (rl124.ob hp) hc125.1 hc125.2 ?_
                      clear hf; intro a ha hf
                      exact st_nil hf (th_n ⟨ha, rfl⟩)
                    clear hf; intro a hf
                    refine dr_take 4 (vrows3) rfl (by kernel_rfl) (by kernel_rfl) (by kernel_rfl) (by kernel_rfl) rfl rfl hf (by decide) rfl (fun w hp => ?_) ⟨_, hp⟩ ?_
                    · obtain ⟨_, hp⟩ := hp
                      refine st_move hf rfl rfl (by decide) ?_
                      clear hf; intro a ha hf
                      exact st_nil hf (th_n ⟨ha, rfl⟩)
                    clear hf; intro a hf
                    refine dr_take 5 (.int .i64 i24) rfl (by kernel_rfl) (by kernel_rfl) (by kernel_rfl) (by kernel_rfl) rfl rfl hf (by decide) rfl (fun w hp => ?_) ⟨_, hp⟩ ?_
                    · obtain ⟨_, hp⟩ := hp
                      refine st_move hf rfl rfl (by decide) ?_
                      clear hf; intro a ha hf
                      exact st_nil hf (th_n ⟨ha, rfl⟩)
                    clear hf; intro a hf
                    refine dr_take 6 (eptr vrows3 i24 1) rfl (by kernel_rfl) (by kernel_rfl) (by kernel_rfl) (by kernel_rfl) rfl rfl hf (by decide) rfl (fun w hp => ?_) ⟨_, hp⟩ ?_
                    · obtain ⟨_, hp⟩ := hp
                      refine st_indexV (E := Ek.val) (m := rows3.length) hf (by decide) Try.underlying23 eltv22 rfl rfl rfl (rl123.ob hp).shapeNY hc126.1 hc126.2 ?_
                      clear hf; intro a ha hf
                      exact st_nil hf (th_n ⟨ha, rfl⟩)
                    clear hf; intro a hf
                    refine dr_take 7 ((gtv srows3 i24)) rfl (by kernel_rfl) (by kernel_rfl) (by kernel_rfl) (by kernel_rfl) rfl rfl hf (by decide) rfl (fun w hp => ?_) ⟨_, hp⟩ ?_
                    · obtain ⟨_, hp⟩ := hp
                      refine st_ldRY hf (by decide) pl22 rfl rfl (rl123.ob hp) hc126.1 hc126.2 ?_
                      clear hf; intro a ha hf
                      exact st_nil hf (th_n ⟨ha, rfl⟩)
                    clear hf; intro a hf
                    refine dr_one 8 rfl (by kernel_rfl) ?_
                    refine st_call hf (by decide) Try.func13 rfl rfl rfl rfl rfl (f_foghornlaw08_kept_c hp _ _ _ (RdR.rowX rl124 hc125.1 hc125.2) _ _ (RdR.rowS rl123 hc126.1 hc126.2) hcall128) ?_
                    rintro _ w ⟨rfl, hp0⟩
                    clear hp; have hp := hp0; clear hp0
                    replace hp : Hp _ _ w (ow) := hp
                    refine ⟨_, rfl, ?_⟩
                    clear hf; intro a hf
                    refine st_nil hf (th_n ⟨fun _ _ => ⟨_, hp⟩, ?_⟩)
                    refine dr_take 9 (.bool (!q127)) rfl (by kernel_rfl) (by kernel_rfl) (by kernel_rfl) (by kernel_rfl) rfl rfl hf (by decide) rfl (fun w hp => ?_) ⟨_, hp⟩ ?_
                    · obtain ⟨_, hp⟩ := hp
                      refine st_not hf (by decide) rfl rfl ?_
                      clear hf; intro a ha hf
                      exact st_nil hf (th_n ⟨ha, rfl⟩)
                    clear hf; intro a hf
                    refine dr_end (by kernel_rfl) ?_ _
                    have hp := bk122 _ _ hp
                    exact ⟨hf.sub ⟨rfl, rfl, rfl, rfl, trivial⟩, hp⟩
                  · rintro a w ⟨hf, hp⟩
                    refine th_n ?_
                    refine wp_if hf rfl (fun hb => ?_) (fun hb => ?_)
                    · replace h := ifT h hb
                      refine wp_seq ?_
                      refine wp_reg ?_
                      refine st_assign hf rfl rfl (by decide) ?_
                      clear hf; intro a ha hf; clear ha
                      refine st_nil hf ?_
                      refine th_n ?_
                      refine wp_ret ?_
                      refine ib_r ?_
                      refine th_r ?_
                      obtain rfl := Option.some.inj h
                      have hp : Hp _ _ w (ow) := Hp.sel (pre := [Res.rows (RowK.slx Ek.c128 36) 24 v61 vs62 q73]) (tail := ow) (rs' := []) hp [] (by decide) (by simp) rfl
                      exact rnd_r (by simp) ⟨rfl, ⟨hf.sub ⟨rfl, trivial⟩, hp⟩⟩
                    · replace h := ifF h hb
                      refine wp_skip ?_
                      refine ib_n ?_
                      refine th_n ?_
                      refine wp_reg ?_
                      refine st_move hf rfl rfl (by decide) ?_
                      clear hf; intro a ha hf; clear ha
                      refine st_iadd hf (by decide) rfl rfl rfl ?_
                      clear hf; intro a ha hf; clear ha
                      refine st_assign hf rfl rfl (by decide) ?_
                      clear hf; intro a ha hf; clear ha
                      refine st_nil hf ?_
                      obtain rfl := Option.some.inj h
                      exact rnd_l ⟨hf.sub ⟨rfl, rfl, rfl, trivial⟩, hp⟩
                · replace h := ifF h hb
                  refine wp_exit ?_
                  refine th_e ?_
                  obtain rfl := Option.some.inj h
                  have hp : Hp _ _ w (ow) := Hp.sel (pre := [Res.rows (RowK.slx Ek.c128 36) 24 v61 vs62 q73]) (tail := ow) (rs' := []) hp [] (by decide) (by simp) rfl
                  exact rnd_r (by simp) ⟨rfl, hf.sub trivial, hp⟩
              · clear hl hf hp
                intro e a w hne hO
                cases q129 with
                | inl q130 =>
                  replace h := smL h
                  obtain ⟨rfl, hf, hp⟩ := hO
                  refine ib_same ?_
                  refine th_n ?_
                  refine wp_seq ?_
                  refine wp_reg ?_
                  refine st_assign hf rfl rfl (by decide) ?_
                  clear hf; intro a ha hf; clear ha
                  refine st_nil hf ?_
                  refine th_n ?_
                  refine wp_ret ?_
                  obtain rfl := Option.some.inj h
                  exact ⟨rfl, ⟨hf.sub ⟨rfl, trivial⟩, hp⟩⟩
                | inr q131 =>
                  replace h := smR h
                  obtain ⟨rfl, hf, hp⟩ := hO
                  refine ib_r ?_
                  refine th_r ?_
                  obtain rfl := Option.some.inj h
                  exact ⟨rfl, ⟨hf.sub ⟨rfl, trivial⟩, hp⟩⟩

end Go.Proofs.Ytfppofbdmhihpaa
