/- The functions foghorn foghornlaw28.AgainSends: what each answers, as a plain function, and that its call answers it; printed by gen.py. -/
import Derived.Test.YtmdigffgmohcnaaProg
import Derived.Test.YtmdigffgmohcnaaGlUa
import Derived.KernelRfl
import Derived.Test.YtmdigffgmohcnaaG1p1
set_option linter.unusedVariables false
set_option linter.unusedSimpArgs false
set_option maxRecDepth 100000
set_option maxHeartbeats 4000000
namespace Go.Proofs.Ytmdigffgmohcnaa
open GL
noncomputable def f_foghornlaw28_sameAll.s1c (ax0 : (List (Int × Int × Bool × ByteArray))) (bx1 : (List (Int × Int × Bool × ByteArray))) (i5 : Int) : Option (Int ⊕ (Unit ⊕ Bool)) := (if (decide (i5 < (ax0.length : Int))) = true then (if 0 ≤ i5 ∧ i5 < (ax0.length : Int) then (if 0 ≤ i5 ∧ i5 < (bx1.length : Int) then ((f_foghornlaw28_same ((gt ax0 i5).1) ((gt ax0 i5).2.1) ((gt ax0 i5).2.2.1) ((gt ax0 i5).2.2.2) ((gt bx1 i5).1) ((gt bx1 i5).2.1) ((gt bx1 i5).2.2.1) ((gt bx1 i5).2.2.2)).bind fun q3 => (if (!q3) = true then (some (Sum.inr (Sum.inr false))) else (some (Sum.inl (IntKind.i64.wrap (i5 + (1 : Int))))))) else none) else none) else (some (Sum.inr (Sum.inl ()))))
noncomputable def f_foghornlaw28_sameAll.s1 (ax0 : (List (Int × Int × Bool × ByteArray))) (bx1 : (List (Int × Int × Bool × ByteArray))) (s : Int) : Option (Int ⊕ (Unit ⊕ Bool)) := f_foghornlaw28_sameAll.s1c ax0 bx1 s
noncomputable def f_foghornlaw28_sameAll (ax0 : (List (Int × Int × Bool × ByteArray))) (bx1 : (List (Int × Int × Bool × ByteArray))) : Option Bool := (if ((ax0.length : Int) != (bx1.length : Int)) = true then (some false) else ((loop (f_foghornlaw28_sameAll.s1 ax0 bx1) (0 : Int)).bind (fun q5 => sm q5 (fun q6 => (some true)) (fun q7 => (some q7)))))
theorem f_foghornlaw28_sameAll_c {S : Nat → Prop} {w0 w : World} {ow : List Res} (hp : Hp S w0 w ow) (vax0 : Value) (ax0 : (List (Int × Int × Bool × ByteArray))) (hax0 : RdS (Ek.pair (Ek.int .u8) (Ek.pair (Ek.int .u8) (Ek.pair Ek.bool Ek.str))) S w0 vax0 ax0) (vbx1 : Value) (bx1 : (List (Int × Int × Bool × ByteArray))) (hbx1 : RdS (Ek.pair (Ek.int .u8) (Ek.pair (Ek.int .u8) (Ek.pair Ek.bool Ek.str))) S w0 vbx1 bx1) {r : Bool} (h : f_foghornlaw28_sameAll ax0 bx1 = some r) :
    Calls Try.prog 21 #[vax0, vbx1] w (fun e w' => e = .returned (.bool r) ∧ Hp S w0 w' (ow)) := by
  unfold f_foghornlaw28_sameAll at h
  refine enter (n := 27) (args := [vax0, vbx1]) Try.func21 rfl rfl (Nat.le_of_ble_eq_true rfl) fun a hf => ?_
  replace hf : Fr 27 a [(0, vax0), (1, vbx1)] := hf
  refine wp_mono (Q := fun e a w => e = .ret ∧ Fr 27 a [(4, .bool r)] ∧ Hp S w0 w (ow)) ?_ ?_
  rotate_left
  · rintro e a w ⟨rfl, hf, hp⟩
    exact ret1 hf rfl rfl ⟨rfl, hp⟩
  refine wp_seq ?_
  refine wp_reg ?_
  refine st_assign hf rfl rfl (by decide) ?_
  clear hf; intro a ha hf; clear ha
  refine st_nil hf ?_
  refine th_n ?_
  refine wp_seq ?_
  refine wp_seq ?_
  refine wp_reg ?_
  refine st_move hf rfl rfl (by decide) ?_
  clear hf; intro a ha hf; clear ha
  refine st_len (E := (Ek.pair (Ek.int .u8) (Ek.pair (Ek.int .u8) (Ek.pair Ek.bool Ek.str)))) hf (by decide) Try.underlying54 rfl rfl (hax0.sl hp) ?_
  clear hf; intro a ha hf; clear ha
  refine st_move hf rfl rfl (by decide) ?_
  clear hf; intro a ha hf; clear ha
  refine st_len (E := (Ek.pair (Ek.int .u8) (Ek.pair (Ek.int .u8) (Ek.pair Ek.bool Ek.str)))) hf (by decide) Try.underlying54 rfl rfl (hbx1.sl hp) ?_
  clear hf; intro a ha hf; clear ha
  refine st_ineq hf (by decide) rfl rfl rfl ?_
  clear hf; intro a ha hf; clear ha
  refine st_nil hf ?_
  refine th_n ?_
  refine wp_if hf rfl (fun hb => ?_) (fun hb => ?_)
  · replace h := ifT h hb
    refine wp_seq ?_
    refine wp_reg ?_
    refine st_assign hf rfl rfl (by decide) ?_
    clear hf; intro a ha hf; clear ha
    refine st_nil hf ?_
    refine th_n ?_
    refine wp_ret ?_
    refine th_r ?_
    obtain rfl := Option.some.inj h
    exact ⟨rfl, ⟨hf.sub ⟨rfl, trivial⟩, hp⟩⟩
  replace h := ifF h hb
  refine wp_skip ?_
  refine th_n ?_
  refine wp_seq ?_
  refine wp_seq ?_
  refine wp_reg ?_
  refine st_assign hf rfl rfl (by decide) ?_
  clear hf; intro a ha hf; clear ha
  refine st_nil hf ?_
  refine th_n ?_
  refine wp_block ?_
  obtain ⟨q5, hl, h⟩ := bnd h
  refine wp_loop_pure (f := (f_foghornlaw28_sameAll.s1 ax0 bx1)) (s := (0 : Int)) (fun s a w => Fr 27 a [(0, vax0), (1, vbx1), (5, .int .i64 s)] ∧ Hp S w0 w (ow)) (fun q e a w => match q with | (Sum.inl q) => e = .exit 0 ∧ Fr 27 a [] ∧ Hp S w0 w (ow) | (Sum.inr q) => e = .ret ∧ Fr 27 a [(4, .bool q)] ∧ Hp S w0 w (ow)) ?_ hl ⟨hf.sub ⟨rfl, rfl, rfl, trivial⟩, hp⟩ ?_
  · clear hl hf hp
    intro s x a w h hI
    obtain ⟨i5, hs⟩ : ∃ z, z = s := ⟨s, rfl⟩; subst hs
    obtain ⟨hf, hp⟩ : Fr 27 a [(0, vax0), (1, vbx1), (5, .int .i64 i5)] ∧ Hp S w0 w (ow) := hI
    replace h : f_foghornlaw28_sameAll.s1c ax0 bx1 i5 = some x := h
    unfold f_foghornlaw28_sameAll.s1c at h
    refine wp_seq ?_
    refine wp_seq ?_
    refine wp_reg ?_
    refine st_move hf rfl rfl (by decide) ?_
    clear hf; intro a ha hf; clear ha
    refine st_move hf rfl rfl (by decide) ?_
    clear hf; intro a ha hf; clear ha
    refine st_len (E := (Ek.pair (Ek.int .u8) (Ek.pair (Ek.int .u8) (Ek.pair Ek.bool Ek.str)))) hf (by decide) Try.underlying54 rfl rfl (hax0.sl hp) ?_
    clear hf; intro a ha hf; clear ha
    refine st_ilss hf (by decide) rfl rfl rfl ?_
    clear hf; intro a ha hf; clear ha
    refine st_nil hf ?_
    refine th_n ?_
    refine wp_if hf rfl (fun hb => ?_) (fun hb => ?_)
    · replace h := ifT h hb
      refine wp_skip ?_
      refine th_n ?_
      refine wp_seq ?_
      refine wp_block ?_
      refine wp_seq ?_
      obtain ⟨hc1, h⟩ := chk h
      obtain ⟨hc2, h⟩ := chk h
      obtain ⟨q3, hcall4, h⟩ := bnd h
      refine wp_cutN (fun a w => Fr 27 a [(0, vax0), (1, vbx1), (5, .int .i64 i5), (26, .bool (!q3))] ∧ Hp S w0 w (ow)) ?_ ?_
      · have hp := hp.same (Same.drew w)
        refine dr_begin' (fun a w => Fr 27 a [(0, vax0), (1, vbx1), (5, .int .i64 i5), (26, .bool (!q3))] ∧ Hp S w0 w (ow)) (fun w' => ∃ l, Hp S w0 w' l) [] (by kernel_rfl) ?_
        refine dr_take 0 (vax0) rfl (by kernel_rfl) (by kernel_rfl) (by kernel_rfl) (by kernel_rfl) rfl rfl hf (by decide) rfl (fun w hp => ?_) ⟨_, hp⟩ ?_
        · obtain ⟨_, hp⟩ := hp
          refine st_move hf rfl rfl (by decide) ?_
          clear hf; intro a ha hf
          exact st_nil hf (th_n ⟨ha, rfl⟩)
        clear hf; intro a hf
        refine dr_take 1 (.int .i64 i5) rfl (by kernel_rfl) (by kernel_rfl) (by kernel_rfl) (by kernel_rfl) rfl rfl hf (by decide) rfl (fun w hp => ?_) ⟨_, hp⟩ ?_
        · obtain ⟨_, hp⟩ := hp
          refine st_move hf rfl rfl (by decide) ?_
          clear hf; intro a ha hf
          exact st_nil hf (th_n ⟨ha, rfl⟩)
        clear hf; intro a hf
        refine dr_take 2 (eptr vax0 i5 4) rfl (by kernel_rfl) (by kernel_rfl) (by kernel_rfl) (by kernel_rfl) rfl rfl hf (by decide) rfl (fun w hp => ?_) ⟨_, hp⟩ ?_
        · obtain ⟨_, hp⟩ := hp
          refine st_index (E := (Ek.pair (Ek.int .u8) (Ek.pair (Ek.int .u8) (Ek.pair Ek.bool Ek.str)))) hf (by decide) Try.underlying54 elt31 rfl rfl rfl (hax0.sl hp) hc1.1 hc1.2 ?_
          clear hf; intro a ha hf
          exact st_nil hf (th_n ⟨ha, rfl⟩)
        clear hf; intro a hf
        refine dr_take 3 (.agg #[.int .u8 ((gt ax0 i5).1), .int .u8 ((gt ax0 i5).2.1), .bool ((gt ax0 i5).2.2.1), .string ((gt ax0 i5).2.2.2)]) rfl (by kernel_rfl) (by kernel_rfl) (by kernel_rfl) (by kernel_rfl) rfl rfl hf (by decide) rfl (fun w hp => ?_) ⟨_, hp⟩ ?_
        · obtain ⟨_, hp⟩ := hp
          refine st_ldQX (F := (Ek.pair (Ek.int .u8) (Ek.pair (Ek.int .u8) (Ek.pair Ek.bool Ek.str)))) (yv := (gt ax0 i5)) (m := 4) (us := [.int .u8 ((gt ax0 i5).1), .int .u8 ((gt ax0 i5).2.1), .bool ((gt ax0 i5).2.2.1), .string ((gt ax0 i5).2.2.2)]) hf (by decide) (by kernel_rfl) rfl (fun cs9 h9 => by obtain ⟨_, _, rfl, rfl, ⟨_, _, rfl, rfl, ⟨_, _, rfl, rfl, rfl⟩⟩⟩ := h9; rfl) rfl rfl (Part.whole (hax0.sl hp) hc1.1 hc1.2) ?_
          clear hf; intro a ha hf
          exact st_nil hf (th_n ⟨ha, rfl⟩)
        clear hf; intro a hf
        refine dr_take 4 (vbx1) rfl (by kernel_rfl) (by kernel_rfl) (by kernel_rfl) (by kernel_rfl) rfl rfl hf (by decide) rfl (fun w hp => ?_) ⟨_, hp⟩ ?_
        · obtain ⟨_, hp⟩ := hp
          refine st_move hf rfl rfl (by decide) ?_
          clear hf; intro a ha hf
          exact st_nil hf (th_n ⟨ha, rfl⟩)
        clear hf; intro a hf
        refine dr_take 5 (.int .i64 i5) rfl (by kernel_rfl) (by kernel_rfl) (by kernel_rfl) (by kernel_rfl) rfl rfl hf (by decide) rfl (fun w hp => ?_) ⟨_, hp⟩ ?_
        · obtain ⟨_, hp⟩ := hp
          refine st_move hf rfl rfl (by decide) ?_
          clear hf; intro a ha hf
          exact st_nil hf (th_n ⟨ha, rfl⟩)
        clear hf; intro a hf
        refine dr_take 6 (eptr vbx1 i5 4) rfl (by kernel_rfl) (by kernel_rfl) (by kernel_rfl) (by kernel_rfl) rfl rfl hf (by decide) rfl (fun w hp => ?_) ⟨_, hp⟩ ?_
        · obtain ⟨_, hp⟩ := hp
          refine st_index (E := (Ek.pair (Ek.int .u8) (Ek.pair (Ek.int .u8) (Ek.pair Ek.bool Ek.str)))) hf (by decide) Try.underlying54 elt31 rfl rfl rfl (hbx1.sl hp) hc2.1 hc2.2 ?_
          clear hf; intro a ha hf
          exact st_nil hf (th_n ⟨ha, rfl⟩)
        clear hf; intro a hf
        refine dr_take 7 (.agg #[.int .u8 ((gt bx1 i5).1), .int .u8 ((gt bx1 i5).2.1), .bool ((gt bx1 i5).2.2.1), .string ((gt bx1 i5).2.2.2)]) rfl (by kernel_rfl) (by kernel_rfl) (by kernel_rfl) (by kernel_rfl) rfl rfl hf (by decide) rfl (fun w hp => ?_) ⟨_, hp⟩ ?_
        · obtain ⟨_, hp⟩ := hp
          refine st_ldQX (F := (Ek.pair (Ek.int .u8) (Ek.pair (Ek.int .u8) (Ek.pair Ek.bool Ek.str)))) (yv := (gt bx1 i5)) (m := 4) (us := [.int .u8 ((gt bx1 i5).1), .int .u8 ((gt bx1 i5).2.1), .bool ((gt bx1 i5).2.2.1), .string ((gt bx1 i5).2.2.2)]) hf (by decide) (by kernel_rfl) rfl (fun cs9 h9 => by obtain ⟨_, _, rfl, rfl, ⟨_, _, rfl, rfl, ⟨_, _, rfl, rfl, rfl⟩⟩⟩ := h9; rfl) rfl rfl (Part.whole (hbx1.sl hp) hc2.1 hc2.2) ?_
          clear hf; intro a ha hf
          exact st_nil hf (th_n ⟨ha, rfl⟩)
        clear hf; intro a hf
        refine dr_one 8 rfl (by kernel_rfl) ?_
        refine st_call hf (by decide) Try.func13 rfl rfl rfl rfl rfl (f_foghornlaw28_same_c hp _ _ _ _ _ _ _ _ hcall4) ?_
        rintro _ w ⟨rfl, hp0⟩
        clear hp; have hp := hp0; clear hp0
        replace hp : Hp _ _ _ (ow) := hp
        refine ⟨_, rfl, ?_⟩
        clear hf; intro a hf
        refine st_nil hf (th_n ⟨fun _ _ => ⟨_, hp⟩, ?_⟩)
        refine dr_take 9 (.bool (!q3)) rfl (by kernel_rfl) (by kernel_rfl) (by kernel_rfl) (by kernel_rfl) rfl rfl hf (by decide) rfl (fun w hp => ?_) ⟨_, hp⟩ ?_
        · obtain ⟨_, hp⟩ := hp
          refine st_not hf (by decide) rfl rfl ?_
          clear hf; intro a ha hf
          exact st_nil hf (th_n ⟨ha, rfl⟩)
        clear hf; intro a hf
        refine dr_end (by kernel_rfl) ?_ _
        exact ⟨hf.sub ⟨rfl, rfl, rfl, rfl, trivial⟩, hp⟩
      rintro a w ⟨hf, hp⟩
      refine th_n ?_
      refine wp_if hf rfl (fun hb => ?_) (fun hb => ?_)
      · replace h := ifT h hb
        refine wp_seq ?_
        refine wp_reg ?_
        refine st_assign hf rfl rfl (by decide) ?_
        clear hf; intro a ha hf; clear ha
        refine st_nil hf ?_
        refine th_n ?_
        refine wp_ret ?_
        refine ib_r ?_
        refine th_r ?_
        obtain rfl := Option.some.inj h
        exact rnd_r (by simp) ⟨rfl, ⟨hf.sub ⟨rfl, trivial⟩, hp⟩⟩
      replace h := ifF h hb
      refine wp_skip ?_
      refine ib_n ?_
      refine th_n ?_
      refine wp_reg ?_
      refine st_move hf rfl rfl (by decide) ?_
      clear hf; intro a ha hf; clear ha
      refine st_iadd hf (by decide) rfl rfl rfl ?_
      clear hf; intro a ha hf; clear ha
      refine st_assign hf rfl rfl (by decide) ?_
      clear hf; intro a ha hf; clear ha
      refine st_nil hf ?_
      obtain rfl := Option.some.inj h
      exact rnd_l ⟨hf.sub ⟨rfl, rfl, rfl, trivial⟩, hp⟩
    replace h := ifF h hb
    refine wp_exit ?_
    refine th_e ?_
    obtain rfl := Option.some.inj h
    exact rnd_r (by simp) ⟨rfl, hf.sub trivial, hp⟩
  clear hl hf hp
  intro e a w hne hO
  rcases q5 with q6 | q7
  · replace h := smL h
    obtain ⟨rfl, hf, hp⟩ := hO
    refine ib_same ?_
    refine th_n ?_
    refine wp_seq ?_
    refine wp_reg ?_
    refine st_assign hf rfl rfl (by decide) ?_
    clear hf; intro a ha hf; clear ha
    refine st_nil hf ?_
    refine th_n ?_
    refine wp_ret ?_
    obtain rfl := Option.some.inj h
    exact ⟨rfl, ⟨hf.sub ⟨rfl, trivial⟩, hp⟩⟩
  replace h := smR h
  obtain ⟨rfl, hf, hp⟩ := hO
  refine ib_r ?_
  refine th_r ?_
  obtain rfl := Option.some.inj h
  exact ⟨rfl, ⟨hf.sub ⟨rfl, trivial⟩, hp⟩⟩

noncomputable def f_again_Sender_Hear.s1c (sx0_window : Int) (sx0_left : (List (ByteArray × Bool × Int × Bool))) (k5 : Int) : Option (Int ⊕ Int) := ((if (decide (k5 < (imin sx0_window (sx0_left.length : Int)))) = true then (if 0 ≤ k5 ∧ k5 < (sx0_left.length : Int) then (some ((gt sx0_left k5).2.1)) else none) else (some false)).bind fun z24 => (if z24 = true then (some (Sum.inl (IntKind.i64.wrap (k5 + (1 : Int))))) else (some (Sum.inr k5))))
noncomputable def f_again_Sender_Hear.s1 (sx0_window : Int) (sx0_left : (List (ByteArray × Bool × Int × Bool))) (s : Int) : Option (Int ⊕ Int) := f_again_Sender_Hear.s1c sx0_window sx0_left s
noncomputable def f_again_Sender_Hear.s2c (sx0_front : Int) (f1_Number : Int) (f1_Body : ByteArray) (q25 : Int) (sx0c_0 : Int) (sx0c_1 : Int) (sx0c_2 : Int) (sx0c_3 : Int) (sx0c_4 : (List (ByteArray × Bool × Int × Bool))) (t61 : Int) : Option ((Int × Int × Int × Int × (List (ByteArray × Bool × Int × Bool)) × Int) ⊕ (Int × Int × Int × Int × (List (ByteArray × Bool × Int × Bool)))) := (if (decide (t61 < q25)) = true then ((if (decide (t61 < (IntKind.i64.wrap (IntKind.u8.wrap (f1_Number - (IntKind.u8.wrap sx0_front)))))) = true then (some true) else ((if (decide ((0 : Int) ≤ (IntKind.i64.wrap ((IntKind.i64.wrap (t61 - (IntKind.i64.wrap (IntKind.u8.wrap (f1_Number - (IntKind.u8.wrap sx0_front)))))) - (1 : Int))))) = true then (if 0 ≤ (IntKind.i64.wrap (((IntKind.i64.wrap ((IntKind.i64.wrap (t61 - (IntKind.i64.wrap (IntKind.u8.wrap (f1_Number - (IntKind.u8.wrap sx0_front)))))) - (1 : Int)))).tdiv (8 : Int))) ∧ (IntKind.i64.wrap (((IntKind.i64.wrap ((IntKind.i64.wrap (t61 - (IntKind.i64.wrap (IntKind.u8.wrap (f1_Number - (IntKind.u8.wrap sx0_front)))))) - (1 : Int)))).tdiv (8 : Int))) < (f1_Body.size : Int) then (if 0 ≤ (IntKind.i64.wrap ((7 : Int) - (((IntKind.i64.wrap ((IntKind.i64.wrap (t61 - (IntKind.i64.wrap (IntKind.u8.wrap (f1_Number - (IntKind.u8.wrap sx0_front)))))) - (1 : Int)))).tmod (8 : Int)))) then (some ((iand .u8 (ishr .u8 (bt f1_Body (IntKind.i64.wrap (((IntKind.i64.wrap ((IntKind.i64.wrap (t61 - (IntKind.i64.wrap (IntKind.u8.wrap (f1_Number - (IntKind.u8.wrap sx0_front)))))) - (1 : Int)))).tdiv (8 : Int)))) (IntKind.i64.wrap ((7 : Int) - (((IntKind.i64.wrap ((IntKind.i64.wrap (t61 - (IntKind.i64.wrap (IntKind.u8.wrap (f1_Number - (IntKind.u8.wrap sx0_front)))))) - (1 : Int)))).tmod (8 : Int))))) (1 : Int)) == (1 : Int))) else none) else none) else (some false)).bind fun z49 => (some z49))).bind fun z46 => (if z46 = true then (if 0 ≤ t61 ∧ t61 < (sx0c_4.length : Int) then (some (Sum.inl (sx0c_0, sx0c_1, sx0c_2, sx0c_3, (sx0c_4.set (t61).toNat ((gt sx0c_4 t61).1, (gt sx0c_4 t61).2.1, (gt sx0c_4 t61).2.2.1, true)), (IntKind.i64.wrap (t61 + (1 : Int)))))) else none) else (some (Sum.inl (sx0c_0, sx0c_1, sx0c_2, sx0c_3, sx0c_4, (IntKind.i64.wrap (t61 + (1 : Int)))))))) else (some (Sum.inr (sx0c_0, sx0c_1, sx0c_2, sx0c_3, sx0c_4))))
noncomputable def f_again_Sender_Hear.s2 (sx0_front : Int) (f1_Number : Int) (f1_Body : ByteArray) (q25 : Int) (s : (Int × Int × Int × Int × (List (ByteArray × Bool × Int × Bool)) × Int)) : Option ((Int × Int × Int × Int × (List (ByteArray × Bool × Int × Bool)) × Int) ⊕ (Int × Int × Int × Int × (List (ByteArray × Bool × Int × Bool)))) := f_again_Sender_Hear.s2c sx0_front f1_Number f1_Body q25 s.1 s.2.1 s.2.2.1 s.2.2.2.1 s.2.2.2.2.1 s.2.2.2.2.2
noncomputable def f_again_Sender_Hear.s3c (sx0c_0 : Int) (sx0c_1 : Int) (sx0c_2 : Int) (sx0c_3 : Int) (sx0c_4 : (List (ByteArray × Bool × Int × Bool))) : Option ((Int × Int × Int × Int × (List (ByteArray × Bool × Int × Bool))) ⊕ (Int × Int × Int × Int × (List (ByteArray × Bool × Int × Bool)))) := ((if (decide ((0 : Int) < (sx0c_4.length : Int))) = true then (if 0 ≤ (0 : Int) ∧ (0 : Int) < (sx0c_4.length : Int) then (some ((gt sx0c_4 (0 : Int)).2.2.2)) else none) else (some false)).bind fun z62 => (if z62 = true then (if 0 ≤ (1 : Int) ∧ (1 : Int) ≤ (sx0c_4.length : Int) then (some (Sum.inl (sx0c_0, sx0c_1, sx0c_2, (IntKind.i64.wrap (sx0c_3 + (1 : Int))), (sx0c_4.drop ((1 : Int)).toNat)))) else none) else (some (Sum.inr (sx0c_0, sx0c_1, sx0c_2, sx0c_3, sx0c_4)))))
noncomputable def f_again_Sender_Hear.s3  (s : (Int × Int × Int × Int × (List (ByteArray × Bool × Int × Bool)))) : Option ((Int × Int × Int × Int × (List (ByteArray × Bool × Int × Bool))) ⊕ (Int × Int × Int × Int × (List (ByteArray × Bool × Int × Bool)))) := f_again_Sender_Hear.s3c s.1 s.2.1 s.2.2.1 s.2.2.2.1 s.2.2.2.2
noncomputable def f_again_Sender_Hear (sx0_window : Int) (sx0_wait : Int) (sx0_now : Int) (sx0_front : Int) (sx0_left : (List (ByteArray × Bool × Int × Bool))) (f1_Kind : Int) (f1_Number : Int) (f1_More : Bool) (f1_Body : ByteArray) : Option (Int × (Int × Int × Int × Int × (List (ByteArray × Bool × Int × Bool)))) := (if (((f1_Kind != (2 : Int)) || f1_More) || ((f1_Body.size : Int) != (16 : Int))) = true then (some ((4 : Int), (sx0_window, sx0_wait, sx0_now, sx0_front, sx0_left))) else ((loop (f_again_Sender_Hear.s1 sx0_window sx0_left) (0 : Int)).bind (fun q25 => (if (decide (q25 < (IntKind.i64.wrap (IntKind.u8.wrap (f1_Number - (IntKind.u8.wrap sx0_front)))))) = true then (some ((0 : Int), (sx0_window, sx0_wait, sx0_now, sx0_front, sx0_left))) else ((loop (f_again_Sender_Hear.s2 sx0_front f1_Number f1_Body q25) (sx0_window, sx0_wait, sx0_now, sx0_front, sx0_left, (0 : Int))).bind (fun q53 => ((loop f_again_Sender_Hear.s3 (q53.1, q53.2.1, q53.2.2.1, q53.2.2.2.1, q53.2.2.2.2)).bind (fun q67 => (some ((0 : Int), (q67.1, q67.2.1, q67.2.2.1, q67.2.2.2.1, q67.2.2.2.2)))))))))))
theorem f_again_Sender_Hear_c {S : Nat → Prop} {w0 w : World} {ow : List Res} (sx0_window : Int) (sx0_wait : Int) (sx0_now : Int) (sx0_front : Int) (vsx0_left : Value) (sx0_left : (List (ByteArray × Bool × Int × Bool))) (osx0 : Value) (f1_Kind : Int) (f1_Number : Int) (f1_More : Bool) (f1_Body : ByteArray) (hp : Hp S w0 w (Res.sl (Ek.pair Ek.str (Ek.pair Ek.bool (Ek.pair (Ek.int .i64) Ek.bool))) 81 vsx0_left sx0_left :: Res.obj 79 osx0 [.int .i64 sx0_window, .int .i64 sx0_wait, .int .i64 sx0_now, .int .i64 sx0_front, vsx0_left] :: ow)) {r : (Int × (Int × Int × Int × Int × (List (ByteArray × Bool × Int × Bool))))} (h : f_again_Sender_Hear sx0_window sx0_wait sx0_now sx0_front sx0_left f1_Kind f1_Number f1_More f1_Body = some r) :
    Calls Try.prog 23 #[osx0, .agg #[.int .u8 f1_Kind, .int .u8 f1_Number, .bool f1_More, .string f1_Body]] w (fun e w' => ∃ (u0 : Value), e = .returned (.int .i64 r.1) ∧ Hp S w0 w' (Res.sl (Ek.pair Ek.str (Ek.pair Ek.bool (Ek.pair (Ek.int .i64) Ek.bool))) 81 u0 r.2.2.2.2.2 :: Res.obj 79 osx0 [.int .i64 r.2.1, .int .i64 r.2.2.1, .int .i64 r.2.2.2.1, .int .i64 r.2.2.2.2.1, u0] :: ow)) := by
  unfold f_again_Sender_Hear at h
  refine enter (n := 126) (args := [osx0, .agg #[.int .u8 f1_Kind, .int .u8 f1_Number, .bool f1_More, .string f1_Body]]) Try.func23 rfl rfl (Nat.le_of_ble_eq_true rfl) fun a hf => ?_
  replace hf : Fr 126 a [(0, osx0), (1, .agg #[.int .u8 f1_Kind, .int .u8 f1_Number, .bool f1_More, .string f1_Body])] := hf
  refine wp_mono (Q := fun e a w => e = .ret ∧ ∃ (u0 : Value), Fr 126 a [(4, .int .i64 r.1)] ∧ Hp S w0 w (Res.sl (Ek.pair Ek.str (Ek.pair Ek.bool (Ek.pair (Ek.int .i64) Ek.bool))) 81 u0 r.2.2.2.2.2 :: Res.obj 79 osx0 [.int .i64 r.2.1, .int .i64 r.2.2.1, .int .i64 r.2.2.2.1, .int .i64 r.2.2.2.2.1, u0] :: ow)) ?_ ?_
  rotate_left
  · rintro e a w ⟨rfl, x0, hf, hp⟩
    exact ret1 hf rfl rfl ⟨x0, rfl, hp⟩
  refine wp_seq ?_
  refine wp_reg ?_
  refine st_boxO (cs := [.int .u8 f1_Kind, .int .u8 f1_Number, .bool f1_More, .string f1_Body]) hf (by decide) hp rfl rfl rfl ?_
  clear hf; intro a w v3 hf hp0; clear hp; have hp := hp0; clear hp0
  replace hp : Hp _ _ _ (Res.obj 31 v3 [.int .u8 f1_Kind, .int .u8 f1_Number, .bool f1_More, .string f1_Body] :: Res.sl (Ek.pair Ek.str (Ek.pair Ek.bool (Ek.pair (Ek.int .i64) Ek.bool))) 81 vsx0_left sx0_left :: Res.obj 79 osx0 [.int .i64 sx0_window, .int .i64 sx0_wait, .int .i64 sx0_now, .int .i64 sx0_front, vsx0_left] :: ow) := hp
  refine st_assign hf rfl rfl (by decide) ?_
  clear hf; intro a ha hf; clear ha
  refine st_nil hf ?_
  refine th_n ?_
  refine wp_seq ?_
  refine wp_seq ?_
  refine wp_reg ?_
  refine st_move hf rfl rfl (by decide) ?_
  clear hf; intro a ha hf; clear ha
  refine st_peql hf (by decide) Try.underlying44 rfl rfl rfl (nilF (hp.ob (i := 2) rfl).e) ?_
  clear hf; intro a ha hf; clear ha
  refine st_nil hf ?_
  refine th_n ?_
  refine wp_if hf rfl (fun hb => ?_) (fun hb => ?_)
  · exact absurd hb (by decide)
  refine wp_skip ?_
  refine th_n ?_
  refine wp_seq ?_
  refine wp_seq ?_
  refine wp_reg ?_
  refine st_fa (o' := 0) hf (by decide) (off := 0) (sz := 1) (by kernel_rfl) (by decide) rfl rfl (hp.ob (i := 0) rfl) rfl ?_
  clear hf; intro a ha hf; clear ha
  refine st_ldO (u := .int .u8 f1_Kind) hf (by decide) pl5 rfl rfl (hp.ob (i := 0) rfl) rfl ?_
  clear hf; intro a ha hf; clear ha
  refine st_ineq hf (by decide) rfl rfl rfl ?_
  clear hf; intro a ha hf; clear ha
  refine st_move hf rfl rfl (by decide) ?_
  clear hf; intro a ha hf; clear ha
  refine wpList_cut 3 (fun a w => Fr 126 a [(0, osx0), (3, optr v3 0), (17, .bool ((f1_Kind != (2 : Int)) || f1_More))] ∧ Hp S w0 w (Res.obj 31 v3 [.int .u8 f1_Kind, .int .u8 f1_Number, .bool f1_More, .string f1_Body] :: Res.sl (Ek.pair Ek.str (Ek.pair Ek.bool (Ek.pair (Ek.int .i64) Ek.bool))) 81 vsx0_left sx0_left :: Res.obj 79 osx0 [.int .i64 sx0_window, .int .i64 sx0_wait, .int .i64 sx0_now, .int .i64 sx0_front, vsx0_left] :: ow)) ?_ ?_
  · rcases Bool.eq_false_or_eq_true (f1_Kind != (2 : Int)) with hb6 | hb6
    · skip
      refine st_skip hf (wantN hf rfl rfl hb6) rfl (by decide) ?_ rfl
      clear hf; intro a hf
      refine st_skip hf (wantN hf rfl rfl hb6) rfl (by decide) ?_ rfl
      clear hf; intro a hf
      refine st_pick (v := .bool true) hf rfl rfl (fun hb' => ?_) (fun hb' => ?_) (by decide) ?_
      · rfl
      · exact absurd (hb6.symm.trans hb') (by decide)
      clear hf; intro a ha hf; clear ha
      refine st_nil hf (th_n ?_)
      exact ⟨hf.sub ⟨rfl, rfl, (by rw [hb6]; rfl), trivial⟩, hp⟩
    refine st_fa (o' := 2) hf (by decide) (off := 2) (sz := 1) (by kernel_rfl) (by decide) (wantY hf rfl rfl hb6) rfl (hp.ob (i := 0) rfl) rfl ?_
    clear hf; intro a ha hf; clear ha
    refine st_ldO (u := .bool f1_More) hf (by decide) pl4 (wantY hf rfl rfl hb6) rfl (hp.ob (i := 0) rfl) rfl ?_
    clear hf; intro a ha hf; clear ha
    refine st_pick (v := .bool f1_More) hf rfl rfl (fun hb' => ?_) (fun hb' => ?_) (by decide) ?_
    · exact absurd (hb6.symm.trans hb') (by decide)
    · rfl
    clear hf; intro a ha hf; clear ha
    refine st_nil hf (th_n ?_)
    exact ⟨hf.sub ⟨rfl, rfl, (by rw [hb6]; rfl), trivial⟩, hp⟩
  rintro a w ⟨hf, hp⟩
  refine st_move hf rfl rfl (by decide) ?_
  clear hf; intro a ha hf; clear ha
  refine wpList_cut 5 (fun a w => Fr 126 a [(0, osx0), (3, optr v3 0), (23, .bool (((f1_Kind != (2 : Int)) || f1_More) || ((f1_Body.size : Int) != (16 : Int))))] ∧ Hp S w0 w (Res.obj 31 v3 [.int .u8 f1_Kind, .int .u8 f1_Number, .bool f1_More, .string f1_Body] :: Res.sl (Ek.pair Ek.str (Ek.pair Ek.bool (Ek.pair (Ek.int .i64) Ek.bool))) 81 vsx0_left sx0_left :: Res.obj 79 osx0 [.int .i64 sx0_window, .int .i64 sx0_wait, .int .i64 sx0_now, .int .i64 sx0_front, vsx0_left] :: ow)) ?_ ?_
  · rcases Bool.eq_false_or_eq_true ((f1_Kind != (2 : Int)) || f1_More) with hb8 | hb8
    · skip
      refine st_skip hf (wantN hf rfl rfl hb8) rfl (by decide) ?_ rfl
      clear hf; intro a hf
      refine st_skip hf (wantN hf rfl rfl hb8) rfl (by decide) ?_ rfl
      clear hf; intro a hf
      refine st_skip hf (wantN hf rfl rfl hb8) rfl (by decide) ?_ rfl
      clear hf; intro a hf
      refine st_skip hf (wantN hf rfl rfl hb8) rfl (by decide) ?_ rfl
      clear hf; intro a hf
      refine st_pick (v := .bool true) hf rfl rfl (fun hb' => ?_) (fun hb' => ?_) (by decide) ?_
      · rfl
      · exact absurd (hb8.symm.trans hb') (by decide)
      clear hf; intro a ha hf; clear ha
      refine st_nil hf (th_n ?_)
      exact ⟨hf.sub ⟨rfl, rfl, (by rw [hb8]; rfl), trivial⟩, hp⟩
    refine st_fa (o' := 3) hf (by decide) (off := 3) (sz := 1) (by kernel_rfl) (by decide) (wantY hf rfl rfl hb8) rfl (hp.ob (i := 0) rfl) rfl ?_
    clear hf; intro a ha hf; clear ha
    refine st_ldO (u := .string f1_Body) hf (by decide) pl9 (wantY hf rfl rfl hb8) rfl (hp.ob (i := 0) rfl) rfl ?_
    clear hf; intro a ha hf; clear ha
    refine st_slen hf (by decide) Try.underlying9 (wantY hf rfl rfl hb8) rfl ?_
    clear hf; intro a ha hf; clear ha
    refine st_ineq hf (by decide) (wantY hf rfl rfl hb8) rfl rfl ?_
    clear hf; intro a ha hf; clear ha
    refine st_pick (v := .bool ((f1_Body.size : Int) != (16 : Int))) hf rfl rfl (fun hb' => ?_) (fun hb' => ?_) (by decide) ?_
    · exact absurd (hb8.symm.trans hb') (by decide)
    · rfl
    clear hf; intro a ha hf; clear ha
    refine st_nil hf (th_n ?_)
    exact ⟨hf.sub ⟨rfl, rfl, (by rw [hb8]; rfl), trivial⟩, hp⟩
  rintro a w ⟨hf, hp⟩
  refine st_nil hf ?_
  refine th_n ?_
  refine wp_if hf rfl (fun hb => ?_) (fun hb => ?_)
  · replace h := ifT h hb
    refine wp_seq ?_
    refine wp_reg ?_
    refine st_assign hf rfl rfl (by decide) ?_
    clear hf; intro a ha hf; clear ha
    refine st_nil hf ?_
    refine th_n ?_
    refine wp_ret ?_
    refine th_r ?_
    obtain rfl := Option.some.inj h
    have hp : Hp _ _ _ (Res.sl (Ek.pair Ek.str (Ek.pair Ek.bool (Ek.pair (Ek.int .i64) Ek.bool))) 81 vsx0_left sx0_left :: Res.obj 79 osx0 [.int .i64 sx0_window, .int .i64 sx0_wait, .int .i64 sx0_now, .int .i64 sx0_front, vsx0_left] :: ow) := Hp.sel (pre := [Res.obj 31 v3 [.int .u8 f1_Kind, .int .u8 f1_Number, .bool f1_More, .string f1_Body], Res.sl (Ek.pair Ek.str (Ek.pair Ek.bool (Ek.pair (Ek.int .i64) Ek.bool))) 81 vsx0_left sx0_left, Res.obj 79 osx0 [.int .i64 sx0_window, .int .i64 sx0_wait, .int .i64 sx0_now, .int .i64 sx0_front, vsx0_left]]) (tail := ow) (rs' := [Res.sl (Ek.pair Ek.str (Ek.pair Ek.bool (Ek.pair (Ek.int .i64) Ek.bool))) 81 vsx0_left sx0_left, Res.obj 79 osx0 [.int .i64 sx0_window, .int .i64 sx0_wait, .int .i64 sx0_now, .int .i64 sx0_front, vsx0_left]]) hp [1, 2] (by decide) (by simp) rfl
    exact ⟨rfl, ⟨_, hf.sub ⟨rfl, trivial⟩, hp⟩⟩
  replace h := ifF h hb
  refine wp_skip ?_
  refine th_n ?_
  refine wp_seq ?_
  refine wp_reg ?_
  refine st_assign hf rfl rfl (by decide) ?_
  clear hf; intro a ha hf; clear ha
  refine st_nil hf ?_
  refine th_n ?_
  refine wp_seq ?_
  refine wp_block ?_
  obtain ⟨q25, hl, h⟩ := bnd h
  have hp : Hp _ _ _ (Res.obj 79 osx0 [.int .i64 sx0_window, .int .i64 sx0_wait, .int .i64 sx0_now, .int .i64 sx0_front, vsx0_left] :: Res.sl (Ek.pair Ek.str (Ek.pair Ek.bool (Ek.pair (Ek.int .i64) Ek.bool))) 81 vsx0_left sx0_left :: Res.obj 31 v3 [.int .u8 f1_Kind, .int .u8 f1_Number, .bool f1_More, .string f1_Body] :: ow) := Hp.sel (pre := [Res.obj 31 v3 [.int .u8 f1_Kind, .int .u8 f1_Number, .bool f1_More, .string f1_Body], Res.sl (Ek.pair Ek.str (Ek.pair Ek.bool (Ek.pair (Ek.int .i64) Ek.bool))) 81 vsx0_left sx0_left, Res.obj 79 osx0 [.int .i64 sx0_window, .int .i64 sx0_wait, .int .i64 sx0_now, .int .i64 sx0_front, vsx0_left]]) (tail := ow) (rs' := [Res.obj 79 osx0 [.int .i64 sx0_window, .int .i64 sx0_wait, .int .i64 sx0_now, .int .i64 sx0_front, vsx0_left], Res.sl (Ek.pair Ek.str (Ek.pair Ek.bool (Ek.pair (Ek.int .i64) Ek.bool))) 81 vsx0_left sx0_left, Res.obj 31 v3 [.int .u8 f1_Kind, .int .u8 f1_Number, .bool f1_More, .string f1_Body]]) hp [2, 1, 0] (by decide) (by simp) rfl
  refine wp_loop_pure (f := (f_again_Sender_Hear.s1 sx0_window sx0_left)) (s := (0 : Int)) (fun s a w => Fr 126 a [(0, osx0), (3, optr v3 0), (5, .int .i64 s)] ∧ Hp S w0 w (Res.obj 79 osx0 [.int .i64 sx0_window, .int .i64 sx0_wait, .int .i64 sx0_now, .int .i64 sx0_front, vsx0_left] :: Res.sl (Ek.pair Ek.str (Ek.pair Ek.bool (Ek.pair (Ek.int .i64) Ek.bool))) 81 vsx0_left sx0_left :: Res.obj 31 v3 [.int .u8 f1_Kind, .int .u8 f1_Number, .bool f1_More, .string f1_Body] :: ow)) (fun q e a w => e = .exit 0 ∧ Fr 126 a [(0, osx0), (3, optr v3 0), (5, .int .i64 q)] ∧ Hp S w0 w (Res.obj 79 osx0 [.int .i64 sx0_window, .int .i64 sx0_wait, .int .i64 sx0_now, .int .i64 sx0_front, vsx0_left] :: Res.sl (Ek.pair Ek.str (Ek.pair Ek.bool (Ek.pair (Ek.int .i64) Ek.bool))) 81 vsx0_left sx0_left :: Res.obj 31 v3 [.int .u8 f1_Kind, .int .u8 f1_Number, .bool f1_More, .string f1_Body] :: ow)) ?_ hl ⟨hf.sub ⟨rfl, rfl, rfl, trivial⟩, hp⟩ ?_
  · clear hl hf hp
    intro s x a w h hI
    obtain ⟨k5, hs⟩ : ∃ z, z = s := ⟨s, rfl⟩; subst hs
    obtain ⟨hf, hp⟩ : Fr 126 a [(0, osx0), (3, optr v3 0), (5, .int .i64 k5)] ∧ Hp S w0 w (Res.obj 79 osx0 [.int .i64 sx0_window, .int .i64 sx0_wait, .int .i64 sx0_now, .int .i64 sx0_front, vsx0_left] :: Res.sl (Ek.pair Ek.str (Ek.pair Ek.bool (Ek.pair (Ek.int .i64) Ek.bool))) 81 vsx0_left sx0_left :: Res.obj 31 v3 [.int .u8 f1_Kind, .int .u8 f1_Number, .bool f1_More, .string f1_Body] :: ow) := hI
    replace h : f_again_Sender_Hear.s1c sx0_window sx0_left k5 = some x := h
    unfold f_again_Sender_Hear.s1c at h
    refine wp_seq ?_
    refine wp_seq ?_
    obtain ⟨S9, hp10, rd11, up12, bk13⟩ := Hp.lendO hp (i := 0) rfl
    obtain ⟨S14, hp15, rd16, up17, bk18⟩ := Hp.lendS hp10 (i := 0) rfl
    have rl19 := ((rd11.now hp10).mono up17)
    have rl20 := rd16
    obtain ⟨z24, hz21, h⟩ := bnd h
    refine wp_cutN (fun a w => Fr 126 a [(0, osx0), (3, optr v3 0), (5, .int .i64 k5), (45, .bool z24)] ∧ Hp S w0 w (Res.obj 79 osx0 [.int .i64 sx0_window, .int .i64 sx0_wait, .int .i64 sx0_now, .int .i64 sx0_front, vsx0_left] :: Res.sl (Ek.pair Ek.str (Ek.pair Ek.bool (Ek.pair (Ek.int .i64) Ek.bool))) 81 vsx0_left sx0_left :: Res.obj 31 v3 [.int .u8 f1_Kind, .int .u8 f1_Number, .bool f1_More, .string f1_Body] :: ow)) ?_ ?_
    · have hp := hp15.same (Same.drew w)
      rcases Bool.eq_false_or_eq_true (decide (k5 < (imin sx0_window (sx0_left.length : Int)))) with hb22 | hb22
      · skip
        replace hz21 := ifT hz21 hb22
        obtain ⟨hc23, hz21⟩ := chk hz21
        replace hz21 := Option.some.inj hz21
        refine dr_begin' (fun a w => Fr 126 a [(0, osx0), (3, optr v3 0), (5, .int .i64 k5), (45, .bool z24)] ∧ Hp S w0 w (Res.obj 79 osx0 [.int .i64 sx0_window, .int .i64 sx0_wait, .int .i64 sx0_now, .int .i64 sx0_front, vsx0_left] :: Res.sl (Ek.pair Ek.str (Ek.pair Ek.bool (Ek.pair (Ek.int .i64) Ek.bool))) 81 vsx0_left sx0_left :: Res.obj 31 v3 [.int .u8 f1_Kind, .int .u8 f1_Number, .bool f1_More, .string f1_Body] :: ow)) (fun w' => ∃ l, Hp S14 w w' l) [] (by kernel_rfl) ?_
        refine dr_take 0 (.int .i64 k5) rfl (by kernel_rfl) (by kernel_rfl) (by kernel_rfl) (by kernel_rfl) rfl rfl hf (by decide) rfl (fun w hp => ?_) ⟨_, hp⟩ ?_
        · obtain ⟨_, hp⟩ := hp
          refine st_move hf rfl rfl (by decide) ?_
          clear hf; intro a ha hf
          exact st_nil hf (th_n ⟨ha, rfl⟩)
        clear hf; intro a hf
        refine dr_take 1 (osx0) rfl (by kernel_rfl) (by kernel_rfl) (by kernel_rfl) (by kernel_rfl) rfl rfl hf (by decide) rfl (fun w hp => ?_) ⟨_, hp⟩ ?_
        · obtain ⟨_, hp⟩ := hp
          refine st_move hf rfl rfl (by decide) ?_
          clear hf; intro a ha hf
          exact st_nil hf (th_n ⟨ha, rfl⟩)
        clear hf; intro a hf
        refine dr_nilV 2 rfl (by kernel_rfl) (by kernel_rfl) (by kernel_rfl) hf (by decide) rfl rfl (rl19.ob hp) ?_
        clear hf; intro a hf
        refine dr_take 3 (optr osx0 0) rfl (by kernel_rfl) (by kernel_rfl) (by kernel_rfl) (by kernel_rfl) rfl rfl hf (by decide) rfl (fun w hp => ?_) ⟨_, hp⟩ ?_
        · obtain ⟨_, hp⟩ := hp
          refine st_fa (o' := 0) hf (by decide) (off := 0) (sz := 1) (by kernel_rfl) (by decide) rfl rfl (rl19.ob hp) rfl ?_
          clear hf; intro a ha hf
          exact st_nil hf (th_n ⟨ha, rfl⟩)
        clear hf; intro a hf
        refine dr_take 4 (.int .i64 sx0_window) rfl (by kernel_rfl) (by kernel_rfl) (by kernel_rfl) (by kernel_rfl) rfl rfl hf (by decide) rfl (fun w hp => ?_) ⟨_, hp⟩ ?_
        · obtain ⟨_, hp⟩ := hp
          refine st_ldO (u := .int .i64 sx0_window) hf (by decide) pl3 rfl rfl (rl19.ob hp) rfl ?_
          clear hf; intro a ha hf
          exact st_nil hf (th_n ⟨ha, rfl⟩)
        clear hf; intro a hf
        refine dr_take 5 (osx0) rfl (by kernel_rfl) (by kernel_rfl) (by kernel_rfl) (by kernel_rfl) rfl rfl hf (by decide) rfl (fun w hp => ?_) ⟨_, hp⟩ ?_
        · obtain ⟨_, hp⟩ := hp
          refine st_move hf rfl rfl (by decide) ?_
          clear hf; intro a ha hf
          exact st_nil hf (th_n ⟨ha, rfl⟩)
        clear hf; intro a hf
        refine dr_nilV 6 rfl (by kernel_rfl) (by kernel_rfl) (by kernel_rfl) hf (by decide) rfl rfl (rl19.ob hp) ?_
        clear hf; intro a hf
        refine dr_take 7 (optr osx0 4) rfl (by kernel_rfl) (by kernel_rfl) (by kernel_rfl) (by kernel_rfl) rfl rfl hf (by decide) rfl (fun w hp => ?_) ⟨_, hp⟩ ?_
        · obtain ⟨_, hp⟩ := hp
          refine st_fa (o' := 4) hf (by decide) (off := 4) (sz := 1) (by kernel_rfl) (by decide) rfl rfl (rl19.ob hp) rfl ?_
          clear hf; intro a ha hf
          exact st_nil hf (th_n ⟨ha, rfl⟩)
        clear hf; intro a hf
        refine dr_take 8 (vsx0_left) rfl (by kernel_rfl) (by kernel_rfl) (by kernel_rfl) (by kernel_rfl) rfl rfl hf (by decide) rfl (fun w hp => ?_) ⟨_, hp⟩ ?_
        · obtain ⟨_, hp⟩ := hp
          refine st_ldO (u := vsx0_left) hf (by decide) pl77 rfl rfl (rl19.ob hp) rfl ?_
          clear hf; intro a ha hf
          exact st_nil hf (th_n ⟨ha, rfl⟩)
        clear hf; intro a hf
        refine dr_take 9 (.int .i64 (sx0_left.length : Int)) rfl (by kernel_rfl) (by kernel_rfl) (by kernel_rfl) (by kernel_rfl) rfl rfl hf (by decide) rfl (fun w hp => ?_) ⟨_, hp⟩ ?_
        · obtain ⟨_, hp⟩ := hp
          refine st_len (E := (Ek.pair Ek.str (Ek.pair Ek.bool (Ek.pair (Ek.int .i64) Ek.bool)))) hf (by decide) Try.underlying77 rfl rfl (rl20.sl hp) ?_
          clear hf; intro a ha hf
          exact st_nil hf (th_n ⟨ha, rfl⟩)
        clear hf; intro a hf
        refine dr_take 10 (.int .i64 (imin sx0_window (sx0_left.length : Int))) rfl (by kernel_rfl) (by kernel_rfl) (by kernel_rfl) (by kernel_rfl) rfl rfl hf (by decide) rfl (fun w hp => ?_) ⟨_, hp⟩ ?_
        · obtain ⟨_, hp⟩ := hp
          refine st_imin hf (by decide) rfl rfl rfl ?_
          clear hf; intro a ha hf
          exact st_nil hf (th_n ⟨ha, rfl⟩)
        clear hf; intro a hf
        refine dr_take 11 (.bool (decide (k5 < (imin sx0_window (sx0_left.length : Int))))) rfl (by kernel_rfl) (by kernel_rfl) (by kernel_rfl) (by kernel_rfl) rfl rfl hf (by decide) rfl (fun w hp => ?_) ⟨_, hp⟩ ?_
        · obtain ⟨_, hp⟩ := hp
          refine st_ilss hf (by decide) rfl rfl rfl ?_
          clear hf; intro a ha hf
          exact st_nil hf (th_n ⟨ha, rfl⟩)
        clear hf; intro a hf
        refine dr_take 12 (.bool (decide (k5 < (imin sx0_window (sx0_left.length : Int))))) rfl (by kernel_rfl) (by kernel_rfl) (by kernel_rfl) (by kernel_rfl) rfl rfl hf (by decide) rfl (fun w hp => ?_) ⟨_, hp⟩ ?_
        · obtain ⟨_, hp⟩ := hp
          refine st_move hf rfl rfl (by decide) ?_
          clear hf; intro a ha hf
          exact st_nil hf (th_n ⟨ha, rfl⟩)
        clear hf; intro a hf
        refine dr_take 13 (osx0) rfl (by kernel_rfl) (by kernel_rfl) (by kernel_rfl) (by kernel_rfl) rfl rfl hf (by decide) (wantY hf rfl rfl hb22) (fun w hp => ?_) ⟨_, hp⟩ ?_
        · obtain ⟨_, hp⟩ := hp
          refine st_move hf (wantY hf rfl rfl hb22) rfl (by decide) ?_
          clear hf; intro a ha hf
          exact st_nil hf (th_n ⟨ha, rfl⟩)
        clear hf; intro a hf
        refine dr_nilV 14 rfl (by kernel_rfl) (by kernel_rfl) (by kernel_rfl) hf (by decide) (wantY hf rfl rfl hb22) rfl (rl19.ob hp) ?_
        clear hf; intro a hf
        refine dr_take 15 (optr osx0 4) rfl (by kernel_rfl) (by kernel_rfl) (by kernel_rfl) (by kernel_rfl) rfl rfl hf (by decide) (wantY hf rfl rfl hb22) (fun w hp => ?_) ⟨_, hp⟩ ?_
        · obtain ⟨_, hp⟩ := hp
          refine st_fa (o' := 4) hf (by decide) (off := 4) (sz := 1) (by kernel_rfl) (by decide) (wantY hf rfl rfl hb22) rfl (rl19.ob hp) rfl ?_
          clear hf; intro a ha hf
          exact st_nil hf (th_n ⟨ha, rfl⟩)
        clear hf; intro a hf
        refine dr_take 16 (vsx0_left) rfl (by kernel_rfl) (by kernel_rfl) (by kernel_rfl) (by kernel_rfl) rfl rfl hf (by decide) (wantY hf rfl rfl hb22) (fun w hp => ?_) ⟨_, hp⟩ ?_
        · obtain ⟨_, hp⟩ := hp
          refine st_ldO (u := vsx0_left) hf (by decide) pl77 (wantY hf rfl rfl hb22) rfl (rl19.ob hp) rfl ?_
          clear hf; intro a ha hf
          exact st_nil hf (th_n ⟨ha, rfl⟩)
        clear hf; intro a hf
        refine dr_take 17 (.int .i64 k5) rfl (by kernel_rfl) (by kernel_rfl) (by kernel_rfl) (by kernel_rfl) rfl rfl hf (by decide) (wantY hf rfl rfl hb22) (fun w hp => ?_) ⟨_, hp⟩ ?_
        · obtain ⟨_, hp⟩ := hp
          refine st_move hf (wantY hf rfl rfl hb22) rfl (by decide) ?_
          clear hf; intro a ha hf
          exact st_nil hf (th_n ⟨ha, rfl⟩)
        clear hf; intro a hf
        refine dr_take 18 (eptr vsx0_left k5 4) rfl (by kernel_rfl) (by kernel_rfl) (by kernel_rfl) (by kernel_rfl) rfl rfl hf (by decide) (wantY hf rfl rfl hb22) (fun w hp => ?_) ⟨_, hp⟩ ?_
        · obtain ⟨_, hp⟩ := hp
          refine st_index (E := (Ek.pair Ek.str (Ek.pair Ek.bool (Ek.pair (Ek.int .i64) Ek.bool)))) hf (by decide) Try.underlying77 elt81 (wantY hf rfl rfl hb22) rfl rfl (rl20.sl hp) hc23.1 hc23.2 ?_
          clear hf; intro a ha hf
          exact st_nil hf (th_n ⟨ha, rfl⟩)
        clear hf; intro a hf
        refine dr_take 19 (optr (eptr vsx0_left k5 4) 1) rfl (by kernel_rfl) (by kernel_rfl) (by kernel_rfl) (by kernel_rfl) rfl rfl hf (by decide) (wantY hf rfl rfl hb22) (fun w hp => ?_) ⟨_, hp⟩ ?_
        · obtain ⟨_, hp⟩ := hp
          refine st_faP (off := 1) (sz := 1) hf (by decide) (by kernel_rfl) (by decide) (wantY hf rfl rfl hb22) rfl (Sl.isP (rl20.sl hp) hc23.1 hc23.2) ?_
          clear hf; intro a ha hf
          exact st_nil hf (th_n ⟨ha, rfl⟩)
        clear hf; intro a hf
        refine dr_take 20 (.bool ((gt sx0_left k5).2.1)) rfl (by kernel_rfl) (by kernel_rfl) (by kernel_rfl) (by kernel_rfl) rfl rfl hf (by decide) (wantY hf rfl rfl hb22) (fun w hp => ?_) ⟨_, hp⟩ ?_
        · obtain ⟨_, hp⟩ := hp
          refine st_ldQ (F := Ek.bool) (yv := (gt sx0_left k5).2.1) hf (by decide) pl4 (fun x => .bool x) (fun _ _ h => h) (wantY hf rfl rfl hb22) rfl (Sl.part (E := (Ek.pair Ek.str (Ek.pair Ek.bool (Ek.pair (Ek.int .i64) Ek.bool)))) (F := Ek.bool) (o := 1) (Sub.comp (Sub.snd (E := Ek.str) (F := (Ek.pair Ek.bool (Ek.pair (Ek.int .i64) Ek.bool)))) (Sub.fst (E := Ek.bool) (F := (Ek.pair (Ek.int .i64) Ek.bool)))) (rl20.sl hp) hc23.1 hc23.2) ?_
          clear hf; intro a ha hf
          exact st_nil hf (th_n ⟨ha, rfl⟩)
        clear hf; intro a hf
        refine dr_take 21 (.bool z24) rfl (by kernel_rfl) (by kernel_rfl) (by kernel_rfl) (by kernel_rfl) rfl rfl hf (by decide) rfl (fun w hp => ?_) ⟨_, hp⟩ ?_
        · obtain ⟨_, hp⟩ := hp
          refine st_pick (v := .bool z24) hf rfl rfl (fun _ => by rw [← hz21]; rfl) (fun hb' => absurd (hb22.symm.trans hb') (by decide)) (by decide) ?_
          clear hf; intro a ha hf
          exact st_nil hf (th_n ⟨ha, rfl⟩)
        clear hf; intro a hf
        refine dr_end (by kernel_rfl) ?_ _
        have hp := bk18 _ _ hp
        have hp := bk13 _ _ hp
        exact ⟨hf.sub ⟨rfl, rfl, rfl, rfl, trivial⟩, hp⟩
      skip
      replace hz21 := ifF hz21 hb22
      replace hz21 := Option.some.inj hz21
      refine dr_begin' (fun a w => Fr 126 a [(0, osx0), (3, optr v3 0), (5, .int .i64 k5), (45, .bool z24)] ∧ Hp S w0 w (Res.obj 79 osx0 [.int .i64 sx0_window, .int .i64 sx0_wait, .int .i64 sx0_now, .int .i64 sx0_front, vsx0_left] :: Res.sl (Ek.pair Ek.str (Ek.pair Ek.bool (Ek.pair (Ek.int .i64) Ek.bool))) 81 vsx0_left sx0_left :: Res.obj 31 v3 [.int .u8 f1_Kind, .int .u8 f1_Number, .bool f1_More, .string f1_Body] :: ow)) (fun w' => ∃ l, Hp S14 w w' l) [] (by kernel_rfl) ?_
      refine dr_take 0 (.int .i64 k5) rfl (by kernel_rfl) (by kernel_rfl) (by kernel_rfl) (by kernel_rfl) rfl rfl hf (by decide) rfl (fun w hp => ?_) ⟨_, hp⟩ ?_
      · obtain ⟨_, hp⟩ := hp
        refine st_move hf rfl rfl (by decide) ?_
        clear hf; intro a ha hf
        exact st_nil hf (th_n ⟨ha, rfl⟩)
      clear hf; intro a hf
      refine dr_take 1 (osx0) rfl (by kernel_rfl) (by kernel_rfl) (by kernel_rfl) (by kernel_rfl) rfl rfl hf (by decide) rfl (fun w hp => ?_) ⟨_, hp⟩ ?_
      · obtain ⟨_, hp⟩ := hp
        refine st_move hf rfl rfl (by decide) ?_
        clear hf; intro a ha hf
        exact st_nil hf (th_n ⟨ha, rfl⟩)
      clear hf; intro a hf
      refine dr_nilV 2 rfl (by kernel_rfl) (by kernel_rfl) (by kernel_rfl) hf (by decide) rfl rfl (rl19.ob hp) ?_
      clear hf; intro a hf
      refine dr_take 3 (optr osx0 0) rfl (by kernel_rfl) (by kernel_rfl) (by kernel_rfl) (by kernel_rfl) rfl rfl hf (by decide) rfl (fun w hp => ?_) ⟨_, hp⟩ ?_
      · obtain ⟨_, hp⟩ := hp
        refine st_fa (o' := 0) hf (by decide) (off := 0) (sz := 1) (by kernel_rfl) (by decide) rfl rfl (rl19.ob hp) rfl ?_
        clear hf; intro a ha hf
        exact st_nil hf (th_n ⟨ha, rfl⟩)
      clear hf; intro a hf
      refine dr_take 4 (.int .i64 sx0_window) rfl (by kernel_rfl) (by kernel_rfl) (by kernel_rfl) (by kernel_rfl) rfl rfl hf (by decide) rfl (fun w hp => ?_) ⟨_, hp⟩ ?_
      · obtain ⟨_, hp⟩ := hp
        refine st_ldO (u := .int .i64 sx0_window) hf (by decide) pl3 rfl rfl (rl19.ob hp) rfl ?_
        clear hf; intro a ha hf
        exact st_nil hf (th_n ⟨ha, rfl⟩)
      clear hf; intro a hf
      refine dr_take 5 (osx0) rfl (by kernel_rfl) (by kernel_rfl) (by kernel_rfl) (by kernel_rfl) rfl rfl hf (by decide) rfl (fun w hp => ?_) ⟨_, hp⟩ ?_
      · obtain ⟨_, hp⟩ := hp
        refine st_move hf rfl rfl (by decide) ?_
        clear hf; intro a ha hf
        exact st_nil hf (th_n ⟨ha, rfl⟩)
      clear hf; intro a hf
      refine dr_nilV 6 rfl (by kernel_rfl) (by kernel_rfl) (by kernel_rfl) hf (by decide) rfl rfl (rl19.ob hp) ?_
      clear hf; intro a hf
      refine dr_take 7 (optr osx0 4) rfl (by kernel_rfl) (by kernel_rfl) (by kernel_rfl) (by kernel_rfl) rfl rfl hf (by decide) rfl (fun w hp => ?_) ⟨_, hp⟩ ?_
      · obtain ⟨_, hp⟩ := hp
        refine st_fa (o' := 4) hf (by decide) (off := 4) (sz := 1) (by kernel_rfl) (by decide) rfl rfl (rl19.ob hp) rfl ?_
        clear hf; intro a ha hf
        exact st_nil hf (th_n ⟨ha, rfl⟩)
      clear hf; intro a hf
      refine dr_take 8 (vsx0_left) rfl (by kernel_rfl) (by kernel_rfl) (by kernel_rfl) (by kernel_rfl) rfl rfl hf (by decide) rfl (fun w hp => ?_) ⟨_, hp⟩ ?_
      · obtain ⟨_, hp⟩ := hp
        refine st_ldO (u := vsx0_left) hf (by decide) pl77 rfl rfl (rl19.ob hp) rfl ?_
        clear hf; intro a ha hf
        exact st_nil hf (th_n ⟨ha, rfl⟩)
      clear hf; intro a hf
      refine dr_take 9 (.int .i64 (sx0_left.length : Int)) rfl (by kernel_rfl) (by kernel_rfl) (by kernel_rfl) (by kernel_rfl) rfl rfl hf (by decide) rfl (fun w hp => ?_) ⟨_, hp⟩ ?_
      · obtain ⟨_, hp⟩ := hp
        refine st_len (E := (Ek.pair Ek.str (Ek.pair Ek.bool (Ek.pair (Ek.int .i64) Ek.bool)))) hf (by decide) Try.underlying77 rfl rfl (rl20.sl hp) ?_
        clear hf; intro a ha hf
        exact st_nil hf (th_n ⟨ha, rfl⟩)
      clear hf; intro a hf
      refine dr_take 10 (.int .i64 (imin sx0_window (sx0_left.length : Int))) rfl (by kernel_rfl) (by kernel_rfl) (by kernel_rfl) (by kernel_rfl) rfl rfl hf (by decide) rfl (fun w hp => ?_) ⟨_, hp⟩ ?_
      · obtain ⟨_, hp⟩ := hp
        refine st_imin hf (by decide) rfl rfl rfl ?_
        clear hf; intro a ha hf
        exact st_nil hf (th_n ⟨ha, rfl⟩)
      clear hf; intro a hf
      refine dr_take 11 (.bool (decide (k5 < (imin sx0_window (sx0_left.length : Int))))) rfl (by kernel_rfl) (by kernel_rfl) (by kernel_rfl) (by kernel_rfl) rfl rfl hf (by decide) rfl (fun w hp => ?_) ⟨_, hp⟩ ?_
      · obtain ⟨_, hp⟩ := hp
        refine st_ilss hf (by decide) rfl rfl rfl ?_
        clear hf; intro a ha hf
        exact st_nil hf (th_n ⟨ha, rfl⟩)
      clear hf; intro a hf
      refine dr_take 12 (.bool (decide (k5 < (imin sx0_window (sx0_left.length : Int))))) rfl (by kernel_rfl) (by kernel_rfl) (by kernel_rfl) (by kernel_rfl) rfl rfl hf (by decide) rfl (fun w hp => ?_) ⟨_, hp⟩ ?_
      · obtain ⟨_, hp⟩ := hp
        refine st_move hf rfl rfl (by decide) ?_
        clear hf; intro a ha hf
        exact st_nil hf (th_n ⟨ha, rfl⟩)
      clear hf; intro a hf
      refine dr_out 13 rfl (by kernel_rfl) (by kernel_rfl) (by kernel_rfl) (by kernel_rfl) rfl hf (by decide) rfl (wantN hf rfl rfl hb22) ⟨_, hp⟩ ?_
      clear hf; intro a hf
      refine dr_outP 14 rfl (by kernel_rfl) (by kernel_rfl) (by kernel_rfl) rfl hf (by decide) (wantN hf rfl rfl hb22) ?_
      clear hf; intro a hf
      refine dr_out 15 rfl (by kernel_rfl) (by kernel_rfl) (by kernel_rfl) (by kernel_rfl) rfl hf (by decide) rfl (wantN hf rfl rfl hb22) ⟨_, hp⟩ ?_
      clear hf; intro a hf
      refine dr_out 16 rfl (by kernel_rfl) (by kernel_rfl) (by kernel_rfl) (by kernel_rfl) rfl hf (by decide) rfl (wantN hf rfl rfl hb22) ⟨_, hp⟩ ?_
      clear hf; intro a hf
      refine dr_out 17 rfl (by kernel_rfl) (by kernel_rfl) (by kernel_rfl) (by kernel_rfl) rfl hf (by decide) rfl (wantN hf rfl rfl hb22) ⟨_, hp⟩ ?_
      clear hf; intro a hf
      refine dr_out 18 rfl (by kernel_rfl) (by kernel_rfl) (by kernel_rfl) (by kernel_rfl) rfl hf (by decide) rfl (wantN hf rfl rfl hb22) ⟨_, hp⟩ ?_
      clear hf; intro a hf
      refine dr_out 19 rfl (by kernel_rfl) (by kernel_rfl) (by kernel_rfl) (by kernel_rfl) rfl hf (by decide) rfl (wantN hf rfl rfl hb22) ⟨_, hp⟩ ?_
      clear hf; intro a hf
      refine dr_out 20 rfl (by kernel_rfl) (by kernel_rfl) (by kernel_rfl) (by kernel_rfl) rfl hf (by decide) rfl (wantN hf rfl rfl hb22) ⟨_, hp⟩ ?_
      clear hf; intro a hf
      refine dr_take 21 (.bool z24) rfl (by kernel_rfl) (by kernel_rfl) (by kernel_rfl) (by kernel_rfl) rfl rfl hf (by decide) rfl (fun w hp => ?_) ⟨_, hp⟩ ?_
      · obtain ⟨_, hp⟩ := hp
        refine st_pick (v := .bool z24) hf rfl rfl (fun hb' => absurd (hb22.symm.trans hb') (by decide)) (fun _ => by rw [← hz21]; rfl) (by decide) ?_
        clear hf; intro a ha hf
        exact st_nil hf (th_n ⟨ha, rfl⟩)
      clear hf; intro a hf
      refine dr_end (by kernel_rfl) ?_ _
      have hp := bk18 _ _ hp
      have hp := bk13 _ _ hp
      exact ⟨hf.sub ⟨rfl, rfl, rfl, rfl, trivial⟩, hp⟩
    rintro a w ⟨hf, hp⟩
    refine th_n ?_
    refine wp_if hf rfl (fun hb => ?_) (fun hb => ?_)
    · replace h := ifT h hb
      refine wp_skip ?_
      refine th_n ?_
      refine wp_block ?_
      refine wp_reg ?_
      refine st_move hf rfl rfl (by decide) ?_
      clear hf; intro a ha hf; clear ha
      refine st_iadd hf (by decide) rfl rfl rfl ?_
      clear hf; intro a ha hf; clear ha
      refine st_assign hf rfl rfl (by decide) ?_
      clear hf; intro a ha hf; clear ha
      refine st_nil hf ?_
      refine ib_n ?_
      obtain rfl := Option.some.inj h
      exact rnd_l ⟨hf.sub ⟨rfl, rfl, rfl, trivial⟩, hp⟩
    replace h := ifF h hb
    refine wp_exit ?_
    refine th_e ?_
    obtain rfl := Option.some.inj h
    exact rnd_r (by simp) ⟨rfl, hf.sub ⟨rfl, rfl, rfl, trivial⟩, hp⟩
  clear hl hf hp
  intro e a w hne hO
  obtain ⟨rfl, hf, hp⟩ := hO
  refine ib_same ?_
  refine th_n ?_
  refine wp_seq ?_
  obtain ⟨S26, hp27, rd28, up29, bk30⟩ := Hp.lendO hp (i := 2) rfl
  obtain ⟨S31, hp32, rd33, up34, bk35⟩ := Hp.lendO hp27 (i := 0) rfl
  have rl36 := rd33
  have rl37 := ((rd28.now hp27).mono up34)
  refine wp_cutN (fun a w => Fr 126 a [(0, osx0), (3, optr v3 0), (5, .int .i64 q25), (6, .int .i64 (IntKind.i64.wrap (IntKind.u8.wrap (f1_Number - (IntKind.u8.wrap sx0_front)))))] ∧ Hp S w0 w (Res.obj 31 v3 [.int .u8 f1_Kind, .int .u8 f1_Number, .bool f1_More, .string f1_Body] :: Res.obj 79 osx0 [.int .i64 sx0_window, .int .i64 sx0_wait, .int .i64 sx0_now, .int .i64 sx0_front, vsx0_left] :: Res.sl (Ek.pair Ek.str (Ek.pair Ek.bool (Ek.pair (Ek.int .i64) Ek.bool))) 81 vsx0_left sx0_left :: ow)) ?_ ?_
  · have hp := hp32.same (Same.drew w)
    refine dr_begin' (fun a w => Fr 126 a [(0, osx0), (3, optr v3 0), (5, .int .i64 q25), (6, .int .i64 (IntKind.i64.wrap (IntKind.u8.wrap (f1_Number - (IntKind.u8.wrap sx0_front)))))] ∧ Hp S w0 w (Res.obj 31 v3 [.int .u8 f1_Kind, .int .u8 f1_Number, .bool f1_More, .string f1_Body] :: Res.obj 79 osx0 [.int .i64 sx0_window, .int .i64 sx0_wait, .int .i64 sx0_now, .int .i64 sx0_front, vsx0_left] :: Res.sl (Ek.pair Ek.str (Ek.pair Ek.bool (Ek.pair (Ek.int .i64) Ek.bool))) 81 vsx0_left sx0_left :: ow)) (fun w' => ∃ l, Hp S31 w w' l) [] (by kernel_rfl) ?_
    refine dr_take 0 (optr v3 1) rfl (by kernel_rfl) (by kernel_rfl) (by kernel_rfl) (by kernel_rfl) rfl rfl hf (by decide) rfl (fun w hp => ?_) ⟨_, hp⟩ ?_
    · obtain ⟨_, hp⟩ := hp
      refine st_fa (o' := 1) hf (by decide) (off := 1) (sz := 1) (by kernel_rfl) (by decide) rfl rfl (rl37.ob hp) rfl ?_
      clear hf; intro a ha hf
      exact st_nil hf (th_n ⟨ha, rfl⟩)
    clear hf; intro a hf
    refine dr_take 1 (.int .u8 f1_Number) rfl (by kernel_rfl) (by kernel_rfl) (by kernel_rfl) (by kernel_rfl) rfl rfl hf (by decide) rfl (fun w hp => ?_) ⟨_, hp⟩ ?_
    · obtain ⟨_, hp⟩ := hp
      refine st_ldO (u := .int .u8 f1_Number) hf (by decide) pl5 rfl rfl (rl37.ob hp) rfl ?_
      clear hf; intro a ha hf
      exact st_nil hf (th_n ⟨ha, rfl⟩)
    clear hf; intro a hf
    refine dr_take 2 (osx0) rfl (by kernel_rfl) (by kernel_rfl) (by kernel_rfl) (by kernel_rfl) rfl rfl hf (by decide) rfl (fun w hp => ?_) ⟨_, hp⟩ ?_
    · obtain ⟨_, hp⟩ := hp
      refine st_move hf rfl rfl (by decide) ?_
      clear hf; intro a ha hf
      exact st_nil hf (th_n ⟨ha, rfl⟩)
    clear hf; intro a hf
    refine dr_nilV 3 rfl (by kernel_rfl) (by kernel_rfl) (by kernel_rfl) hf (by decide) rfl rfl (rl36.ob hp) ?_
    clear hf; intro a hf
    refine dr_take 4 (optr osx0 3) rfl (by kernel_rfl) (by kernel_rfl) (by kernel_rfl) (by kernel_rfl) rfl rfl hf (by decide) rfl (fun w hp => ?_) ⟨_, hp⟩ ?_
    · obtain ⟨_, hp⟩ := hp
      refine st_fa (o' := 3) hf (by decide) (off := 3) (sz := 1) (by kernel_rfl) (by decide) rfl rfl (rl36.ob hp) rfl ?_
      clear hf; intro a ha hf
      exact st_nil hf (th_n ⟨ha, rfl⟩)
    clear hf; intro a hf
    refine dr_take 5 (.int .i64 sx0_front) rfl (by kernel_rfl) (by kernel_rfl) (by kernel_rfl) (by kernel_rfl) rfl rfl hf (by decide) rfl (fun w hp => ?_) ⟨_, hp⟩ ?_
    · obtain ⟨_, hp⟩ := hp
      refine st_ldO (u := .int .i64 sx0_front) hf (by decide) pl3 rfl rfl (rl36.ob hp) rfl ?_
      clear hf; intro a ha hf
      exact st_nil hf (th_n ⟨ha, rfl⟩)
    clear hf; intro a hf
    refine dr_take 6 (.int .u8 (IntKind.u8.wrap sx0_front)) rfl (by kernel_rfl) (by kernel_rfl) (by kernel_rfl) (by kernel_rfl) rfl rfl hf (by decide) rfl (fun w hp => ?_) ⟨_, hp⟩ ?_
    · obtain ⟨_, hp⟩ := hp
      refine st_conv_ii hf (by decide) (by rw [Try.underlying3]; rfl) Try.underlying5 rfl rfl ?_
      clear hf; intro a ha hf
      exact st_nil hf (th_n ⟨ha, rfl⟩)
    clear hf; intro a hf
    refine dr_take 7 (.int .u8 (IntKind.u8.wrap (f1_Number - (IntKind.u8.wrap sx0_front)))) rfl (by kernel_rfl) (by kernel_rfl) (by kernel_rfl) (by kernel_rfl) rfl rfl hf (by decide) rfl (fun w hp => ?_) ⟨_, hp⟩ ?_
    · obtain ⟨_, hp⟩ := hp
      refine st_isub hf (by decide) rfl rfl rfl ?_
      clear hf; intro a ha hf
      exact st_nil hf (th_n ⟨ha, rfl⟩)
    clear hf; intro a hf
    refine dr_take 8 (.int .i64 (IntKind.i64.wrap (IntKind.u8.wrap (f1_Number - (IntKind.u8.wrap sx0_front))))) rfl (by kernel_rfl) (by kernel_rfl) (by kernel_rfl) (by kernel_rfl) rfl rfl hf (by decide) rfl (fun w hp => ?_) ⟨_, hp⟩ ?_
    · obtain ⟨_, hp⟩ := hp
      refine st_conv_ii hf (by decide) (by rw [Try.underlying5]; rfl) Try.underlying3 rfl rfl ?_
      clear hf; intro a ha hf
      exact st_nil hf (th_n ⟨ha, rfl⟩)
    clear hf; intro a hf
    refine dr_take 9 (.int .i64 (IntKind.i64.wrap (IntKind.u8.wrap (f1_Number - (IntKind.u8.wrap sx0_front))))) rfl (by kernel_rfl) (by kernel_rfl) (by kernel_rfl) (by kernel_rfl) rfl rfl hf (by decide) rfl (fun w hp => ?_) ⟨_, hp⟩ ?_
    · obtain ⟨_, hp⟩ := hp
      refine st_assign hf rfl rfl (by decide) ?_
      clear hf; intro a ha hf
      exact st_nil hf (th_n ⟨ha, rfl⟩)
    clear hf; intro a hf
    refine dr_end (by kernel_rfl) ?_ _
    have hp := bk35 _ _ hp
    have hp := bk30 _ _ hp
    exact ⟨hf.sub ⟨rfl, rfl, rfl, rfl, trivial⟩, hp⟩
  rintro a w ⟨hf, hp⟩
  refine th_n ?_
  refine wp_seq ?_
  refine wp_seq ?_
  refine wp_reg ?_
  refine st_move hf rfl rfl (by decide) ?_
  clear hf; intro a ha hf; clear ha
  refine st_move hf rfl rfl (by decide) ?_
  clear hf; intro a ha hf; clear ha
  refine st_igtr hf (by decide) rfl rfl rfl ?_
  clear hf; intro a ha hf; clear ha
  refine st_nil hf ?_
  refine th_n ?_
  refine wp_if hf rfl (fun hb => ?_) (fun hb => ?_)
  · replace h := ifT h hb
    refine wp_seq ?_
    refine wp_reg ?_
    refine st_assign hf rfl rfl (by decide) ?_
    clear hf; intro a ha hf; clear ha
    refine st_nil hf ?_
    refine th_n ?_
    refine wp_ret ?_
    refine th_r ?_
    obtain rfl := Option.some.inj h
    have hp : Hp _ _ _ (Res.sl (Ek.pair Ek.str (Ek.pair Ek.bool (Ek.pair (Ek.int .i64) Ek.bool))) 81 vsx0_left sx0_left :: Res.obj 79 osx0 [.int .i64 sx0_window, .int .i64 sx0_wait, .int .i64 sx0_now, .int .i64 sx0_front, vsx0_left] :: ow) := Hp.sel (pre := [Res.obj 31 v3 [.int .u8 f1_Kind, .int .u8 f1_Number, .bool f1_More, .string f1_Body], Res.obj 79 osx0 [.int .i64 sx0_window, .int .i64 sx0_wait, .int .i64 sx0_now, .int .i64 sx0_front, vsx0_left], Res.sl (Ek.pair Ek.str (Ek.pair Ek.bool (Ek.pair (Ek.int .i64) Ek.bool))) 81 vsx0_left sx0_left]) (tail := ow) (rs' := [Res.sl (Ek.pair Ek.str (Ek.pair Ek.bool (Ek.pair (Ek.int .i64) Ek.bool))) 81 vsx0_left sx0_left, Res.obj 79 osx0 [.int .i64 sx0_window, .int .i64 sx0_wait, .int .i64 sx0_now, .int .i64 sx0_front, vsx0_left]]) hp [2, 1] (by decide) (by simp) rfl
    exact ⟨rfl, ⟨_, hf.sub ⟨rfl, trivial⟩, hp⟩⟩
  replace h := ifF h hb
  refine wp_skip ?_
  refine th_n ?_
  refine wp_seq ?_
  refine wp_seq ?_
  refine wp_reg ?_
  refine st_move hf rfl rfl (by decide) ?_
  clear hf; intro a ha hf; clear ha
  refine st_move hf rfl rfl (by decide) ?_
  clear hf; intro a ha hf; clear ha
  refine st_nil hf ?_
  refine th_n ?_
  refine wp_block ?_
  obtain ⟨q53, hl, h⟩ := bnd h
  have hp : Hp _ _ _ (Res.sl (Ek.pair Ek.str (Ek.pair Ek.bool (Ek.pair (Ek.int .i64) Ek.bool))) 81 vsx0_left sx0_left :: Res.obj 79 osx0 [.int .i64 sx0_window, .int .i64 sx0_wait, .int .i64 sx0_now, .int .i64 sx0_front, vsx0_left] :: Res.obj 31 v3 [.int .u8 f1_Kind, .int .u8 f1_Number, .bool f1_More, .string f1_Body] :: ow) := Hp.sel (pre := [Res.obj 31 v3 [.int .u8 f1_Kind, .int .u8 f1_Number, .bool f1_More, .string f1_Body], Res.obj 79 osx0 [.int .i64 sx0_window, .int .i64 sx0_wait, .int .i64 sx0_now, .int .i64 sx0_front, vsx0_left], Res.sl (Ek.pair Ek.str (Ek.pair Ek.bool (Ek.pair (Ek.int .i64) Ek.bool))) 81 vsx0_left sx0_left]) (tail := ow) (rs' := [Res.sl (Ek.pair Ek.str (Ek.pair Ek.bool (Ek.pair (Ek.int .i64) Ek.bool))) 81 vsx0_left sx0_left, Res.obj 79 osx0 [.int .i64 sx0_window, .int .i64 sx0_wait, .int .i64 sx0_now, .int .i64 sx0_front, vsx0_left], Res.obj 31 v3 [.int .u8 f1_Kind, .int .u8 f1_Number, .bool f1_More, .string f1_Body]]) hp [2, 1, 0] (by decide) (by simp) rfl
  refine wp_loop_pure (f := (f_again_Sender_Hear.s2 sx0_front f1_Number f1_Body q25)) (s := (sx0_window, sx0_wait, sx0_now, sx0_front, sx0_left, (0 : Int))) (fun s a w => ∃ (v38 : Value), Fr 126 a [(0, osx0), (3, optr v3 0), (6, .int .i64 (IntKind.i64.wrap (IntKind.u8.wrap (f1_Number - (IntKind.u8.wrap sx0_front))))), (60, .int .i64 q25), (61, .int .i64 s.2.2.2.2.2)] ∧ Hp S w0 w (Res.sl (Ek.pair Ek.str (Ek.pair Ek.bool (Ek.pair (Ek.int .i64) Ek.bool))) 81 v38 s.2.2.2.2.1 :: Res.obj 79 osx0 [.int .i64 s.1, .int .i64 s.2.1, .int .i64 s.2.2.1, .int .i64 s.2.2.2.1, v38] :: Res.obj 31 v3 [.int .u8 f1_Kind, .int .u8 f1_Number, .bool f1_More, .string f1_Body] :: ow)) (fun q e a w => e = .exit 2 ∧ ∃ (v41 : Value), Fr 126 a [(0, osx0)] ∧ Hp S w0 w (Res.sl (Ek.pair Ek.str (Ek.pair Ek.bool (Ek.pair (Ek.int .i64) Ek.bool))) 81 v41 q.2.2.2.2 :: Res.obj 79 osx0 [.int .i64 q.1, .int .i64 q.2.1, .int .i64 q.2.2.1, .int .i64 q.2.2.2.1, v41] :: ow)) ?_ hl ⟨_, hf.sub ⟨rfl, rfl, rfl, rfl, rfl, trivial⟩, hp⟩ ?_
  · clear hl hf hp
    intro s x a w h hI
    obtain ⟨sx0c_0, sx0c_1, sx0c_2, sx0c_3, sx0c_4, t61⟩ := s
    obtain ⟨v38, hf, hp⟩ : ∃ (v38 : Value), Fr 126 a [(0, osx0), (3, optr v3 0), (6, .int .i64 (IntKind.i64.wrap (IntKind.u8.wrap (f1_Number - (IntKind.u8.wrap sx0_front))))), (60, .int .i64 q25), (61, .int .i64 t61)] ∧ Hp S w0 w (Res.sl (Ek.pair Ek.str (Ek.pair Ek.bool (Ek.pair (Ek.int .i64) Ek.bool))) 81 v38 sx0c_4 :: Res.obj 79 osx0 [.int .i64 sx0c_0, .int .i64 sx0c_1, .int .i64 sx0c_2, .int .i64 sx0c_3, v38] :: Res.obj 31 v3 [.int .u8 f1_Kind, .int .u8 f1_Number, .bool f1_More, .string f1_Body] :: ow) := hI
    replace h : f_again_Sender_Hear.s2c sx0_front f1_Number f1_Body q25 sx0c_0 sx0c_1 sx0c_2 sx0c_3 sx0c_4 t61 = some x := h
    unfold f_again_Sender_Hear.s2c at h
    refine wp_seq ?_
    refine wp_reg ?_
    refine st_ilss hf (by decide) rfl rfl rfl ?_
    clear hf; intro a ha hf; clear ha
    refine st_nil hf ?_
    refine th_n ?_
    refine wp_seq ?_
    refine wp_if hf rfl (fun hb => ?_) (fun hb => ?_)
    · replace h := ifT h hb
      refine wp_skip ?_
      refine th_n ?_
      refine wp_seq ?_
      refine wp_block ?_
      refine wp_seq ?_
      refine wp_reg ?_
      refine st_move hf rfl rfl (by decide) ?_
      clear hf; intro a ha hf; clear ha
      refine st_assign hf rfl rfl (by decide) ?_
      clear hf; intro a ha hf; clear ha
      refine st_nil hf ?_
      refine th_n ?_
      refine wp_seq ?_
      refine wp_reg ?_
      refine st_move hf rfl rfl (by decide) ?_
      clear hf; intro a ha hf; clear ha
      refine st_move hf rfl rfl (by decide) ?_
      clear hf; intro a ha hf; clear ha
      refine st_isub hf (by decide) rfl rfl rfl ?_
      clear hf; intro a ha hf; clear ha
      refine st_isub hf (by decide) rfl rfl rfl ?_
      clear hf; intro a ha hf; clear ha
      refine st_assign hf rfl rfl (by decide) ?_
      clear hf; intro a ha hf; clear ha
      refine st_nil hf ?_
      refine th_n ?_
      refine wp_seq ?_
      refine wp_reg ?_
      refine st_move hf rfl rfl (by decide) ?_
      clear hf; intro a ha hf; clear ha
      refine st_move hf rfl rfl (by decide) ?_
      clear hf; intro a ha hf; clear ha
      refine st_ilss hf (by decide) rfl rfl rfl ?_
      clear hf; intro a ha hf; clear ha
      refine st_move hf rfl rfl (by decide) ?_
      clear hf; intro a ha hf; clear ha
      obtain ⟨z46, hz44, h⟩ := bnd h
      refine wpList_cut 16 (fun a w => Fr 126 a [(0, osx0), (3, optr v3 0), (6, .int .i64 (IntKind.i64.wrap (IntKind.u8.wrap (f1_Number - (IntKind.u8.wrap sx0_front))))), (7, .int .i64 t61), (60, .int .i64 q25), (61, .int .i64 t61), (87, .bool z46)] ∧ Hp S w0 w (Res.sl (Ek.pair Ek.str (Ek.pair Ek.bool (Ek.pair (Ek.int .i64) Ek.bool))) 81 v38 sx0c_4 :: Res.obj 79 osx0 [.int .i64 sx0c_0, .int .i64 sx0c_1, .int .i64 sx0c_2, .int .i64 sx0c_3, v38] :: Res.obj 31 v3 [.int .u8 f1_Kind, .int .u8 f1_Number, .bool f1_More, .string f1_Body] :: ow)) ?_ ?_
      · rcases Bool.eq_false_or_eq_true (decide (t61 < (IntKind.i64.wrap (IntKind.u8.wrap (f1_Number - (IntKind.u8.wrap sx0_front)))))) with hb45 | hb45
        · skip
          replace hz44 := ifT hz44 hb45
          refine st_skip hf (wantN hf rfl rfl hb45) rfl (by decide) ?_ rfl
          clear hf; intro a hf
          refine st_skip hf (wantN hf rfl rfl hb45) rfl (by decide) ?_ rfl
          clear hf; intro a hf
          refine st_skipU hf (wantN hf rfl rfl hb45) rfl (by decide) ?_
          clear hf; intro a hf
          refine st_skip hf (wantU hf rfl rfl) rfl (by decide) ?_ rfl
          clear hf; intro a hf
          refine st_skip hf (wantU hf rfl rfl) rfl (by decide) ?_ rfl
          clear hf; intro a hf
          refine st_skip hf (wantU hf rfl rfl) rfl (by decide) ?_ rfl
          clear hf; intro a hf
          refine st_skip hf (wantU hf rfl rfl) rfl (by decide) ?_ rfl
          clear hf; intro a hf
          refine st_skip hf (wantU hf rfl rfl) rfl (by decide) ?_ rfl
          clear hf; intro a hf
          refine st_skip hf (wantU hf rfl rfl) rfl (by decide) ?_ rfl
          clear hf; intro a hf
          refine st_skip hf (wantU hf rfl rfl) rfl (by decide) ?_ rfl
          clear hf; intro a hf
          refine st_skip hf (wantU hf rfl rfl) rfl (by decide) ?_ rfl
          clear hf; intro a hf
          refine st_skip hf (wantU hf rfl rfl) rfl (by decide) ?_ rfl
          clear hf; intro a hf
          refine st_skip hf (wantU hf rfl rfl) rfl (by decide) ?_ rfl
          clear hf; intro a hf
          refine st_skip hf (wantU hf rfl rfl) rfl (by decide) ?_ rfl
          clear hf; intro a hf
          refine st_skip hf (wantN hf rfl rfl hb45) rfl (by decide) ?_ rfl
          clear hf; intro a hf
          obtain rfl := Option.some.inj hz44
          refine st_pick (v := .bool true) hf rfl rfl (fun hb' => ?_) (fun hb' => ?_) (by decide) ?_
          · rfl
          · exact absurd (hb45.symm.trans hb') (by decide)
          clear hf; intro a ha hf; clear ha
          refine st_nil hf (th_n ?_)
          exact ⟨hf.sub ⟨rfl, rfl, rfl, rfl, rfl, rfl, rfl, trivial⟩, hp⟩
        replace hz44 := ifF hz44 hb45
        refine st_move hf (wantY hf rfl rfl hb45) rfl (by decide) ?_
        clear hf; intro a ha hf; clear ha
        refine st_igeq hf (by decide) (wantY hf rfl rfl hb45) rfl rfl ?_
        clear hf; intro a ha hf; clear ha
        refine st_move hf (wantY hf rfl rfl hb45) rfl (by decide) ?_
        clear hf; intro a ha hf; clear ha
        obtain ⟨z49, hz47, hz44⟩ := bnd hz44
        refine wpList_cut 12 (fun a w => Fr 126 a [(0, osx0), (3, optr v3 0), (6, .int .i64 (IntKind.i64.wrap (IntKind.u8.wrap (f1_Number - (IntKind.u8.wrap sx0_front))))), (7, .int .i64 t61), (60, .int .i64 q25), (61, .int .i64 t61), (71, .bool (decide (t61 < (IntKind.i64.wrap (IntKind.u8.wrap (f1_Number - (IntKind.u8.wrap sx0_front))))))), (86, .bool z49)] ∧ Hp S w0 w (Res.sl (Ek.pair Ek.str (Ek.pair Ek.bool (Ek.pair (Ek.int .i64) Ek.bool))) 81 v38 sx0c_4 :: Res.obj 79 osx0 [.int .i64 sx0c_0, .int .i64 sx0c_1, .int .i64 sx0c_2, .int .i64 sx0c_3, v38] :: Res.obj 31 v3 [.int .u8 f1_Kind, .int .u8 f1_Number, .bool f1_More, .string f1_Body] :: ow)) ?_ ?_
        · rcases Bool.eq_false_or_eq_true (decide ((0 : Int) ≤ (IntKind.i64.wrap ((IntKind.i64.wrap (t61 - (IntKind.i64.wrap (IntKind.u8.wrap (f1_Number - (IntKind.u8.wrap sx0_front)))))) - (1 : Int))))) with hb48 | hb48
          · skip
            replace hz47 := ifT hz47 hb48
            refine st_fa (o' := 3) hf (by decide) (off := 3) (sz := 1) (by kernel_rfl) (by decide) (wantY hf rfl rfl hb48) rfl (hp.ob (i := 2) rfl) rfl ?_
            clear hf; intro a ha hf; clear ha
            refine st_ldO (u := .string f1_Body) hf (by decide) pl9 (wantY hf rfl rfl hb48) rfl (hp.ob (i := 2) rfl) rfl ?_
            clear hf; intro a ha hf; clear ha
            refine st_move hf (wantY hf rfl rfl hb48) rfl (by decide) ?_
            clear hf; intro a ha hf; clear ha
            refine st_iquo hf (by decide) (wantY hf rfl rfl hb48) rfl rfl (by decide) ?_
            clear hf; intro a ha hf; clear ha
            obtain ⟨hc50, hz47⟩ := chk hz47
            refine st_sidx hf (by decide) Try.underlying9 (wantY hf rfl rfl hb48) rfl rfl hc50.1 hc50.2 ?_
            clear hf; intro a ha hf; clear ha
            refine st_move hf (wantY hf rfl rfl hb48) rfl (by decide) ?_
            clear hf; intro a ha hf; clear ha
            refine st_irem hf (by decide) (wantY hf rfl rfl hb48) rfl rfl (by decide) ?_
            clear hf; intro a ha hf; clear ha
            refine st_isub hf (by decide) (wantY hf rfl rfl hb48) rfl rfl ?_
            clear hf; intro a ha hf; clear ha
            obtain ⟨hc51, hz47⟩ := chk hz47
            refine st_ishr hf (by decide) (wantY hf rfl rfl hb48) rfl rfl hc51 ?_
            clear hf; intro a ha hf; clear ha
            refine st_iand hf (by decide) (wantY hf rfl rfl hb48) rfl rfl ?_
            clear hf; intro a ha hf; clear ha
            refine st_ieql hf (by decide) (wantY hf rfl rfl hb48) rfl rfl ?_
            clear hf; intro a ha hf; clear ha
            obtain rfl := Option.some.inj hz47
            refine st_pick (v := .bool ((iand .u8 (ishr .u8 (bt f1_Body (IntKind.i64.wrap (((IntKind.i64.wrap ((IntKind.i64.wrap (t61 - (IntKind.i64.wrap (IntKind.u8.wrap (f1_Number - (IntKind.u8.wrap sx0_front)))))) - (1 : Int)))).tdiv (8 : Int)))) (IntKind.i64.wrap ((7 : Int) - (((IntKind.i64.wrap ((IntKind.i64.wrap (t61 - (IntKind.i64.wrap (IntKind.u8.wrap (f1_Number - (IntKind.u8.wrap sx0_front)))))) - (1 : Int)))).tmod (8 : Int))))) (1 : Int)) == (1 : Int))) hf (wantY hf rfl rfl hb45) rfl (fun hb' => ?_) (fun hb' => ?_) (by decide) ?_
            · rfl
            · exact absurd (hb48.symm.trans hb') (by decide)
            clear hf; intro a ha hf; clear ha
            refine st_nil hf (th_n ?_)
            exact ⟨hf.sub ⟨rfl, rfl, rfl, rfl, rfl, rfl, rfl, rfl, trivial⟩, hp⟩
          replace hz47 := ifF hz47 hb48
          refine st_skip hf (wantN hf rfl rfl hb48) rfl (by decide) ?_ rfl
          clear hf; intro a hf
          refine st_skip hf (wantN hf rfl rfl hb48) rfl (by decide) ?_ rfl
          clear hf; intro a hf
          refine st_skip hf (wantN hf rfl rfl hb48) rfl (by decide) ?_ rfl
          clear hf; intro a hf
          refine st_skip hf (wantN hf rfl rfl hb48) rfl (by decide) ?_ rfl
          clear hf; intro a hf
          refine st_skip hf (wantN hf rfl rfl hb48) rfl (by decide) ?_ rfl
          clear hf; intro a hf
          refine st_skip hf (wantN hf rfl rfl hb48) rfl (by decide) ?_ rfl
          clear hf; intro a hf
          refine st_skip hf (wantN hf rfl rfl hb48) rfl (by decide) ?_ rfl
          clear hf; intro a hf
          refine st_skip hf (wantN hf rfl rfl hb48) rfl (by decide) ?_ rfl
          clear hf; intro a hf
          refine st_skip hf (wantN hf rfl rfl hb48) rfl (by decide) ?_ rfl
          clear hf; intro a hf
          refine st_skip hf (wantN hf rfl rfl hb48) rfl (by decide) ?_ rfl
          clear hf; intro a hf
          refine st_skip hf (wantN hf rfl rfl hb48) rfl (by decide) ?_ rfl
          clear hf; intro a hf
          obtain rfl := Option.some.inj hz47
          refine st_pick (v := .bool false) hf (wantY hf rfl rfl hb45) rfl (fun hb' => ?_) (fun hb' => ?_) (by decide) ?_
          · exact absurd (hb48.symm.trans hb') (by decide)
          · rfl
          clear hf; intro a ha hf; clear ha
          refine st_nil hf (th_n ?_)
          exact ⟨hf.sub ⟨rfl, rfl, rfl, rfl, rfl, rfl, rfl, rfl, trivial⟩, hp⟩
        rintro a w ⟨hf, hp⟩
        obtain rfl := Option.some.inj hz44
        refine st_pick (v := .bool z49) hf rfl rfl (fun hb' => ?_) (fun hb' => ?_) (by decide) ?_
        · exact absurd (hb45.symm.trans hb') (by decide)
        · rfl
        clear hf; intro a ha hf; clear ha
        refine st_nil hf (th_n ?_)
        exact ⟨hf.sub ⟨rfl, rfl, rfl, rfl, rfl, rfl, rfl, trivial⟩, hp⟩
      rintro a w ⟨hf, hp⟩
      refine st_nil hf ?_
      refine th_n ?_
      refine wp_if hf rfl (fun hb => ?_) (fun hb => ?_)
      · replace h := ifT h hb
        refine wp_reg ?_
        refine st_move hf rfl rfl (by decide) ?_
        clear hf; intro a ha hf; clear ha
        refine st_nilV hf (by decide) rfl rfl (hp.ob (i := 1) rfl) ?_
        clear hf; intro a ha hf; clear ha
        refine st_fa (o' := 4) hf (by decide) (off := 4) (sz := 1) (by kernel_rfl) (by decide) rfl rfl (hp.ob (i := 1) rfl) rfl ?_
        clear hf; intro a ha hf; clear ha
        refine st_ldO (u := v38) hf (by decide) pl77 rfl rfl (hp.ob (i := 1) rfl) rfl ?_
        clear hf; intro a ha hf; clear ha
        refine st_move hf rfl rfl (by decide) ?_
        clear hf; intro a ha hf; clear ha
        obtain ⟨hc52, h⟩ := chk h
        refine st_index (E := (Ek.pair Ek.str (Ek.pair Ek.bool (Ek.pair (Ek.int .i64) Ek.bool)))) hf (by decide) Try.underlying77 elt81 rfl rfl rfl (hp.sl (i := 0) rfl) hc52.1 hc52.2 ?_
        clear hf; intro a ha hf; clear ha
        refine st_faP (off := 3) (sz := 1) hf (by decide) (by kernel_rfl) (by decide) rfl rfl (Sl.isP (hp.sl (i := 0) rfl) hc52.1 hc52.2) ?_
        clear hf; intro a ha hf; clear ha
        refine st_stQ (E := (Ek.pair Ek.str (Ek.pair Ek.bool (Ek.pair (Ek.int .i64) Ek.bool)))) (F := Ek.bool) (o := 3) (Sub.comp (Sub.snd (E := Ek.str) (F := (Ek.pair Ek.bool (Ek.pair (Ek.int .i64) Ek.bool)))) (Sub.comp (Sub.snd (E := Ek.bool) (F := (Ek.pair (Ek.int .i64) Ek.bool))) (Sub.snd (E := (Ek.int .i64)) (F := Ek.bool)))) hf (by kernel_rfl) hp (i := 0) rfl rfl rfl rfl rfl hc52.1 hc52.2 ?_
        clear hf; intro a w hf hp0; clear hp; have hp := hp0; clear hp0
        replace hp : Hp _ _ _ (Res.sl (Ek.pair Ek.str (Ek.pair Ek.bool (Ek.pair (Ek.int .i64) Ek.bool))) 81 v38 (sx0c_4.set (t61).toNat ((gt sx0c_4 t61).1, (gt sx0c_4 t61).2.1, (gt sx0c_4 t61).2.2.1, true)) :: Res.obj 79 osx0 [.int .i64 sx0c_0, .int .i64 sx0c_1, .int .i64 sx0c_2, .int .i64 sx0c_3, v38] :: Res.obj 31 v3 [.int .u8 f1_Kind, .int .u8 f1_Number, .bool f1_More, .string f1_Body] :: ow) := hp
        refine st_nil hf ?_
        refine ib_n ?_
        refine th_n ?_
        refine wp_reg ?_
        refine st_iadd hf (by decide) rfl rfl rfl ?_
        clear hf; intro a ha hf; clear ha
        refine st_move hf rfl rfl (by decide) ?_
        clear hf; intro a ha hf; clear ha
        refine st_nil hf ?_
        obtain rfl := Option.some.inj h
        exact rnd_l ⟨_, hf.sub ⟨rfl, rfl, rfl, rfl, rfl, trivial⟩, hp⟩
      replace h := ifF h hb
      refine wp_skip ?_
      refine ib_n ?_
      refine th_n ?_
      refine wp_reg ?_
      refine st_iadd hf (by decide) rfl rfl rfl ?_
      clear hf; intro a ha hf; clear ha
      refine st_move hf rfl rfl (by decide) ?_
      clear hf; intro a ha hf; clear ha
      refine st_nil hf ?_
      obtain rfl := Option.some.inj h
      exact rnd_l ⟨_, hf.sub ⟨rfl, rfl, rfl, rfl, rfl, trivial⟩, hp⟩
    replace h := ifF h hb
    refine wp_exit ?_
    refine th_e ?_
    obtain rfl := Option.some.inj h
    have hp : Hp _ _ _ (Res.sl (Ek.pair Ek.str (Ek.pair Ek.bool (Ek.pair (Ek.int .i64) Ek.bool))) 81 v38 sx0c_4 :: Res.obj 79 osx0 [.int .i64 sx0c_0, .int .i64 sx0c_1, .int .i64 sx0c_2, .int .i64 sx0c_3, v38] :: ow) := Hp.sel (pre := [Res.sl (Ek.pair Ek.str (Ek.pair Ek.bool (Ek.pair (Ek.int .i64) Ek.bool))) 81 v38 sx0c_4, Res.obj 79 osx0 [.int .i64 sx0c_0, .int .i64 sx0c_1, .int .i64 sx0c_2, .int .i64 sx0c_3, v38], Res.obj 31 v3 [.int .u8 f1_Kind, .int .u8 f1_Number, .bool f1_More, .string f1_Body]]) (tail := ow) (rs' := [Res.sl (Ek.pair Ek.str (Ek.pair Ek.bool (Ek.pair (Ek.int .i64) Ek.bool))) 81 v38 sx0c_4, Res.obj 79 osx0 [.int .i64 sx0c_0, .int .i64 sx0c_1, .int .i64 sx0c_2, .int .i64 sx0c_3, v38]]) hp [0, 1] (by decide) (by simp) rfl
    exact rnd_r (by simp) ⟨rfl, _, hf.sub ⟨rfl, trivial⟩, hp⟩
  clear hl hf hp
  intro e a w hne hO
  obtain ⟨rfl, v41, hf, hp⟩ := hO
  refine ib_same ?_
  refine th_n ?_
  refine wp_seq ?_
  refine wp_block ?_
  obtain ⟨q67, hl, h⟩ := bnd h
  refine wp_loop_pure (f := f_again_Sender_Hear.s3) (s := (q53.1, q53.2.1, q53.2.2.1, q53.2.2.2.1, q53.2.2.2.2)) (fun s a w => ∃ (v54 : Value), Fr 126 a [(0, osx0)] ∧ Hp S w0 w (Res.sl (Ek.pair Ek.str (Ek.pair Ek.bool (Ek.pair (Ek.int .i64) Ek.bool))) 81 v54 s.2.2.2.2 :: Res.obj 79 osx0 [.int .i64 s.1, .int .i64 s.2.1, .int .i64 s.2.2.1, .int .i64 s.2.2.2.1, v54] :: ow)) (fun q e a w => e = .exit 4 ∧ ∃ (v57 : Value), Fr 126 a [(0, osx0)] ∧ Hp S w0 w (Res.sl (Ek.pair Ek.str (Ek.pair Ek.bool (Ek.pair (Ek.int .i64) Ek.bool))) 81 v57 q.2.2.2.2 :: Res.obj 79 osx0 [.int .i64 q.1, .int .i64 q.2.1, .int .i64 q.2.2.1, .int .i64 q.2.2.2.1, v57] :: ow)) ?_ hl ⟨_, hf.sub ⟨rfl, trivial⟩, hp⟩ ?_
  · clear hl hf hp
    intro s x a w h hI
    obtain ⟨sx0c_0, sx0c_1, sx0c_2, sx0c_3, sx0c_4⟩ := s
    obtain ⟨v54, hf, hp⟩ : ∃ (v54 : Value), Fr 126 a [(0, osx0)] ∧ Hp S w0 w (Res.sl (Ek.pair Ek.str (Ek.pair Ek.bool (Ek.pair (Ek.int .i64) Ek.bool))) 81 v54 sx0c_4 :: Res.obj 79 osx0 [.int .i64 sx0c_0, .int .i64 sx0c_1, .int .i64 sx0c_2, .int .i64 sx0c_3, v54] :: ow) := hI
    replace h : f_again_Sender_Hear.s3c sx0c_0 sx0c_1 sx0c_2 sx0c_3 sx0c_4 = some x := h
    unfold f_again_Sender_Hear.s3c at h
    refine wp_seq ?_
    refine wp_seq ?_
    refine wp_reg ?_
    refine st_move hf rfl rfl (by decide) ?_
    clear hf; intro a ha hf; clear ha
    refine st_nilV hf (by decide) rfl rfl (hp.ob (i := 1) rfl) ?_
    clear hf; intro a ha hf; clear ha
    refine st_fa (o' := 4) hf (by decide) (off := 4) (sz := 1) (by kernel_rfl) (by decide) rfl rfl (hp.ob (i := 1) rfl) rfl ?_
    clear hf; intro a ha hf; clear ha
    refine st_ldO (u := v54) hf (by decide) pl77 rfl rfl (hp.ob (i := 1) rfl) rfl ?_
    clear hf; intro a ha hf; clear ha
    refine st_len (E := (Ek.pair Ek.str (Ek.pair Ek.bool (Ek.pair (Ek.int .i64) Ek.bool)))) hf (by decide) Try.underlying77 rfl rfl (hp.sl (i := 0) rfl) ?_
    clear hf; intro a ha hf; clear ha
    refine st_igtr hf (by decide) rfl rfl rfl ?_
    clear hf; intro a ha hf; clear ha
    refine st_move hf rfl rfl (by decide) ?_
    clear hf; intro a ha hf; clear ha
    obtain ⟨z62, hz60, h⟩ := bnd h
    refine wpList_cut 8 (fun a w => Fr 126 a [(0, osx0), (110, .bool z62)] ∧ Hp S w0 w (Res.sl (Ek.pair Ek.str (Ek.pair Ek.bool (Ek.pair (Ek.int .i64) Ek.bool))) 81 v54 sx0c_4 :: Res.obj 79 osx0 [.int .i64 sx0c_0, .int .i64 sx0c_1, .int .i64 sx0c_2, .int .i64 sx0c_3, v54] :: ow)) ?_ ?_
    · rcases Bool.eq_false_or_eq_true (decide ((0 : Int) < (sx0c_4.length : Int))) with hb61 | hb61
      · skip
        replace hz60 := ifT hz60 hb61
        refine st_move hf (wantY hf rfl rfl hb61) rfl (by decide) ?_
        clear hf; intro a ha hf; clear ha
        refine st_nilV hf (by decide) (wantY hf rfl rfl hb61) rfl (hp.ob (i := 1) rfl) ?_
        clear hf; intro a ha hf; clear ha
        refine st_fa (o' := 4) hf (by decide) (off := 4) (sz := 1) (by kernel_rfl) (by decide) (wantY hf rfl rfl hb61) rfl (hp.ob (i := 1) rfl) rfl ?_
        clear hf; intro a ha hf; clear ha
        refine st_ldO (u := v54) hf (by decide) pl77 (wantY hf rfl rfl hb61) rfl (hp.ob (i := 1) rfl) rfl ?_
        clear hf; intro a ha hf; clear ha
        obtain ⟨hc63, hz60⟩ := chk hz60
        refine st_index (E := (Ek.pair Ek.str (Ek.pair Ek.bool (Ek.pair (Ek.int .i64) Ek.bool)))) hf (by decide) Try.underlying77 elt81 (wantY hf rfl rfl hb61) rfl rfl (hp.sl (i := 0) rfl) hc63.1 hc63.2 ?_
        clear hf; intro a ha hf; clear ha
        refine st_faP (off := 3) (sz := 1) hf (by decide) (by kernel_rfl) (by decide) (wantY hf rfl rfl hb61) rfl (Sl.isP (hp.sl (i := 0) rfl) hc63.1 hc63.2) ?_
        clear hf; intro a ha hf; clear ha
        refine st_ldQ (F := Ek.bool) (yv := (gt sx0c_4 (0 : Int)).2.2.2) hf (by decide) pl4 (fun x => .bool x) (fun _ _ h => h) (wantY hf rfl rfl hb61) rfl (Sl.part (E := (Ek.pair Ek.str (Ek.pair Ek.bool (Ek.pair (Ek.int .i64) Ek.bool)))) (F := Ek.bool) (o := 3) (Sub.comp (Sub.snd (E := Ek.str) (F := (Ek.pair Ek.bool (Ek.pair (Ek.int .i64) Ek.bool)))) (Sub.comp (Sub.snd (E := Ek.bool) (F := (Ek.pair (Ek.int .i64) Ek.bool))) (Sub.snd (E := (Ek.int .i64)) (F := Ek.bool)))) (hp.sl (i := 0) rfl) hc63.1 hc63.2) ?_
        clear hf; intro a ha hf; clear ha
        obtain rfl := Option.some.inj hz60
        refine st_pick (v := .bool ((gt sx0c_4 (0 : Int)).2.2.2)) hf rfl rfl (fun hb' => ?_) (fun hb' => ?_) (by decide) ?_
        · rfl
        · exact absurd (hb61.symm.trans hb') (by decide)
        clear hf; intro a ha hf; clear ha
        refine st_nil hf (th_n ?_)
        exact ⟨hf.sub ⟨rfl, rfl, trivial⟩, hp⟩
      replace hz60 := ifF hz60 hb61
      refine st_skip hf (wantN hf rfl rfl hb61) rfl (by decide) ?_ rfl
      clear hf; intro a hf
      refine st_skip hf (wantN hf rfl rfl hb61) rfl (by decide) ?_ rfl
      clear hf; intro a hf
      refine st_skip hf (wantN hf rfl rfl hb61) rfl (by decide) ?_ rfl
      clear hf; intro a hf
      refine st_skip hf (wantN hf rfl rfl hb61) rfl (by decide) ?_ rfl
      clear hf; intro a hf
      refine st_skip hf (wantN hf rfl rfl hb61) rfl (by decide) ?_ rfl
      clear hf; intro a hf
      refine st_skip hf (wantN hf rfl rfl hb61) rfl (by decide) ?_ rfl
      clear hf; intro a hf
      refine st_skip hf (wantN hf rfl rfl hb61) rfl (by decide) ?_ rfl
      clear hf; intro a hf
      obtain rfl := Option.some.inj hz60
      refine st_pick (v := .bool false) hf rfl rfl (fun hb' => ?_) (fun hb' => ?_) (by decide) ?_
      · exact absurd (hb61.symm.trans hb') (by decide)
      · rfl
      clear hf; intro a ha hf; clear ha
      refine st_nil hf (th_n ?_)
      exact ⟨hf.sub ⟨rfl, rfl, trivial⟩, hp⟩
    rintro a w ⟨hf, hp⟩
    refine st_nil hf ?_
    refine th_n ?_
    refine wp_if hf rfl (fun hb => ?_) (fun hb => ?_)
    · replace h := ifT h hb
      refine wp_skip ?_
      refine th_n ?_
      refine wp_block ?_
      refine wp_seq ?_
      refine wp_reg ?_
      refine st_move hf rfl rfl (by decide) ?_
      clear hf; intro a ha hf; clear ha
      refine st_move hf rfl rfl (by decide) ?_
      clear hf; intro a ha hf; clear ha
      refine st_nilV hf (by decide) rfl rfl (hp.ob (i := 1) rfl) ?_
      clear hf; intro a ha hf; clear ha
      refine st_fa (o' := 4) hf (by decide) (off := 4) (sz := 1) (by kernel_rfl) (by decide) rfl rfl (hp.ob (i := 1) rfl) rfl ?_
      clear hf; intro a ha hf; clear ha
      refine st_ldO (u := v54) hf (by decide) pl77 rfl rfl (hp.ob (i := 1) rfl) rfl ?_
      clear hf; intro a ha hf; clear ha
      obtain ⟨hc64, h⟩ := chk h
      have hc65 : ((1 : Int)).toNat ≤ sx0c_4.length := by omega
      refine st_cutS (E := (Ek.pair Ek.str (Ek.pair Ek.bool (Ek.pair (Ek.int .i64) Ek.bool)))) hf (by decide) Try.underlying77 elt81 rfl rfl (hp.sl (i := 0) rfl) (.inr ⟨_, _, rfl, evI rfl hc64.1⟩) (.inl ⟨rfl, rfl⟩) hc65 (Nat.le_refl _) ?_
      clear hf; intro a ha hf; clear ha
      replace hp : Hp _ _ _ (Res.sl (Ek.pair Ek.str (Ek.pair Ek.bool (Ek.pair (Ek.int .i64) Ek.bool))) 81 (GL.cut v54 ((1 : Int)).toNat sx0c_4.length 4) (sx0c_4.drop ((1 : Int)).toNat) :: Res.obj 79 osx0 [.int .i64 sx0c_0, .int .i64 sx0c_1, .int .i64 sx0c_2, .int .i64 sx0c_3, v54] :: ow) := hp.cutFront (i := 0) rfl hc65
      refine st_nilV hf (by decide) rfl rfl (hp.ob (i := 1) rfl) ?_
      clear hf; intro a ha hf; clear ha
      refine st_fa (o' := 4) hf (by decide) (off := 4) (sz := 1) (by kernel_rfl) (by decide) rfl rfl (hp.ob (i := 1) rfl) rfl ?_
      clear hf; intro a ha hf; clear ha
      refine st_stO (us := [(GL.cut v54 ((1 : Int)).toNat sx0c_4.length 4)]) hf hp (i := 1) rfl rfl rfl rfl (cells_sh (hp.sl (i := 0) rfl).shapeV) (ones_sh (hp.sl (i := 0) rfl).shapeV) (by kernel_rfl) (Nat.le_of_ble_eq_true rfl) ?_
      clear hf; intro a w hf hp0; clear hp; have hp := hp0; clear hp0
      replace hp : Hp _ _ _ (Res.sl (Ek.pair Ek.str (Ek.pair Ek.bool (Ek.pair (Ek.int .i64) Ek.bool))) 81 (GL.cut v54 ((1 : Int)).toNat sx0c_4.length 4) (sx0c_4.drop ((1 : Int)).toNat) :: Res.obj 79 osx0 [.int .i64 sx0c_0, .int .i64 sx0c_1, .int .i64 sx0c_2, .int .i64 sx0c_3, (GL.cut v54 ((1 : Int)).toNat sx0c_4.length 4)] :: ow) := hp
      refine st_nil hf ?_
      refine th_n ?_
      refine wp_reg ?_
      refine st_move hf rfl rfl (by decide) ?_
      clear hf; intro a ha hf; clear ha
      refine st_nilV hf (by decide) rfl rfl (hp.ob (i := 1) rfl) ?_
      clear hf; intro a ha hf; clear ha
      refine st_fa (o' := 3) hf (by decide) (off := 3) (sz := 1) (by kernel_rfl) (by decide) rfl rfl (hp.ob (i := 1) rfl) rfl ?_
      clear hf; intro a ha hf; clear ha
      refine st_ldO (u := .int .i64 sx0c_3) hf (by decide) pl3 rfl rfl (hp.ob (i := 1) rfl) rfl ?_
      clear hf; intro a ha hf; clear ha
      refine st_iadd hf (by decide) rfl rfl rfl ?_
      clear hf; intro a ha hf; clear ha
      refine st_nilV hf (by decide) rfl rfl (hp.ob (i := 1) rfl) ?_
      clear hf; intro a ha hf; clear ha
      refine st_fa (o' := 3) hf (by decide) (off := 3) (sz := 1) (by kernel_rfl) (by decide) rfl rfl (hp.ob (i := 1) rfl) rfl ?_
      clear hf; intro a ha hf; clear ha
      refine st_stO (us := [.int .i64 (IntKind.i64.wrap (sx0c_3 + (1 : Int)))]) hf hp (i := 1) rfl rfl rfl rfl rfl (by rfl) (by kernel_rfl) (Nat.le_of_ble_eq_true rfl) ?_
      clear hf; intro a w hf hp0; clear hp; have hp := hp0; clear hp0
      replace hp : Hp _ _ _ (Res.sl (Ek.pair Ek.str (Ek.pair Ek.bool (Ek.pair (Ek.int .i64) Ek.bool))) 81 (GL.cut v54 ((1 : Int)).toNat sx0c_4.length 4) (sx0c_4.drop ((1 : Int)).toNat) :: Res.obj 79 osx0 [.int .i64 sx0c_0, .int .i64 sx0c_1, .int .i64 sx0c_2, .int .i64 (IntKind.i64.wrap (sx0c_3 + (1 : Int))), (GL.cut v54 ((1 : Int)).toNat sx0c_4.length 4)] :: ow) := hp
      refine st_nil hf ?_
      refine ib_n ?_
      obtain rfl := Option.some.inj h
      exact rnd_l ⟨_, hf.sub ⟨rfl, trivial⟩, hp⟩
    replace h := ifF h hb
    refine wp_exit ?_
    refine th_e ?_
    obtain rfl := Option.some.inj h
    exact rnd_r (by simp) ⟨rfl, _, hf.sub ⟨rfl, trivial⟩, hp⟩
  clear hl hf hp
  intro e a w hne hO
  obtain ⟨rfl, v57, hf, hp⟩ := hO
  refine ib_same ?_
  refine th_n ?_
  refine wp_seq ?_
  refine wp_reg ?_
  refine st_assign hf rfl rfl (by decide) ?_
  clear hf; intro a ha hf; clear ha
  refine st_nil hf ?_
  refine th_n ?_
  refine wp_ret ?_
  obtain rfl := Option.some.inj h
  exact ⟨rfl, ⟨_, hf.sub ⟨rfl, trivial⟩, hp⟩⟩

noncomputable def f_foghornref28_Mark (body0 : ByteArray) (i1 : Int) : Option Bool := (if 0 ≤ (IntKind.i64.wrap ((i1).tdiv (8 : Int))) ∧ (IntKind.i64.wrap ((i1).tdiv (8 : Int))) < (body0.size : Int) then (if 0 ≤ (IntKind.i64.wrap ((7 : Int) - ((i1).tmod (8 : Int)))) then (some ((iand .u8 (ishr .u8 (bt body0 (IntKind.i64.wrap ((i1).tdiv (8 : Int)))) (IntKind.i64.wrap ((7 : Int) - ((i1).tmod (8 : Int))))) (1 : Int)) == (1 : Int))) else none) else none)
theorem f_foghornref28_Mark_c {S : Nat → Prop} {w0 w : World} {ow : List Res} (hp : Hp S w0 w ow) (body0 : ByteArray) (i1 : Int) {r : Bool} (h : f_foghornref28_Mark body0 i1 = some r) :
    Calls Try.prog 31 #[.string body0, .int .i64 i1] w (fun e w' => e = .returned (.bool r) ∧ Hp S w0 w' (ow)) := by
  unfold f_foghornref28_Mark at h
  refine enter (n := 15) (args := [.string body0, .int .i64 i1]) Try.func31 rfl rfl (Nat.le_of_ble_eq_true rfl) fun a hf => ?_
  replace hf : Fr 15 a [(0, .string body0), (1, .int .i64 i1)] := hf
  refine wp_mono (Q := fun e a w => e = .ret ∧ Fr 15 a [(4, .bool r)] ∧ Hp S w0 w (ow)) ?_ ?_
  rotate_left
  · rintro e a w ⟨rfl, hf, hp⟩
    exact ret1 hf rfl rfl ⟨rfl, hp⟩
  refine wp_seq ?_
  refine wp_reg ?_
  refine st_assign hf rfl rfl (by decide) ?_
  clear hf; intro a ha hf; clear ha
  refine st_nil hf ?_
  refine th_n ?_
  refine wp_seq ?_
  refine wp_reg ?_
  refine st_move hf rfl rfl (by decide) ?_
  clear hf; intro a ha hf; clear ha
  refine st_move hf rfl rfl (by decide) ?_
  clear hf; intro a ha hf; clear ha
  refine st_iquo hf (by decide) rfl rfl rfl (by decide) ?_
  clear hf; intro a ha hf; clear ha
  obtain ⟨hc1, h⟩ := chk h
  refine st_sidx hf (by decide) Try.underlying9 rfl rfl rfl hc1.1 hc1.2 ?_
  clear hf; intro a ha hf; clear ha
  refine st_move hf rfl rfl (by decide) ?_
  clear hf; intro a ha hf; clear ha
  refine st_irem hf (by decide) rfl rfl rfl (by decide) ?_
  clear hf; intro a ha hf; clear ha
  refine st_isub hf (by decide) rfl rfl rfl ?_
  clear hf; intro a ha hf; clear ha
  obtain ⟨hc2, h⟩ := chk h
  refine st_ishr hf (by decide) rfl rfl rfl hc2 ?_
  clear hf; intro a ha hf; clear ha
  refine st_iand hf (by decide) rfl rfl rfl ?_
  clear hf; intro a ha hf; clear ha
  refine st_ieql hf (by decide) rfl rfl rfl ?_
  clear hf; intro a ha hf; clear ha
  refine st_assign hf rfl rfl (by decide) ?_
  clear hf; intro a ha hf; clear ha
  refine st_nil hf ?_
  refine th_n ?_
  refine wp_ret ?_
  obtain rfl := Option.some.inj h
  exact ⟨rfl, ⟨hf.sub ⟨rfl, trivial⟩, hp⟩⟩

noncomputable def f_foghornref28_Sender_Hear.s1c (sx0_Window : Int) (sx0_All : (List (ByteArray × Int × Bool))) (q9 : Int) (k6 : Int) (i7 : Int) : Option ((Int × Int) ⊕ Int) := (if ((decide (i7 < (sx0_All.length : Int))) && (decide (i7 < (IntKind.i64.wrap (q9 + sx0_Window))))) = true then (if 0 ≤ i7 ∧ i7 < (sx0_All.length : Int) then (if (decide ((0 : Int) ≤ (gt sx0_All i7).2.1)) = true then (some (Sum.inl ((IntKind.i64.wrap (k6 + (1 : Int))), (IntKind.i64.wrap (i7 + (1 : Int)))))) else (some (Sum.inl (k6, (IntKind.i64.wrap (i7 + (1 : Int))))))) else none) else (some (Sum.inr k6)))
noncomputable def f_foghornref28_Sender_Hear.s1 (sx0_Window : Int) (sx0_All : (List (ByteArray × Int × Bool))) (q9 : Int) (s : (Int × Int)) : Option ((Int × Int) ⊕ Int) := f_foghornref28_Sender_Hear.s1c sx0_Window sx0_All q9 s.1 s.2
noncomputable def f_foghornref28_Sender_Hear.s2c (f1_Number : Int) (q9 : Int) (sx0c_0 : Int) (sx0c_1 : Int) (sx0c_2 : Int) (sx0c_3 : (List (ByteArray × Int × Bool))) (i9 : Int) : Option ((Int × Int × Int × (List (ByteArray × Int × Bool)) × Int) ⊕ (Int × Int × Int × (List (ByteArray × Int × Bool)))) := (if (decide (i9 < (((IntKind.i64.wrap ((IntKind.i64.wrap ((IntKind.i64.wrap f1_Number) - ((q9).tmod (256 : Int)))) + (256 : Int)))).tmod (256 : Int)))) = true then (if 0 ≤ (IntKind.i64.wrap (q9 + i9)) ∧ (IntKind.i64.wrap (q9 + i9)) < (sx0c_3.length : Int) then (some (Sum.inl (sx0c_0, sx0c_1, sx0c_2, (sx0c_3.set ((IntKind.i64.wrap (q9 + i9))).toNat ((gt sx0c_3 (IntKind.i64.wrap (q9 + i9))).1, (gt sx0c_3 (IntKind.i64.wrap (q9 + i9))).2.1, true)), (IntKind.i64.wrap (i9 + (1 : Int)))))) else none) else (some (Sum.inr (sx0c_0, sx0c_1, sx0c_2, sx0c_3))))
noncomputable def f_foghornref28_Sender_Hear.s2 (f1_Number : Int) (q9 : Int) (s : (Int × Int × Int × (List (ByteArray × Int × Bool)) × Int)) : Option ((Int × Int × Int × (List (ByteArray × Int × Bool)) × Int) ⊕ (Int × Int × Int × (List (ByteArray × Int × Bool)))) := f_foghornref28_Sender_Hear.s2c f1_Number q9 s.1 s.2.1 s.2.2.1 s.2.2.2.1 s.2.2.2.2
noncomputable def f_foghornref28_Sender_Hear.s3c (f1_Number : Int) (f1_Body : ByteArray) (q9 : Int) (q24 : Int) (sx0c_0 : Int) (sx0c_1 : Int) (sx0c_2 : Int) (sx0c_3 : (List (ByteArray × Int × Bool))) (i10 : Int) : Option ((Int × Int × Int × (List (ByteArray × Int × Bool)) × Int) ⊕ (Int × Int × Int × (List (ByteArray × Int × Bool)))) := (if (decide (i10 < (128 : Int))) = true then ((if (decide ((IntKind.i64.wrap ((IntKind.i64.wrap ((IntKind.i64.wrap (q9 + (((IntKind.i64.wrap ((IntKind.i64.wrap ((IntKind.i64.wrap f1_Number) - ((q9).tmod (256 : Int)))) + (256 : Int)))).tmod (256 : Int)))) + (1 : Int))) + i10)) < (IntKind.i64.wrap (q9 + q24)))) = true then ((f_foghornref28_Mark f1_Body i10).bind fun q42 => (some q42)) else (some false)).bind fun z41 => (if z41 = true then (if 0 ≤ (IntKind.i64.wrap ((IntKind.i64.wrap ((IntKind.i64.wrap (q9 + (((IntKind.i64.wrap ((IntKind.i64.wrap ((IntKind.i64.wrap f1_Number) - ((q9).tmod (256 : Int)))) + (256 : Int)))).tmod (256 : Int)))) + (1 : Int))) + i10)) ∧ (IntKind.i64.wrap ((IntKind.i64.wrap ((IntKind.i64.wrap (q9 + (((IntKind.i64.wrap ((IntKind.i64.wrap ((IntKind.i64.wrap f1_Number) - ((q9).tmod (256 : Int)))) + (256 : Int)))).tmod (256 : Int)))) + (1 : Int))) + i10)) < (sx0c_3.length : Int) then (some (Sum.inl (sx0c_0, sx0c_1, sx0c_2, (sx0c_3.set ((IntKind.i64.wrap ((IntKind.i64.wrap ((IntKind.i64.wrap (q9 + (((IntKind.i64.wrap ((IntKind.i64.wrap ((IntKind.i64.wrap f1_Number) - ((q9).tmod (256 : Int)))) + (256 : Int)))).tmod (256 : Int)))) + (1 : Int))) + i10))).toNat ((gt sx0c_3 (IntKind.i64.wrap ((IntKind.i64.wrap ((IntKind.i64.wrap (q9 + (((IntKind.i64.wrap ((IntKind.i64.wrap ((IntKind.i64.wrap f1_Number) - ((q9).tmod (256 : Int)))) + (256 : Int)))).tmod (256 : Int)))) + (1 : Int))) + i10))).1, (gt sx0c_3 (IntKind.i64.wrap ((IntKind.i64.wrap ((IntKind.i64.wrap (q9 + (((IntKind.i64.wrap ((IntKind.i64.wrap ((IntKind.i64.wrap f1_Number) - ((q9).tmod (256 : Int)))) + (256 : Int)))).tmod (256 : Int)))) + (1 : Int))) + i10))).2.1, true)), (IntKind.i64.wrap (i10 + (1 : Int)))))) else none) else (some (Sum.inl (sx0c_0, sx0c_1, sx0c_2, sx0c_3, (IntKind.i64.wrap (i10 + (1 : Int)))))))) else (some (Sum.inr (sx0c_0, sx0c_1, sx0c_2, sx0c_3))))
noncomputable def f_foghornref28_Sender_Hear.s3 (f1_Number : Int) (f1_Body : ByteArray) (q9 : Int) (q24 : Int) (s : (Int × Int × Int × (List (ByteArray × Int × Bool)) × Int)) : Option ((Int × Int × Int × (List (ByteArray × Int × Bool)) × Int) ⊕ (Int × Int × Int × (List (ByteArray × Int × Bool)))) := f_foghornref28_Sender_Hear.s3c f1_Number f1_Body q9 q24 s.1 s.2.1 s.2.2.1 s.2.2.2.1 s.2.2.2.2
noncomputable def f_foghornref28_Sender_Hear (sx0_Window : Int) (sx0_Wait : Int) (sx0_Now : Int) (sx0_All : (List (ByteArray × Int × Bool))) (f1_Kind : Int) (f1_Number : Int) (f1_More : Bool) (f1_Body : ByteArray) : Option (Int × (Int × Int × Int × (List (ByteArray × Int × Bool)))) := (if (((f1_Kind != (2 : Int)) || f1_More) || ((f1_Body.size : Int) != (16 : Int))) = true then (some ((4 : Int), (sx0_Window, sx0_Wait, sx0_Now, sx0_All))) else ((f_foghornref28_Sender_Front sx0_Window sx0_Wait sx0_Now sx0_All).bind fun q9 => ((loop (f_foghornref28_Sender_Hear.s1 sx0_Window sx0_All q9) ((0 : Int), q9)).bind (fun q24 => (if (decide (q24 < (((IntKind.i64.wrap ((IntKind.i64.wrap ((IntKind.i64.wrap f1_Number) - ((q9).tmod (256 : Int)))) + (256 : Int)))).tmod (256 : Int)))) = true then (some ((0 : Int), (sx0_Window, sx0_Wait, sx0_Now, sx0_All))) else ((loop (f_foghornref28_Sender_Hear.s2 f1_Number q9) (sx0_Window, sx0_Wait, sx0_Now, sx0_All, (0 : Int))).bind (fun q32 => ((loop (f_foghornref28_Sender_Hear.s3 f1_Number f1_Body q9 q24) (q32.1, q32.2.1, q32.2.2.1, q32.2.2.2, (0 : Int))).bind (fun q45 => (some ((0 : Int), (q45.1, q45.2.1, q45.2.2.1, q45.2.2.2))))))))))))
theorem f_foghornref28_Sender_Hear_c {S : Nat → Prop} {w0 w : World} {ow : List Res} (sx0_Window : Int) (sx0_Wait : Int) (sx0_Now : Int) (vsx0_All : Value) (sx0_All : (List (ByteArray × Int × Bool))) (osx0 : Value) (f1_Kind : Int) (f1_Number : Int) (f1_More : Bool) (f1_Body : ByteArray) (hp : Hp S w0 w (Res.sl (Ek.pair Ek.str (Ek.pair (Ek.int .i64) Ek.bool)) 83 vsx0_All sx0_All :: Res.obj 53 osx0 [.int .i64 sx0_Window, .int .i64 sx0_Wait, .int .i64 sx0_Now, vsx0_All] :: ow)) {r : (Int × (Int × Int × Int × (List (ByteArray × Int × Bool))))} (h : f_foghornref28_Sender_Hear sx0_Window sx0_Wait sx0_Now sx0_All f1_Kind f1_Number f1_More f1_Body = some r) :
    Calls Try.prog 24 #[osx0, .agg #[.int .u8 f1_Kind, .int .u8 f1_Number, .bool f1_More, .string f1_Body]] w (fun e w' => ∃ (u0 : Value), e = .returned (.int .i64 r.1) ∧ Hp S w0 w' (Res.sl (Ek.pair Ek.str (Ek.pair (Ek.int .i64) Ek.bool)) 83 u0 r.2.2.2.2 :: Res.obj 53 osx0 [.int .i64 r.2.1, .int .i64 r.2.2.1, .int .i64 r.2.2.2.1, u0] :: ow)) := by
  unfold f_foghornref28_Sender_Hear at h
  refine enter (n := 111) (args := [osx0, .agg #[.int .u8 f1_Kind, .int .u8 f1_Number, .bool f1_More, .string f1_Body]]) Try.func24 rfl rfl (Nat.le_of_ble_eq_true rfl) fun a hf => ?_
  replace hf : Fr 111 a [(0, osx0), (1, .agg #[.int .u8 f1_Kind, .int .u8 f1_Number, .bool f1_More, .string f1_Body])] := hf
  refine wp_mono (Q := fun e a w => e = .ret ∧ ∃ (u0 : Value), Fr 111 a [(4, .int .i64 r.1)] ∧ Hp S w0 w (Res.sl (Ek.pair Ek.str (Ek.pair (Ek.int .i64) Ek.bool)) 83 u0 r.2.2.2.2 :: Res.obj 53 osx0 [.int .i64 r.2.1, .int .i64 r.2.2.1, .int .i64 r.2.2.2.1, u0] :: ow)) ?_ ?_
  rotate_left
  · rintro e a w ⟨rfl, x0, hf, hp⟩
    exact ret1 hf rfl rfl ⟨x0, rfl, hp⟩
  refine wp_seq ?_
  refine wp_reg ?_
  refine st_boxO (cs := [.int .u8 f1_Kind, .int .u8 f1_Number, .bool f1_More, .string f1_Body]) hf (by decide) hp rfl rfl rfl ?_
  clear hf; intro a w v3 hf hp0; clear hp; have hp := hp0; clear hp0
  replace hp : Hp _ _ _ (Res.obj 31 v3 [.int .u8 f1_Kind, .int .u8 f1_Number, .bool f1_More, .string f1_Body] :: Res.sl (Ek.pair Ek.str (Ek.pair (Ek.int .i64) Ek.bool)) 83 vsx0_All sx0_All :: Res.obj 53 osx0 [.int .i64 sx0_Window, .int .i64 sx0_Wait, .int .i64 sx0_Now, vsx0_All] :: ow) := hp
  refine st_assign hf rfl rfl (by decide) ?_
  clear hf; intro a ha hf; clear ha
  refine st_nil hf ?_
  refine th_n ?_
  refine wp_seq ?_
  refine wp_seq ?_
  refine wp_reg ?_
  refine st_fa (o' := 0) hf (by decide) (off := 0) (sz := 1) (by kernel_rfl) (by decide) rfl rfl (hp.ob (i := 0) rfl) rfl ?_
  clear hf; intro a ha hf; clear ha
  refine st_ldO (u := .int .u8 f1_Kind) hf (by decide) pl5 rfl rfl (hp.ob (i := 0) rfl) rfl ?_
  clear hf; intro a ha hf; clear ha
  refine st_ineq hf (by decide) rfl rfl rfl ?_
  clear hf; intro a ha hf; clear ha
  refine st_move hf rfl rfl (by decide) ?_
  clear hf; intro a ha hf; clear ha
  refine wpList_cut 3 (fun a w => Fr 111 a [(0, osx0), (3, optr v3 0), (18, .bool ((f1_Kind != (2 : Int)) || f1_More))] ∧ Hp S w0 w (Res.obj 31 v3 [.int .u8 f1_Kind, .int .u8 f1_Number, .bool f1_More, .string f1_Body] :: Res.sl (Ek.pair Ek.str (Ek.pair (Ek.int .i64) Ek.bool)) 83 vsx0_All sx0_All :: Res.obj 53 osx0 [.int .i64 sx0_Window, .int .i64 sx0_Wait, .int .i64 sx0_Now, vsx0_All] :: ow)) ?_ ?_
  · rcases Bool.eq_false_or_eq_true (f1_Kind != (2 : Int)) with hb6 | hb6
    · skip
      refine st_skip hf (wantN hf rfl rfl hb6) rfl (by decide) ?_ rfl
      clear hf; intro a hf
      refine st_skip hf (wantN hf rfl rfl hb6) rfl (by decide) ?_ rfl
      clear hf; intro a hf
      refine st_pick (v := .bool true) hf rfl rfl (fun hb' => ?_) (fun hb' => ?_) (by decide) ?_
      · rfl
      · exact absurd (hb6.symm.trans hb') (by decide)
      clear hf; intro a ha hf; clear ha
      refine st_nil hf (th_n ?_)
      exact ⟨hf.sub ⟨rfl, rfl, (by rw [hb6]; rfl), trivial⟩, hp⟩
    refine st_fa (o' := 2) hf (by decide) (off := 2) (sz := 1) (by kernel_rfl) (by decide) (wantY hf rfl rfl hb6) rfl (hp.ob (i := 0) rfl) rfl ?_
    clear hf; intro a ha hf; clear ha
    refine st_ldO (u := .bool f1_More) hf (by decide) pl4 (wantY hf rfl rfl hb6) rfl (hp.ob (i := 0) rfl) rfl ?_
    clear hf; intro a ha hf; clear ha
    refine st_pick (v := .bool f1_More) hf rfl rfl (fun hb' => ?_) (fun hb' => ?_) (by decide) ?_
    · exact absurd (hb6.symm.trans hb') (by decide)
    · rfl
    clear hf; intro a ha hf; clear ha
    refine st_nil hf (th_n ?_)
    exact ⟨hf.sub ⟨rfl, rfl, (by rw [hb6]; rfl), trivial⟩, hp⟩
  rintro a w ⟨hf, hp⟩
  refine st_move hf rfl rfl (by decide) ?_
  clear hf; intro a ha hf; clear ha
  refine wpList_cut 5 (fun a w => Fr 111 a [(0, osx0), (3, optr v3 0), (24, .bool (((f1_Kind != (2 : Int)) || f1_More) || ((f1_Body.size : Int) != (16 : Int))))] ∧ Hp S w0 w (Res.obj 31 v3 [.int .u8 f1_Kind, .int .u8 f1_Number, .bool f1_More, .string f1_Body] :: Res.sl (Ek.pair Ek.str (Ek.pair (Ek.int .i64) Ek.bool)) 83 vsx0_All sx0_All :: Res.obj 53 osx0 [.int .i64 sx0_Window, .int .i64 sx0_Wait, .int .i64 sx0_Now, vsx0_All] :: ow)) ?_ ?_
  · rcases Bool.eq_false_or_eq_true ((f1_Kind != (2 : Int)) || f1_More) with hb8 | hb8
    · skip
      refine st_skip hf (wantN hf rfl rfl hb8) rfl (by decide) ?_ rfl
      clear hf; intro a hf
      refine st_skip hf (wantN hf rfl rfl hb8) rfl (by decide) ?_ rfl
      clear hf; intro a hf
      refine st_skip hf (wantN hf rfl rfl hb8) rfl (by decide) ?_ rfl
      clear hf; intro a hf
      refine st_skip hf (wantN hf rfl rfl hb8) rfl (by decide) ?_ rfl
      clear hf; intro a hf
      refine st_pick (v := .bool true) hf rfl rfl (fun hb' => ?_) (fun hb' => ?_) (by decide) ?_
      · rfl
      · exact absurd (hb8.symm.trans hb') (by decide)
      clear hf; intro a ha hf; clear ha
      refine st_nil hf (th_n ?_)
      exact ⟨hf.sub ⟨rfl, rfl, (by rw [hb8]; rfl), trivial⟩, hp⟩
    refine st_fa (o' := 3) hf (by decide) (off := 3) (sz := 1) (by kernel_rfl) (by decide) (wantY hf rfl rfl hb8) rfl (hp.ob (i := 0) rfl) rfl ?_
    clear hf; intro a ha hf; clear ha
    refine st_ldO (u := .string f1_Body) hf (by decide) pl9 (wantY hf rfl rfl hb8) rfl (hp.ob (i := 0) rfl) rfl ?_
    clear hf; intro a ha hf; clear ha
    refine st_slen hf (by decide) Try.underlying9 (wantY hf rfl rfl hb8) rfl ?_
    clear hf; intro a ha hf; clear ha
    refine st_ineq hf (by decide) (wantY hf rfl rfl hb8) rfl rfl ?_
    clear hf; intro a ha hf; clear ha
    refine st_pick (v := .bool ((f1_Body.size : Int) != (16 : Int))) hf rfl rfl (fun hb' => ?_) (fun hb' => ?_) (by decide) ?_
    · exact absurd (hb8.symm.trans hb') (by decide)
    · rfl
    clear hf; intro a ha hf; clear ha
    refine st_nil hf (th_n ?_)
    exact ⟨hf.sub ⟨rfl, rfl, (by rw [hb8]; rfl), trivial⟩, hp⟩
  rintro a w ⟨hf, hp⟩
  refine st_nil hf ?_
  refine th_n ?_
  refine wp_if hf rfl (fun hb => ?_) (fun hb => ?_)
  · replace h := ifT h hb
    refine wp_seq ?_
    refine wp_reg ?_
    refine st_assign hf rfl rfl (by decide) ?_
    clear hf; intro a ha hf; clear ha
    refine st_nil hf ?_
    refine th_n ?_
    refine wp_ret ?_
    refine th_r ?_
    obtain rfl := Option.some.inj h
    have hp : Hp _ _ _ (Res.sl (Ek.pair Ek.str (Ek.pair (Ek.int .i64) Ek.bool)) 83 vsx0_All sx0_All :: Res.obj 53 osx0 [.int .i64 sx0_Window, .int .i64 sx0_Wait, .int .i64 sx0_Now, vsx0_All] :: ow) := Hp.sel (pre := [Res.obj 31 v3 [.int .u8 f1_Kind, .int .u8 f1_Number, .bool f1_More, .string f1_Body], Res.sl (Ek.pair Ek.str (Ek.pair (Ek.int .i64) Ek.bool)) 83 vsx0_All sx0_All, Res.obj 53 osx0 [.int .i64 sx0_Window, .int .i64 sx0_Wait, .int .i64 sx0_Now, vsx0_All]]) (tail := ow) (rs' := [Res.sl (Ek.pair Ek.str (Ek.pair (Ek.int .i64) Ek.bool)) 83 vsx0_All sx0_All, Res.obj 53 osx0 [.int .i64 sx0_Window, .int .i64 sx0_Wait, .int .i64 sx0_Now, vsx0_All]]) hp [1, 2] (by decide) (by simp) rfl
    exact ⟨rfl, ⟨_, hf.sub ⟨rfl, trivial⟩, hp⟩⟩
  replace h := ifF h hb
  refine wp_skip ?_
  refine th_n ?_
  refine wp_seq ?_
  refine wp_reg ?_
  refine st_move hf rfl rfl (by decide) ?_
  clear hf; intro a ha hf; clear ha
  obtain ⟨q9, hcall10, h⟩ := bnd h
  obtain ⟨S11, hp12, rd13, up14, bk15⟩ := Hp.lendS hp (i := 1) rfl
  obtain ⟨S16, hp17, rd18, up19, bk20⟩ := Hp.lendO hp12 (i := 1) rfl
  refine st_call hf (by decide) Try.func22 rfl rfl rfl rfl rfl (f_foghornref28_Sender_Front_c hp17 _ _ _ _ _ ((rd13.now hp12).mono up19) _ rd18 hcall10) ?_
  rintro _ w ⟨rfl, hp0⟩
  have hp0 := bk20 _ _ hp0
  have hp0 := bk15 _ _ hp0
  clear hp; have hp := hp0; clear hp0
  replace hp : Hp _ _ _ (Res.sl (Ek.pair Ek.str (Ek.pair (Ek.int .i64) Ek.bool)) 83 vsx0_All sx0_All :: Res.obj 53 osx0 [.int .i64 sx0_Window, .int .i64 sx0_Wait, .int .i64 sx0_Now, vsx0_All] :: Res.obj 31 v3 [.int .u8 f1_Kind, .int .u8 f1_Number, .bool f1_More, .string f1_Body] :: ow) := hp
  refine ⟨_, rfl, ?_⟩
  clear hf; intro a hf
  refine st_assign hf rfl rfl (by decide) ?_
  clear hf; intro a ha hf; clear ha
  refine st_nil hf ?_
  refine th_n ?_
  refine wp_seq ?_
  refine wp_reg ?_
  refine st_assign hf rfl rfl (by decide) ?_
  clear hf; intro a ha hf; clear ha
  refine st_nil hf ?_
  refine th_n ?_
  refine wp_seq ?_
  refine wp_seq ?_
  refine wp_reg ?_
  refine st_move hf rfl rfl (by decide) ?_
  clear hf; intro a ha hf; clear ha
  refine st_assign hf rfl rfl (by decide) ?_
  clear hf; intro a ha hf; clear ha
  refine st_nil hf ?_
  refine th_n ?_
  refine wp_block ?_
  obtain ⟨q24, hl, h⟩ := bnd h
  have hp : Hp _ _ _ (Res.obj 53 osx0 [.int .i64 sx0_Window, .int .i64 sx0_Wait, .int .i64 sx0_Now, vsx0_All] :: Res.sl (Ek.pair Ek.str (Ek.pair (Ek.int .i64) Ek.bool)) 83 vsx0_All sx0_All :: Res.obj 31 v3 [.int .u8 f1_Kind, .int .u8 f1_Number, .bool f1_More, .string f1_Body] :: ow) := Hp.sel (pre := [Res.sl (Ek.pair Ek.str (Ek.pair (Ek.int .i64) Ek.bool)) 83 vsx0_All sx0_All, Res.obj 53 osx0 [.int .i64 sx0_Window, .int .i64 sx0_Wait, .int .i64 sx0_Now, vsx0_All], Res.obj 31 v3 [.int .u8 f1_Kind, .int .u8 f1_Number, .bool f1_More, .string f1_Body]]) (tail := ow) (rs' := [Res.obj 53 osx0 [.int .i64 sx0_Window, .int .i64 sx0_Wait, .int .i64 sx0_Now, vsx0_All], Res.sl (Ek.pair Ek.str (Ek.pair (Ek.int .i64) Ek.bool)) 83 vsx0_All sx0_All, Res.obj 31 v3 [.int .u8 f1_Kind, .int .u8 f1_Number, .bool f1_More, .string f1_Body]]) hp [1, 0, 2] (by decide) (by simp) rfl
  refine wp_loop_pure (f := (f_foghornref28_Sender_Hear.s1 sx0_Window sx0_All q9)) (s := ((0 : Int), q9)) (fun s a w => Fr 111 a [(0, osx0), (3, optr v3 0), (5, .int .i64 q9), (6, .int .i64 s.1), (7, .int .i64 s.2)] ∧ Hp S w0 w (Res.obj 53 osx0 [.int .i64 sx0_Window, .int .i64 sx0_Wait, .int .i64 sx0_Now, vsx0_All] :: Res.sl (Ek.pair Ek.str (Ek.pair (Ek.int .i64) Ek.bool)) 83 vsx0_All sx0_All :: Res.obj 31 v3 [.int .u8 f1_Kind, .int .u8 f1_Number, .bool f1_More, .string f1_Body] :: ow)) (fun q e a w => e = .exit 0 ∧ Fr 111 a [(0, osx0), (3, optr v3 0), (5, .int .i64 q9), (6, .int .i64 q)] ∧ Hp S w0 w (Res.obj 53 osx0 [.int .i64 sx0_Window, .int .i64 sx0_Wait, .int .i64 sx0_Now, vsx0_All] :: Res.sl (Ek.pair Ek.str (Ek.pair (Ek.int .i64) Ek.bool)) 83 vsx0_All sx0_All :: Res.obj 31 v3 [.int .u8 f1_Kind, .int .u8 f1_Number, .bool f1_More, .string f1_Body] :: ow)) ?_ hl ⟨hf.sub ⟨rfl, rfl, rfl, rfl, rfl, trivial⟩, hp⟩ ?_
  · clear hl hf hp
    intro s x a w h hI
    obtain ⟨k6, i7⟩ := s
    obtain ⟨hf, hp⟩ : Fr 111 a [(0, osx0), (3, optr v3 0), (5, .int .i64 q9), (6, .int .i64 k6), (7, .int .i64 i7)] ∧ Hp S w0 w (Res.obj 53 osx0 [.int .i64 sx0_Window, .int .i64 sx0_Wait, .int .i64 sx0_Now, vsx0_All] :: Res.sl (Ek.pair Ek.str (Ek.pair (Ek.int .i64) Ek.bool)) 83 vsx0_All sx0_All :: Res.obj 31 v3 [.int .u8 f1_Kind, .int .u8 f1_Number, .bool f1_More, .string f1_Body] :: ow) := hI
    replace h : f_foghornref28_Sender_Hear.s1c sx0_Window sx0_All q9 k6 i7 = some x := h
    unfold f_foghornref28_Sender_Hear.s1c at h
    refine wp_seq ?_
    refine wp_seq ?_
    refine wp_reg ?_
    refine st_move hf rfl rfl (by decide) ?_
    clear hf; intro a ha hf; clear ha
    refine st_move hf rfl rfl (by decide) ?_
    clear hf; intro a ha hf; clear ha
    refine st_nilV hf (by decide) rfl rfl (hp.ob (i := 0) rfl) ?_
    clear hf; intro a ha hf; clear ha
    refine st_fa (o' := 3) hf (by decide) (off := 3) (sz := 1) (by kernel_rfl) (by decide) rfl rfl (hp.ob (i := 0) rfl) rfl ?_
    clear hf; intro a ha hf; clear ha
    refine st_ldO (u := vsx0_All) hf (by decide) pl51 rfl rfl (hp.ob (i := 0) rfl) rfl ?_
    clear hf; intro a ha hf; clear ha
    refine st_len (E := (Ek.pair Ek.str (Ek.pair (Ek.int .i64) Ek.bool))) hf (by decide) Try.underlying51 rfl rfl (hp.sl (i := 1) rfl) ?_
    clear hf; intro a ha hf; clear ha
    refine st_ilss hf (by decide) rfl rfl rfl ?_
    clear hf; intro a ha hf; clear ha
    refine st_move hf rfl rfl (by decide) ?_
    clear hf; intro a ha hf; clear ha
    refine wpList_cut 9 (fun a w => Fr 111 a [(0, osx0), (3, optr v3 0), (5, .int .i64 q9), (6, .int .i64 k6), (7, .int .i64 i7), (44, .bool ((decide (i7 < (sx0_All.length : Int))) && (decide (i7 < (IntKind.i64.wrap (q9 + sx0_Window))))))] ∧ Hp S w0 w (Res.obj 53 osx0 [.int .i64 sx0_Window, .int .i64 sx0_Wait, .int .i64 sx0_Now, vsx0_All] :: Res.sl (Ek.pair Ek.str (Ek.pair (Ek.int .i64) Ek.bool)) 83 vsx0_All sx0_All :: Res.obj 31 v3 [.int .u8 f1_Kind, .int .u8 f1_Number, .bool f1_More, .string f1_Body] :: ow)) ?_ ?_
    · rcases Bool.eq_false_or_eq_true (decide (i7 < (sx0_All.length : Int))) with hb22 | hb22
      · skip
        refine st_move hf (wantY hf rfl rfl hb22) rfl (by decide) ?_
        clear hf; intro a ha hf; clear ha
        refine st_move hf (wantY hf rfl rfl hb22) rfl (by decide) ?_
        clear hf; intro a ha hf; clear ha
        refine st_move hf (wantY hf rfl rfl hb22) rfl (by decide) ?_
        clear hf; intro a ha hf; clear ha
        refine st_nilV hf (by decide) (wantY hf rfl rfl hb22) rfl (hp.ob (i := 0) rfl) ?_
        clear hf; intro a ha hf; clear ha
        refine st_fa (o' := 0) hf (by decide) (off := 0) (sz := 1) (by kernel_rfl) (by decide) (wantY hf rfl rfl hb22) rfl (hp.ob (i := 0) rfl) rfl ?_
        clear hf; intro a ha hf; clear ha
        refine st_ldO (u := .int .i64 sx0_Window) hf (by decide) pl3 (wantY hf rfl rfl hb22) rfl (hp.ob (i := 0) rfl) rfl ?_
        clear hf; intro a ha hf; clear ha
        refine st_iadd hf (by decide) (wantY hf rfl rfl hb22) rfl rfl ?_
        clear hf; intro a ha hf; clear ha
        refine st_ilss hf (by decide) (wantY hf rfl rfl hb22) rfl rfl ?_
        clear hf; intro a ha hf; clear ha
        refine st_pick (v := .bool (decide (i7 < (IntKind.i64.wrap (q9 + sx0_Window))))) hf rfl rfl (fun hb' => ?_) (fun hb' => ?_) (by decide) ?_
        · rfl
        · exact absurd (hb22.symm.trans hb') (by decide)
        clear hf; intro a ha hf; clear ha
        refine st_nil hf (th_n ?_)
        exact ⟨hf.sub ⟨rfl, rfl, rfl, rfl, rfl, (by rw [hb22]; rfl), trivial⟩, hp⟩
      refine st_skip hf (wantN hf rfl rfl hb22) rfl (by decide) ?_ rfl
      clear hf; intro a hf
      refine st_skip hf (wantN hf rfl rfl hb22) rfl (by decide) ?_ rfl
      clear hf; intro a hf
      refine st_skip hf (wantN hf rfl rfl hb22) rfl (by decide) ?_ rfl
      clear hf; intro a hf
      refine st_skip hf (wantN hf rfl rfl hb22) rfl (by decide) ?_ rfl
      clear hf; intro a hf
      refine st_skip hf (wantN hf rfl rfl hb22) rfl (by decide) ?_ rfl
      clear hf; intro a hf
      refine st_skip hf (wantN hf rfl rfl hb22) rfl (by decide) ?_ rfl
      clear hf; intro a hf
      refine st_skip hf (wantN hf rfl rfl hb22) rfl (by decide) ?_ rfl
      clear hf; intro a hf
      refine st_skip hf (wantN hf rfl rfl hb22) rfl (by decide) ?_ rfl
      clear hf; intro a hf
      refine st_pick (v := .bool false) hf rfl rfl (fun hb' => ?_) (fun hb' => ?_) (by decide) ?_
      · exact absurd (hb22.symm.trans hb') (by decide)
      · rfl
      clear hf; intro a ha hf; clear ha
      refine st_nil hf (th_n ?_)
      exact ⟨hf.sub ⟨rfl, rfl, rfl, rfl, rfl, (by rw [hb22]; rfl), trivial⟩, hp⟩
    rintro a w ⟨hf, hp⟩
    refine st_nil hf ?_
    refine th_n ?_
    refine wp_if hf rfl (fun hb => ?_) (fun hb => ?_)
    · replace h := ifT h hb
      refine wp_skip ?_
      refine th_n ?_
      refine wp_seq ?_
      refine wp_block ?_
      refine wp_seq ?_
      refine wp_reg ?_
      refine st_move hf rfl rfl (by decide) ?_
      clear hf; intro a ha hf; clear ha
      refine st_nilV hf (by decide) rfl rfl (hp.ob (i := 0) rfl) ?_
      clear hf; intro a ha hf; clear ha
      refine st_fa (o' := 3) hf (by decide) (off := 3) (sz := 1) (by kernel_rfl) (by decide) rfl rfl (hp.ob (i := 0) rfl) rfl ?_
      clear hf; intro a ha hf; clear ha
      refine st_ldO (u := vsx0_All) hf (by decide) pl51 rfl rfl (hp.ob (i := 0) rfl) rfl ?_
      clear hf; intro a ha hf; clear ha
      refine st_move hf rfl rfl (by decide) ?_
      clear hf; intro a ha hf; clear ha
      obtain ⟨hc23, h⟩ := chk h
      refine st_index (E := (Ek.pair Ek.str (Ek.pair (Ek.int .i64) Ek.bool))) hf (by decide) Try.underlying51 elt83 rfl rfl rfl (hp.sl (i := 1) rfl) hc23.1 hc23.2 ?_
      clear hf; intro a ha hf; clear ha
      refine st_faP (off := 1) (sz := 1) hf (by decide) (by kernel_rfl) (by decide) rfl rfl (Sl.isP (hp.sl (i := 1) rfl) hc23.1 hc23.2) ?_
      clear hf; intro a ha hf; clear ha
      refine st_ldQ (F := (Ek.int .i64)) (yv := (gt sx0_All i7).2.1) hf (by decide) pl2 (fun x => .int .i64 x) (fun _ _ h => h) rfl rfl (Sl.part (E := (Ek.pair Ek.str (Ek.pair (Ek.int .i64) Ek.bool))) (F := (Ek.int .i64)) (o := 1) (Sub.comp (Sub.snd (E := Ek.str) (F := (Ek.pair (Ek.int .i64) Ek.bool))) (Sub.fst (E := (Ek.int .i64)) (F := Ek.bool))) (hp.sl (i := 1) rfl) hc23.1 hc23.2) ?_
      clear hf; intro a ha hf; clear ha
      refine st_igeq hf (by decide) rfl rfl rfl ?_
      clear hf; intro a ha hf; clear ha
      refine st_nil hf ?_
      refine th_n ?_
      refine wp_if hf rfl (fun hb => ?_) (fun hb => ?_)
      · replace h := ifT h hb
        refine wp_reg ?_
        refine st_move hf rfl rfl (by decide) ?_
        clear hf; intro a ha hf; clear ha
        refine st_iadd hf (by decide) rfl rfl rfl ?_
        clear hf; intro a ha hf; clear ha
        refine st_assign hf rfl rfl (by decide) ?_
        clear hf; intro a ha hf; clear ha
        refine st_nil hf ?_
        refine ib_n ?_
        refine th_n ?_
        refine wp_reg ?_
        refine st_move hf rfl rfl (by decide) ?_
        clear hf; intro a ha hf; clear ha
        refine st_iadd hf (by decide) rfl rfl rfl ?_
        clear hf; intro a ha hf; clear ha
        refine st_assign hf rfl rfl (by decide) ?_
        clear hf; intro a ha hf; clear ha
        refine st_nil hf ?_
        obtain rfl := Option.some.inj h
        exact rnd_l ⟨hf.sub ⟨rfl, rfl, rfl, rfl, rfl, trivial⟩, hp⟩
      replace h := ifF h hb
      refine wp_skip ?_
      refine ib_n ?_
      refine th_n ?_
      refine wp_reg ?_
      refine st_move hf rfl rfl (by decide) ?_
      clear hf; intro a ha hf; clear ha
      refine st_iadd hf (by decide) rfl rfl rfl ?_
      clear hf; intro a ha hf; clear ha
      refine st_assign hf rfl rfl (by decide) ?_
      clear hf; intro a ha hf; clear ha
      refine st_nil hf ?_
      obtain rfl := Option.some.inj h
      exact rnd_l ⟨hf.sub ⟨rfl, rfl, rfl, rfl, rfl, trivial⟩, hp⟩
    replace h := ifF h hb
    refine wp_exit ?_
    refine th_e ?_
    obtain rfl := Option.some.inj h
    exact rnd_r (by simp) ⟨rfl, hf.sub ⟨rfl, rfl, rfl, rfl, trivial⟩, hp⟩
  clear hl hf hp
  intro e a w hne hO
  obtain ⟨rfl, hf, hp⟩ := hO
  refine ib_same ?_
  refine th_n ?_
  refine wp_seq ?_
  refine wp_reg ?_
  refine st_fa (o' := 1) hf (by decide) (off := 1) (sz := 1) (by kernel_rfl) (by decide) rfl rfl (hp.ob (i := 2) rfl) rfl ?_
  clear hf; intro a ha hf; clear ha
  refine st_ldO (u := .int .u8 f1_Number) hf (by decide) pl5 rfl rfl (hp.ob (i := 2) rfl) rfl ?_
  clear hf; intro a ha hf; clear ha
  refine st_conv_ii hf (by decide) (by rw [Try.underlying5]; rfl) Try.underlying3 rfl rfl ?_
  clear hf; intro a ha hf; clear ha
  refine st_move hf rfl rfl (by decide) ?_
  clear hf; intro a ha hf; clear ha
  refine st_irem hf (by decide) rfl rfl rfl (by decide) ?_
  clear hf; intro a ha hf; clear ha
  refine st_isub hf (by decide) rfl rfl rfl ?_
  clear hf; intro a ha hf; clear ha
  refine st_iadd hf (by decide) rfl rfl rfl ?_
  clear hf; intro a ha hf; clear ha
  refine st_irem hf (by decide) rfl rfl rfl (by decide) ?_
  clear hf; intro a ha hf; clear ha
  refine st_assign hf rfl rfl (by decide) ?_
  clear hf; intro a ha hf; clear ha
  refine st_nil hf ?_
  refine th_n ?_
  refine wp_seq ?_
  refine wp_seq ?_
  refine wp_reg ?_
  refine st_move hf rfl rfl (by decide) ?_
  clear hf; intro a ha hf; clear ha
  refine st_move hf rfl rfl (by decide) ?_
  clear hf; intro a ha hf; clear ha
  refine st_igtr hf (by decide) rfl rfl rfl ?_
  clear hf; intro a ha hf; clear ha
  refine st_nil hf ?_
  refine th_n ?_
  refine wp_if hf rfl (fun hb => ?_) (fun hb => ?_)
  · replace h := ifT h hb
    refine wp_seq ?_
    refine wp_reg ?_
    refine st_assign hf rfl rfl (by decide) ?_
    clear hf; intro a ha hf; clear ha
    refine st_nil hf ?_
    refine th_n ?_
    refine wp_ret ?_
    refine th_r ?_
    obtain rfl := Option.some.inj h
    have hp : Hp _ _ _ (Res.sl (Ek.pair Ek.str (Ek.pair (Ek.int .i64) Ek.bool)) 83 vsx0_All sx0_All :: Res.obj 53 osx0 [.int .i64 sx0_Window, .int .i64 sx0_Wait, .int .i64 sx0_Now, vsx0_All] :: ow) := Hp.sel (pre := [Res.obj 53 osx0 [.int .i64 sx0_Window, .int .i64 sx0_Wait, .int .i64 sx0_Now, vsx0_All], Res.sl (Ek.pair Ek.str (Ek.pair (Ek.int .i64) Ek.bool)) 83 vsx0_All sx0_All, Res.obj 31 v3 [.int .u8 f1_Kind, .int .u8 f1_Number, .bool f1_More, .string f1_Body]]) (tail := ow) (rs' := [Res.sl (Ek.pair Ek.str (Ek.pair (Ek.int .i64) Ek.bool)) 83 vsx0_All sx0_All, Res.obj 53 osx0 [.int .i64 sx0_Window, .int .i64 sx0_Wait, .int .i64 sx0_Now, vsx0_All]]) hp [1, 0] (by decide) (by simp) rfl
    exact ⟨rfl, ⟨_, hf.sub ⟨rfl, trivial⟩, hp⟩⟩
  replace h := ifF h hb
  refine wp_skip ?_
  refine th_n ?_
  refine wp_seq ?_
  refine wp_seq ?_
  refine wp_reg ?_
  refine st_assign hf rfl rfl (by decide) ?_
  clear hf; intro a ha hf; clear ha
  refine st_nil hf ?_
  refine th_n ?_
  refine wp_block ?_
  obtain ⟨q32, hl, h⟩ := bnd h
  have hp : Hp _ _ _ (Res.sl (Ek.pair Ek.str (Ek.pair (Ek.int .i64) Ek.bool)) 83 vsx0_All sx0_All :: Res.obj 53 osx0 [.int .i64 sx0_Window, .int .i64 sx0_Wait, .int .i64 sx0_Now, vsx0_All] :: Res.obj 31 v3 [.int .u8 f1_Kind, .int .u8 f1_Number, .bool f1_More, .string f1_Body] :: ow) := Hp.sel (pre := [Res.obj 53 osx0 [.int .i64 sx0_Window, .int .i64 sx0_Wait, .int .i64 sx0_Now, vsx0_All], Res.sl (Ek.pair Ek.str (Ek.pair (Ek.int .i64) Ek.bool)) 83 vsx0_All sx0_All, Res.obj 31 v3 [.int .u8 f1_Kind, .int .u8 f1_Number, .bool f1_More, .string f1_Body]]) (tail := ow) (rs' := [Res.sl (Ek.pair Ek.str (Ek.pair (Ek.int .i64) Ek.bool)) 83 vsx0_All sx0_All, Res.obj 53 osx0 [.int .i64 sx0_Window, .int .i64 sx0_Wait, .int .i64 sx0_Now, vsx0_All], Res.obj 31 v3 [.int .u8 f1_Kind, .int .u8 f1_Number, .bool f1_More, .string f1_Body]]) hp [1, 0, 2] (by decide) (by simp) rfl
  refine wp_loop_pure (f := (f_foghornref28_Sender_Hear.s2 f1_Number q9)) (s := (sx0_Window, sx0_Wait, sx0_Now, sx0_All, (0 : Int))) (fun s a w => ∃ (v25 : Value), Fr 111 a [(0, osx0), (3, optr v3 0), (5, .int .i64 q9), (6, .int .i64 q24), (8, .int .i64 (((IntKind.i64.wrap ((IntKind.i64.wrap ((IntKind.i64.wrap f1_Number) - ((q9).tmod (256 : Int)))) + (256 : Int)))).tmod (256 : Int))), (9, .int .i64 s.2.2.2.2)] ∧ Hp S w0 w (Res.sl (Ek.pair Ek.str (Ek.pair (Ek.int .i64) Ek.bool)) 83 v25 s.2.2.2.1 :: Res.obj 53 osx0 [.int .i64 s.1, .int .i64 s.2.1, .int .i64 s.2.2.1, v25] :: Res.obj 31 v3 [.int .u8 f1_Kind, .int .u8 f1_Number, .bool f1_More, .string f1_Body] :: ow)) (fun q e a w => e = .exit 2 ∧ ∃ (v28 : Value), Fr 111 a [(0, osx0), (3, optr v3 0), (5, .int .i64 q9), (6, .int .i64 q24), (8, .int .i64 (((IntKind.i64.wrap ((IntKind.i64.wrap ((IntKind.i64.wrap f1_Number) - ((q9).tmod (256 : Int)))) + (256 : Int)))).tmod (256 : Int)))] ∧ Hp S w0 w (Res.sl (Ek.pair Ek.str (Ek.pair (Ek.int .i64) Ek.bool)) 83 v28 q.2.2.2 :: Res.obj 53 osx0 [.int .i64 q.1, .int .i64 q.2.1, .int .i64 q.2.2.1, v28] :: Res.obj 31 v3 [.int .u8 f1_Kind, .int .u8 f1_Number, .bool f1_More, .string f1_Body] :: ow)) ?_ hl ⟨_, hf.sub ⟨rfl, rfl, rfl, rfl, rfl, rfl, trivial⟩, hp⟩ ?_
  · clear hl hf hp
    intro s x a w h hI
    obtain ⟨sx0c_0, sx0c_1, sx0c_2, sx0c_3, i9⟩ := s
    obtain ⟨v25, hf, hp⟩ : ∃ (v25 : Value), Fr 111 a [(0, osx0), (3, optr v3 0), (5, .int .i64 q9), (6, .int .i64 q24), (8, .int .i64 (((IntKind.i64.wrap ((IntKind.i64.wrap ((IntKind.i64.wrap f1_Number) - ((q9).tmod (256 : Int)))) + (256 : Int)))).tmod (256 : Int))), (9, .int .i64 i9)] ∧ Hp S w0 w (Res.sl (Ek.pair Ek.str (Ek.pair (Ek.int .i64) Ek.bool)) 83 v25 sx0c_3 :: Res.obj 53 osx0 [.int .i64 sx0c_0, .int .i64 sx0c_1, .int .i64 sx0c_2, v25] :: Res.obj 31 v3 [.int .u8 f1_Kind, .int .u8 f1_Number, .bool f1_More, .string f1_Body] :: ow) := hI
    replace h : f_foghornref28_Sender_Hear.s2c f1_Number q9 sx0c_0 sx0c_1 sx0c_2 sx0c_3 i9 = some x := h
    unfold f_foghornref28_Sender_Hear.s2c at h
    refine wp_seq ?_
    refine wp_seq ?_
    refine wp_reg ?_
    refine st_move hf rfl rfl (by decide) ?_
    clear hf; intro a ha hf; clear ha
    refine st_move hf rfl rfl (by decide) ?_
    clear hf; intro a ha hf; clear ha
    refine st_ilss hf (by decide) rfl rfl rfl ?_
    clear hf; intro a ha hf; clear ha
    refine st_nil hf ?_
    refine th_n ?_
    refine wp_if hf rfl (fun hb => ?_) (fun hb => ?_)
    · replace h := ifT h hb
      refine wp_skip ?_
      refine th_n ?_
      refine wp_seq ?_
      refine wp_block ?_
      refine wp_reg ?_
      refine st_move hf rfl rfl (by decide) ?_
      clear hf; intro a ha hf; clear ha
      refine st_nilV hf (by decide) rfl rfl (hp.ob (i := 1) rfl) ?_
      clear hf; intro a ha hf; clear ha
      refine st_fa (o' := 3) hf (by decide) (off := 3) (sz := 1) (by kernel_rfl) (by decide) rfl rfl (hp.ob (i := 1) rfl) rfl ?_
      clear hf; intro a ha hf; clear ha
      refine st_ldO (u := v25) hf (by decide) pl51 rfl rfl (hp.ob (i := 1) rfl) rfl ?_
      clear hf; intro a ha hf; clear ha
      refine st_move hf rfl rfl (by decide) ?_
      clear hf; intro a ha hf; clear ha
      refine st_move hf rfl rfl (by decide) ?_
      clear hf; intro a ha hf; clear ha
      refine st_iadd hf (by decide) rfl rfl rfl ?_
      clear hf; intro a ha hf; clear ha
      obtain ⟨hc31, h⟩ := chk h
      refine st_index (E := (Ek.pair Ek.str (Ek.pair (Ek.int .i64) Ek.bool))) hf (by decide) Try.underlying51 elt83 rfl rfl rfl (hp.sl (i := 0) rfl) hc31.1 hc31.2 ?_
      clear hf; intro a ha hf; clear ha
      refine st_faP (off := 2) (sz := 1) hf (by decide) (by kernel_rfl) (by decide) rfl rfl (Sl.isP (hp.sl (i := 0) rfl) hc31.1 hc31.2) ?_
      clear hf; intro a ha hf; clear ha
      refine st_stQ (E := (Ek.pair Ek.str (Ek.pair (Ek.int .i64) Ek.bool))) (F := Ek.bool) (o := 2) (Sub.comp (Sub.snd (E := Ek.str) (F := (Ek.pair (Ek.int .i64) Ek.bool))) (Sub.snd (E := (Ek.int .i64)) (F := Ek.bool))) hf (by kernel_rfl) hp (i := 0) rfl rfl rfl rfl rfl hc31.1 hc31.2 ?_
      clear hf; intro a w hf hp0; clear hp; have hp := hp0; clear hp0
      replace hp : Hp _ _ _ (Res.sl (Ek.pair Ek.str (Ek.pair (Ek.int .i64) Ek.bool)) 83 v25 (sx0c_3.set ((IntKind.i64.wrap (q9 + i9))).toNat ((gt sx0c_3 (IntKind.i64.wrap (q9 + i9))).1, (gt sx0c_3 (IntKind.i64.wrap (q9 + i9))).2.1, true)) :: Res.obj 53 osx0 [.int .i64 sx0c_0, .int .i64 sx0c_1, .int .i64 sx0c_2, v25] :: Res.obj 31 v3 [.int .u8 f1_Kind, .int .u8 f1_Number, .bool f1_More, .string f1_Body] :: ow) := hp
      refine st_nil hf ?_
      refine ib_n ?_
      refine th_n ?_
      refine wp_reg ?_
      refine st_move hf rfl rfl (by decide) ?_
      clear hf; intro a ha hf; clear ha
      refine st_iadd hf (by decide) rfl rfl rfl ?_
      clear hf; intro a ha hf; clear ha
      refine st_assign hf rfl rfl (by decide) ?_
      clear hf; intro a ha hf; clear ha
      refine st_nil hf ?_
      obtain rfl := Option.some.inj h
      exact rnd_l ⟨_, hf.sub ⟨rfl, rfl, rfl, rfl, rfl, rfl, trivial⟩, hp⟩
    replace h := ifF h hb
    refine wp_exit ?_
    refine th_e ?_
    obtain rfl := Option.some.inj h
    exact rnd_r (by simp) ⟨rfl, _, hf.sub ⟨rfl, rfl, rfl, rfl, rfl, trivial⟩, hp⟩
  clear hl hf hp
  intro e a w hne hO
  obtain ⟨rfl, v28, hf, hp⟩ := hO
  refine ib_same ?_
  refine th_n ?_
  refine wp_seq ?_
  refine wp_seq ?_
  refine wp_reg ?_
  refine st_assign hf rfl rfl (by decide) ?_
  clear hf; intro a ha hf; clear ha
  refine st_nil hf ?_
  refine th_n ?_
  refine wp_block ?_
  obtain ⟨q45, hl, h⟩ := bnd h
  refine wp_loop_pure (f := (f_foghornref28_Sender_Hear.s3 f1_Number f1_Body q9 q24)) (s := (q32.1, q32.2.1, q32.2.2.1, q32.2.2.2, (0 : Int))) (fun s a w => ∃ (v33 : Value), Fr 111 a [(0, osx0), (3, optr v3 0), (5, .int .i64 q9), (6, .int .i64 q24), (8, .int .i64 (((IntKind.i64.wrap ((IntKind.i64.wrap ((IntKind.i64.wrap f1_Number) - ((q9).tmod (256 : Int)))) + (256 : Int)))).tmod (256 : Int))), (10, .int .i64 s.2.2.2.2)] ∧ Hp S w0 w (Res.sl (Ek.pair Ek.str (Ek.pair (Ek.int .i64) Ek.bool)) 83 v33 s.2.2.2.1 :: Res.obj 53 osx0 [.int .i64 s.1, .int .i64 s.2.1, .int .i64 s.2.2.1, v33] :: Res.obj 31 v3 [.int .u8 f1_Kind, .int .u8 f1_Number, .bool f1_More, .string f1_Body] :: ow)) (fun q e a w => e = .exit 4 ∧ ∃ (v36 : Value), Fr 111 a [(0, osx0)] ∧ Hp S w0 w (Res.sl (Ek.pair Ek.str (Ek.pair (Ek.int .i64) Ek.bool)) 83 v36 q.2.2.2 :: Res.obj 53 osx0 [.int .i64 q.1, .int .i64 q.2.1, .int .i64 q.2.2.1, v36] :: ow)) ?_ hl ⟨_, hf.sub ⟨rfl, rfl, rfl, rfl, rfl, rfl, trivial⟩, hp⟩ ?_
  · clear hl hf hp
    intro s x a w h hI
    obtain ⟨sx0c_0, sx0c_1, sx0c_2, sx0c_3, i10⟩ := s
    obtain ⟨v33, hf, hp⟩ : ∃ (v33 : Value), Fr 111 a [(0, osx0), (3, optr v3 0), (5, .int .i64 q9), (6, .int .i64 q24), (8, .int .i64 (((IntKind.i64.wrap ((IntKind.i64.wrap ((IntKind.i64.wrap f1_Number) - ((q9).tmod (256 : Int)))) + (256 : Int)))).tmod (256 : Int))), (10, .int .i64 i10)] ∧ Hp S w0 w (Res.sl (Ek.pair Ek.str (Ek.pair (Ek.int .i64) Ek.bool)) 83 v33 sx0c_3 :: Res.obj 53 osx0 [.int .i64 sx0c_0, .int .i64 sx0c_1, .int .i64 sx0c_2, v33] :: Res.obj 31 v3 [.int .u8 f1_Kind, .int .u8 f1_Number, .bool f1_More, .string f1_Body] :: ow) := hI
    replace h : f_foghornref28_Sender_Hear.s3c f1_Number f1_Body q9 q24 sx0c_0 sx0c_1 sx0c_2 sx0c_3 i10 = some x := h
    unfold f_foghornref28_Sender_Hear.s3c at h
    refine wp_seq ?_
    refine wp_seq ?_
    refine wp_reg ?_
    refine st_move hf rfl rfl (by decide) ?_
    clear hf; intro a ha hf; clear ha
    refine st_ilss hf (by decide) rfl rfl rfl ?_
    clear hf; intro a ha hf; clear ha
    refine st_nil hf ?_
    refine th_n ?_
    refine wp_if hf rfl (fun hb => ?_) (fun hb => ?_)
    · replace h := ifT h hb
      refine wp_skip ?_
      refine th_n ?_
      refine wp_seq ?_
      refine wp_block ?_
      refine wp_seq ?_
      refine wp_reg ?_
      refine st_move hf rfl rfl (by decide) ?_
      clear hf; intro a ha hf; clear ha
      refine st_move hf rfl rfl (by decide) ?_
      clear hf; intro a ha hf; clear ha
      refine st_iadd hf (by decide) rfl rfl rfl ?_
      clear hf; intro a ha hf; clear ha
      refine st_iadd hf (by decide) rfl rfl rfl ?_
      clear hf; intro a ha hf; clear ha
      refine st_move hf rfl rfl (by decide) ?_
      clear hf; intro a ha hf; clear ha
      refine st_iadd hf (by decide) rfl rfl rfl ?_
      clear hf; intro a ha hf; clear ha
      refine st_assign hf rfl rfl (by decide) ?_
      clear hf; intro a ha hf; clear ha
      refine st_nil hf ?_
      refine th_n ?_
      refine wp_seq ?_
      refine wp_reg ?_
      refine st_move hf rfl rfl (by decide) ?_
      clear hf; intro a ha hf; clear ha
      refine st_move hf rfl rfl (by decide) ?_
      clear hf; intro a ha hf; clear ha
      refine st_move hf rfl rfl (by decide) ?_
      clear hf; intro a ha hf; clear ha
      refine st_iadd hf (by decide) rfl rfl rfl ?_
      clear hf; intro a ha hf; clear ha
      refine st_ilss hf (by decide) rfl rfl rfl ?_
      clear hf; intro a ha hf; clear ha
      refine st_move hf rfl rfl (by decide) ?_
      clear hf; intro a ha hf; clear ha
      obtain ⟨z41, hz39, h⟩ := bnd h
      refine wpList_cut 5 (fun a w => Fr 111 a [(0, osx0), (3, optr v3 0), (5, .int .i64 q9), (6, .int .i64 q24), (8, .int .i64 (((IntKind.i64.wrap ((IntKind.i64.wrap ((IntKind.i64.wrap f1_Number) - ((q9).tmod (256 : Int)))) + (256 : Int)))).tmod (256 : Int))), (10, .int .i64 i10), (11, .int .i64 (IntKind.i64.wrap ((IntKind.i64.wrap ((IntKind.i64.wrap (q9 + (((IntKind.i64.wrap ((IntKind.i64.wrap ((IntKind.i64.wrap f1_Number) - ((q9).tmod (256 : Int)))) + (256 : Int)))).tmod (256 : Int)))) + (1 : Int))) + i10))), (103, .bool z41)] ∧ Hp S w0 w (Res.sl (Ek.pair Ek.str (Ek.pair (Ek.int .i64) Ek.bool)) 83 v33 sx0c_3 :: Res.obj 53 osx0 [.int .i64 sx0c_0, .int .i64 sx0c_1, .int .i64 sx0c_2, v33] :: Res.obj 31 v3 [.int .u8 f1_Kind, .int .u8 f1_Number, .bool f1_More, .string f1_Body] :: ow)) ?_ ?_
      · rcases Bool.eq_false_or_eq_true (decide ((IntKind.i64.wrap ((IntKind.i64.wrap ((IntKind.i64.wrap (q9 + (((IntKind.i64.wrap ((IntKind.i64.wrap ((IntKind.i64.wrap f1_Number) - ((q9).tmod (256 : Int)))) + (256 : Int)))).tmod (256 : Int)))) + (1 : Int))) + i10)) < (IntKind.i64.wrap (q9 + q24)))) with hb40 | hb40
        · skip
          replace hz39 := ifT hz39 hb40
          refine st_fa (o' := 3) hf (by decide) (off := 3) (sz := 1) (by kernel_rfl) (by decide) (wantY hf rfl rfl hb40) rfl (hp.ob (i := 2) rfl) rfl ?_
          clear hf; intro a ha hf; clear ha
          refine st_ldO (u := .string f1_Body) hf (by decide) pl9 (wantY hf rfl rfl hb40) rfl (hp.ob (i := 2) rfl) rfl ?_
          clear hf; intro a ha hf; clear ha
          refine st_move hf (wantY hf rfl rfl hb40) rfl (by decide) ?_
          clear hf; intro a ha hf; clear ha
          obtain ⟨q42, hcall43, hz39⟩ := bnd hz39
          refine st_call hf (by decide) Try.func31 rfl rfl (wantY hf rfl rfl hb40) rfl rfl (f_foghornref28_Mark_c hp _ _ hcall43) ?_
          rintro _ w ⟨rfl, hp0⟩
          clear hp; have hp := hp0; clear hp0
          replace hp : Hp _ _ _ (Res.sl (Ek.pair Ek.str (Ek.pair (Ek.int .i64) Ek.bool)) 83 v33 sx0c_3 :: Res.obj 53 osx0 [.int .i64 sx0c_0, .int .i64 sx0c_1, .int .i64 sx0c_2, v33] :: Res.obj 31 v3 [.int .u8 f1_Kind, .int .u8 f1_Number, .bool f1_More, .string f1_Body] :: ow) := hp
          refine ⟨_, rfl, ?_⟩
          clear hf; intro a hf
          obtain rfl := Option.some.inj hz39
          refine st_pick (v := .bool q42) hf rfl rfl (fun hb' => ?_) (fun hb' => ?_) (by decide) ?_
          · rfl
          · exact absurd (hb40.symm.trans hb') (by decide)
          clear hf; intro a ha hf; clear ha
          refine st_nil hf (th_n ?_)
          exact ⟨hf.sub ⟨rfl, rfl, rfl, rfl, rfl, rfl, rfl, rfl, trivial⟩, hp⟩
        replace hz39 := ifF hz39 hb40
        refine st_skip hf (wantN hf rfl rfl hb40) rfl (by decide) ?_ rfl
        clear hf; intro a hf
        refine st_skip hf (wantN hf rfl rfl hb40) rfl (by decide) ?_ rfl
        clear hf; intro a hf
        refine st_skip hf (wantN hf rfl rfl hb40) rfl (by decide) ?_ rfl
        clear hf; intro a hf
        refine st_skip hf (wantN hf rfl rfl hb40) rfl (by decide) ?_ rfl
        clear hf; intro a hf
        obtain rfl := Option.some.inj hz39
        refine st_pick (v := .bool false) hf rfl rfl (fun hb' => ?_) (fun hb' => ?_) (by decide) ?_
        · exact absurd (hb40.symm.trans hb') (by decide)
        · rfl
        clear hf; intro a ha hf; clear ha
        refine st_nil hf (th_n ?_)
        exact ⟨hf.sub ⟨rfl, rfl, rfl, rfl, rfl, rfl, rfl, rfl, trivial⟩, hp⟩
      rintro a w ⟨hf, hp⟩
      refine st_nil hf ?_
      refine th_n ?_
      refine wp_if hf rfl (fun hb => ?_) (fun hb => ?_)
      · replace h := ifT h hb
        refine wp_reg ?_
        refine st_move hf rfl rfl (by decide) ?_
        clear hf; intro a ha hf; clear ha
        refine st_nilV hf (by decide) rfl rfl (hp.ob (i := 1) rfl) ?_
        clear hf; intro a ha hf; clear ha
        refine st_fa (o' := 3) hf (by decide) (off := 3) (sz := 1) (by kernel_rfl) (by decide) rfl rfl (hp.ob (i := 1) rfl) rfl ?_
        clear hf; intro a ha hf; clear ha
        refine st_ldO (u := v33) hf (by decide) pl51 rfl rfl (hp.ob (i := 1) rfl) rfl ?_
        clear hf; intro a ha hf; clear ha
        refine st_move hf rfl rfl (by decide) ?_
        clear hf; intro a ha hf; clear ha
        obtain ⟨hc44, h⟩ := chk h
        refine st_index (E := (Ek.pair Ek.str (Ek.pair (Ek.int .i64) Ek.bool))) hf (by decide) Try.underlying51 elt83 rfl rfl rfl (hp.sl (i := 0) rfl) hc44.1 hc44.2 ?_
        clear hf; intro a ha hf; clear ha
        refine st_faP (off := 2) (sz := 1) hf (by decide) (by kernel_rfl) (by decide) rfl rfl (Sl.isP (hp.sl (i := 0) rfl) hc44.1 hc44.2) ?_
        clear hf; intro a ha hf; clear ha
        refine st_stQ (E := (Ek.pair Ek.str (Ek.pair (Ek.int .i64) Ek.bool))) (F := Ek.bool) (o := 2) (Sub.comp (Sub.snd (E := Ek.str) (F := (Ek.pair (Ek.int .i64) Ek.bool))) (Sub.snd (E := (Ek.int .i64)) (F := Ek.bool))) hf (by kernel_rfl) hp (i := 0) rfl rfl rfl rfl rfl hc44.1 hc44.2 ?_
        clear hf; intro a w hf hp0; clear hp; have hp := hp0; clear hp0
        replace hp : Hp _ _ _ (Res.sl (Ek.pair Ek.str (Ek.pair (Ek.int .i64) Ek.bool)) 83 v33 (sx0c_3.set ((IntKind.i64.wrap ((IntKind.i64.wrap ((IntKind.i64.wrap (q9 + (((IntKind.i64.wrap ((IntKind.i64.wrap ((IntKind.i64.wrap f1_Number) - ((q9).tmod (256 : Int)))) + (256 : Int)))).tmod (256 : Int)))) + (1 : Int))) + i10))).toNat ((gt sx0c_3 (IntKind.i64.wrap ((IntKind.i64.wrap ((IntKind.i64.wrap (q9 + (((IntKind.i64.wrap ((IntKind.i64.wrap ((IntKind.i64.wrap f1_Number) - ((q9).tmod (256 : Int)))) + (256 : Int)))).tmod (256 : Int)))) + (1 : Int))) + i10))).1, (gt sx0c_3 (IntKind.i64.wrap ((IntKind.i64.wrap ((IntKind.i64.wrap (q9 + (((IntKind.i64.wrap ((IntKind.i64.wrap ((IntKind.i64.wrap f1_Number) - ((q9).tmod (256 : Int)))) + (256 : Int)))).tmod (256 : Int)))) + (1 : Int))) + i10))).2.1, true)) :: Res.obj 53 osx0 [.int .i64 sx0c_0, .int .i64 sx0c_1, .int .i64 sx0c_2, v33] :: Res.obj 31 v3 [.int .u8 f1_Kind, .int .u8 f1_Number, .bool f1_More, .string f1_Body] :: ow) := hp
        refine st_nil hf ?_
        refine ib_n ?_
        refine th_n ?_
        refine wp_reg ?_
        refine st_move hf rfl rfl (by decide) ?_
        clear hf; intro a ha hf; clear ha
        refine st_iadd hf (by decide) rfl rfl rfl ?_
        clear hf; intro a ha hf; clear ha
        refine st_assign hf rfl rfl (by decide) ?_
        clear hf; intro a ha hf; clear ha
        refine st_nil hf ?_
        obtain rfl := Option.some.inj h
        exact rnd_l ⟨_, hf.sub ⟨rfl, rfl, rfl, rfl, rfl, rfl, trivial⟩, hp⟩
      replace h := ifF h hb
      refine wp_skip ?_
      refine ib_n ?_
      refine th_n ?_
      refine wp_reg ?_
      refine st_move hf rfl rfl (by decide) ?_
      clear hf; intro a ha hf; clear ha
      refine st_iadd hf (by decide) rfl rfl rfl ?_
      clear hf; intro a ha hf; clear ha
      refine st_assign hf rfl rfl (by decide) ?_
      clear hf; intro a ha hf; clear ha
      refine st_nil hf ?_
      obtain rfl := Option.some.inj h
      exact rnd_l ⟨_, hf.sub ⟨rfl, rfl, rfl, rfl, rfl, rfl, trivial⟩, hp⟩
    replace h := ifF h hb
    refine wp_exit ?_
    refine th_e ?_
    obtain rfl := Option.some.inj h
    have hp : Hp _ _ _ (Res.sl (Ek.pair Ek.str (Ek.pair (Ek.int .i64) Ek.bool)) 83 v33 sx0c_3 :: Res.obj 53 osx0 [.int .i64 sx0c_0, .int .i64 sx0c_1, .int .i64 sx0c_2, v33] :: ow) := Hp.sel (pre := [Res.sl (Ek.pair Ek.str (Ek.pair (Ek.int .i64) Ek.bool)) 83 v33 sx0c_3, Res.obj 53 osx0 [.int .i64 sx0c_0, .int .i64 sx0c_1, .int .i64 sx0c_2, v33], Res.obj 31 v3 [.int .u8 f1_Kind, .int .u8 f1_Number, .bool f1_More, .string f1_Body]]) (tail := ow) (rs' := [Res.sl (Ek.pair Ek.str (Ek.pair (Ek.int .i64) Ek.bool)) 83 v33 sx0c_3, Res.obj 53 osx0 [.int .i64 sx0c_0, .int .i64 sx0c_1, .int .i64 sx0c_2, v33]]) hp [0, 1] (by decide) (by simp) rfl
    exact rnd_r (by simp) ⟨rfl, _, hf.sub ⟨rfl, trivial⟩, hp⟩
  clear hl hf hp
  intro e a w hne hO
  obtain ⟨rfl, v36, hf, hp⟩ := hO
  refine ib_same ?_
  refine th_n ?_
  refine wp_seq ?_
  refine wp_reg ?_
  refine st_assign hf rfl rfl (by decide) ?_
  clear hf; intro a ha hf; clear ha
  refine st_nil hf ?_
  refine th_n ?_
  refine wp_ret ?_
  obtain rfl := Option.some.inj h
  exact ⟨rfl, ⟨_, hf.sub ⟨rfl, trivial⟩, hp⟩⟩

noncomputable def f_again_Sender_Left (sx0_window : Int) (sx0_wait : Int) (sx0_now : Int) (sx0_front : Int) (sx0_left : (List (ByteArray × Bool × Int × Bool))) : Option Int := (some (sx0_left.length : Int))
theorem f_again_Sender_Left_c {S : Nat → Prop} {w0 w : World} {ow : List Res} (hp : Hp S w0 w ow) (sx0_window : Int) (sx0_wait : Int) (sx0_now : Int) (sx0_front : Int) (vsx0_left : Value) (sx0_left : (List (ByteArray × Bool × Int × Bool))) (hsx0_left : RdS (Ek.pair Ek.str (Ek.pair Ek.bool (Ek.pair (Ek.int .i64) Ek.bool))) S w0 vsx0_left sx0_left) (osx0 : Value) (hosx0 : RdO S w0 osx0 [.int .i64 sx0_window, .int .i64 sx0_wait, .int .i64 sx0_now, .int .i64 sx0_front, vsx0_left]) {r : Int} (h : f_again_Sender_Left sx0_window sx0_wait sx0_now sx0_front sx0_left = some r) :
    Calls Try.prog 25 #[osx0] w (fun e w' => e = .returned (.int .i64 r) ∧ Hp S w0 w' (ow)) := by
  unfold f_again_Sender_Left at h
  refine enter (n := 10) (args := [osx0]) Try.func25 rfl rfl (Nat.le_of_ble_eq_true rfl) fun a hf => ?_
  replace hf : Fr 10 a [(0, osx0)] := hf
  refine wp_mono (Q := fun e a w => e = .ret ∧ Fr 10 a [(2, .int .i64 r)] ∧ Hp S w0 w (ow)) ?_ ?_
  rotate_left
  · rintro e a w ⟨rfl, hf, hp⟩
    exact ret1 hf rfl rfl ⟨rfl, hp⟩
  refine wp_seq ?_
  refine wp_reg ?_
  refine st_assign hf rfl rfl (by decide) ?_
  clear hf; intro a ha hf; clear ha
  refine st_nil hf ?_
  refine th_n ?_
  refine wp_seq ?_
  refine wp_seq ?_
  refine wp_reg ?_
  refine st_move hf rfl rfl (by decide) ?_
  clear hf; intro a ha hf; clear ha
  refine st_peql hf (by decide) Try.underlying44 rfl rfl rfl (nilF (hosx0.ob hp).e) ?_
  clear hf; intro a ha hf; clear ha
  refine st_nil hf ?_
  refine th_n ?_
  refine wp_if hf rfl (fun hb => ?_) (fun hb => ?_)
  · exact absurd hb (by decide)
  refine wp_skip ?_
  refine th_n ?_
  refine wp_seq ?_
  refine wp_reg ?_
  refine st_move hf rfl rfl (by decide) ?_
  clear hf; intro a ha hf; clear ha
  refine st_nilV hf (by decide) rfl rfl (hosx0.ob hp) ?_
  clear hf; intro a ha hf; clear ha
  refine st_fa (o' := 4) hf (by decide) (off := 4) (sz := 1) (by kernel_rfl) (by decide) rfl rfl (hosx0.ob hp) rfl ?_
  clear hf; intro a ha hf; clear ha
  refine st_ldO (u := vsx0_left) hf (by decide) pl77 rfl rfl (hosx0.ob hp) rfl ?_
  clear hf; intro a ha hf; clear ha
  refine st_len (E := (Ek.pair Ek.str (Ek.pair Ek.bool (Ek.pair (Ek.int .i64) Ek.bool)))) hf (by decide) Try.underlying77 rfl rfl (hsx0_left.sl hp) ?_
  clear hf; intro a ha hf; clear ha
  refine st_assign hf rfl rfl (by decide) ?_
  clear hf; intro a ha hf; clear ha
  refine st_nil hf ?_
  refine th_n ?_
  refine wp_ret ?_
  obtain rfl := Option.some.inj h
  exact ⟨rfl, ⟨hf.sub ⟨rfl, trivial⟩, hp⟩⟩

end Go.Proofs.Ytmdigffgmohcnaa
