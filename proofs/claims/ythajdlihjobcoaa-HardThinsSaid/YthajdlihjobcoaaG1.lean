/- The functions foghorn foghornlaw22.HardThins: what each answers, as a plain function, and that its call answers it; printed by gen.py. -/
import Derived.Test.YthajdlihjobcoaaProg
import Derived.Test.YthajdlihjobcoaaGlI
import Derived.KernelRfl
set_option linter.unusedVariables false
set_option maxRecDepth 100000
set_option maxHeartbeats 4000000
namespace Go.Proofs.Ythajdlihjobcoaa
open GL
theorem elt4 : ElT Try.prog Ek.bool 4 1 false := ElT.of (z := .bool false) (by kernel_rfl) rfl
theorem pl4 : Plain Try.prog 4 := ⟨⟨_, Try.underlying4, trivial⟩⟩
theorem elt5 : ElT Try.prog (Ek.int .u8) 5 1 (0 : Int) := ElT.of (z := .int .u8 0) (by kernel_rfl) rfl
theorem pl5 : Plain Try.prog 5 := ⟨⟨_, Try.underlying5, trivial⟩⟩
theorem elt51 : ElT Try.prog (Ek.int .u8) 51 1 (0 : Int) := ElT.of (z := .int .u8 0) (by kernel_rfl) rfl
theorem pl51 : Plain Try.prog 51 := ⟨⟨_, Try.underlying51, trivial⟩⟩
noncomputable def f_slices_Index_bool_bool.s1c (s0 : (List Bool)) (v1 : Bool) (t8 : Int) : Option (Int ⊕ (Unit ⊕ Int)) := (if (decide (t8 < (s0.length : Int))) = true then (if 0 ≤ t8 ∧ t8 < (s0.length : Int) then (if (v1 == (gt s0 t8)) = true then (some (Sum.inr (Sum.inr t8))) else (some (Sum.inl (IntKind.i64.wrap (t8 + 1))))) else none) else (some (Sum.inr (Sum.inl ()))))
noncomputable def f_slices_Index_bool_bool.s1 (s0 : (List Bool)) (v1 : Bool) (s : Int) : Option (Int ⊕ (Unit ⊕ Int)) := f_slices_Index_bool_bool.s1c s0 v1 s
noncomputable def f_slices_Index_bool_bool (s0 : (List Bool)) (v1 : Bool) : Option Int := ((loop (f_slices_Index_bool_bool.s1 s0 v1) 0).bind (fun q2 => sm q2 (fun q3 => (some (-1))) (fun q4 => (some q4))))
theorem f_slices_Index_bool_bool_c {S : Nat → Prop} {w0 w : World} {ow : List Res} (hp : Hp S w0 w ow) (vs0 : Value) (s0 : (List Bool)) (hs0 : RdS Ek.bool S w0 vs0 s0) (v1 : Bool) {r : Int} (h : f_slices_Index_bool_bool s0 v1 = some r) :
    Calls Try.prog 52 #[vs0, .bool v1] w (fun e w' => e = .returned (.int .i64 r) ∧ Hp S w0 w' (ow)) := by
  unfold f_slices_Index_bool_bool at h
  refine enter (n := 19) (args := [vs0, .bool v1]) Try.func52 rfl rfl (Nat.le_of_ble_eq_true rfl) fun a hf => ?_
  replace hf : Fr 19 a [(0, vs0), (1, .bool v1)] := hf
  refine wp_mono (Q := fun e a w => e = .ret ∧ Fr 19 a [(4, .int .i64 r)] ∧ Hp S w0 w (ow)) ?_ ?_
  rotate_left
  · rintro e a w ⟨rfl, hf, hp⟩
    exact ret1 hf rfl rfl ⟨rfl, hp⟩
  refine wp_seq ?_
  refine wp_reg ?_
  refine st_assign hf rfl rfl (by decide) ?_
  clear hf; intro a ha hf; clear ha
  refine st_nil hf ?_
  refine th_n ?_
  refine wp_seq ?_
  refine wp_seq ?_
  refine wp_reg ?_
  refine st_move hf rfl rfl (by decide) ?_
  clear hf; intro a ha hf; clear ha
  refine st_len (E := Ek.bool) hf (by decide) Try.underlying22 rfl rfl (hs0.sl hp) ?_
  clear hf; intro a ha hf; clear ha
  refine st_move hf rfl rfl (by decide) ?_
  clear hf; intro a ha hf; clear ha
  refine st_nil hf ?_
  refine th_n ?_
  refine wp_block ?_
  obtain ⟨q2, hl, h⟩ := bnd h
  refine wp_loop_pure (f := (f_slices_Index_bool_bool.s1 s0 v1)) (s := 0) (fun s a w => Fr 19 a [(0, vs0), (1, .bool v1), (7, .int .i64 (s0.length : Int)), (8, .int .i64 s)] ∧ Hp S w0 w (ow)) (fun q e a w => match q with | (Sum.inl q) => e = .exit 0 ∧ Fr 19 a [] ∧ Hp S w0 w (ow) | (Sum.inr q) => e = .ret ∧ Fr 19 a [(4, .int .i64 q)] ∧ Hp S w0 w (ow)) ?_ hl ⟨hf.sub ⟨rfl, rfl, rfl, rfl, trivial⟩, hp⟩ ?_
  · clear hl hf hp
    intro s x a w h hI
    obtain ⟨t8, hs⟩ : ∃ z, z = s := ⟨s, rfl⟩; subst hs
    obtain ⟨hf, hp⟩ : Fr 19 a [(0, vs0), (1, .bool v1), (7, .int .i64 (s0.length : Int)), (8, .int .i64 t8)] ∧ Hp S w0 w (ow) := hI
    replace h : f_slices_Index_bool_bool.s1c s0 v1 t8 = some x := h
    unfold f_slices_Index_bool_bool.s1c at h
    refine wp_seq ?_
    refine wp_reg ?_
    refine st_ilss hf (by decide) rfl rfl rfl ?_
    clear hf; intro a ha hf; clear ha
    refine st_nil hf ?_
    refine th_n ?_
    refine wp_seq ?_
    refine wp_if hf rfl (fun hb => ?_) (fun hb => ?_)
    · replace h := ifT h hb
      refine wp_skip ?_
      refine th_n ?_
      refine wp_seq ?_
      refine wp_block ?_
      refine wp_seq ?_
      refine wp_reg ?_
      refine st_move hf rfl rfl (by decide) ?_
      clear hf; intro a ha hf; clear ha
      refine st_assign hf rfl rfl (by decide) ?_
      clear hf; intro a ha hf; clear ha
      refine st_nil hf ?_
      refine th_n ?_
      refine wp_seq ?_
      refine wp_reg ?_
      refine st_move hf rfl rfl (by decide) ?_
      clear hf; intro a ha hf; clear ha
      refine st_move hf rfl rfl (by decide) ?_
      clear hf; intro a ha hf; clear ha
      refine st_move hf rfl rfl (by decide) ?_
      clear hf; intro a ha hf; clear ha
      obtain ⟨hc1, h⟩ := chk h
      refine st_index (E := Ek.bool) hf (by decide) Try.underlying22 elt4 rfl rfl rfl (hs0.sl hp) hc1.1 hc1.2 ?_
      clear hf; intro a ha hf; clear ha
      refine st_ldB hf (by decide) pl4 rfl rfl (hs0.sl hp) hc1.1 hc1.2 ?_
      clear hf; intro a ha hf; clear ha
      refine st_beql hf (by decide) Try.underlying4 rfl rfl rfl ?_
      clear hf; intro a ha hf; clear ha
      refine st_nil hf ?_
      refine th_n ?_
      refine wp_if hf rfl (fun hb => ?_) (fun hb => ?_)
      · replace h := ifT h hb
        refine wp_seq ?_
        refine wp_reg ?_
        refine st_move hf rfl rfl (by decide) ?_
        clear hf; intro a ha hf; clear ha
        refine st_assign hf rfl rfl (by decide) ?_
        clear hf; intro a ha hf; clear ha
        refine st_nil hf ?_
        refine th_n ?_
        refine wp_ret ?_
        refine ib_r ?_
        refine th_r ?_
        obtain rfl := Option.some.inj h
        exact rnd_r (by simp) ⟨rfl, ⟨hf.sub ⟨rfl, trivial⟩, hp⟩⟩
      · replace h := ifF h hb
        refine wp_skip ?_
        refine ib_n ?_
        refine th_n ?_
        refine wp_reg ?_
        refine st_iadd hf (by decide) rfl rfl rfl ?_
        clear hf; intro a ha hf; clear ha
        refine st_move hf rfl rfl (by decide) ?_
        clear hf; intro a ha hf; clear ha
        refine st_nil hf ?_
        obtain rfl := Option.some.inj h
        exact rnd_l ⟨hf.sub ⟨rfl, rfl, rfl, rfl, trivial⟩, hp⟩
    · replace h := ifF h hb
      refine wp_exit ?_
      refine th_e ?_
      obtain rfl := Option.some.inj h
      exact rnd_r (by simp) ⟨rfl, hf.sub trivial, hp⟩
  · clear hl hf hp
    intro e a w hne hO
    cases q2 with
    | inl q3 =>
      replace h := smL h
      obtain ⟨rfl, hf, hp⟩ := hO
      refine ib_same ?_
      refine th_n ?_
      refine wp_seq ?_
      refine wp_reg ?_
      refine st_assign hf rfl rfl (by decide) ?_
      clear hf; intro a ha hf; clear ha
      refine st_nil hf ?_
      refine th_n ?_
      refine wp_ret ?_
      obtain rfl := Option.some.inj h
      exact ⟨rfl, ⟨hf.sub ⟨rfl, trivial⟩, hp⟩⟩
    | inr q4 =>
      replace h := smR h
      obtain ⟨rfl, hf, hp⟩ := hO
      refine ib_r ?_
      refine th_r ?_
      obtain rfl := Option.some.inj h
      exact ⟨rfl, ⟨hf.sub ⟨rfl, trivial⟩, hp⟩⟩

noncomputable def f_slices_Contains_bool_bool (s0 : (List Bool)) (v1 : Bool) : Option Bool := ((f_slices_Index_bool_bool s0 v1).bind fun q1 => (some (decide (0 ≤ q1))))
theorem f_slices_Contains_bool_bool_c {S : Nat → Prop} {w0 w : World} {ow : List Res} (hp : Hp S w0 w ow) (vs0 : Value) (s0 : (List Bool)) (hs0 : RdS Ek.bool S w0 vs0 s0) (v1 : Bool) {r : Bool} (h : f_slices_Contains_bool_bool s0 v1 = some r) :
    Calls Try.prog 43 #[vs0, .bool v1] w (fun e w' => e = .returned (.bool r) ∧ Hp S w0 w' (ow)) := by
  unfold f_slices_Contains_bool_bool at h
  refine enter (n := 9) (args := [vs0, .bool v1]) Try.func43 rfl rfl (Nat.le_of_ble_eq_true rfl) fun a hf => ?_
  replace hf : Fr 9 a [(0, vs0), (1, .bool v1)] := hf
  refine wp_mono (Q := fun e a w => e = .ret ∧ Fr 9 a [(4, .bool r)] ∧ Hp S w0 w (ow)) ?_ ?_
  rotate_left
  · rintro e a w ⟨rfl, hf, hp⟩
    exact ret1 hf rfl rfl ⟨rfl, hp⟩
  refine wp_seq ?_
  refine wp_reg ?_
  refine st_assign hf rfl rfl (by decide) ?_
  clear hf; intro a ha hf; clear ha
  refine st_nil hf ?_
  refine th_n ?_
  refine wp_seq ?_
  refine wp_reg ?_
  refine st_move hf rfl rfl (by decide) ?_
  clear hf; intro a ha hf; clear ha
  refine st_move hf rfl rfl (by decide) ?_
  clear hf; intro a ha hf; clear ha
  obtain ⟨q1, hcall2, h⟩ := bnd h
  refine st_call hf (by decide) Try.func52 rfl rfl rfl rfl rfl (f_slices_Index_bool_bool_c hp _ _ hs0 _ hcall2) ?_
  rintro _ w ⟨rfl, hp0⟩
  clear hp; have hp := hp0; clear hp0
  replace hp : Hp S w0 w (ow) := hp
  refine ⟨_, rfl, ?_⟩
  clear hf; intro a hf
  refine st_igeq hf (by decide) rfl rfl rfl ?_
  clear hf; intro a ha hf; clear ha
  refine st_assign hf rfl rfl (by decide) ?_
  clear hf; intro a ha hf; clear ha
  refine st_nil hf ?_
  refine th_n ?_
  refine wp_ret ?_
  obtain rfl := Option.some.inj h
  exact ⟨rfl, ⟨hf.sub ⟨rfl, trivial⟩, hp⟩⟩

noncomputable def f_hard_pattern (keep0 : (List Bool)) : Option Bool := ((if (decide ((keep0.length : Int) ≤ 64)) = true then ((f_slices_Contains_bool_bool keep0 true).bind fun q2 => (some q2)) else (some false)).bind fun z1 => (some z1))
theorem f_hard_pattern_c {S : Nat → Prop} {w0 w : World} {ow : List Res} (hp : Hp S w0 w ow) (vkeep0 : Value) (keep0 : (List Bool)) (hkeep0 : RdS Ek.bool S w0 vkeep0 keep0) {r : Bool} (h : f_hard_pattern keep0 = some r) :
    Calls Try.prog 29 #[vkeep0] w (fun e w' => e = .returned (.bool r) ∧ Hp S w0 w' (ow)) := by
  unfold f_hard_pattern at h
  refine enter (n := 10) (args := [vkeep0]) Try.func29 rfl rfl (Nat.le_of_ble_eq_true rfl) fun a hf => ?_
  replace hf : Fr 10 a [(0, vkeep0)] := hf
  refine wp_mono (Q := fun e a w => e = .ret ∧ Fr 10 a [(2, .bool r)] ∧ Hp S w0 w (ow)) ?_ ?_
  rotate_left
  · rintro e a w ⟨rfl, hf, hp⟩
    exact ret1 hf rfl rfl ⟨rfl, hp⟩
  refine wp_seq ?_
  refine wp_reg ?_
  refine st_assign hf rfl rfl (by decide) ?_
  clear hf; intro a ha hf; clear ha
  refine st_nil hf ?_
  refine th_n ?_
  refine wp_seq ?_
  refine wp_reg ?_
  refine st_move hf rfl rfl (by decide) ?_
  clear hf; intro a ha hf; clear ha
  refine st_len (E := Ek.bool) hf (by decide) Try.underlying22 rfl rfl (hkeep0.sl hp) ?_
  clear hf; intro a ha hf; clear ha
  refine st_ileq hf (by decide) rfl rfl rfl ?_
  clear hf; intro a ha hf; clear ha
  refine st_move hf rfl rfl (by decide) ?_
  clear hf; intro a ha hf; clear ha
  obtain ⟨z1, hz, h⟩ := bnd h
  refine wpList_cut 3 (fun a w => Fr 10 a [(9, .bool z1)] ∧ Hp S w0 w (ow)) ?_ ?_
  · rcases Bool.eq_false_or_eq_true (decide ((keep0.length : Int) ≤ 64)) with hb | hb
    · skip
      replace hz := ifT hz hb
      refine st_move hf (wantY hf rfl rfl hb) rfl (by decide) ?_
      clear hf; intro a ha hf; clear ha
      obtain ⟨q2, hcall3, hz⟩ := bnd hz
      refine st_call hf (by decide) Try.func43 rfl rfl (wantY hf rfl rfl hb) rfl rfl (f_slices_Contains_bool_bool_c hp _ _ hkeep0 _ hcall3) ?_
      rintro _ w ⟨rfl, hp0⟩
      clear hp; have hp := hp0; clear hp0
      replace hp : Hp S w0 w (ow) := hp
      refine ⟨_, rfl, ?_⟩
      clear hf; intro a hf
      obtain rfl := Option.some.inj hz
      refine st_pick (v := .bool q2) hf rfl rfl (fun hb' => ?_) (fun hb' => ?_) (by decide) ?_
      · rfl
      · exact absurd (hb.symm.trans hb') (by decide)
      clear hf; intro a ha hf; clear ha
      refine st_nil hf (th_n ?_)
      exact ⟨hf.sub ⟨rfl, trivial⟩, hp⟩
    · skip
      replace hz := ifF hz hb
      refine st_skip hf (wantN hf rfl rfl hb) rfl (by decide) ?_ rfl
      clear hf; intro a hf
      refine st_skip hf (wantN hf rfl rfl hb) rfl (by decide) ?_ rfl
      clear hf; intro a hf
      obtain rfl := Option.some.inj hz
      refine st_pick (v := .bool false) hf rfl rfl (fun hb' => ?_) (fun hb' => ?_) (by decide) ?_
      · exact absurd (hb.symm.trans hb') (by decide)
      · rfl
      clear hf; intro a ha hf; clear ha
      refine st_nil hf (th_n ?_)
      exact ⟨hf.sub ⟨rfl, trivial⟩, hp⟩
  · rintro a w ⟨hf, hp⟩
    refine st_assign hf rfl rfl (by decide) ?_
    clear hf; intro a ha hf; clear ha
    refine st_nil hf ?_
    refine th_n ?_
    refine wp_ret ?_
    obtain rfl := Option.some.inj h
    exact ⟨rfl, ⟨hf.sub ⟨rfl, trivial⟩, hp⟩⟩

noncomputable def f_hard_Thin.s1c (l0 : (List Bool)) (keep1 : (List Bool)) (out6 : (List Bool)) (t19 : Int) : Option (((List Bool) × Int) ⊕ (List Bool)) := (if (decide (t19 < (l0.length : Int))) = true then (if 0 ≤ t19 ∧ t19 < (l0.length : Int) then (if (keep1.length : Int) ≠ 0 then (if 0 ≤ ((t19).tmod (keep1.length : Int)) ∧ ((t19).tmod (keep1.length : Int)) < (keep1.length : Int) then (if (gt keep1 ((t19).tmod (keep1.length : Int))) = true then (if (out6.length + ([(gt l0 t19)]).length) * 1 ≤ 140737488355328 then (some (Sum.inl ((out6 ++ [(gt l0 t19)]), (IntKind.i64.wrap (t19 + 1))))) else none) else (some (Sum.inl (out6, (IntKind.i64.wrap (t19 + 1)))))) else none) else none) else none) else (some (Sum.inr out6)))
noncomputable def f_hard_Thin.s1 (l0 : (List Bool)) (keep1 : (List Bool)) (s : ((List Bool) × Int)) : Option (((List Bool) × Int) ⊕ (List Bool)) := f_hard_Thin.s1c l0 keep1 s.1 s.2
noncomputable def f_hard_Thin (l0 : (List Bool)) (keep1 : (List Bool)) : Option ((List Bool) × Int) := ((if (decide (32768 < (l0.length : Int))) = true then (some true) else ((f_hard_pattern keep1).bind fun q2 => (some (!q2)))).bind fun z1 => (if z1 = true then (some ([], 1)) else ((loop (f_hard_Thin.s1 l0 keep1) ([], 0)).bind (fun q16 => (some (q16, 0))))))
theorem f_hard_Thin_c {S : Nat → Prop} {w0 w : World} {ow : List Res} (hp : Hp S w0 w ow) (vl0 : Value) (l0 : (List Bool)) (hl0 : RdS Ek.bool S w0 vl0 l0) (vkeep1 : Value) (keep1 : (List Bool)) (hkeep1 : RdS Ek.bool S w0 vkeep1 keep1) {r : ((List Bool) × Int)} (h : f_hard_Thin l0 keep1 = some r) :
    Calls Try.prog 9 #[vl0, vkeep1] w (fun e w' => ∃ (u0 : Value), e = .returned (.tuple #[u0, .int .i64 r.2]) ∧ Hp S w0 w' (Res.sl Ek.bool 4 u0 r.1 :: ow)) := by
  unfold f_hard_Thin at h
  refine enter (n := 37) (args := [vl0, vkeep1]) Try.func9 rfl rfl (Nat.le_of_ble_eq_true rfl) fun a hf => ?_
  replace hf : Fr 37 a [(0, vl0), (1, vkeep1)] := hf
  refine wp_mono (Q := fun e a w => e = .ret ∧ ∃ (u0 : Value), Fr 37 a [(4, u0), (5, .int .i64 r.2)] ∧ Hp S w0 w (Res.sl Ek.bool 4 u0 r.1 :: ow)) ?_ ?_
  rotate_left
  · rintro e a w ⟨rfl, x0, hf, hp⟩
    exact ret2 hf rfl rfl rfl ⟨x0, rfl, hp⟩
  refine wp_seq ?_
  refine wp_reg ?_
  refine st_assign hf rfl rfl (by decide) ?_
  clear hf; intro a ha hf; clear ha
  refine st_assign hf rfl rfl (by decide) ?_
  clear hf; intro a ha hf; clear ha
  refine st_nil hf ?_
  refine th_n ?_
  refine wp_seq ?_
  refine wp_seq ?_
  refine wp_reg ?_
  refine st_move hf rfl rfl (by decide) ?_
  clear hf; intro a ha hf; clear ha
  refine st_len (E := Ek.bool) hf (by decide) Try.underlying22 rfl rfl (hl0.sl hp) ?_
  clear hf; intro a ha hf; clear ha
  refine st_igtr hf (by decide) rfl rfl rfl ?_
  clear hf; intro a ha hf; clear ha
  refine st_move hf rfl rfl (by decide) ?_
  clear hf; intro a ha hf; clear ha
  obtain ⟨z1, hz, h⟩ := bnd h
  refine wpList_cut 4 (fun a w => Fr 37 a [(0, vl0), (1, vkeep1), (16, .bool z1)] ∧ Hp S w0 w (ow)) ?_ ?_
  · rcases Bool.eq_false_or_eq_true (decide (32768 < (l0.length : Int))) with hb | hb
    · skip
      replace hz := ifT hz hb
      refine st_skip hf (wantN hf rfl rfl hb) rfl (by decide) ?_ rfl
      clear hf; intro a hf
      refine st_skip hf (wantN hf rfl rfl hb) rfl (by decide) ?_ rfl
      clear hf; intro a hf
      refine st_skip hf (wantN hf rfl rfl hb) rfl (by decide) ?_ rfl
      clear hf; intro a hf
      obtain rfl := Option.some.inj hz
      refine st_pick (v := .bool true) hf rfl rfl (fun hb' => ?_) (fun hb' => ?_) (by decide) ?_
      · rfl
      · exact absurd (hb.symm.trans hb') (by decide)
      clear hf; intro a ha hf; clear ha
      refine st_nil hf (th_n ?_)
      exact ⟨hf.sub ⟨rfl, rfl, rfl, trivial⟩, hp⟩
    · skip
      replace hz := ifF hz hb
      refine st_move hf (wantY hf rfl rfl hb) rfl (by decide) ?_
      clear hf; intro a ha hf; clear ha
      obtain ⟨q2, hcall3, hz⟩ := bnd hz
      refine st_call hf (by decide) Try.func29 rfl rfl (wantY hf rfl rfl hb) rfl rfl (f_hard_pattern_c hp _ _ hkeep1 hcall3) ?_
      rintro _ w ⟨rfl, hp0⟩
      clear hp; have hp := hp0; clear hp0
      replace hp : Hp S w0 w (ow) := hp
      refine ⟨_, rfl, ?_⟩
      clear hf; intro a hf
      refine st_not hf (by decide) (wantY hf rfl rfl hb) rfl ?_
      clear hf; intro a ha hf; clear ha
      obtain rfl := Option.some.inj hz
      refine st_pick (v := .bool (!q2)) hf rfl rfl (fun hb' => ?_) (fun hb' => ?_) (by decide) ?_
      · exact absurd (hb.symm.trans hb') (by decide)
      · rfl
      clear hf; intro a ha hf; clear ha
      refine st_nil hf (th_n ?_)
      exact ⟨hf.sub ⟨rfl, rfl, rfl, trivial⟩, hp⟩
  · rintro a w ⟨hf, hp⟩
    refine st_nil hf ?_
    refine th_n ?_
    refine wp_if hf rfl (fun hb => ?_) (fun hb => ?_)
    · replace h := ifT h hb
      refine wp_seq ?_
      refine wp_reg ?_
      refine st_assign hf rfl rfl (by decide) ?_
      clear hf; intro a ha hf; clear ha
      refine st_assign hf rfl rfl (by decide) ?_
      clear hf; intro a ha hf; clear ha
      refine st_nil hf ?_
      refine th_n ?_
      refine wp_ret ?_
      refine th_r ?_
      obtain rfl := Option.some.inj h
      have hp := hp.nil Ek.bool 4
      exact ⟨rfl, ⟨_, hf.sub ⟨rfl, rfl, trivial⟩, hp⟩⟩
    · replace h := ifF h hb
      refine wp_skip ?_
      refine th_n ?_
      refine wp_seq ?_
      refine wp_reg ?_
      refine st_assign hf rfl rfl (by decide) ?_
      clear hf; intro a ha hf; clear ha
      refine st_nil hf ?_
      refine th_n ?_
      refine wp_seq ?_
      refine wp_seq ?_
      refine wp_reg ?_
      refine st_move hf rfl rfl (by decide) ?_
      clear hf; intro a ha hf; clear ha
      refine st_len (E := Ek.bool) hf (by decide) Try.underlying22 rfl rfl (hl0.sl hp) ?_
      clear hf; intro a ha hf; clear ha
      refine st_move hf rfl rfl (by decide) ?_
      clear hf; intro a ha hf; clear ha
      refine st_nil hf ?_
      refine th_n ?_
      refine wp_block ?_
      obtain ⟨q16, hl, h⟩ := bnd h
      have hp := hp.nil Ek.bool 4
      refine wp_loop_pure (f := (f_hard_Thin.s1 l0 keep1)) (s := ([], 0)) (fun s a w => ∃ (v5 : Value), Fr 37 a [(1, vkeep1), (6, v5), (17, vl0), (18, .int .i64 (l0.length : Int)), (19, .int .i64 s.2)] ∧ Hp S w0 w (Res.sl Ek.bool 4 v5 s.1 :: ow)) (fun q e a w => e = .exit 0 ∧ ∃ (v7 : Value), Fr 37 a [(6, v7)] ∧ Hp S w0 w (Res.sl Ek.bool 4 v7 q :: ow)) ?_ hl ⟨_, hf.sub ⟨rfl, rfl, rfl, rfl, rfl, trivial⟩, hp⟩ ?_
      · clear hl hf hp
        intro s x a w h hI
        obtain ⟨out6, t19⟩ := s
        obtain ⟨v5, hf, hp⟩ : ∃ (v5 : Value), Fr 37 a [(1, vkeep1), (6, v5), (17, vl0), (18, .int .i64 (l0.length : Int)), (19, .int .i64 t19)] ∧ Hp S w0 w (Res.sl Ek.bool 4 v5 out6 :: ow) := hI
        replace h : f_hard_Thin.s1c l0 keep1 out6 t19 = some x := h
        unfold f_hard_Thin.s1c at h
        refine wp_seq ?_
        refine wp_reg ?_
        refine st_ilss hf (by decide) rfl rfl rfl ?_
        clear hf; intro a ha hf; clear ha
        refine st_nil hf ?_
        refine th_n ?_
        refine wp_seq ?_
        refine wp_if hf rfl (fun hb => ?_) (fun hb => ?_)
        · replace h := ifT h hb
          refine wp_skip ?_
          refine th_n ?_
          refine wp_seq ?_
          refine wp_block ?_
          refine wp_seq ?_
          refine wp_reg ?_
          refine st_move hf rfl rfl (by decide) ?_
          clear hf; intro a ha hf; clear ha
          obtain ⟨hc9, h⟩ := chk h
          refine st_index (E := Ek.bool) hf (by decide) Try.underlying22 elt4 rfl rfl rfl (hl0.sl hp) hc9.1 hc9.2 ?_
          clear hf; intro a ha hf; clear ha
          refine st_ldB hf (by decide) pl4 rfl rfl (hl0.sl hp) hc9.1 hc9.2 ?_
          clear hf; intro a ha hf; clear ha
          refine st_assign hf rfl rfl (by decide) ?_
          clear hf; intro a ha hf; clear ha
          refine st_assign hf rfl rfl (by decide) ?_
          clear hf; intro a ha hf; clear ha
          refine st_nil hf ?_
          refine th_n ?_
          refine wp_seq ?_
          refine wp_reg ?_
          refine st_move hf rfl rfl (by decide) ?_
          clear hf; intro a ha hf; clear ha
          refine st_move hf rfl rfl (by decide) ?_
          clear hf; intro a ha hf; clear ha
          refine st_move hf rfl rfl (by decide) ?_
          clear hf; intro a ha hf; clear ha
          refine st_len (E := Ek.bool) hf (by decide) Try.underlying22 rfl rfl (hkeep1.sl hp) ?_
          clear hf; intro a ha hf; clear ha
          obtain ⟨hc10, h⟩ := chk h
          refine st_irem hf (by decide) rfl rfl rfl hc10 ?_
          clear hf; intro a ha hf; clear ha
          obtain ⟨hc11, h⟩ := chk h
          refine st_index (E := Ek.bool) hf (by decide) Try.underlying22 elt4 rfl rfl rfl (hkeep1.sl hp) hc11.1 hc11.2 ?_
          clear hf; intro a ha hf; clear ha
          refine st_ldB hf (by decide) pl4 rfl rfl (hkeep1.sl hp) hc11.1 hc11.2 ?_
          clear hf; intro a ha hf; clear ha
          refine st_nil hf ?_
          refine th_n ?_
          refine wp_if hf rfl (fun hb => ?_) (fun hb => ?_)
          · replace h := ifT h hb
            refine wp_reg ?_
            refine st_move hf rfl rfl (by decide) ?_
            clear hf; intro a ha hf; clear ha
            refine st_move hf rfl rfl (by decide) ?_
            clear hf; intro a ha hf; clear ha
            refine st_build (E := Ek.bool) (xs := [(gt l0 t19)]) hf (by decide) elt4 Try.underlying22 hp (vals := #[(0, .bool (gt l0 t19))]) (cells := #[.bool (gt l0 t19)]) rfl (by simp [hf.ev (x := (Operand.tmp 32)) rfl]) (by decide) (by decide) (z := .bool false) (by kernel_rfl) (by kernel_rfl) rfl (reps_cons (cs := [.bool (gt l0 t19)]) rfl (reps_nil _)) ?_
            clear hf; intro a w v12 hf hp0; clear hp; have hp := hp0; clear hp0
            replace hp : Hp S w0 w (Res.sl Ek.bool 4 v12 ([(gt l0 t19)]) :: Res.sl Ek.bool 4 v5 out6 :: ow) := hp
            obtain ⟨hc14, h⟩ := chk h
            refine st_append (E := Ek.bool) hf (by decide) elt4 Try.underlying22 (by decide) hp (i := 1) rfl rfl rfl rfl (hp.sl (i := 0) rfl) hc14 ?_
            clear hf; intro a w v15 hf hp0; clear hp; have hp := hp0; clear hp0
            replace hp : Hp S w0 w (Res.sl Ek.bool 4 v12 ([(gt l0 t19)]) :: Res.sl Ek.bool 4 v15 (out6 ++ [(gt l0 t19)]) :: ow) := hp
            refine st_assign hf rfl rfl (by decide) ?_
            clear hf; intro a ha hf; clear ha
            refine st_nil hf ?_
            refine ib_n ?_
            refine th_n ?_
            refine wp_reg ?_
            refine st_iadd hf (by decide) rfl rfl rfl ?_
            clear hf; intro a ha hf; clear ha
            refine st_move hf rfl rfl (by decide) ?_
            clear hf; intro a ha hf; clear ha
            refine st_nil hf ?_
            obtain rfl := Option.some.inj h
            have hp : Hp S w0 w (Res.sl Ek.bool 4 v15 (out6 ++ [(gt l0 t19)]) :: ow) := Hp.sel (pre := [Res.sl Ek.bool 4 v12 ([(gt l0 t19)]), Res.sl Ek.bool 4 v15 (out6 ++ [(gt l0 t19)])]) (tail := ow) (rs' := [Res.sl Ek.bool 4 v15 (out6 ++ [(gt l0 t19)])]) hp [1] (by decide) (by simp) rfl
            exact rnd_l ⟨_, hf.sub ⟨rfl, rfl, rfl, rfl, rfl, trivial⟩, hp⟩
          · replace h := ifF h hb
            refine wp_skip ?_
            refine ib_n ?_
            refine th_n ?_
            refine wp_reg ?_
            refine st_iadd hf (by decide) rfl rfl rfl ?_
            clear hf; intro a ha hf; clear ha
            refine st_move hf rfl rfl (by decide) ?_
            clear hf; intro a ha hf; clear ha
            refine st_nil hf ?_
            obtain rfl := Option.some.inj h
            exact rnd_l ⟨_, hf.sub ⟨rfl, rfl, rfl, rfl, rfl, trivial⟩, hp⟩
        · replace h := ifF h hb
          refine wp_exit ?_
          refine th_e ?_
          obtain rfl := Option.some.inj h
          exact rnd_r (by simp) ⟨rfl, _, hf.sub ⟨rfl, trivial⟩, hp⟩
      · clear hl hf hp
        intro e a w hne hO
        obtain ⟨rfl, v7, hf, hp⟩ := hO
        refine ib_same ?_
        refine th_n ?_
        refine wp_seq ?_
        refine wp_reg ?_
        refine st_move hf rfl rfl (by decide) ?_
        clear hf; intro a ha hf; clear ha
        refine st_assign hf rfl rfl (by decide) ?_
        clear hf; intro a ha hf; clear ha
        refine st_assign hf rfl rfl (by decide) ?_
        clear hf; intro a ha hf; clear ha
        refine st_nil hf ?_
        refine th_n ?_
        refine wp_ret ?_
        obtain rfl := Option.some.inj h
        exact ⟨rfl, ⟨_, hf.sub ⟨rfl, rfl, trivial⟩, hp⟩⟩

noncomputable def f_foghornref22_pattern.s1c (keep0 : (List Bool)) (one3 : Bool) (i4 : Int) : Option ((Bool × Int) ⊕ Bool) := (if (decide (i4 < (keep0.length : Int))) = true then ((if one3 = true then (some true) else (if 0 ≤ i4 ∧ i4 < (keep0.length : Int) then (some (gt keep0 i4)) else none)).bind fun z1 => (some (Sum.inl (z1, (IntKind.i64.wrap (i4 + 1)))))) else (some (Sum.inr one3)))
noncomputable def f_foghornref22_pattern.s1 (keep0 : (List Bool)) (s : (Bool × Int)) : Option ((Bool × Int) ⊕ Bool) := f_foghornref22_pattern.s1c keep0 s.1 s.2
noncomputable def f_foghornref22_pattern (keep0 : (List Bool)) : Option Bool := ((loop (f_foghornref22_pattern.s1 keep0) (false, 0)).bind (fun q3 => (some (q3 && (decide ((keep0.length : Int) ≤ 64))))))
theorem f_foghornref22_pattern_c {S : Nat → Prop} {w0 w : World} {ow : List Res} (hp : Hp S w0 w ow) (vkeep0 : Value) (keep0 : (List Bool)) (hkeep0 : RdS Ek.bool S w0 vkeep0 keep0) {r : Bool} (h : f_foghornref22_pattern keep0 = some r) :
    Calls Try.prog 30 #[vkeep0] w (fun e w' => e = .returned (.bool r) ∧ Hp S w0 w' (ow)) := by
  unfold f_foghornref22_pattern at h
  refine enter (n := 24) (args := [vkeep0]) Try.func30 rfl rfl (Nat.le_of_ble_eq_true rfl) fun a hf => ?_
  replace hf : Fr 24 a [(0, vkeep0)] := hf
  refine wp_mono (Q := fun e a w => e = .ret ∧ Fr 24 a [(2, .bool r)] ∧ Hp S w0 w (ow)) ?_ ?_
  rotate_left
  · rintro e a w ⟨rfl, hf, hp⟩
    exact ret1 hf rfl rfl ⟨rfl, hp⟩
  refine wp_seq ?_
  refine wp_reg ?_
  refine st_assign hf rfl rfl (by decide) ?_
  clear hf; intro a ha hf; clear ha
  refine st_nil hf ?_
  refine th_n ?_
  refine wp_seq ?_
  refine wp_reg ?_
  refine st_assign hf rfl rfl (by decide) ?_
  clear hf; intro a ha hf; clear ha
  refine st_nil hf ?_
  refine th_n ?_
  refine wp_seq ?_
  refine wp_seq ?_
  refine wp_reg ?_
  refine st_assign hf rfl rfl (by decide) ?_
  clear hf; intro a ha hf; clear ha
  refine st_nil hf ?_
  refine th_n ?_
  refine wp_block ?_
  obtain ⟨q3, hl, h⟩ := bnd h
  refine wp_loop_pure (f := (f_foghornref22_pattern.s1 keep0)) (s := (false, 0)) (fun s a w => Fr 24 a [(0, vkeep0), (3, .bool s.1), (4, .int .i64 s.2)] ∧ Hp S w0 w (ow)) (fun q e a w => e = .exit 0 ∧ Fr 24 a [(0, vkeep0), (3, .bool q)] ∧ Hp S w0 w (ow)) ?_ hl ⟨hf.sub ⟨rfl, rfl, rfl, trivial⟩, hp⟩ ?_
  · clear hl hf hp
    intro s x a w h hI
    obtain ⟨one3, i4⟩ := s
    obtain ⟨hf, hp⟩ : Fr 24 a [(0, vkeep0), (3, .bool one3), (4, .int .i64 i4)] ∧ Hp S w0 w (ow) := hI
    replace h : f_foghornref22_pattern.s1c keep0 one3 i4 = some x := h
    unfold f_foghornref22_pattern.s1c at h
    refine wp_seq ?_
    refine wp_seq ?_
    refine wp_reg ?_
    refine st_move hf rfl rfl (by decide) ?_
    clear hf; intro a ha hf; clear ha
    refine st_move hf rfl rfl (by decide) ?_
    clear hf; intro a ha hf; clear ha
    refine st_len (E := Ek.bool) hf (by decide) Try.underlying22 rfl rfl (hkeep0.sl hp) ?_
    clear hf; intro a ha hf; clear ha
    refine st_ilss hf (by decide) rfl rfl rfl ?_
    clear hf; intro a ha hf; clear ha
    refine st_nil hf ?_
    refine th_n ?_
    refine wp_if hf rfl (fun hb => ?_) (fun hb => ?_)
    · replace h := ifT h hb
      refine wp_skip ?_
      refine th_n ?_
      refine wp_seq ?_
      refine wp_block ?_
      refine wp_reg ?_
      refine st_move hf rfl rfl (by decide) ?_
      clear hf; intro a ha hf; clear ha
      refine st_move hf rfl rfl (by decide) ?_
      clear hf; intro a ha hf; clear ha
      obtain ⟨z1, hz, h⟩ := bnd h
      refine wpList_cut 5 (fun a w => Fr 24 a [(0, vkeep0), (4, .int .i64 i4), (17, .bool z1)] ∧ Hp S w0 w (ow)) ?_ ?_
      · rcases Bool.eq_false_or_eq_true one3 with hb | hb
        · skip
          replace hz := ifT hz hb
          refine st_skip hf (wantN hf rfl rfl hb) rfl (by decide) ?_ rfl
          clear hf; intro a hf
          refine st_skip hf (wantN hf rfl rfl hb) rfl (by decide) ?_ rfl
          clear hf; intro a hf
          refine st_skip hf (wantN hf rfl rfl hb) rfl (by decide) ?_ rfl
          clear hf; intro a hf
          refine st_skip hf (wantN hf rfl rfl hb) rfl (by decide) ?_ rfl
          clear hf; intro a hf
          obtain rfl := Option.some.inj hz
          refine st_pick (v := .bool true) hf rfl rfl (fun hb' => ?_) (fun hb' => ?_) (by decide) ?_
          · rfl
          · exact absurd (hb.symm.trans hb') (by decide)
          clear hf; intro a ha hf; clear ha
          refine st_nil hf (th_n ?_)
          exact ⟨hf.sub ⟨rfl, rfl, rfl, trivial⟩, hp⟩
        · skip
          replace hz := ifF hz hb
          refine st_move hf (wantY hf rfl rfl hb) rfl (by decide) ?_
          clear hf; intro a ha hf; clear ha
          refine st_move hf (wantY hf rfl rfl hb) rfl (by decide) ?_
          clear hf; intro a ha hf; clear ha
          obtain ⟨hc2, hz⟩ := chk hz
          refine st_index (E := Ek.bool) hf (by decide) Try.underlying22 elt4 (wantY hf rfl rfl hb) rfl rfl (hkeep0.sl hp) hc2.1 hc2.2 ?_
          clear hf; intro a ha hf; clear ha
          refine st_ldB hf (by decide) pl4 (wantY hf rfl rfl hb) rfl (hkeep0.sl hp) hc2.1 hc2.2 ?_
          clear hf; intro a ha hf; clear ha
          obtain rfl := Option.some.inj hz
          refine st_pick (v := .bool (gt keep0 i4)) hf rfl rfl (fun hb' => ?_) (fun hb' => ?_) (by decide) ?_
          · exact absurd (hb.symm.trans hb') (by decide)
          · rfl
          clear hf; intro a ha hf; clear ha
          refine st_nil hf (th_n ?_)
          exact ⟨hf.sub ⟨rfl, rfl, rfl, trivial⟩, hp⟩
      · rintro a w ⟨hf, hp⟩
        refine st_assign hf rfl rfl (by decide) ?_
        clear hf; intro a ha hf; clear ha
        refine st_nil hf ?_
        refine ib_n ?_
        refine th_n ?_
        refine wp_reg ?_
        refine st_move hf rfl rfl (by decide) ?_
        clear hf; intro a ha hf; clear ha
        refine st_iadd hf (by decide) rfl rfl rfl ?_
        clear hf; intro a ha hf; clear ha
        refine st_assign hf rfl rfl (by decide) ?_
        clear hf; intro a ha hf; clear ha
        refine st_nil hf ?_
        obtain rfl := Option.some.inj h
        exact rnd_l ⟨hf.sub ⟨rfl, rfl, rfl, trivial⟩, hp⟩
    · replace h := ifF h hb
      refine wp_exit ?_
      refine th_e ?_
      obtain rfl := Option.some.inj h
      exact rnd_r (by simp) ⟨rfl, hf.sub ⟨rfl, rfl, trivial⟩, hp⟩
  · clear hl hf hp
    intro e a w hne hO
    obtain ⟨rfl, hf, hp⟩ := hO
    refine ib_same ?_
    refine th_n ?_
    refine wp_seq ?_
    refine wp_reg ?_
    refine st_move hf rfl rfl (by decide) ?_
    clear hf; intro a ha hf; clear ha
    refine st_move hf rfl rfl (by decide) ?_
    clear hf; intro a ha hf; clear ha
    refine wpList_cut 4 (fun a w => Fr 24 a [(23, .bool (q3 && (decide ((keep0.length : Int) ≤ 64))))] ∧ Hp S w0 w (ow)) ?_ ?_
    · rcases Bool.eq_false_or_eq_true q3 with hb | hb
      · skip
        refine st_move hf (wantY hf rfl rfl hb) rfl (by decide) ?_
        clear hf; intro a ha hf; clear ha
        refine st_len (E := Ek.bool) hf (by decide) Try.underlying22 (wantY hf rfl rfl hb) rfl (hkeep0.sl hp) ?_
        clear hf; intro a ha hf; clear ha
        refine st_ileq hf (by decide) (wantY hf rfl rfl hb) rfl rfl ?_
        clear hf; intro a ha hf; clear ha
        refine st_pick (v := .bool (decide ((keep0.length : Int) ≤ 64))) hf rfl rfl (fun hb' => ?_) (fun hb' => ?_) (by decide) ?_
        · rfl
        · exact absurd (hb.symm.trans hb') (by decide)
        clear hf; intro a ha hf; clear ha
        refine st_nil hf (th_n ?_)
        exact ⟨hf.sub ⟨(by rw [hb]; rfl), trivial⟩, hp⟩
      · skip
        refine st_skip hf (wantN hf rfl rfl hb) rfl (by decide) ?_ rfl
        clear hf; intro a hf
        refine st_skip hf (wantN hf rfl rfl hb) rfl (by decide) ?_ rfl
        clear hf; intro a hf
        refine st_skip hf (wantN hf rfl rfl hb) rfl (by decide) ?_ rfl
        clear hf; intro a hf
        refine st_pick (v := .bool false) hf rfl rfl (fun hb' => ?_) (fun hb' => ?_) (by decide) ?_
        · exact absurd (hb.symm.trans hb') (by decide)
        · rfl
        clear hf; intro a ha hf; clear ha
        refine st_nil hf (th_n ?_)
        exact ⟨hf.sub ⟨(by rw [hb]; rfl), trivial⟩, hp⟩
    · rintro a w ⟨hf, hp⟩
      refine st_assign hf rfl rfl (by decide) ?_
      clear hf; intro a ha hf; clear ha
      refine st_nil hf ?_
      refine th_n ?_
      refine wp_ret ?_
      obtain rfl := Option.some.inj h
      exact ⟨rfl, ⟨hf.sub ⟨rfl, trivial⟩, hp⟩⟩

noncomputable def f_foghornref22_Thin.s1c (l0 : (List Bool)) (keep1 : (List Bool)) (out6 : (List Bool)) (i7 : Int) : Option (((List Bool) × Int) ⊕ (List Bool)) := (if (decide (i7 < (l0.length : Int))) = true then (if (keep1.length : Int) ≠ 0 then (if 0 ≤ ((i7).tmod (keep1.length : Int)) ∧ ((i7).tmod (keep1.length : Int)) < (keep1.length : Int) then (if (gt keep1 ((i7).tmod (keep1.length : Int))) = true then (if 0 ≤ i7 ∧ i7 < (l0.length : Int) then (if (out6.length + ([(gt l0 i7)]).length) * 1 ≤ 140737488355328 then (some (Sum.inl ((out6 ++ [(gt l0 i7)]), (IntKind.i64.wrap (i7 + 1))))) else none) else none) else (some (Sum.inl (out6, (IntKind.i64.wrap (i7 + 1)))))) else none) else none) else (some (Sum.inr out6)))
noncomputable def f_foghornref22_Thin.s1 (l0 : (List Bool)) (keep1 : (List Bool)) (s : ((List Bool) × Int)) : Option (((List Bool) × Int) ⊕ (List Bool)) := f_foghornref22_Thin.s1c l0 keep1 s.1 s.2
noncomputable def f_foghornref22_Thin (l0 : (List Bool)) (keep1 : (List Bool)) : Option ((List Bool) × Int) := ((if (decide (32768 < (l0.length : Int))) = true then (some true) else ((f_foghornref22_pattern keep1).bind fun q2 => (some (!q2)))).bind fun z1 => (if z1 = true then (some ([], 1)) else ((loop (f_foghornref22_Thin.s1 l0 keep1) ([], 0)).bind (fun q16 => (some (q16, 0))))))
theorem f_foghornref22_Thin_c {S : Nat → Prop} {w0 w : World} {ow : List Res} (hp : Hp S w0 w ow) (vl0 : Value) (l0 : (List Bool)) (hl0 : RdS Ek.bool S w0 vl0 l0) (vkeep1 : Value) (keep1 : (List Bool)) (hkeep1 : RdS Ek.bool S w0 vkeep1 keep1) {r : ((List Bool) × Int)} (h : f_foghornref22_Thin l0 keep1 = some r) :
    Calls Try.prog 10 #[vl0, vkeep1] w (fun e w' => ∃ (u0 : Value), e = .returned (.tuple #[u0, .int .i64 r.2]) ∧ Hp S w0 w' (Res.sl Ek.bool 4 u0 r.1 :: ow)) := by
  unfold f_foghornref22_Thin at h
  refine enter (n := 37) (args := [vl0, vkeep1]) Try.func10 rfl rfl (Nat.le_of_ble_eq_true rfl) fun a hf => ?_
  replace hf : Fr 37 a [(0, vl0), (1, vkeep1)] := hf
  refine wp_mono (Q := fun e a w => e = .ret ∧ ∃ (u0 : Value), Fr 37 a [(4, u0), (5, .int .i64 r.2)] ∧ Hp S w0 w (Res.sl Ek.bool 4 u0 r.1 :: ow)) ?_ ?_
  rotate_left
  · rintro e a w ⟨rfl, x0, hf, hp⟩
    exact ret2 hf rfl rfl rfl ⟨x0, rfl, hp⟩
  refine wp_seq ?_
  refine wp_reg ?_
  refine st_assign hf rfl rfl (by decide) ?_
  clear hf; intro a ha hf; clear ha
  refine st_assign hf rfl rfl (by decide) ?_
  clear hf; intro a ha hf; clear ha
  refine st_nil hf ?_
  refine th_n ?_
  refine wp_seq ?_
  refine wp_seq ?_
  refine wp_reg ?_
  refine st_move hf rfl rfl (by decide) ?_
  clear hf; intro a ha hf; clear ha
  refine st_len (E := Ek.bool) hf (by decide) Try.underlying22 rfl rfl (hl0.sl hp) ?_
  clear hf; intro a ha hf; clear ha
  refine st_igtr hf (by decide) rfl rfl rfl ?_
  clear hf; intro a ha hf; clear ha
  refine st_move hf rfl rfl (by decide) ?_
  clear hf; intro a ha hf; clear ha
  obtain ⟨z1, hz, h⟩ := bnd h
  refine wpList_cut 4 (fun a w => Fr 37 a [(0, vl0), (1, vkeep1), (15, .bool z1)] ∧ Hp S w0 w (ow)) ?_ ?_
  · rcases Bool.eq_false_or_eq_true (decide (32768 < (l0.length : Int))) with hb | hb
    · skip
      replace hz := ifT hz hb
      refine st_skip hf (wantN hf rfl rfl hb) rfl (by decide) ?_ rfl
      clear hf; intro a hf
      refine st_skip hf (wantN hf rfl rfl hb) rfl (by decide) ?_ rfl
      clear hf; intro a hf
      refine st_skip hf (wantN hf rfl rfl hb) rfl (by decide) ?_ rfl
      clear hf; intro a hf
      obtain rfl := Option.some.inj hz
      refine st_pick (v := .bool true) hf rfl rfl (fun hb' => ?_) (fun hb' => ?_) (by decide) ?_
      · rfl
      · exact absurd (hb.symm.trans hb') (by decide)
      clear hf; intro a ha hf; clear ha
      refine st_nil hf (th_n ?_)
      exact ⟨hf.sub ⟨rfl, rfl, rfl, trivial⟩, hp⟩
    · skip
      replace hz := ifF hz hb
      refine st_move hf (wantY hf rfl rfl hb) rfl (by decide) ?_
      clear hf; intro a ha hf; clear ha
      obtain ⟨q2, hcall3, hz⟩ := bnd hz
      refine st_call hf (by decide) Try.func30 rfl rfl (wantY hf rfl rfl hb) rfl rfl (f_foghornref22_pattern_c hp _ _ hkeep1 hcall3) ?_
      rintro _ w ⟨rfl, hp0⟩
      clear hp; have hp := hp0; clear hp0
      replace hp : Hp S w0 w (ow) := hp
      refine ⟨_, rfl, ?_⟩
      clear hf; intro a hf
      refine st_not hf (by decide) (wantY hf rfl rfl hb) rfl ?_
      clear hf; intro a ha hf; clear ha
      obtain rfl := Option.some.inj hz
      refine st_pick (v := .bool (!q2)) hf rfl rfl (fun hb' => ?_) (fun hb' => ?_) (by decide) ?_
      · exact absurd (hb.symm.trans hb') (by decide)
      · rfl
      clear hf; intro a ha hf; clear ha
      refine st_nil hf (th_n ?_)
      exact ⟨hf.sub ⟨rfl, rfl, rfl, trivial⟩, hp⟩
  · rintro a w ⟨hf, hp⟩
    refine st_nil hf ?_
    refine th_n ?_
    refine wp_if hf rfl (fun hb => ?_) (fun hb => ?_)
    · replace h := ifT h hb
      refine wp_seq ?_
      refine wp_reg ?_
      refine st_assign hf rfl rfl (by decide) ?_
      clear hf; intro a ha hf; clear ha
      refine st_assign hf rfl rfl (by decide) ?_
      clear hf; intro a ha hf; clear ha
      refine st_nil hf ?_
      refine th_n ?_
      refine wp_ret ?_
      refine th_r ?_
      obtain rfl := Option.some.inj h
      have hp := hp.nil Ek.bool 4
      exact ⟨rfl, ⟨_, hf.sub ⟨rfl, rfl, trivial⟩, hp⟩⟩
    · replace h := ifF h hb
      refine wp_skip ?_
      refine th_n ?_
      refine wp_seq ?_
      refine wp_reg ?_
      refine st_assign hf rfl rfl (by decide) ?_
      clear hf; intro a ha hf; clear ha
      refine st_nil hf ?_
      refine th_n ?_
      refine wp_seq ?_
      refine wp_seq ?_
      refine wp_reg ?_
      refine st_assign hf rfl rfl (by decide) ?_
      clear hf; intro a ha hf; clear ha
      refine st_nil hf ?_
      refine th_n ?_
      refine wp_block ?_
      obtain ⟨q16, hl, h⟩ := bnd h
      have hp := hp.nil Ek.bool 4
      refine wp_loop_pure (f := (f_foghornref22_Thin.s1 l0 keep1)) (s := ([], 0)) (fun s a w => ∃ (v5 : Value), Fr 37 a [(0, vl0), (1, vkeep1), (6, v5), (7, .int .i64 s.2)] ∧ Hp S w0 w (Res.sl Ek.bool 4 v5 s.1 :: ow)) (fun q e a w => e = .exit 0 ∧ ∃ (v7 : Value), Fr 37 a [(6, v7)] ∧ Hp S w0 w (Res.sl Ek.bool 4 v7 q :: ow)) ?_ hl ⟨_, hf.sub ⟨rfl, rfl, rfl, rfl, trivial⟩, hp⟩ ?_
      · clear hl hf hp
        intro s x a w h hI
        obtain ⟨out6, i7⟩ := s
        obtain ⟨v5, hf, hp⟩ : ∃ (v5 : Value), Fr 37 a [(0, vl0), (1, vkeep1), (6, v5), (7, .int .i64 i7)] ∧ Hp S w0 w (Res.sl Ek.bool 4 v5 out6 :: ow) := hI
        replace h : f_foghornref22_Thin.s1c l0 keep1 out6 i7 = some x := h
        unfold f_foghornref22_Thin.s1c at h
        refine wp_seq ?_
        refine wp_seq ?_
        refine wp_reg ?_
        refine st_move hf rfl rfl (by decide) ?_
        clear hf; intro a ha hf; clear ha
        refine st_move hf rfl rfl (by decide) ?_
        clear hf; intro a ha hf; clear ha
        refine st_len (E := Ek.bool) hf (by decide) Try.underlying22 rfl rfl (hl0.sl hp) ?_
        clear hf; intro a ha hf; clear ha
        refine st_ilss hf (by decide) rfl rfl rfl ?_
        clear hf; intro a ha hf; clear ha
        refine st_nil hf ?_
        refine th_n ?_
        refine wp_if hf rfl (fun hb => ?_) (fun hb => ?_)
        · replace h := ifT h hb
          refine wp_skip ?_
          refine th_n ?_
          refine wp_seq ?_
          refine wp_block ?_
          refine wp_seq ?_
          refine wp_reg ?_
          refine st_move hf rfl rfl (by decide) ?_
          clear hf; intro a ha hf; clear ha
          refine st_move hf rfl rfl (by decide) ?_
          clear hf; intro a ha hf; clear ha
          refine st_move hf rfl rfl (by decide) ?_
          clear hf; intro a ha hf; clear ha
          refine st_len (E := Ek.bool) hf (by decide) Try.underlying22 rfl rfl (hkeep1.sl hp) ?_
          clear hf; intro a ha hf; clear ha
          obtain ⟨hc9, h⟩ := chk h
          refine st_irem hf (by decide) rfl rfl rfl hc9 ?_
          clear hf; intro a ha hf; clear ha
          obtain ⟨hc10, h⟩ := chk h
          refine st_index (E := Ek.bool) hf (by decide) Try.underlying22 elt4 rfl rfl rfl (hkeep1.sl hp) hc10.1 hc10.2 ?_
          clear hf; intro a ha hf; clear ha
          refine st_ldB hf (by decide) pl4 rfl rfl (hkeep1.sl hp) hc10.1 hc10.2 ?_
          clear hf; intro a ha hf; clear ha
          refine st_nil hf ?_
          refine th_n ?_
          refine wp_if hf rfl (fun hb => ?_) (fun hb => ?_)
          · replace h := ifT h hb
            refine wp_reg ?_
            refine st_move hf rfl rfl (by decide) ?_
            clear hf; intro a ha hf; clear ha
            refine st_move hf rfl rfl (by decide) ?_
            clear hf; intro a ha hf; clear ha
            refine st_move hf rfl rfl (by decide) ?_
            clear hf; intro a ha hf; clear ha
            obtain ⟨hc11, h⟩ := chk h
            refine st_index (E := Ek.bool) hf (by decide) Try.underlying22 elt4 rfl rfl rfl (hl0.sl hp) hc11.1 hc11.2 ?_
            clear hf; intro a ha hf; clear ha
            refine st_ldB hf (by decide) pl4 rfl rfl (hl0.sl hp) hc11.1 hc11.2 ?_
            clear hf; intro a ha hf; clear ha
            refine st_build (E := Ek.bool) (xs := [(gt l0 i7)]) hf (by decide) elt4 Try.underlying22 hp (vals := #[(0, .bool (gt l0 i7))]) (cells := #[.bool (gt l0 i7)]) rfl (by simp [hf.ev (x := (Operand.tmp 33)) rfl]) (by decide) (by decide) (z := .bool false) (by kernel_rfl) (by kernel_rfl) rfl (reps_cons (cs := [.bool (gt l0 i7)]) rfl (reps_nil _)) ?_
            clear hf; intro a w v12 hf hp0; clear hp; have hp := hp0; clear hp0
            replace hp : Hp S w0 w (Res.sl Ek.bool 4 v12 ([(gt l0 i7)]) :: Res.sl Ek.bool 4 v5 out6 :: ow) := hp
            obtain ⟨hc14, h⟩ := chk h
            refine st_append (E := Ek.bool) hf (by decide) elt4 Try.underlying22 (by decide) hp (i := 1) rfl rfl rfl rfl (hp.sl (i := 0) rfl) hc14 ?_
            clear hf; intro a w v15 hf hp0; clear hp; have hp := hp0; clear hp0
            replace hp : Hp S w0 w (Res.sl Ek.bool 4 v12 ([(gt l0 i7)]) :: Res.sl Ek.bool 4 v15 (out6 ++ [(gt l0 i7)]) :: ow) := hp
            refine st_assign hf rfl rfl (by decide) ?_
            clear hf; intro a ha hf; clear ha
            refine st_nil hf ?_
            refine ib_n ?_
            refine th_n ?_
            refine wp_reg ?_
            refine st_move hf rfl rfl (by decide) ?_
            clear hf; intro a ha hf; clear ha
            refine st_iadd hf (by decide) rfl rfl rfl ?_
            clear hf; intro a ha hf; clear ha
            refine st_assign hf rfl rfl (by decide) ?_
            clear hf; intro a ha hf; clear ha
            refine st_nil hf ?_
            obtain rfl := Option.some.inj h
            have hp : Hp S w0 w (Res.sl Ek.bool 4 v15 (out6 ++ [(gt l0 i7)]) :: ow) := Hp.sel (pre := [Res.sl Ek.bool 4 v12 ([(gt l0 i7)]), Res.sl Ek.bool 4 v15 (out6 ++ [(gt l0 i7)])]) (tail := ow) (rs' := [Res.sl Ek.bool 4 v15 (out6 ++ [(gt l0 i7)])]) hp [1] (by decide) (by simp) rfl
            exact rnd_l ⟨_, hf.sub ⟨rfl, rfl, rfl, rfl, trivial⟩, hp⟩
          · replace h := ifF h hb
            refine wp_skip ?_
            refine ib_n ?_
            refine th_n ?_
            refine wp_reg ?_
            refine st_move hf rfl rfl (by decide) ?_
            clear hf; intro a ha hf; clear ha
            refine st_iadd hf (by decide) rfl rfl rfl ?_
            clear hf; intro a ha hf; clear ha
            refine st_assign hf rfl rfl (by decide) ?_
            clear hf; intro a ha hf; clear ha
            refine st_nil hf ?_
            obtain rfl := Option.some.inj h
            exact rnd_l ⟨_, hf.sub ⟨rfl, rfl, rfl, rfl, trivial⟩, hp⟩
        · replace h := ifF h hb
          refine wp_exit ?_
          refine th_e ?_
          obtain rfl := Option.some.inj h
          exact rnd_r (by simp) ⟨rfl, _, hf.sub ⟨rfl, trivial⟩, hp⟩
      · clear hl hf hp
        intro e a w hne hO
        obtain ⟨rfl, v7, hf, hp⟩ := hO
        refine ib_same ?_
        refine th_n ?_
        refine wp_seq ?_
        refine wp_reg ?_
        refine st_move hf rfl rfl (by decide) ?_
        clear hf; intro a ha hf; clear ha
        refine st_assign hf rfl rfl (by decide) ?_
        clear hf; intro a ha hf; clear ha
        refine st_assign hf rfl rfl (by decide) ?_
        clear hf; intro a ha hf; clear ha
        refine st_nil hf ?_
        refine th_n ?_
        refine wp_ret ?_
        obtain rfl := Option.some.inj h
        exact ⟨rfl, ⟨_, hf.sub ⟨rfl, rfl, trivial⟩, hp⟩⟩

noncomputable def f_hard_Fill.s1c (l0 : (List Bool)) (keep1 : (List Bool)) (n2 : Int) (out8 : (List Int)) (k9 : Int) (t25 : Int) : Option (((List Int) × Int × Int) ⊕ (((List Int) × Int) ⊕ ((List Int) × Int))) := (if (decide (t25 < n2)) = true then (if (keep1.length : Int) ≠ 0 then (if 0 ≤ ((t25).tmod (keep1.length : Int)) ∧ ((t25).tmod (keep1.length : Int)) < (keep1.length : Int) then (if (!(gt keep1 ((t25).tmod (keep1.length : Int)))) = true then (if 0 ≤ t25 ∧ t25 < (out8.length : Int) then (some (Sum.inl ((out8.set (t25).toNat 2), k9, (IntKind.i64.wrap (t25 + 1))))) else none) else (if (k9 == (l0.length : Int)) = true then (some (Sum.inr (Sum.inr ([], 1)))) else (if 0 ≤ k9 ∧ k9 < (l0.length : Int) then (if (gt l0 k9) = true then (if 0 ≤ t25 ∧ t25 < (out8.length : Int) then (some (Sum.inl ((out8.set (t25).toNat 1), (IntKind.i64.wrap (k9 + 1)), (IntKind.i64.wrap (t25 + 1))))) else none) else (some (Sum.inl (out8, (IntKind.i64.wrap (k9 + 1)), (IntKind.i64.wrap (t25 + 1)))))) else none))) else none) else none) else (some (Sum.inr (Sum.inl (out8, k9)))))
noncomputable def f_hard_Fill.s1 (l0 : (List Bool)) (keep1 : (List Bool)) (n2 : Int) (s : ((List Int) × Int × Int)) : Option (((List Int) × Int × Int) ⊕ (((List Int) × Int) ⊕ ((List Int) × Int))) := f_hard_Fill.s1c l0 keep1 n2 s.1 s.2.1 s.2.2
noncomputable def f_hard_Fill (l0 : (List Bool)) (keep1 : (List Bool)) (n2 : Int) : Option ((List Int) × Int) := ((f_hard_pattern keep1).bind fun q1 => (if (((!q1) || (decide (n2 < 0))) || (decide (32768 < n2))) = true then (some ([], 1)) else (if 0 ≤ n2 ∧ n2 ≤ n2 ∧ n2 * 1 ≤ 281474976710656 then ((loop (f_hard_Fill.s1 l0 keep1 n2) ((List.replicate (n2).toNat (0 : Int)), 0, 0)).bind (fun q17 => sm q17 (fun q18 => (if (q18.2 != (l0.length : Int)) = true then (some ([], 1)) else (some (q18.1, 0)))) (fun q19 => (some (q19.1, q19.2))))) else none)))
theorem f_hard_Fill_c {S : Nat → Prop} {w0 w : World} {ow : List Res} (hp : Hp S w0 w ow) (vl0 : Value) (l0 : (List Bool)) (hl0 : RdS Ek.bool S w0 vl0 l0) (vkeep1 : Value) (keep1 : (List Bool)) (hkeep1 : RdS Ek.bool S w0 vkeep1 keep1) (n2 : Int) {r : ((List Int) × Int)} (h : f_hard_Fill l0 keep1 n2 = some r) :
    Calls Try.prog 11 #[vl0, vkeep1, .int .i64 n2] w (fun e w' => ∃ (u0 : Value), e = .returned (.tuple #[u0, .int .i64 r.2]) ∧ Hp S w0 w' (Res.sl (Ek.int .u8) 51 u0 r.1 :: ow)) := by
  unfold f_hard_Fill at h
  refine enter (n := 61) (args := [vl0, vkeep1, .int .i64 n2]) Try.func11 rfl rfl (Nat.le_of_ble_eq_true rfl) fun a hf => ?_
  replace hf : Fr 61 a [(0, vl0), (1, vkeep1), (2, .int .i64 n2)] := hf
  refine wp_mono (Q := fun e a w => e = .ret ∧ ∃ (u0 : Value), Fr 61 a [(6, u0), (7, .int .i64 r.2)] ∧ Hp S w0 w (Res.sl (Ek.int .u8) 51 u0 r.1 :: ow)) ?_ ?_
  rotate_left
  · rintro e a w ⟨rfl, x0, hf, hp⟩
    exact ret2 hf rfl rfl rfl ⟨x0, rfl, hp⟩
  refine wp_seq ?_
  refine wp_reg ?_
  refine st_assign hf rfl rfl (by decide) ?_
  clear hf; intro a ha hf; clear ha
  refine st_assign hf rfl rfl (by decide) ?_
  clear hf; intro a ha hf; clear ha
  refine st_nil hf ?_
  refine th_n ?_
  refine wp_seq ?_
  refine wp_seq ?_
  refine wp_reg ?_
  refine st_move hf rfl rfl (by decide) ?_
  clear hf; intro a ha hf; clear ha
  obtain ⟨q1, hcall2, h⟩ := bnd h
  refine st_call hf (by decide) Try.func29 rfl rfl rfl rfl rfl (f_hard_pattern_c hp _ _ hkeep1 hcall2) ?_
  rintro _ w ⟨rfl, hp0⟩
  clear hp; have hp := hp0; clear hp0
  replace hp : Hp S w0 w (ow) := hp
  refine ⟨_, rfl, ?_⟩
  clear hf; intro a hf
  refine st_not hf (by decide) rfl rfl ?_
  clear hf; intro a ha hf; clear ha
  refine st_move hf rfl rfl (by decide) ?_
  clear hf; intro a ha hf; clear ha
  refine wpList_cut 3 (fun a w => Fr 61 a [(0, vl0), (1, vkeep1), (2, .int .i64 n2), (17, .bool ((!q1) || (decide (n2 < 0))))] ∧ Hp S w0 w (ow)) ?_ ?_
  · rcases Bool.eq_false_or_eq_true (!q1) with hb | hb
    · skip
      refine st_skip hf (wantN hf rfl rfl hb) rfl (by decide) ?_ rfl
      clear hf; intro a hf
      refine st_skip hf (wantN hf rfl rfl hb) rfl (by decide) ?_ rfl
      clear hf; intro a hf
      refine st_pick (v := .bool true) hf rfl rfl (fun hb' => ?_) (fun hb' => ?_) (by decide) ?_
      · rfl
      · exact absurd (hb.symm.trans hb') (by decide)
      clear hf; intro a ha hf; clear ha
      refine st_nil hf (th_n ?_)
      exact ⟨hf.sub ⟨rfl, rfl, rfl, (by rw [hb]; rfl), trivial⟩, hp⟩
    · skip
      refine st_move hf (wantY hf rfl rfl hb) rfl (by decide) ?_
      clear hf; intro a ha hf; clear ha
      refine st_ilss hf (by decide) (wantY hf rfl rfl hb) rfl rfl ?_
      clear hf; intro a ha hf; clear ha
      refine st_pick (v := .bool (decide (n2 < 0))) hf rfl rfl (fun hb' => ?_) (fun hb' => ?_) (by decide) ?_
      · exact absurd (hb.symm.trans hb') (by decide)
      · rfl
      clear hf; intro a ha hf; clear ha
      refine st_nil hf (th_n ?_)
      exact ⟨hf.sub ⟨rfl, rfl, rfl, (by rw [hb]; rfl), trivial⟩, hp⟩
  · rintro a w ⟨hf, hp⟩
    refine st_move hf rfl rfl (by decide) ?_
    clear hf; intro a ha hf; clear ha
    refine wpList_cut 3 (fun a w => Fr 61 a [(0, vl0), (1, vkeep1), (2, .int .i64 n2), (21, .bool (((!q1) || (decide (n2 < 0))) || (decide (32768 < n2))))] ∧ Hp S w0 w (ow)) ?_ ?_
    · rcases Bool.eq_false_or_eq_true ((!q1) || (decide (n2 < 0))) with hb | hb
      · skip
        refine st_skip hf (wantN hf rfl rfl hb) rfl (by decide) ?_ rfl
        clear hf; intro a hf
        refine st_skip hf (wantN hf rfl rfl hb) rfl (by decide) ?_ rfl
        clear hf; intro a hf
        refine st_pick (v := .bool true) hf rfl rfl (fun hb' => ?_) (fun hb' => ?_) (by decide) ?_
        · rfl
        · exact absurd (hb.symm.trans hb') (by decide)
        clear hf; intro a ha hf; clear ha
        refine st_nil hf (th_n ?_)
        exact ⟨hf.sub ⟨rfl, rfl, rfl, (by rw [hb]; rfl), trivial⟩, hp⟩
      · skip
        refine st_move hf (wantY hf rfl rfl hb) rfl (by decide) ?_
        clear hf; intro a ha hf; clear ha
        refine st_igtr hf (by decide) (wantY hf rfl rfl hb) rfl rfl ?_
        clear hf; intro a ha hf; clear ha
        refine st_pick (v := .bool (decide (32768 < n2))) hf rfl rfl (fun hb' => ?_) (fun hb' => ?_) (by decide) ?_
        · exact absurd (hb.symm.trans hb') (by decide)
        · rfl
        clear hf; intro a ha hf; clear ha
        refine st_nil hf (th_n ?_)
        exact ⟨hf.sub ⟨rfl, rfl, rfl, (by rw [hb]; rfl), trivial⟩, hp⟩
    · rintro a w ⟨hf, hp⟩
      refine st_nil hf ?_
      refine th_n ?_
      refine wp_if hf rfl (fun hb => ?_) (fun hb => ?_)
      · replace h := ifT h hb
        refine wp_seq ?_
        refine wp_reg ?_
        refine st_assign hf rfl rfl (by decide) ?_
        clear hf; intro a ha hf; clear ha
        refine st_assign hf rfl rfl (by decide) ?_
        clear hf; intro a ha hf; clear ha
        refine st_nil hf ?_
        refine th_n ?_
        refine wp_ret ?_
        refine th_r ?_
        obtain rfl := Option.some.inj h
        have hp := hp.nil (Ek.int .u8) 51
        exact ⟨rfl, ⟨_, hf.sub ⟨rfl, rfl, trivial⟩, hp⟩⟩
      · replace h := ifF h hb
        refine wp_skip ?_
        refine th_n ?_
        refine wp_seq ?_
        refine wp_reg ?_
        refine st_move hf rfl rfl (by decide) ?_
        clear hf; intro a ha hf; clear ha
        obtain ⟨hc4, h⟩ := chk h
        refine st_make (E := (Ek.int .u8)) hf (by decide) elt51 Try.underlying26 (by decide) hp rfl rfl rfl hc4.1 hc4.2.1 hc4.2.2 ?_
        clear hf; intro a w v5 hf hp0; clear hp; have hp := hp0; clear hp0
        replace hp : Hp S w0 w (Res.sl (Ek.int .u8) 51 v5 (List.replicate (n2).toNat (0 : Int)) :: ow) := hp
        refine st_assign hf rfl rfl (by decide) ?_
        clear hf; intro a ha hf; clear ha
        refine st_nil hf ?_
        refine th_n ?_
        refine wp_seq ?_
        refine wp_reg ?_
        refine st_assign hf rfl rfl (by decide) ?_
        clear hf; intro a ha hf; clear ha
        refine st_nil hf ?_
        refine th_n ?_
        refine wp_seq ?_
        refine wp_seq ?_
        refine wp_reg ?_
        refine st_move hf rfl rfl (by decide) ?_
        clear hf; intro a ha hf; clear ha
        refine st_move hf rfl rfl (by decide) ?_
        clear hf; intro a ha hf; clear ha
        refine st_nil hf ?_
        refine th_n ?_
        refine wp_block ?_
        obtain ⟨q17, hl, h⟩ := bnd h
        refine wp_loop_pure (f := (f_hard_Fill.s1 l0 keep1 n2)) (s := ((List.replicate (n2).toNat (0 : Int)), 0, 0)) (fun s a w => ∃ (v7 : Value), Fr 61 a [(0, vl0), (1, vkeep1), (8, v7), (9, .int .i64 s.2.1), (24, .int .i64 n2), (25, .int .i64 s.2.2)] ∧ Hp S w0 w (Res.sl (Ek.int .u8) 51 v7 s.1 :: ow)) (fun q e a w => match q with | (Sum.inl q) => e = .exit 0 ∧ ∃ (v9 : Value), Fr 61 a [(0, vl0), (8, v9), (9, .int .i64 q.2)] ∧ Hp S w0 w (Res.sl (Ek.int .u8) 51 v9 q.1 :: ow) | (Sum.inr q) => e = .ret ∧ ∃ (u0 : Value), Fr 61 a [(6, u0), (7, .int .i64 q.2)] ∧ Hp S w0 w (Res.sl (Ek.int .u8) 51 u0 q.1 :: ow)) ?_ hl ⟨_, hf.sub ⟨rfl, rfl, rfl, rfl, rfl, rfl, trivial⟩, hp⟩ ?_
        · clear hl hf hp
          intro s x a w h hI
          obtain ⟨out8, k9, t25⟩ := s
          obtain ⟨v7, hf, hp⟩ : ∃ (v7 : Value), Fr 61 a [(0, vl0), (1, vkeep1), (8, v7), (9, .int .i64 k9), (24, .int .i64 n2), (25, .int .i64 t25)] ∧ Hp S w0 w (Res.sl (Ek.int .u8) 51 v7 out8 :: ow) := hI
          replace h : f_hard_Fill.s1c l0 keep1 n2 out8 k9 t25 = some x := h
          unfold f_hard_Fill.s1c at h
          refine wp_seq ?_
          refine wp_reg ?_
          refine st_ilss hf (by decide) rfl rfl rfl ?_
          clear hf; intro a ha hf; clear ha
          refine st_nil hf ?_
          refine th_n ?_
          refine wp_seq ?_
          refine wp_if hf rfl (fun hb => ?_) (fun hb => ?_)
          · replace h := ifT h hb
            refine wp_skip ?_
            refine th_n ?_
            refine wp_seq ?_
            refine wp_block ?_
            refine wp_seq ?_
            refine wp_reg ?_
            refine st_move hf rfl rfl (by decide) ?_
            clear hf; intro a ha hf; clear ha
            refine st_assign hf rfl rfl (by decide) ?_
            clear hf; intro a ha hf; clear ha
            refine st_nil hf ?_
            refine th_n ?_
            refine wp_seq ?_
            refine wp_block ?_
            refine wp_seq ?_
            refine wp_reg ?_
            refine st_move hf rfl rfl (by decide) ?_
            clear hf; intro a ha hf; clear ha
            refine st_move hf rfl rfl (by decide) ?_
            clear hf; intro a ha hf; clear ha
            refine st_move hf rfl rfl (by decide) ?_
            clear hf; intro a ha hf; clear ha
            refine st_len (E := Ek.bool) hf (by decide) Try.underlying22 rfl rfl (hkeep1.sl hp) ?_
            clear hf; intro a ha hf; clear ha
            obtain ⟨hc11, h⟩ := chk h
            refine st_irem hf (by decide) rfl rfl rfl hc11 ?_
            clear hf; intro a ha hf; clear ha
            obtain ⟨hc12, h⟩ := chk h
            refine st_index (E := Ek.bool) hf (by decide) Try.underlying22 elt4 rfl rfl rfl (hkeep1.sl hp) hc12.1 hc12.2 ?_
            clear hf; intro a ha hf; clear ha
            refine st_ldB hf (by decide) pl4 rfl rfl (hkeep1.sl hp) hc12.1 hc12.2 ?_
            clear hf; intro a ha hf; clear ha
            refine st_not hf (by decide) rfl rfl ?_
            clear hf; intro a ha hf; clear ha
            refine st_assign hf rfl rfl (by decide) ?_
            clear hf; intro a ha hf; clear ha
            refine st_nil hf ?_
            refine th_n ?_
            refine wp_if hf rfl (fun hb => ?_) (fun hb => ?_)
            · replace h := ifT h hb
              refine wp_seq ?_
              refine wp_reg ?_
              refine st_move hf rfl rfl (by decide) ?_
              clear hf; intro a ha hf; clear ha
              refine st_move hf rfl rfl (by decide) ?_
              clear hf; intro a ha hf; clear ha
              obtain ⟨hc13, h⟩ := chk h
              refine st_index (E := (Ek.int .u8)) hf (by decide) Try.underlying26 elt51 rfl rfl rfl (hp.sl (i := 0) rfl) hc13.1 hc13.2 ?_
              clear hf; intro a ha hf; clear ha
              refine st_store (E := (Ek.int .u8)) hf elt51 hp (i := 0) rfl rfl rfl rfl rfl hc13.1 hc13.2 ?_
              clear hf; intro a w hf hp0; clear hp; have hp := hp0; clear hp0
              replace hp : Hp S w0 w (Res.sl (Ek.int .u8) 51 v7 (out8.set (t25).toNat 2) :: ow) := hp
              refine st_nil hf ?_
              refine th_n ?_
              refine wp_exit ?_
              refine ib_ne rfl ?_
              refine th_e ?_
              refine ib_same ?_
              refine th_n ?_
              refine wp_reg ?_
              refine st_iadd hf (by decide) rfl rfl rfl ?_
              clear hf; intro a ha hf; clear ha
              refine st_move hf rfl rfl (by decide) ?_
              clear hf; intro a ha hf; clear ha
              refine st_nil hf ?_
              obtain rfl := Option.some.inj h
              exact rnd_l ⟨_, hf.sub ⟨rfl, rfl, rfl, rfl, rfl, rfl, trivial⟩, hp⟩
            · replace h := ifF h hb
              refine wp_seq ?_
              refine wp_reg ?_
              refine st_move hf rfl rfl (by decide) ?_
              clear hf; intro a ha hf; clear ha
              refine st_move hf rfl rfl (by decide) ?_
              clear hf; intro a ha hf; clear ha
              refine st_len (E := Ek.bool) hf (by decide) Try.underlying22 rfl rfl (hl0.sl hp) ?_
              clear hf; intro a ha hf; clear ha
              refine st_ieql hf (by decide) rfl rfl rfl ?_
              clear hf; intro a ha hf; clear ha
              refine st_assign hf rfl rfl (by decide) ?_
              clear hf; intro a ha hf; clear ha
              refine st_nil hf ?_
              refine th_n ?_
              refine wp_if hf rfl (fun hb => ?_) (fun hb => ?_)
              · replace h := ifT h hb
                refine wp_seq ?_
                refine wp_reg ?_
                refine st_assign hf rfl rfl (by decide) ?_
                clear hf; intro a ha hf; clear ha
                refine st_assign hf rfl rfl (by decide) ?_
                clear hf; intro a ha hf; clear ha
                refine st_nil hf ?_
                refine th_n ?_
                refine wp_ret ?_
                refine ib_r ?_
                refine th_r ?_
                refine ib_r ?_
                refine th_r ?_
                obtain rfl := Option.some.inj h
                have hp := hp.nil (Ek.int .u8) 51
                have hp : Hp S w0 w (Res.sl (Ek.int .u8) 51 (.slice none 0 0) ([]) :: ow) := Hp.sel (pre := [Res.sl (Ek.int .u8) 51 (.slice none 0 0) ([]), Res.sl (Ek.int .u8) 51 v7 out8]) (tail := ow) (rs' := [Res.sl (Ek.int .u8) 51 (.slice none 0 0) ([])]) hp [0] (by decide) (by simp) rfl
                exact rnd_r (by simp) ⟨rfl, ⟨_, hf.sub ⟨rfl, rfl, trivial⟩, hp⟩⟩
              · replace h := ifF h hb
                refine wp_seq ?_
                refine wp_reg ?_
                refine st_move hf rfl rfl (by decide) ?_
                clear hf; intro a ha hf; clear ha
                refine st_move hf rfl rfl (by decide) ?_
                clear hf; intro a ha hf; clear ha
                obtain ⟨hc15, h⟩ := chk h
                refine st_index (E := Ek.bool) hf (by decide) Try.underlying22 elt4 rfl rfl rfl (hl0.sl hp) hc15.1 hc15.2 ?_
                clear hf; intro a ha hf; clear ha
                refine st_ldB hf (by decide) pl4 rfl rfl (hl0.sl hp) hc15.1 hc15.2 ?_
                clear hf; intro a ha hf; clear ha
                refine st_assign hf rfl rfl (by decide) ?_
                clear hf; intro a ha hf; clear ha
                refine st_nil hf ?_
                refine th_n ?_
                refine wp_if hf rfl (fun hb => ?_) (fun hb => ?_)
                · replace h := ifT h hb
                  refine wp_reg ?_
                  refine st_move hf rfl rfl (by decide) ?_
                  clear hf; intro a ha hf; clear ha
                  refine st_move hf rfl rfl (by decide) ?_
                  clear hf; intro a ha hf; clear ha
                  obtain ⟨hc16, h⟩ := chk h
                  refine st_index (E := (Ek.int .u8)) hf (by decide) Try.underlying26 elt51 rfl rfl rfl (hp.sl (i := 0) rfl) hc16.1 hc16.2 ?_
                  clear hf; intro a ha hf; clear ha
                  refine st_store (E := (Ek.int .u8)) hf elt51 hp (i := 0) rfl rfl rfl rfl rfl hc16.1 hc16.2 ?_
                  clear hf; intro a w hf hp0; clear hp; have hp := hp0; clear hp0
                  replace hp : Hp S w0 w (Res.sl (Ek.int .u8) 51 v7 (out8.set (t25).toNat 1) :: ow) := hp
                  refine st_nil hf ?_
                  refine ib_n ?_
                  refine th_n ?_
                  refine wp_reg ?_
                  refine st_move hf rfl rfl (by decide) ?_
                  clear hf; intro a ha hf; clear ha
                  refine st_iadd hf (by decide) rfl rfl rfl ?_
                  clear hf; intro a ha hf; clear ha
                  refine st_assign hf rfl rfl (by decide) ?_
                  clear hf; intro a ha hf; clear ha
                  refine st_nil hf ?_
                  refine ib_n ?_
                  refine th_n ?_
                  refine wp_reg ?_
                  refine st_iadd hf (by decide) rfl rfl rfl ?_
                  clear hf; intro a ha hf; clear ha
                  refine st_move hf rfl rfl (by decide) ?_
                  clear hf; intro a ha hf; clear ha
                  refine st_nil hf ?_
                  obtain rfl := Option.some.inj h
                  exact rnd_l ⟨_, hf.sub ⟨rfl, rfl, rfl, rfl, rfl, rfl, trivial⟩, hp⟩
                · replace h := ifF h hb
                  refine wp_skip ?_
                  refine ib_n ?_
                  refine th_n ?_
                  refine wp_reg ?_
                  refine st_move hf rfl rfl (by decide) ?_
                  clear hf; intro a ha hf; clear ha
                  refine st_iadd hf (by decide) rfl rfl rfl ?_
                  clear hf; intro a ha hf; clear ha
                  refine st_assign hf rfl rfl (by decide) ?_
                  clear hf; intro a ha hf; clear ha
                  refine st_nil hf ?_
                  refine ib_n ?_
                  refine th_n ?_
                  refine wp_reg ?_
                  refine st_iadd hf (by decide) rfl rfl rfl ?_
                  clear hf; intro a ha hf; clear ha
                  refine st_move hf rfl rfl (by decide) ?_
                  clear hf; intro a ha hf; clear ha
                  refine st_nil hf ?_
                  obtain rfl := Option.some.inj h
                  exact rnd_l ⟨_, hf.sub ⟨rfl, rfl, rfl, rfl, rfl, rfl, trivial⟩, hp⟩
          · replace h := ifF h hb
            refine wp_exit ?_
            refine th_e ?_
            obtain rfl := Option.some.inj h
            exact rnd_r (by simp) ⟨rfl, _, hf.sub ⟨rfl, rfl, rfl, trivial⟩, hp⟩
        · clear hl hf hp
          intro e a w hne hO
          cases q17 with
          | inl q18 =>
            replace h := smL h
            obtain ⟨rfl, v9, hf, hp⟩ := hO
            refine ib_same ?_
            refine th_n ?_
            refine wp_seq ?_
            refine wp_seq ?_
            refine wp_reg ?_
            refine st_move hf rfl rfl (by decide) ?_
            clear hf; intro a ha hf; clear ha
            refine st_move hf rfl rfl (by decide) ?_
            clear hf; intro a ha hf; clear ha
            refine st_len (E := Ek.bool) hf (by decide) Try.underlying22 rfl rfl (hl0.sl hp) ?_
            clear hf; intro a ha hf; clear ha
            refine st_ineq hf (by decide) rfl rfl rfl ?_
            clear hf; intro a ha hf; clear ha
            refine st_nil hf ?_
            refine th_n ?_
            refine wp_if hf rfl (fun hb => ?_) (fun hb => ?_)
            · replace h := ifT h hb
              refine wp_seq ?_
              refine wp_reg ?_
              refine st_assign hf rfl rfl (by decide) ?_
              clear hf; intro a ha hf; clear ha
              refine st_assign hf rfl rfl (by decide) ?_
              clear hf; intro a ha hf; clear ha
              refine st_nil hf ?_
              refine th_n ?_
              refine wp_ret ?_
              refine th_r ?_
              obtain rfl := Option.some.inj h
              have hp := hp.nil (Ek.int .u8) 51
              have hp : Hp S w0 w (Res.sl (Ek.int .u8) 51 (.slice none 0 0) ([]) :: ow) := Hp.sel (pre := [Res.sl (Ek.int .u8) 51 (.slice none 0 0) ([]), Res.sl (Ek.int .u8) 51 v9 q18.1]) (tail := ow) (rs' := [Res.sl (Ek.int .u8) 51 (.slice none 0 0) ([])]) hp [0] (by decide) (by simp) rfl
              exact ⟨rfl, ⟨_, hf.sub ⟨rfl, rfl, trivial⟩, hp⟩⟩
            · replace h := ifF h hb
              refine wp_skip ?_
              refine th_n ?_
              refine wp_seq ?_
              refine wp_reg ?_
              refine st_move hf rfl rfl (by decide) ?_
              clear hf; intro a ha hf; clear ha
              refine st_assign hf rfl rfl (by decide) ?_
              clear hf; intro a ha hf; clear ha
              refine st_assign hf rfl rfl (by decide) ?_
              clear hf; intro a ha hf; clear ha
              refine st_nil hf ?_
              refine th_n ?_
              refine wp_ret ?_
              obtain rfl := Option.some.inj h
              exact ⟨rfl, ⟨_, hf.sub ⟨rfl, rfl, trivial⟩, hp⟩⟩
          | inr q19 =>
            replace h := smR h
            obtain ⟨rfl, x0, hf, hp⟩ := hO
            refine ib_r ?_
            refine th_r ?_
            obtain rfl := Option.some.inj h
            exact ⟨rfl, ⟨_, hf.sub ⟨rfl, rfl, trivial⟩, hp⟩⟩

noncomputable def f_foghornref22_Marks.s1c (l0 : (List Bool)) (out3 : (List Int)) (i4 : Int) : Option (((List Int) × Int) ⊕ (List Int)) := (if (decide (i4 < (l0.length : Int))) = true then (if 0 ≤ i4 ∧ i4 < (l0.length : Int) then (if (gt l0 i4) = true then (if (out3.length + ([1]).length) * 1 ≤ 140737488355328 then (some (Sum.inl ((out3 ++ [1]), (IntKind.i64.wrap (i4 + 1))))) else none) else (if (out3.length + ([0]).length) * 1 ≤ 140737488355328 then (some (Sum.inl ((out3 ++ [0]), (IntKind.i64.wrap (i4 + 1))))) else none)) else none) else (some (Sum.inr out3)))
noncomputable def f_foghornref22_Marks.s1 (l0 : (List Bool)) (s : ((List Int) × Int)) : Option (((List Int) × Int) ⊕ (List Int)) := f_foghornref22_Marks.s1c l0 s.1 s.2
noncomputable def f_foghornref22_Marks (l0 : (List Bool)) : Option (List Int) := ((loop (f_foghornref22_Marks.s1 l0) ([], 0)).bind (fun q14 => (some q14)))
theorem f_foghornref22_Marks_c {S : Nat → Prop} {w0 w : World} {ow : List Res} (hp : Hp S w0 w ow) (vl0 : Value) (l0 : (List Bool)) (hl0 : RdS Ek.bool S w0 vl0 l0) {r : (List Int)} (h : f_foghornref22_Marks l0 = some r) :
    Calls Try.prog 16 #[vl0] w (fun e w' => ∃ (u0 : Value), e = .returned (u0) ∧ Hp S w0 w' (Res.sl (Ek.int .u8) 5 u0 r :: ow)) := by
  unfold f_foghornref22_Marks at h
  refine enter (n := 22) (args := [vl0]) Try.func16 rfl rfl (Nat.le_of_ble_eq_true rfl) fun a hf => ?_
  replace hf : Fr 22 a [(0, vl0)] := hf
  refine wp_mono (Q := fun e a w => e = .ret ∧ ∃ (u0 : Value), Fr 22 a [(2, u0)] ∧ Hp S w0 w (Res.sl (Ek.int .u8) 5 u0 r :: ow)) ?_ ?_
  rotate_left
  · rintro e a w ⟨rfl, x0, hf, hp⟩
    exact ret1 hf rfl rfl ⟨x0, rfl, hp⟩
  refine wp_seq ?_
  refine wp_reg ?_
  refine st_assign hf rfl rfl (by decide) ?_
  clear hf; intro a ha hf; clear ha
  refine st_nil hf ?_
  refine th_n ?_
  refine wp_seq ?_
  refine wp_reg ?_
  refine st_assign hf rfl rfl (by decide) ?_
  clear hf; intro a ha hf; clear ha
  refine st_nil hf ?_
  refine th_n ?_
  refine wp_seq ?_
  refine wp_seq ?_
  refine wp_reg ?_
  refine st_assign hf rfl rfl (by decide) ?_
  clear hf; intro a ha hf; clear ha
  refine st_nil hf ?_
  refine th_n ?_
  refine wp_block ?_
  obtain ⟨q14, hl, h⟩ := bnd h
  have hp := hp.nil (Ek.int .u8) 5
  refine wp_loop_pure (f := (f_foghornref22_Marks.s1 l0)) (s := ([], 0)) (fun s a w => ∃ (v1 : Value), Fr 22 a [(0, vl0), (3, v1), (4, .int .i64 s.2)] ∧ Hp S w0 w (Res.sl (Ek.int .u8) 5 v1 s.1 :: ow)) (fun q e a w => e = .exit 0 ∧ ∃ (v3 : Value), Fr 22 a [(3, v3)] ∧ Hp S w0 w (Res.sl (Ek.int .u8) 5 v3 q :: ow)) ?_ hl ⟨_, hf.sub ⟨rfl, rfl, rfl, trivial⟩, hp⟩ ?_
  · clear hl hf hp
    intro s x a w h hI
    obtain ⟨out3, i4⟩ := s
    obtain ⟨v1, hf, hp⟩ : ∃ (v1 : Value), Fr 22 a [(0, vl0), (3, v1), (4, .int .i64 i4)] ∧ Hp S w0 w (Res.sl (Ek.int .u8) 5 v1 out3 :: ow) := hI
    replace h : f_foghornref22_Marks.s1c l0 out3 i4 = some x := h
    unfold f_foghornref22_Marks.s1c at h
    refine wp_seq ?_
    refine wp_seq ?_
    refine wp_reg ?_
    refine st_move hf rfl rfl (by decide) ?_
    clear hf; intro a ha hf; clear ha
    refine st_move hf rfl rfl (by decide) ?_
    clear hf; intro a ha hf; clear ha
    refine st_len (E := Ek.bool) hf (by decide) Try.underlying22 rfl rfl (hl0.sl hp) ?_
    clear hf; intro a ha hf; clear ha
    refine st_ilss hf (by decide) rfl rfl rfl ?_
    clear hf; intro a ha hf; clear ha
    refine st_nil hf ?_
    refine th_n ?_
    refine wp_if hf rfl (fun hb => ?_) (fun hb => ?_)
    · replace h := ifT h hb
      refine wp_skip ?_
      refine th_n ?_
      refine wp_seq ?_
      refine wp_block ?_
      refine wp_seq ?_
      refine wp_reg ?_
      refine st_move hf rfl rfl (by decide) ?_
      clear hf; intro a ha hf; clear ha
      refine st_move hf rfl rfl (by decide) ?_
      clear hf; intro a ha hf; clear ha
      obtain ⟨hc5, h⟩ := chk h
      refine st_index (E := Ek.bool) hf (by decide) Try.underlying22 elt4 rfl rfl rfl (hl0.sl hp) hc5.1 hc5.2 ?_
      clear hf; intro a ha hf; clear ha
      refine st_ldB hf (by decide) pl4 rfl rfl (hl0.sl hp) hc5.1 hc5.2 ?_
      clear hf; intro a ha hf; clear ha
      refine st_nil hf ?_
      refine th_n ?_
      refine wp_if hf rfl (fun hb => ?_) (fun hb => ?_)
      · replace h := ifT h hb
        refine wp_reg ?_
        refine st_move hf rfl rfl (by decide) ?_
        clear hf; intro a ha hf; clear ha
        refine st_build (E := (Ek.int .u8)) (xs := [1]) hf (by decide) elt5 Try.underlying29 hp (vals := #[(0, .int .u8 1)]) (cells := #[.int .u8 1]) rfl (by simp [hf.ev (x := (Operand.const (.int .u8 1))) rfl]) (by decide) (by decide) (z := .int .u8 0) (by kernel_rfl) (by kernel_rfl) rfl (reps_cons (cs := [.int .u8 1]) rfl (reps_nil _)) ?_
        clear hf; intro a w v6 hf hp0; clear hp; have hp := hp0; clear hp0
        replace hp : Hp S w0 w (Res.sl (Ek.int .u8) 5 v6 ([1]) :: Res.sl (Ek.int .u8) 5 v1 out3 :: ow) := hp
        obtain ⟨hc8, h⟩ := chk h
        refine st_append (E := (Ek.int .u8)) hf (by decide) elt5 Try.underlying29 (by decide) hp (i := 1) rfl rfl rfl rfl (hp.sl (i := 0) rfl) hc8 ?_
        clear hf; intro a w v9 hf hp0; clear hp; have hp := hp0; clear hp0
        replace hp : Hp S w0 w (Res.sl (Ek.int .u8) 5 v6 ([1]) :: Res.sl (Ek.int .u8) 5 v9 (out3 ++ [1]) :: ow) := hp
        refine st_assign hf rfl rfl (by decide) ?_
        clear hf; intro a ha hf; clear ha
        refine st_nil hf ?_
        refine ib_n ?_
        refine th_n ?_
        refine wp_reg ?_
        refine st_move hf rfl rfl (by decide) ?_
        clear hf; intro a ha hf; clear ha
        refine st_iadd hf (by decide) rfl rfl rfl ?_
        clear hf; intro a ha hf; clear ha
        refine st_assign hf rfl rfl (by decide) ?_
        clear hf; intro a ha hf; clear ha
        refine st_nil hf ?_
        obtain rfl := Option.some.inj h
        have hp : Hp S w0 w (Res.sl (Ek.int .u8) 5 v9 (out3 ++ [1]) :: ow) := Hp.sel (pre := [Res.sl (Ek.int .u8) 5 v6 ([1]), Res.sl (Ek.int .u8) 5 v9 (out3 ++ [1])]) (tail := ow) (rs' := [Res.sl (Ek.int .u8) 5 v9 (out3 ++ [1])]) hp [1] (by decide) (by simp) rfl
        exact rnd_l ⟨_, hf.sub ⟨rfl, rfl, rfl, trivial⟩, hp⟩
      · replace h := ifF h hb
        refine wp_reg ?_
        refine st_move hf rfl rfl (by decide) ?_
        clear hf; intro a ha hf; clear ha
        refine st_build (E := (Ek.int .u8)) (xs := [0]) hf (by decide) elt5 Try.underlying29 hp (vals := #[(0, .int .u8 0)]) (cells := #[.int .u8 0]) rfl (by simp [hf.ev (x := (Operand.const (.int .u8 0))) rfl]) (by decide) (by decide) (z := .int .u8 0) (by kernel_rfl) (by kernel_rfl) rfl (reps_cons (cs := [.int .u8 0]) rfl (reps_nil _)) ?_
        clear hf; intro a w v10 hf hp0; clear hp; have hp := hp0; clear hp0
        replace hp : Hp S w0 w (Res.sl (Ek.int .u8) 5 v10 ([0]) :: Res.sl (Ek.int .u8) 5 v1 out3 :: ow) := hp
        obtain ⟨hc12, h⟩ := chk h
        refine st_append (E := (Ek.int .u8)) hf (by decide) elt5 Try.underlying29 (by decide) hp (i := 1) rfl rfl rfl rfl (hp.sl (i := 0) rfl) hc12 ?_
        clear hf; intro a w v13 hf hp0; clear hp; have hp := hp0; clear hp0
        replace hp : Hp S w0 w (Res.sl (Ek.int .u8) 5 v10 ([0]) :: Res.sl (Ek.int .u8) 5 v13 (out3 ++ [0]) :: ow) := hp
        refine st_assign hf rfl rfl (by decide) ?_
        clear hf; intro a ha hf; clear ha
        refine st_nil hf ?_
        refine ib_n ?_
        refine th_n ?_
        refine wp_reg ?_
        refine st_move hf rfl rfl (by decide) ?_
        clear hf; intro a ha hf; clear ha
        refine st_iadd hf (by decide) rfl rfl rfl ?_
        clear hf; intro a ha hf; clear ha
        refine st_assign hf rfl rfl (by decide) ?_
        clear hf; intro a ha hf; clear ha
        refine st_nil hf ?_
        obtain rfl := Option.some.inj h
        have hp : Hp S w0 w (Res.sl (Ek.int .u8) 5 v13 (out3 ++ [0]) :: ow) := Hp.sel (pre := [Res.sl (Ek.int .u8) 5 v10 ([0]), Res.sl (Ek.int .u8) 5 v13 (out3 ++ [0])]) (tail := ow) (rs' := [Res.sl (Ek.int .u8) 5 v13 (out3 ++ [0])]) hp [1] (by decide) (by simp) rfl
        exact rnd_l ⟨_, hf.sub ⟨rfl, rfl, rfl, trivial⟩, hp⟩
    · replace h := ifF h hb
      refine wp_exit ?_
      refine th_e ?_
      obtain rfl := Option.some.inj h
      exact rnd_r (by simp) ⟨rfl, _, hf.sub ⟨rfl, trivial⟩, hp⟩
  · clear hl hf hp
    intro e a w hne hO
    obtain ⟨rfl, v3, hf, hp⟩ := hO
    refine ib_same ?_
    refine th_n ?_
    refine wp_seq ?_
    refine wp_reg ?_
    refine st_move hf rfl rfl (by decide) ?_
    clear hf; intro a ha hf; clear ha
    refine st_assign hf rfl rfl (by decide) ?_
    clear hf; intro a ha hf; clear ha
    refine st_nil hf ?_
    refine th_n ?_
    refine wp_ret ?_
    obtain rfl := Option.some.inj h
    exact ⟨rfl, ⟨_, hf.sub ⟨rfl, trivial⟩, hp⟩⟩

noncomputable def f_foghornref22_Fill.s1c (keep1 : (List Bool)) (n2 : Int) (many8 : Int) (i9 : Int) : Option ((Int × Int) ⊕ Int) := (if (decide (i9 < n2)) = true then (if (keep1.length : Int) ≠ 0 then (if 0 ≤ ((i9).tmod (keep1.length : Int)) ∧ ((i9).tmod (keep1.length : Int)) < (keep1.length : Int) then (if (gt keep1 ((i9).tmod (keep1.length : Int))) = true then (some (Sum.inl ((IntKind.i64.wrap (many8 + 1)), (IntKind.i64.wrap (i9 + 1))))) else (some (Sum.inl (many8, (IntKind.i64.wrap (i9 + 1)))))) else none) else none) else (some (Sum.inr many8)))
noncomputable def f_foghornref22_Fill.s1 (keep1 : (List Bool)) (n2 : Int) (s : (Int × Int)) : Option ((Int × Int) ⊕ Int) := f_foghornref22_Fill.s1c keep1 n2 s.1 s.2
noncomputable def f_foghornref22_Fill.s2c (keep1 : (List Bool)) (n2 : Int) (q8 : (List Int)) (out10 : (List Int)) (k12 : Int) (i13 : Int) : Option (((List Int) × Int × Int) ⊕ (List Int)) := (if (decide (i13 < n2)) = true then (if (keep1.length : Int) ≠ 0 then (if 0 ≤ ((i13).tmod (keep1.length : Int)) ∧ ((i13).tmod (keep1.length : Int)) < (keep1.length : Int) then (if (!(gt keep1 ((i13).tmod (keep1.length : Int)))) = true then (if (out10.length + ([2]).length) * 1 ≤ 140737488355328 then (some (Sum.inl ((out10 ++ [2]), k12, (IntKind.i64.wrap (i13 + 1))))) else none) else (if 0 ≤ k12 ∧ k12 < (q8.length : Int) then (if (out10.length + ([(gt q8 k12)]).length) * 1 ≤ 140737488355328 then (some (Sum.inl ((out10 ++ [(gt q8 k12)]), (IntKind.i64.wrap (k12 + 1)), (IntKind.i64.wrap (i13 + 1))))) else none) else none)) else none) else none) else (some (Sum.inr out10)))
noncomputable def f_foghornref22_Fill.s2 (keep1 : (List Bool)) (n2 : Int) (q8 : (List Int)) (s : ((List Int) × Int × Int)) : Option (((List Int) × Int × Int) ⊕ (List Int)) := f_foghornref22_Fill.s2c keep1 n2 q8 s.1 s.2.1 s.2.2
noncomputable def f_foghornref22_Fill (l0 : (List Bool)) (keep1 : (List Bool)) (n2 : Int) : Option ((List Int) × Int) := ((f_foghornref22_pattern keep1).bind fun q1 => (if (((!q1) || (decide (n2 < 0))) || (decide (32768 < n2))) = true then (some ([], 1)) else ((loop (f_foghornref22_Fill.s1 keep1 n2) (0, 0)).bind (fun q6 => (if (q6 != (l0.length : Int)) = true then (some ([], 1)) else ((f_foghornref22_Marks l0).bind fun q8 => ((loop (f_foghornref22_Fill.s2 keep1 n2 q8) ([], 0, 0)).bind (fun q27 => (some (q27, 0))))))))))
theorem f_foghornref22_Fill_c {S : Nat → Prop} {w0 w : World} {ow : List Res} (hp : Hp S w0 w ow) (vl0 : Value) (l0 : (List Bool)) (hl0 : RdS Ek.bool S w0 vl0 l0) (vkeep1 : Value) (keep1 : (List Bool)) (hkeep1 : RdS Ek.bool S w0 vkeep1 keep1) (n2 : Int) {r : ((List Int) × Int)} (h : f_foghornref22_Fill l0 keep1 n2 = some r) :
    Calls Try.prog 12 #[vl0, vkeep1, .int .i64 n2] w (fun e w' => ∃ (u0 : Value), e = .returned (.tuple #[u0, .int .i64 r.2]) ∧ Hp S w0 w' (Res.sl (Ek.int .u8) 5 u0 r.1 :: ow)) := by
  unfold f_foghornref22_Fill at h
  refine enter (n := 71) (args := [vl0, vkeep1, .int .i64 n2]) Try.func12 rfl rfl (Nat.le_of_ble_eq_true rfl) fun a hf => ?_
  replace hf : Fr 71 a [(0, vl0), (1, vkeep1), (2, .int .i64 n2)] := hf
  refine wp_mono (Q := fun e a w => e = .ret ∧ ∃ (u0 : Value), Fr 71 a [(6, u0), (7, .int .i64 r.2)] ∧ Hp S w0 w (Res.sl (Ek.int .u8) 5 u0 r.1 :: ow)) ?_ ?_
  rotate_left
  · rintro e a w ⟨rfl, x0, hf, hp⟩
    exact ret2 hf rfl rfl rfl ⟨x0, rfl, hp⟩
  refine wp_seq ?_
  refine wp_reg ?_
  refine st_assign hf rfl rfl (by decide) ?_
  clear hf; intro a ha hf; clear ha
  refine st_assign hf rfl rfl (by decide) ?_
  clear hf; intro a ha hf; clear ha
  refine st_nil hf ?_
  refine th_n ?_
  refine wp_seq ?_
  refine wp_seq ?_
  refine wp_reg ?_
  refine st_move hf rfl rfl (by decide) ?_
  clear hf; intro a ha hf; clear ha
  obtain ⟨q1, hcall2, h⟩ := bnd h
  refine st_call hf (by decide) Try.func30 rfl rfl rfl rfl rfl (f_foghornref22_pattern_c hp _ _ hkeep1 hcall2) ?_
  rintro _ w ⟨rfl, hp0⟩
  clear hp; have hp := hp0; clear hp0
  replace hp : Hp S w0 w (ow) := hp
  refine ⟨_, rfl, ?_⟩
  clear hf; intro a hf
  refine st_not hf (by decide) rfl rfl ?_
  clear hf; intro a ha hf; clear ha
  refine st_move hf rfl rfl (by decide) ?_
  clear hf; intro a ha hf; clear ha
  refine wpList_cut 3 (fun a w => Fr 71 a [(0, vl0), (1, vkeep1), (2, .int .i64 n2), (20, .bool ((!q1) || (decide (n2 < 0))))] ∧ Hp S w0 w (ow)) ?_ ?_
  · rcases Bool.eq_false_or_eq_true (!q1) with hb | hb
    · skip
      refine st_skip hf (wantN hf rfl rfl hb) rfl (by decide) ?_ rfl
      clear hf; intro a hf
      refine st_skip hf (wantN hf rfl rfl hb) rfl (by decide) ?_ rfl
      clear hf; intro a hf
      refine st_pick (v := .bool true) hf rfl rfl (fun hb' => ?_) (fun hb' => ?_) (by decide) ?_
      · rfl
      · exact absurd (hb.symm.trans hb') (by decide)
      clear hf; intro a ha hf; clear ha
      refine st_nil hf (th_n ?_)
      exact ⟨hf.sub ⟨rfl, rfl, rfl, (by rw [hb]; rfl), trivial⟩, hp⟩
    · skip
      refine st_move hf (wantY hf rfl rfl hb) rfl (by decide) ?_
      clear hf; intro a ha hf; clear ha
      refine st_ilss hf (by decide) (wantY hf rfl rfl hb) rfl rfl ?_
      clear hf; intro a ha hf; clear ha
      refine st_pick (v := .bool (decide (n2 < 0))) hf rfl rfl (fun hb' => ?_) (fun hb' => ?_) (by decide) ?_
      · exact absurd (hb.symm.trans hb') (by decide)
      · rfl
      clear hf; intro a ha hf; clear ha
      refine st_nil hf (th_n ?_)
      exact ⟨hf.sub ⟨rfl, rfl, rfl, (by rw [hb]; rfl), trivial⟩, hp⟩
  · rintro a w ⟨hf, hp⟩
    refine st_move hf rfl rfl (by decide) ?_
    clear hf; intro a ha hf; clear ha
    refine wpList_cut 3 (fun a w => Fr 71 a [(0, vl0), (1, vkeep1), (2, .int .i64 n2), (24, .bool (((!q1) || (decide (n2 < 0))) || (decide (32768 < n2))))] ∧ Hp S w0 w (ow)) ?_ ?_
    · rcases Bool.eq_false_or_eq_true ((!q1) || (decide (n2 < 0))) with hb | hb
      · skip
        refine st_skip hf (wantN hf rfl rfl hb) rfl (by decide) ?_ rfl
        clear hf; intro a hf
        refine st_skip hf (wantN hf rfl rfl hb) rfl (by decide) ?_ rfl
        clear hf; intro a hf
        refine st_pick (v := .bool true) hf rfl rfl (fun hb' => ?_) (fun hb' => ?_) (by decide) ?_
        · rfl
        · exact absurd (hb.symm.trans hb') (by decide)
        clear hf; intro a ha hf; clear ha
        refine st_nil hf (th_n ?_)
        exact ⟨hf.sub ⟨rfl, rfl, rfl, (by rw [hb]; rfl), trivial⟩, hp⟩
      · skip
        refine st_move hf (wantY hf rfl rfl hb) rfl (by decide) ?_
        clear hf; intro a ha hf; clear ha
        refine st_igtr hf (by decide) (wantY hf rfl rfl hb) rfl rfl ?_
        clear hf; intro a ha hf; clear ha
        refine st_pick (v := .bool (decide (32768 < n2))) hf rfl rfl (fun hb' => ?_) (fun hb' => ?_) (by decide) ?_
        · exact absurd (hb.symm.trans hb') (by decide)
        · rfl
        clear hf; intro a ha hf; clear ha
        refine st_nil hf (th_n ?_)
        exact ⟨hf.sub ⟨rfl, rfl, rfl, (by rw [hb]; rfl), trivial⟩, hp⟩
    · rintro a w ⟨hf, hp⟩
      refine st_nil hf ?_
      refine th_n ?_
      refine wp_if hf rfl (fun hb => ?_) (fun hb => ?_)
      · replace h := ifT h hb
        refine wp_seq ?_
        refine wp_reg ?_
        refine st_assign hf rfl rfl (by decide) ?_
        clear hf; intro a ha hf; clear ha
        refine st_assign hf rfl rfl (by decide) ?_
        clear hf; intro a ha hf; clear ha
        refine st_nil hf ?_
        refine th_n ?_
        refine wp_ret ?_
        refine th_r ?_
        obtain rfl := Option.some.inj h
        have hp := hp.nil (Ek.int .u8) 5
        exact ⟨rfl, ⟨_, hf.sub ⟨rfl, rfl, trivial⟩, hp⟩⟩
      · replace h := ifF h hb
        refine wp_skip ?_
        refine th_n ?_
        refine wp_seq ?_
        refine wp_reg ?_
        refine st_assign hf rfl rfl (by decide) ?_
        clear hf; intro a ha hf; clear ha
        refine st_nil hf ?_
        refine th_n ?_
        refine wp_seq ?_
        refine wp_seq ?_
        refine wp_reg ?_
        refine st_assign hf rfl rfl (by decide) ?_
        clear hf; intro a ha hf; clear ha
        refine st_nil hf ?_
        refine th_n ?_
        refine wp_block ?_
        obtain ⟨q6, hl, h⟩ := bnd h
        refine wp_loop_pure (f := (f_foghornref22_Fill.s1 keep1 n2)) (s := (0, 0)) (fun s a w => Fr 71 a [(0, vl0), (1, vkeep1), (2, .int .i64 n2), (8, .int .i64 s.1), (9, .int .i64 s.2)] ∧ Hp S w0 w (ow)) (fun q e a w => e = .exit 0 ∧ Fr 71 a [(0, vl0), (1, vkeep1), (2, .int .i64 n2), (8, .int .i64 q)] ∧ Hp S w0 w (ow)) ?_ hl ⟨hf.sub ⟨rfl, rfl, rfl, rfl, rfl, trivial⟩, hp⟩ ?_
        · clear hl hf hp
          intro s x a w h hI
          obtain ⟨many8, i9⟩ := s
          obtain ⟨hf, hp⟩ : Fr 71 a [(0, vl0), (1, vkeep1), (2, .int .i64 n2), (8, .int .i64 many8), (9, .int .i64 i9)] ∧ Hp S w0 w (ow) := hI
          replace h : f_foghornref22_Fill.s1c keep1 n2 many8 i9 = some x := h
          unfold f_foghornref22_Fill.s1c at h
          refine wp_seq ?_
          refine wp_seq ?_
          refine wp_reg ?_
          refine st_move hf rfl rfl (by decide) ?_
          clear hf; intro a ha hf; clear ha
          refine st_move hf rfl rfl (by decide) ?_
          clear hf; intro a ha hf; clear ha
          refine st_ilss hf (by decide) rfl rfl rfl ?_
          clear hf; intro a ha hf; clear ha
          refine st_nil hf ?_
          refine th_n ?_
          refine wp_if hf rfl (fun hb => ?_) (fun hb => ?_)
          · replace h := ifT h hb
            refine wp_skip ?_
            refine th_n ?_
            refine wp_seq ?_
            refine wp_block ?_
            refine wp_seq ?_
            refine wp_reg ?_
            refine st_move hf rfl rfl (by decide) ?_
            clear hf; intro a ha hf; clear ha
            refine st_move hf rfl rfl (by decide) ?_
            clear hf; intro a ha hf; clear ha
            refine st_move hf rfl rfl (by decide) ?_
            clear hf; intro a ha hf; clear ha
            refine st_len (E := Ek.bool) hf (by decide) Try.underlying22 rfl rfl (hkeep1.sl hp) ?_
            clear hf; intro a ha hf; clear ha
            obtain ⟨hc4, h⟩ := chk h
            refine st_irem hf (by decide) rfl rfl rfl hc4 ?_
            clear hf; intro a ha hf; clear ha
            obtain ⟨hc5, h⟩ := chk h
            refine st_index (E := Ek.bool) hf (by decide) Try.underlying22 elt4 rfl rfl rfl (hkeep1.sl hp) hc5.1 hc5.2 ?_
            clear hf; intro a ha hf; clear ha
            refine st_ldB hf (by decide) pl4 rfl rfl (hkeep1.sl hp) hc5.1 hc5.2 ?_
            clear hf; intro a ha hf; clear ha
            refine st_nil hf ?_
            refine th_n ?_
            refine wp_if hf rfl (fun hb => ?_) (fun hb => ?_)
            · replace h := ifT h hb
              refine wp_reg ?_
              refine st_move hf rfl rfl (by decide) ?_
              clear hf; intro a ha hf; clear ha
              refine st_iadd hf (by decide) rfl rfl rfl ?_
              clear hf; intro a ha hf; clear ha
              refine st_assign hf rfl rfl (by decide) ?_
              clear hf; intro a ha hf; clear ha
              refine st_nil hf ?_
              refine ib_n ?_
              refine th_n ?_
              refine wp_reg ?_
              refine st_move hf rfl rfl (by decide) ?_
              clear hf; intro a ha hf; clear ha
              refine st_iadd hf (by decide) rfl rfl rfl ?_
              clear hf; intro a ha hf; clear ha
              refine st_assign hf rfl rfl (by decide) ?_
              clear hf; intro a ha hf; clear ha
              refine st_nil hf ?_
              obtain rfl := Option.some.inj h
              exact rnd_l ⟨hf.sub ⟨rfl, rfl, rfl, rfl, rfl, trivial⟩, hp⟩
            · replace h := ifF h hb
              refine wp_skip ?_
              refine ib_n ?_
              refine th_n ?_
              refine wp_reg ?_
              refine st_move hf rfl rfl (by decide) ?_
              clear hf; intro a ha hf; clear ha
              refine st_iadd hf (by decide) rfl rfl rfl ?_
              clear hf; intro a ha hf; clear ha
              refine st_assign hf rfl rfl (by decide) ?_
              clear hf; intro a ha hf; clear ha
              refine st_nil hf ?_
              obtain rfl := Option.some.inj h
              exact rnd_l ⟨hf.sub ⟨rfl, rfl, rfl, rfl, rfl, trivial⟩, hp⟩
          · replace h := ifF h hb
            refine wp_exit ?_
            refine th_e ?_
            obtain rfl := Option.some.inj h
            exact rnd_r (by simp) ⟨rfl, hf.sub ⟨rfl, rfl, rfl, rfl, trivial⟩, hp⟩
        · clear hl hf hp
          intro e a w hne hO
          obtain ⟨rfl, hf, hp⟩ := hO
          refine ib_same ?_
          refine th_n ?_
          refine wp_seq ?_
          refine wp_seq ?_
          refine wp_reg ?_
          refine st_move hf rfl rfl (by decide) ?_
          clear hf; intro a ha hf; clear ha
          refine st_move hf rfl rfl (by decide) ?_
          clear hf; intro a ha hf; clear ha
          refine st_len (E := Ek.bool) hf (by decide) Try.underlying22 rfl rfl (hl0.sl hp) ?_
          clear hf; intro a ha hf; clear ha
          refine st_ineq hf (by decide) rfl rfl rfl ?_
          clear hf; intro a ha hf; clear ha
          refine st_nil hf ?_
          refine th_n ?_
          refine wp_if hf rfl (fun hb => ?_) (fun hb => ?_)
          · replace h := ifT h hb
            refine wp_seq ?_
            refine wp_reg ?_
            refine st_assign hf rfl rfl (by decide) ?_
            clear hf; intro a ha hf; clear ha
            refine st_assign hf rfl rfl (by decide) ?_
            clear hf; intro a ha hf; clear ha
            refine st_nil hf ?_
            refine th_n ?_
            refine wp_ret ?_
            refine th_r ?_
            obtain rfl := Option.some.inj h
            have hp := hp.nil (Ek.int .u8) 5
            exact ⟨rfl, ⟨_, hf.sub ⟨rfl, rfl, trivial⟩, hp⟩⟩
          · replace h := ifF h hb
            refine wp_skip ?_
            refine th_n ?_
            refine wp_seq ?_
            refine wp_reg ?_
            refine st_assign hf rfl rfl (by decide) ?_
            clear hf; intro a ha hf; clear ha
            refine st_nil hf ?_
            refine th_n ?_
            refine wp_seq ?_
            refine wp_reg ?_
            refine st_move hf rfl rfl (by decide) ?_
            clear hf; intro a ha hf; clear ha
            obtain ⟨q8, hcall9, h⟩ := bnd h
            refine st_call hf (by decide) Try.func16 rfl rfl rfl rfl rfl (f_foghornref22_Marks_c hp _ _ hl0 hcall9) ?_
            rintro _ w ⟨v10, rfl, hp0⟩
            clear hp; have hp := hp0; clear hp0
            replace hp : Hp S w0 w (Res.sl (Ek.int .u8) 5 v10 q8 :: ow) := hp
            refine ⟨_, rfl, ?_⟩
            clear hf; intro a hf
            refine st_assign hf rfl rfl (by decide) ?_
            clear hf; intro a ha hf; clear ha
            refine st_nil hf ?_
            refine th_n ?_
            refine wp_seq ?_
            refine wp_reg ?_
            refine st_assign hf rfl rfl (by decide) ?_
            clear hf; intro a ha hf; clear ha
            refine st_nil hf ?_
            refine th_n ?_
            refine wp_seq ?_
            refine wp_seq ?_
            refine wp_reg ?_
            refine st_assign hf rfl rfl (by decide) ?_
            clear hf; intro a ha hf; clear ha
            refine st_nil hf ?_
            refine th_n ?_
            refine wp_block ?_
            obtain ⟨q27, hl, h⟩ := bnd h
            have hp := hp.nil (Ek.int .u8) 5
            refine wp_loop_pure (f := (f_foghornref22_Fill.s2 keep1 n2 q8)) (s := ([], 0, 0)) (fun s a w => ∃ (v12 : Value), Fr 71 a [(1, vkeep1), (2, .int .i64 n2), (10, v12), (11, v10), (12, .int .i64 s.2.1), (13, .int .i64 s.2.2)] ∧ Hp S w0 w (Res.sl (Ek.int .u8) 5 v12 s.1 :: Res.sl (Ek.int .u8) 5 v10 q8 :: ow)) (fun q e a w => e = .exit 2 ∧ ∃ (v14 : Value), Fr 71 a [(10, v14)] ∧ Hp S w0 w (Res.sl (Ek.int .u8) 5 v14 q :: ow)) ?_ hl ⟨_, hf.sub ⟨rfl, rfl, rfl, rfl, rfl, rfl, trivial⟩, hp⟩ ?_
            · clear hl hf hp
              intro s x a w h hI
              obtain ⟨out10, k12, i13⟩ := s
              obtain ⟨v12, hf, hp⟩ : ∃ (v12 : Value), Fr 71 a [(1, vkeep1), (2, .int .i64 n2), (10, v12), (11, v10), (12, .int .i64 k12), (13, .int .i64 i13)] ∧ Hp S w0 w (Res.sl (Ek.int .u8) 5 v12 out10 :: Res.sl (Ek.int .u8) 5 v10 q8 :: ow) := hI
              replace h : f_foghornref22_Fill.s2c keep1 n2 q8 out10 k12 i13 = some x := h
              unfold f_foghornref22_Fill.s2c at h
              refine wp_seq ?_
              refine wp_seq ?_
              refine wp_reg ?_
              refine st_move hf rfl rfl (by decide) ?_
              clear hf; intro a ha hf; clear ha
              refine st_move hf rfl rfl (by decide) ?_
              clear hf; intro a ha hf; clear ha
              refine st_ilss hf (by decide) rfl rfl rfl ?_
              clear hf; intro a ha hf; clear ha
              refine st_nil hf ?_
              refine th_n ?_
              refine wp_if hf rfl (fun hb => ?_) (fun hb => ?_)
              · replace h := ifT h hb
                refine wp_skip ?_
                refine th_n ?_
                refine wp_seq ?_
                refine wp_block ?_
                refine wp_seq ?_
                refine wp_seq ?_
                refine wp_reg ?_
                refine st_move hf rfl rfl (by decide) ?_
                clear hf; intro a ha hf; clear ha
                refine st_move hf rfl rfl (by decide) ?_
                clear hf; intro a ha hf; clear ha
                refine st_move hf rfl rfl (by decide) ?_
                clear hf; intro a ha hf; clear ha
                refine st_len (E := Ek.bool) hf (by decide) Try.underlying22 rfl rfl (hkeep1.sl hp) ?_
                clear hf; intro a ha hf; clear ha
                obtain ⟨hc16, h⟩ := chk h
                refine st_irem hf (by decide) rfl rfl rfl hc16 ?_
                clear hf; intro a ha hf; clear ha
                obtain ⟨hc17, h⟩ := chk h
                refine st_index (E := Ek.bool) hf (by decide) Try.underlying22 elt4 rfl rfl rfl (hkeep1.sl hp) hc17.1 hc17.2 ?_
                clear hf; intro a ha hf; clear ha
                refine st_ldB hf (by decide) pl4 rfl rfl (hkeep1.sl hp) hc17.1 hc17.2 ?_
                clear hf; intro a ha hf; clear ha
                refine st_not hf (by decide) rfl rfl ?_
                clear hf; intro a ha hf; clear ha
                refine st_nil hf ?_
                refine th_n ?_
                refine wp_if hf rfl (fun hb => ?_) (fun hb => ?_)
                · replace h := ifT h hb
                  refine wp_seq ?_
                  refine wp_reg ?_
                  refine st_move hf rfl rfl (by decide) ?_
                  clear hf; intro a ha hf; clear ha
                  refine st_build (E := (Ek.int .u8)) (xs := [2]) hf (by decide) elt5 Try.underlying29 hp (vals := #[(0, .int .u8 2)]) (cells := #[.int .u8 2]) rfl (by simp [hf.ev (x := (Operand.const (.int .u8 2))) rfl]) (by decide) (by decide) (z := .int .u8 0) (by kernel_rfl) (by kernel_rfl) rfl (reps_cons (cs := [.int .u8 2]) rfl (reps_nil _)) ?_
                  clear hf; intro a w v18 hf hp0; clear hp; have hp := hp0; clear hp0
                  replace hp : Hp S w0 w (Res.sl (Ek.int .u8) 5 v18 ([2]) :: Res.sl (Ek.int .u8) 5 v12 out10 :: Res.sl (Ek.int .u8) 5 v10 q8 :: ow) := hp
                  obtain ⟨hc20, h⟩ := chk h
                  refine st_append (E := (Ek.int .u8)) hf (by decide) elt5 Try.underlying29 (by decide) hp (i := 1) rfl rfl rfl rfl (hp.sl (i := 0) rfl) hc20 ?_
                  clear hf; intro a w v21 hf hp0; clear hp; have hp := hp0; clear hp0
                  replace hp : Hp S w0 w (Res.sl (Ek.int .u8) 5 v18 ([2]) :: Res.sl (Ek.int .u8) 5 v21 (out10 ++ [2]) :: Res.sl (Ek.int .u8) 5 v10 q8 :: ow) := hp
                  refine st_assign hf rfl rfl (by decide) ?_
                  clear hf; intro a ha hf; clear ha
                  refine st_nil hf ?_
                  refine th_n ?_
                  refine wp_exit ?_
                  refine th_e ?_
                  refine ib_same ?_
                  refine th_n ?_
                  refine wp_reg ?_
                  refine st_move hf rfl rfl (by decide) ?_
                  clear hf; intro a ha hf; clear ha
                  refine st_iadd hf (by decide) rfl rfl rfl ?_
                  clear hf; intro a ha hf; clear ha
                  refine st_assign hf rfl rfl (by decide) ?_
                  clear hf; intro a ha hf; clear ha
                  refine st_nil hf ?_
                  obtain rfl := Option.some.inj h
                  have hp : Hp S w0 w (Res.sl (Ek.int .u8) 5 v21 (out10 ++ [2]) :: Res.sl (Ek.int .u8) 5 v10 q8 :: ow) := Hp.sel (pre := [Res.sl (Ek.int .u8) 5 v18 ([2]), Res.sl (Ek.int .u8) 5 v21 (out10 ++ [2]), Res.sl (Ek.int .u8) 5 v10 q8]) (tail := ow) (rs' := [Res.sl (Ek.int .u8) 5 v21 (out10 ++ [2]), Res.sl (Ek.int .u8) 5 v10 q8]) hp [1, 2] (by decide) (by simp) rfl
                  exact rnd_l ⟨_, hf.sub ⟨rfl, rfl, rfl, rfl, rfl, rfl, trivial⟩, hp⟩
                · replace h := ifF h hb
                  refine wp_skip ?_
                  refine th_n ?_
                  refine wp_seq ?_
                  refine wp_reg ?_
                  refine st_move hf rfl rfl (by decide) ?_
                  clear hf; intro a ha hf; clear ha
                  refine st_move hf rfl rfl (by decide) ?_
                  clear hf; intro a ha hf; clear ha
                  refine st_move hf rfl rfl (by decide) ?_
                  clear hf; intro a ha hf; clear ha
                  obtain ⟨hc22, h⟩ := chk h
                  refine st_index (E := (Ek.int .u8)) hf (by decide) Try.underlying29 elt5 rfl rfl rfl (hp.sl (i := 1) rfl) hc22.1 hc22.2 ?_
                  clear hf; intro a ha hf; clear ha
                  refine st_ldI hf (by decide) pl5 rfl rfl (hp.sl (i := 1) rfl) hc22.1 hc22.2 ?_
                  clear hf; intro a ha hf; clear ha
                  refine st_build (E := (Ek.int .u8)) (xs := [(gt q8 k12)]) hf (by decide) elt5 Try.underlying29 hp (vals := #[(0, .int .u8 (gt q8 k12))]) (cells := #[.int .u8 (gt q8 k12)]) rfl (by simp [hf.ev (x := (Operand.tmp 65)) rfl]) (by decide) (by decide) (z := .int .u8 0) (by kernel_rfl) (by kernel_rfl) rfl (reps_cons (cs := [.int .u8 (gt q8 k12)]) rfl (reps_nil _)) ?_
                  clear hf; intro a w v23 hf hp0; clear hp; have hp := hp0; clear hp0
                  replace hp : Hp S w0 w (Res.sl (Ek.int .u8) 5 v23 ([(gt q8 k12)]) :: Res.sl (Ek.int .u8) 5 v12 out10 :: Res.sl (Ek.int .u8) 5 v10 q8 :: ow) := hp
                  obtain ⟨hc25, h⟩ := chk h
                  refine st_append (E := (Ek.int .u8)) hf (by decide) elt5 Try.underlying29 (by decide) hp (i := 1) rfl rfl rfl rfl (hp.sl (i := 0) rfl) hc25 ?_
                  clear hf; intro a w v26 hf hp0; clear hp; have hp := hp0; clear hp0
                  replace hp : Hp S w0 w (Res.sl (Ek.int .u8) 5 v23 ([(gt q8 k12)]) :: Res.sl (Ek.int .u8) 5 v26 (out10 ++ [(gt q8 k12)]) :: Res.sl (Ek.int .u8) 5 v10 q8 :: ow) := hp
                  refine st_assign hf rfl rfl (by decide) ?_
                  clear hf; intro a ha hf; clear ha
                  refine st_nil hf ?_
                  refine th_n ?_
                  refine wp_reg ?_
                  refine st_move hf rfl rfl (by decide) ?_
                  clear hf; intro a ha hf; clear ha
                  refine st_iadd hf (by decide) rfl rfl rfl ?_
                  clear hf; intro a ha hf; clear ha
                  refine st_assign hf rfl rfl (by decide) ?_
                  clear hf; intro a ha hf; clear ha
                  refine st_nil hf ?_
                  refine ib_n ?_
                  refine th_n ?_
                  refine wp_reg ?_
                  refine st_move hf rfl rfl (by decide) ?_
                  clear hf; intro a ha hf; clear ha
                  refine st_iadd hf (by decide) rfl rfl rfl ?_
                  clear hf; intro a ha hf; clear ha
                  refine st_assign hf rfl rfl (by decide) ?_
                  clear hf; intro a ha hf; clear ha
                  refine st_nil hf ?_
                  obtain rfl := Option.some.inj h
                  have hp : Hp S w0 w (Res.sl (Ek.int .u8) 5 v26 (out10 ++ [(gt q8 k12)]) :: Res.sl (Ek.int .u8) 5 v10 q8 :: ow) := Hp.sel (pre := [Res.sl (Ek.int .u8) 5 v23 ([(gt q8 k12)]), Res.sl (Ek.int .u8) 5 v26 (out10 ++ [(gt q8 k12)]), Res.sl (Ek.int .u8) 5 v10 q8]) (tail := ow) (rs' := [Res.sl (Ek.int .u8) 5 v26 (out10 ++ [(gt q8 k12)]), Res.sl (Ek.int .u8) 5 v10 q8]) hp [1, 2] (by decide) (by simp) rfl
                  exact rnd_l ⟨_, hf.sub ⟨rfl, rfl, rfl, rfl, rfl, rfl, trivial⟩, hp⟩
              · replace h := ifF h hb
                refine wp_exit ?_
                refine th_e ?_
                obtain rfl := Option.some.inj h
                have hp : Hp S w0 w (Res.sl (Ek.int .u8) 5 v12 out10 :: ow) := Hp.sel (pre := [Res.sl (Ek.int .u8) 5 v12 out10, Res.sl (Ek.int .u8) 5 v10 q8]) (tail := ow) (rs' := [Res.sl (Ek.int .u8) 5 v12 out10]) hp [0] (by decide) (by simp) rfl
                exact rnd_r (by simp) ⟨rfl, _, hf.sub ⟨rfl, trivial⟩, hp⟩
            · clear hl hf hp
              intro e a w hne hO
              obtain ⟨rfl, v14, hf, hp⟩ := hO
              refine ib_same ?_
              refine th_n ?_
              refine wp_seq ?_
              refine wp_reg ?_
              refine st_move hf rfl rfl (by decide) ?_
              clear hf; intro a ha hf; clear ha
              refine st_assign hf rfl rfl (by decide) ?_
              clear hf; intro a ha hf; clear ha
              refine st_assign hf rfl rfl (by decide) ?_
              clear hf; intro a ha hf; clear ha
              refine st_nil hf ?_
              refine th_n ?_
              refine wp_ret ?_
              obtain rfl := Option.some.inj h
              exact ⟨rfl, ⟨_, hf.sub ⟨rfl, rfl, trivial⟩, hp⟩⟩

noncomputable def f_foghornlaw22_sameBits.s1c (a0 : (List Bool)) (b1 : (List Bool)) (i5 : Int) : Option (Int ⊕ (Unit ⊕ Bool)) := (if (decide (i5 < (a0.length : Int))) = true then (if 0 ≤ i5 ∧ i5 < (a0.length : Int) then (if 0 ≤ i5 ∧ i5 < (b1.length : Int) then (if ((gt a0 i5) != (gt b1 i5)) = true then (some (Sum.inr (Sum.inr false))) else (some (Sum.inl (IntKind.i64.wrap (i5 + 1))))) else none) else none) else (some (Sum.inr (Sum.inl ()))))
noncomputable def f_foghornlaw22_sameBits.s1 (a0 : (List Bool)) (b1 : (List Bool)) (s : Int) : Option (Int ⊕ (Unit ⊕ Bool)) := f_foghornlaw22_sameBits.s1c a0 b1 s
noncomputable def f_foghornlaw22_sameBits (a0 : (List Bool)) (b1 : (List Bool)) : Option Bool := (if ((a0.length : Int) != (b1.length : Int)) = true then (some false) else ((loop (f_foghornlaw22_sameBits.s1 a0 b1) 0).bind (fun q3 => sm q3 (fun q4 => (some true)) (fun q5 => (some q5)))))
theorem f_foghornlaw22_sameBits_c {S : Nat → Prop} {w0 w : World} {ow : List Res} (hp : Hp S w0 w ow) (va0 : Value) (a0 : (List Bool)) (ha0 : RdS Ek.bool S w0 va0 a0) (vb1 : Value) (b1 : (List Bool)) (hb1 : RdS Ek.bool S w0 vb1 b1) {r : Bool} (h : f_foghornlaw22_sameBits a0 b1 = some r) :
    Calls Try.prog 13 #[va0, vb1] w (fun e w' => e = .returned (.bool r) ∧ Hp S w0 w' (ow)) := by
  unfold f_foghornlaw22_sameBits at h
  refine enter (n := 26) (args := [va0, vb1]) Try.func13 rfl rfl (Nat.le_of_ble_eq_true rfl) fun a hf => ?_
  replace hf : Fr 26 a [(0, va0), (1, vb1)] := hf
  refine wp_mono (Q := fun e a w => e = .ret ∧ Fr 26 a [(4, .bool r)] ∧ Hp S w0 w (ow)) ?_ ?_
  rotate_left
  · rintro e a w ⟨rfl, hf, hp⟩
    exact ret1 hf rfl rfl ⟨rfl, hp⟩
  refine wp_seq ?_
  refine wp_reg ?_
  refine st_assign hf rfl rfl (by decide) ?_
  clear hf; intro a ha hf; clear ha
  refine st_nil hf ?_
  refine th_n ?_
  refine wp_seq ?_
  refine wp_seq ?_
  refine wp_reg ?_
  refine st_move hf rfl rfl (by decide) ?_
  clear hf; intro a ha hf; clear ha
  refine st_len (E := Ek.bool) hf (by decide) Try.underlying22 rfl rfl (ha0.sl hp) ?_
  clear hf; intro a ha hf; clear ha
  refine st_move hf rfl rfl (by decide) ?_
  clear hf; intro a ha hf; clear ha
  refine st_len (E := Ek.bool) hf (by decide) Try.underlying22 rfl rfl (hb1.sl hp) ?_
  clear hf; intro a ha hf; clear ha
  refine st_ineq hf (by decide) rfl rfl rfl ?_
  clear hf; intro a ha hf; clear ha
  refine st_nil hf ?_
  refine th_n ?_
  refine wp_if hf rfl (fun hb => ?_) (fun hb => ?_)
  · replace h := ifT h hb
    refine wp_seq ?_
    refine wp_reg ?_
    refine st_assign hf rfl rfl (by decide) ?_
    clear hf; intro a ha hf; clear ha
    refine st_nil hf ?_
    refine th_n ?_
    refine wp_ret ?_
    refine th_r ?_
    obtain rfl := Option.some.inj h
    exact ⟨rfl, ⟨hf.sub ⟨rfl, trivial⟩, hp⟩⟩
  · replace h := ifF h hb
    refine wp_skip ?_
    refine th_n ?_
    refine wp_seq ?_
    refine wp_seq ?_
    refine wp_reg ?_
    refine st_assign hf rfl rfl (by decide) ?_
    clear hf; intro a ha hf; clear ha
    refine st_nil hf ?_
    refine th_n ?_
    refine wp_block ?_
    obtain ⟨q3, hl, h⟩ := bnd h
    refine wp_loop_pure (f := (f_foghornlaw22_sameBits.s1 a0 b1)) (s := 0) (fun s a w => Fr 26 a [(0, va0), (1, vb1), (5, .int .i64 s)] ∧ Hp S w0 w (ow)) (fun q e a w => match q with | (Sum.inl q) => e = .exit 0 ∧ Fr 26 a [] ∧ Hp S w0 w (ow) | (Sum.inr q) => e = .ret ∧ Fr 26 a [(4, .bool q)] ∧ Hp S w0 w (ow)) ?_ hl ⟨hf.sub ⟨rfl, rfl, rfl, trivial⟩, hp⟩ ?_
    · clear hl hf hp
      intro s x a w h hI
      obtain ⟨i5, hs⟩ : ∃ z, z = s := ⟨s, rfl⟩; subst hs
      obtain ⟨hf, hp⟩ : Fr 26 a [(0, va0), (1, vb1), (5, .int .i64 i5)] ∧ Hp S w0 w (ow) := hI
      replace h : f_foghornlaw22_sameBits.s1c a0 b1 i5 = some x := h
      unfold f_foghornlaw22_sameBits.s1c at h
      refine wp_seq ?_
      refine wp_seq ?_
      refine wp_reg ?_
      refine st_move hf rfl rfl (by decide) ?_
      clear hf; intro a ha hf; clear ha
      refine st_move hf rfl rfl (by decide) ?_
      clear hf; intro a ha hf; clear ha
      refine st_len (E := Ek.bool) hf (by decide) Try.underlying22 rfl rfl (ha0.sl hp) ?_
      clear hf; intro a ha hf; clear ha
      refine st_ilss hf (by decide) rfl rfl rfl ?_
      clear hf; intro a ha hf; clear ha
      refine st_nil hf ?_
      refine th_n ?_
      refine wp_if hf rfl (fun hb => ?_) (fun hb => ?_)
      · replace h := ifT h hb
        refine wp_skip ?_
        refine th_n ?_
        refine wp_seq ?_
        refine wp_block ?_
        refine wp_seq ?_
        obtain ⟨hc1, h⟩ := chk h
        obtain ⟨hc2, h⟩ := chk h
        refine wp_cutN (fun a w => Fr 26 a [(0, va0), (1, vb1), (5, .int .i64 i5), (25, .bool ((gt a0 i5) != (gt b1 i5)))] ∧ Hp S w0 w (ow)) ?_ ?_
        · have hp := hp.same (Same.drew w)
          refine dr_begin' (fun a w => Fr 26 a [(0, va0), (1, vb1), (5, .int .i64 i5), (25, .bool ((gt a0 i5) != (gt b1 i5)))] ∧ Hp S w0 w (ow)) (fun w => Hp S w0 w (ow)) [] (by kernel_rfl) ?_
          refine dr_take 0 (va0) rfl (by kernel_rfl) (by kernel_rfl) (by kernel_rfl) (by kernel_rfl) rfl rfl hf (by decide) rfl (fun w hp => ?_) hp ?_
          · skip
            refine st_move hf rfl rfl (by decide) ?_
            clear hf; intro a ha hf
            exact st_nil hf (th_n ⟨ha, rfl⟩)
          clear hf; intro a hf
          refine dr_take 1 (.int .i64 i5) rfl (by kernel_rfl) (by kernel_rfl) (by kernel_rfl) (by kernel_rfl) rfl rfl hf (by decide) rfl (fun w hp => ?_) hp ?_
          · skip
            refine st_move hf rfl rfl (by decide) ?_
            clear hf; intro a ha hf
            exact st_nil hf (th_n ⟨ha, rfl⟩)
          clear hf; intro a hf
          refine dr_take 2 (eptr va0 i5 1) rfl (by kernel_rfl) (by kernel_rfl) (by kernel_rfl) (by kernel_rfl) rfl rfl hf (by decide) rfl (fun w hp => ?_) hp ?_
          · skip
            refine st_index (E := Ek.bool) hf (by decide) Try.underlying22 elt4 rfl rfl rfl (ha0.sl hp) hc1.1 hc1.2 ?_
            clear hf; intro a ha hf
            exact st_nil hf (th_n ⟨ha, rfl⟩)
          clear hf; intro a hf
          refine dr_take 3 (.bool (gt a0 i5)) rfl (by kernel_rfl) (by kernel_rfl) (by kernel_rfl) (by kernel_rfl) rfl rfl hf (by decide) rfl (fun w hp => ?_) hp ?_
          · skip
            refine st_ldB hf (by decide) pl4 rfl rfl (ha0.sl hp) hc1.1 hc1.2 ?_
            clear hf; intro a ha hf
            exact st_nil hf (th_n ⟨ha, rfl⟩)
          clear hf; intro a hf
          refine dr_take 4 (vb1) rfl (by kernel_rfl) (by kernel_rfl) (by kernel_rfl) (by kernel_rfl) rfl rfl hf (by decide) rfl (fun w hp => ?_) hp ?_
          · skip
            refine st_move hf rfl rfl (by decide) ?_
            clear hf; intro a ha hf
            exact st_nil hf (th_n ⟨ha, rfl⟩)
          clear hf; intro a hf
          refine dr_take 5 (.int .i64 i5) rfl (by kernel_rfl) (by kernel_rfl) (by kernel_rfl) (by kernel_rfl) rfl rfl hf (by decide) rfl (fun w hp => ?_) hp ?_
          · skip
            refine st_move hf rfl rfl (by decide) ?_
            clear hf; intro a ha hf
            exact st_nil hf (th_n ⟨ha, rfl⟩)
          clear hf; intro a hf
          refine dr_take 6 (eptr vb1 i5 1) rfl (by kernel_rfl) (by kernel_rfl) (by kernel_rfl) (by kernel_rfl) rfl rfl hf (by decide) rfl (fun w hp => ?_) hp ?_
          · skip
            refine st_index (E := Ek.bool) hf (by decide) Try.underlying22 elt4 rfl rfl rfl (hb1.sl hp) hc2.1 hc2.2 ?_
            clear hf; intro a ha hf
            exact st_nil hf (th_n ⟨ha, rfl⟩)
          clear hf; intro a hf
          refine dr_take 7 (.bool (gt b1 i5)) rfl (by kernel_rfl) (by kernel_rfl) (by kernel_rfl) (by kernel_rfl) rfl rfl hf (by decide) rfl (fun w hp => ?_) hp ?_
          · skip
            refine st_ldB hf (by decide) pl4 rfl rfl (hb1.sl hp) hc2.1 hc2.2 ?_
            clear hf; intro a ha hf
            exact st_nil hf (th_n ⟨ha, rfl⟩)
          clear hf; intro a hf
          refine dr_take 8 (.bool ((gt a0 i5) != (gt b1 i5))) rfl (by kernel_rfl) (by kernel_rfl) (by kernel_rfl) (by kernel_rfl) rfl rfl hf (by decide) rfl (fun w hp => ?_) hp ?_
          · skip
            refine st_bneq hf (by decide) Try.underlying4 rfl rfl rfl ?_
            clear hf; intro a ha hf
            exact st_nil hf (th_n ⟨ha, rfl⟩)
          clear hf; intro a hf
          refine dr_end (by kernel_rfl) ?_ _
          exact ⟨hf.sub ⟨rfl, rfl, rfl, rfl, trivial⟩, hp⟩
        · rintro a w ⟨hf, hp⟩
          refine th_n ?_
          refine wp_if hf rfl (fun hb => ?_) (fun hb => ?_)
          · replace h := ifT h hb
            refine wp_seq ?_
            refine wp_reg ?_
            refine st_assign hf rfl rfl (by decide) ?_
            clear hf; intro a ha hf; clear ha
            refine st_nil hf ?_
            refine th_n ?_
            refine wp_ret ?_
            refine ib_r ?_
            refine th_r ?_
            obtain rfl := Option.some.inj h
            exact rnd_r (by simp) ⟨rfl, ⟨hf.sub ⟨rfl, trivial⟩, hp⟩⟩
          · replace h := ifF h hb
            refine wp_skip ?_
            refine ib_n ?_
            refine th_n ?_
            refine wp_reg ?_
            refine st_move hf rfl rfl (by decide) ?_
            clear hf; intro a ha hf; clear ha
            refine st_iadd hf (by decide) rfl rfl rfl ?_
            clear hf; intro a ha hf; clear ha
            refine st_assign hf rfl rfl (by decide) ?_
            clear hf; intro a ha hf; clear ha
            refine st_nil hf ?_
            obtain rfl := Option.some.inj h
            exact rnd_l ⟨hf.sub ⟨rfl, rfl, rfl, trivial⟩, hp⟩
      · replace h := ifF h hb
        refine wp_exit ?_
        refine th_e ?_
        obtain rfl := Option.some.inj h
        exact rnd_r (by simp) ⟨rfl, hf.sub trivial, hp⟩
    · clear hl hf hp
      intro e a w hne hO
      cases q3 with
      | inl q4 =>
        replace h := smL h
        obtain ⟨rfl, hf, hp⟩ := hO
        refine ib_same ?_
        refine th_n ?_
        refine wp_seq ?_
        refine wp_reg ?_
        refine st_assign hf rfl rfl (by decide) ?_
        clear hf; intro a ha hf; clear ha
        refine st_nil hf ?_
        refine th_n ?_
        refine wp_ret ?_
        obtain rfl := Option.some.inj h
        exact ⟨rfl, ⟨hf.sub ⟨rfl, trivial⟩, hp⟩⟩
      | inr q5 =>
        replace h := smR h
        obtain ⟨rfl, hf, hp⟩ := hO
        refine ib_r ?_
        refine th_r ?_
        obtain rfl := Option.some.inj h
        exact ⟨rfl, ⟨hf.sub ⟨rfl, trivial⟩, hp⟩⟩

noncomputable def f_foghornlaw22_sameMarks.s1c (a0 : (List Int)) (b1 : (List Int)) (i5 : Int) : Option (Int ⊕ (Unit ⊕ Bool)) := (if (decide (i5 < (a0.length : Int))) = true then (if 0 ≤ i5 ∧ i5 < (a0.length : Int) then (if 0 ≤ i5 ∧ i5 < (b1.length : Int) then (if ((gt a0 i5) != (gt b1 i5)) = true then (some (Sum.inr (Sum.inr false))) else (some (Sum.inl (IntKind.i64.wrap (i5 + 1))))) else none) else none) else (some (Sum.inr (Sum.inl ()))))
noncomputable def f_foghornlaw22_sameMarks.s1 (a0 : (List Int)) (b1 : (List Int)) (s : Int) : Option (Int ⊕ (Unit ⊕ Bool)) := f_foghornlaw22_sameMarks.s1c a0 b1 s
noncomputable def f_foghornlaw22_sameMarks (a0 : (List Int)) (b1 : (List Int)) : Option Bool := (if ((a0.length : Int) != (b1.length : Int)) = true then (some false) else ((loop (f_foghornlaw22_sameMarks.s1 a0 b1) 0).bind (fun q3 => sm q3 (fun q4 => (some true)) (fun q5 => (some q5)))))
theorem f_foghornlaw22_sameMarks_c {S : Nat → Prop} {w0 w : World} {ow : List Res} (hp : Hp S w0 w ow) (va0 : Value) (a0 : (List Int)) (ha0 : RdS (Ek.int .u8) S w0 va0 a0) (vb1 : Value) (b1 : (List Int)) (hb1 : RdS (Ek.int .u8) S w0 vb1 b1) {r : Bool} (h : f_foghornlaw22_sameMarks a0 b1 = some r) :
    Calls Try.prog 14 #[va0, vb1] w (fun e w' => e = .returned (.bool r) ∧ Hp S w0 w' (ow)) := by
  unfold f_foghornlaw22_sameMarks at h
  refine enter (n := 26) (args := [va0, vb1]) Try.func14 rfl rfl (Nat.le_of_ble_eq_true rfl) fun a hf => ?_
  replace hf : Fr 26 a [(0, va0), (1, vb1)] := hf
  refine wp_mono (Q := fun e a w => e = .ret ∧ Fr 26 a [(4, .bool r)] ∧ Hp S w0 w (ow)) ?_ ?_
  rotate_left
  · rintro e a w ⟨rfl, hf, hp⟩
    exact ret1 hf rfl rfl ⟨rfl, hp⟩
  refine wp_seq ?_
  refine wp_reg ?_
  refine st_assign hf rfl rfl (by decide) ?_
  clear hf; intro a ha hf; clear ha
  refine st_nil hf ?_
  refine th_n ?_
  refine wp_seq ?_
  refine wp_seq ?_
  refine wp_reg ?_
  refine st_move hf rfl rfl (by decide) ?_
  clear hf; intro a ha hf; clear ha
  refine st_len (E := (Ek.int .u8)) hf (by decide) Try.underlying26 rfl rfl (ha0.sl hp) ?_
  clear hf; intro a ha hf; clear ha
  refine st_move hf rfl rfl (by decide) ?_
  clear hf; intro a ha hf; clear ha
  refine st_len (E := (Ek.int .u8)) hf (by decide) Try.underlying29 rfl rfl (hb1.sl hp) ?_
  clear hf; intro a ha hf; clear ha
  refine st_ineq hf (by decide) rfl rfl rfl ?_
  clear hf; intro a ha hf; clear ha
  refine st_nil hf ?_
  refine th_n ?_
  refine wp_if hf rfl (fun hb => ?_) (fun hb => ?_)
  · replace h := ifT h hb
    refine wp_seq ?_
    refine wp_reg ?_
    refine st_assign hf rfl rfl (by decide) ?_
    clear hf; intro a ha hf; clear ha
    refine st_nil hf ?_
    refine th_n ?_
    refine wp_ret ?_
    refine th_r ?_
    obtain rfl := Option.some.inj h
    exact ⟨rfl, ⟨hf.sub ⟨rfl, trivial⟩, hp⟩⟩
  · replace h := ifF h hb
    refine wp_skip ?_
    refine th_n ?_
    refine wp_seq ?_
    refine wp_seq ?_
    refine wp_reg ?_
    refine st_assign hf rfl rfl (by decide) ?_
    clear hf; intro a ha hf; clear ha
    refine st_nil hf ?_
    refine th_n ?_
    refine wp_block ?_
    obtain ⟨q3, hl, h⟩ := bnd h
    refine wp_loop_pure (f := (f_foghornlaw22_sameMarks.s1 a0 b1)) (s := 0) (fun s a w => Fr 26 a [(0, va0), (1, vb1), (5, .int .i64 s)] ∧ Hp S w0 w (ow)) (fun q e a w => match q with | (Sum.inl q) => e = .exit 0 ∧ Fr 26 a [] ∧ Hp S w0 w (ow) | (Sum.inr q) => e = .ret ∧ Fr 26 a [(4, .bool q)] ∧ Hp S w0 w (ow)) ?_ hl ⟨hf.sub ⟨rfl, rfl, rfl, trivial⟩, hp⟩ ?_
    · clear hl hf hp
      intro s x a w h hI
      obtain ⟨i5, hs⟩ : ∃ z, z = s := ⟨s, rfl⟩; subst hs
      obtain ⟨hf, hp⟩ : Fr 26 a [(0, va0), (1, vb1), (5, .int .i64 i5)] ∧ Hp S w0 w (ow) := hI
      replace h : f_foghornlaw22_sameMarks.s1c a0 b1 i5 = some x := h
      unfold f_foghornlaw22_sameMarks.s1c at h
      refine wp_seq ?_
      refine wp_seq ?_
      refine wp_reg ?_
      refine st_move hf rfl rfl (by decide) ?_
      clear hf; intro a ha hf; clear ha
      refine st_move hf rfl rfl (by decide) ?_
      clear hf; intro a ha hf; clear ha
      refine st_len (E := (Ek.int .u8)) hf (by decide) Try.underlying26 rfl rfl (ha0.sl hp) ?_
      clear hf; intro a ha hf; clear ha
      refine st_ilss hf (by decide) rfl rfl rfl ?_
      clear hf; intro a ha hf; clear ha
      refine st_nil hf ?_
      refine th_n ?_
      refine wp_if hf rfl (fun hb => ?_) (fun hb => ?_)
      · replace h := ifT h hb
        refine wp_skip ?_
        refine th_n ?_
        refine wp_seq ?_
        refine wp_block ?_
        refine wp_seq ?_
        obtain ⟨hc1, h⟩ := chk h
        obtain ⟨hc2, h⟩ := chk h
        refine wp_cutN (fun a w => Fr 26 a [(0, va0), (1, vb1), (5, .int .i64 i5), (25, .bool ((gt a0 i5) != (gt b1 i5)))] ∧ Hp S w0 w (ow)) ?_ ?_
        · have hp := hp.same (Same.drew w)
          refine dr_begin' (fun a w => Fr 26 a [(0, va0), (1, vb1), (5, .int .i64 i5), (25, .bool ((gt a0 i5) != (gt b1 i5)))] ∧ Hp S w0 w (ow)) (fun w => Hp S w0 w (ow)) [] (by kernel_rfl) ?_
          refine dr_take 0 (va0) rfl (by kernel_rfl) (by kernel_rfl) (by kernel_rfl) (by kernel_rfl) rfl rfl hf (by decide) rfl (fun w hp => ?_) hp ?_
          · skip
            refine st_move hf rfl rfl (by decide) ?_
            clear hf; intro a ha hf
            exact st_nil hf (th_n ⟨ha, rfl⟩)
          clear hf; intro a hf
          refine dr_take 1 (.int .i64 i5) rfl (by kernel_rfl) (by kernel_rfl) (by kernel_rfl) (by kernel_rfl) rfl rfl hf (by decide) rfl (fun w hp => ?_) hp ?_
          · skip
            refine st_move hf rfl rfl (by decide) ?_
            clear hf; intro a ha hf
            exact st_nil hf (th_n ⟨ha, rfl⟩)
          clear hf; intro a hf
          refine dr_take 2 (eptr va0 i5 1) rfl (by kernel_rfl) (by kernel_rfl) (by kernel_rfl) (by kernel_rfl) rfl rfl hf (by decide) rfl (fun w hp => ?_) hp ?_
          · skip
            refine st_index (E := (Ek.int .u8)) hf (by decide) Try.underlying26 elt51 rfl rfl rfl (ha0.sl hp) hc1.1 hc1.2 ?_
            clear hf; intro a ha hf
            exact st_nil hf (th_n ⟨ha, rfl⟩)
          clear hf; intro a hf
          refine dr_take 3 (.int .u8 (gt a0 i5)) rfl (by kernel_rfl) (by kernel_rfl) (by kernel_rfl) (by kernel_rfl) rfl rfl hf (by decide) rfl (fun w hp => ?_) hp ?_
          · skip
            refine st_ldI hf (by decide) pl51 rfl rfl (ha0.sl hp) hc1.1 hc1.2 ?_
            clear hf; intro a ha hf
            exact st_nil hf (th_n ⟨ha, rfl⟩)
          clear hf; intro a hf
          refine dr_take 4 (vb1) rfl (by kernel_rfl) (by kernel_rfl) (by kernel_rfl) (by kernel_rfl) rfl rfl hf (by decide) rfl (fun w hp => ?_) hp ?_
          · skip
            refine st_move hf rfl rfl (by decide) ?_
            clear hf; intro a ha hf
            exact st_nil hf (th_n ⟨ha, rfl⟩)
          clear hf; intro a hf
          refine dr_take 5 (.int .i64 i5) rfl (by kernel_rfl) (by kernel_rfl) (by kernel_rfl) (by kernel_rfl) rfl rfl hf (by decide) rfl (fun w hp => ?_) hp ?_
          · skip
            refine st_move hf rfl rfl (by decide) ?_
            clear hf; intro a ha hf
            exact st_nil hf (th_n ⟨ha, rfl⟩)
          clear hf; intro a hf
          refine dr_take 6 (eptr vb1 i5 1) rfl (by kernel_rfl) (by kernel_rfl) (by kernel_rfl) (by kernel_rfl) rfl rfl hf (by decide) rfl (fun w hp => ?_) hp ?_
          · skip
            refine st_index (E := (Ek.int .u8)) hf (by decide) Try.underlying29 elt5 rfl rfl rfl (hb1.sl hp) hc2.1 hc2.2 ?_
            clear hf; intro a ha hf
            exact st_nil hf (th_n ⟨ha, rfl⟩)
          clear hf; intro a hf
          refine dr_take 7 (.int .u8 (gt b1 i5)) rfl (by kernel_rfl) (by kernel_rfl) (by kernel_rfl) (by kernel_rfl) rfl rfl hf (by decide) rfl (fun w hp => ?_) hp ?_
          · skip
            refine st_ldI hf (by decide) pl5 rfl rfl (hb1.sl hp) hc2.1 hc2.2 ?_
            clear hf; intro a ha hf
            exact st_nil hf (th_n ⟨ha, rfl⟩)
          clear hf; intro a hf
          refine dr_take 8 (.bool ((gt a0 i5) != (gt b1 i5))) rfl (by kernel_rfl) (by kernel_rfl) (by kernel_rfl) (by kernel_rfl) rfl rfl hf (by decide) rfl (fun w hp => ?_) hp ?_
          · skip
            refine st_ineq hf (by decide) rfl rfl rfl ?_
            clear hf; intro a ha hf
            exact st_nil hf (th_n ⟨ha, rfl⟩)
          clear hf; intro a hf
          refine dr_end (by kernel_rfl) ?_ _
          exact ⟨hf.sub ⟨rfl, rfl, rfl, rfl, trivial⟩, hp⟩
        · rintro a w ⟨hf, hp⟩
          refine th_n ?_
          refine wp_if hf rfl (fun hb => ?_) (fun hb => ?_)
          · replace h := ifT h hb
            refine wp_seq ?_
            refine wp_reg ?_
            refine st_assign hf rfl rfl (by decide) ?_
            clear hf; intro a ha hf; clear ha
            refine st_nil hf ?_
            refine th_n ?_
            refine wp_ret ?_
            refine ib_r ?_
            refine th_r ?_
            obtain rfl := Option.some.inj h
            exact rnd_r (by simp) ⟨rfl, ⟨hf.sub ⟨rfl, trivial⟩, hp⟩⟩
          · replace h := ifF h hb
            refine wp_skip ?_
            refine ib_n ?_
            refine th_n ?_
            refine wp_reg ?_
            refine st_move hf rfl rfl (by decide) ?_
            clear hf; intro a ha hf; clear ha
            refine st_iadd hf (by decide) rfl rfl rfl ?_
            clear hf; intro a ha hf; clear ha
            refine st_assign hf rfl rfl (by decide) ?_
            clear hf; intro a ha hf; clear ha
            refine st_nil hf ?_
            obtain rfl := Option.some.inj h
            exact rnd_l ⟨hf.sub ⟨rfl, rfl, rfl, trivial⟩, hp⟩
      · replace h := ifF h hb
        refine wp_exit ?_
        refine th_e ?_
        obtain rfl := Option.some.inj h
        exact rnd_r (by simp) ⟨rfl, hf.sub trivial, hp⟩
    · clear hl hf hp
      intro e a w hne hO
      cases q3 with
      | inl q4 =>
        replace h := smL h
        obtain ⟨rfl, hf, hp⟩ := hO
        refine ib_same ?_
        refine th_n ?_
        refine wp_seq ?_
        refine wp_reg ?_
        refine st_assign hf rfl rfl (by decide) ?_
        clear hf; intro a ha hf; clear ha
        refine st_nil hf ?_
        refine th_n ?_
        refine wp_ret ?_
        obtain rfl := Option.some.inj h
        exact ⟨rfl, ⟨hf.sub ⟨rfl, trivial⟩, hp⟩⟩
      | inr q5 =>
        replace h := smR h
        obtain ⟨rfl, hf, hp⟩ := hO
        refine ib_r ?_
        refine th_r ?_
        obtain rfl := Option.some.inj h
        exact ⟨rfl, ⟨hf.sub ⟨rfl, trivial⟩, hp⟩⟩

noncomputable def f_hard_Marks.s1c (l0 : (List Bool)) (out3 : (List Int)) (t11 : Int) : Option (((List Int) × Int) ⊕ (List Int)) := (if (decide (t11 < (l0.length : Int))) = true then (if 0 ≤ t11 ∧ t11 < (l0.length : Int) then (if (gt l0 t11) = true then (if 0 ≤ t11 ∧ t11 < (out3.length : Int) then (some (Sum.inl ((out3.set (t11).toNat 1), (IntKind.i64.wrap (t11 + 1))))) else none) else (some (Sum.inl (out3, (IntKind.i64.wrap (t11 + 1)))))) else none) else (some (Sum.inr out3)))
noncomputable def f_hard_Marks.s1 (l0 : (List Bool)) (s : ((List Int) × Int)) : Option (((List Int) × Int) ⊕ (List Int)) := f_hard_Marks.s1c l0 s.1 s.2
noncomputable def f_hard_Marks (l0 : (List Bool)) : Option (List Int) := (if 0 ≤ (l0.length : Int) ∧ (l0.length : Int) ≤ (l0.length : Int) ∧ (l0.length : Int) * 1 ≤ 281474976710656 then ((loop (f_hard_Marks.s1 l0) ((List.replicate ((l0.length : Int)).toNat (0 : Int)), 0)).bind (fun q10 => (some q10))) else none)
theorem f_hard_Marks_c {S : Nat → Prop} {w0 w : World} {ow : List Res} (hp : Hp S w0 w ow) (vl0 : Value) (l0 : (List Bool)) (hl0 : RdS Ek.bool S w0 vl0 l0) {r : (List Int)} (h : f_hard_Marks l0 = some r) :
    Calls Try.prog 15 #[vl0] w (fun e w' => ∃ (u0 : Value), e = .returned (u0) ∧ Hp S w0 w' (Res.sl (Ek.int .u8) 51 u0 r :: ow)) := by
  unfold f_hard_Marks at h
  refine enter (n := 22) (args := [vl0]) Try.func15 rfl rfl (Nat.le_of_ble_eq_true rfl) fun a hf => ?_
  replace hf : Fr 22 a [(0, vl0)] := hf
  refine wp_mono (Q := fun e a w => e = .ret ∧ ∃ (u0 : Value), Fr 22 a [(2, u0)] ∧ Hp S w0 w (Res.sl (Ek.int .u8) 51 u0 r :: ow)) ?_ ?_
  rotate_left
  · rintro e a w ⟨rfl, x0, hf, hp⟩
    exact ret1 hf rfl rfl ⟨x0, rfl, hp⟩
  refine wp_seq ?_
  refine wp_reg ?_
  refine st_assign hf rfl rfl (by decide) ?_
  clear hf; intro a ha hf; clear ha
  refine st_nil hf ?_
  refine th_n ?_
  refine wp_seq ?_
  refine wp_reg ?_
  refine st_move hf rfl rfl (by decide) ?_
  clear hf; intro a ha hf; clear ha
  refine st_len (E := Ek.bool) hf (by decide) Try.underlying22 rfl rfl (hl0.sl hp) ?_
  clear hf; intro a ha hf; clear ha
  obtain ⟨hc1, h⟩ := chk h
  refine st_make (E := (Ek.int .u8)) hf (by decide) elt51 Try.underlying26 (by decide) hp rfl rfl rfl hc1.1 hc1.2.1 hc1.2.2 ?_
  clear hf; intro a w v2 hf hp0; clear hp; have hp := hp0; clear hp0
  replace hp : Hp S w0 w (Res.sl (Ek.int .u8) 51 v2 (List.replicate ((l0.length : Int)).toNat (0 : Int)) :: ow) := hp
  refine st_assign hf rfl rfl (by decide) ?_
  clear hf; intro a ha hf; clear ha
  refine st_nil hf ?_
  refine th_n ?_
  refine wp_seq ?_
  refine wp_seq ?_
  refine wp_reg ?_
  refine st_move hf rfl rfl (by decide) ?_
  clear hf; intro a ha hf; clear ha
  refine st_len (E := Ek.bool) hf (by decide) Try.underlying22 rfl rfl (hl0.sl hp) ?_
  clear hf; intro a ha hf; clear ha
  refine st_move hf rfl rfl (by decide) ?_
  clear hf; intro a ha hf; clear ha
  refine st_nil hf ?_
  refine th_n ?_
  refine wp_block ?_
  obtain ⟨q10, hl, h⟩ := bnd h
  refine wp_loop_pure (f := (f_hard_Marks.s1 l0)) (s := ((List.replicate ((l0.length : Int)).toNat (0 : Int)), 0)) (fun s a w => ∃ (v4 : Value), Fr 22 a [(3, v4), (9, vl0), (10, .int .i64 (l0.length : Int)), (11, .int .i64 s.2)] ∧ Hp S w0 w (Res.sl (Ek.int .u8) 51 v4 s.1 :: ow)) (fun q e a w => e = .exit 0 ∧ ∃ (v6 : Value), Fr 22 a [(3, v6)] ∧ Hp S w0 w (Res.sl (Ek.int .u8) 51 v6 q :: ow)) ?_ hl ⟨_, hf.sub ⟨rfl, rfl, rfl, rfl, trivial⟩, hp⟩ ?_
  · clear hl hf hp
    intro s x a w h hI
    obtain ⟨out3, t11⟩ := s
    obtain ⟨v4, hf, hp⟩ : ∃ (v4 : Value), Fr 22 a [(3, v4), (9, vl0), (10, .int .i64 (l0.length : Int)), (11, .int .i64 t11)] ∧ Hp S w0 w (Res.sl (Ek.int .u8) 51 v4 out3 :: ow) := hI
    replace h : f_hard_Marks.s1c l0 out3 t11 = some x := h
    unfold f_hard_Marks.s1c at h
    refine wp_seq ?_
    refine wp_reg ?_
    refine st_ilss hf (by decide) rfl rfl rfl ?_
    clear hf; intro a ha hf; clear ha
    refine st_nil hf ?_
    refine th_n ?_
    refine wp_seq ?_
    refine wp_if hf rfl (fun hb => ?_) (fun hb => ?_)
    · replace h := ifT h hb
      refine wp_skip ?_
      refine th_n ?_
      refine wp_seq ?_
      refine wp_block ?_
      refine wp_seq ?_
      refine wp_reg ?_
      refine st_move hf rfl rfl (by decide) ?_
      clear hf; intro a ha hf; clear ha
      obtain ⟨hc8, h⟩ := chk h
      refine st_index (E := Ek.bool) hf (by decide) Try.underlying22 elt4 rfl rfl rfl (hl0.sl hp) hc8.1 hc8.2 ?_
      clear hf; intro a ha hf; clear ha
      refine st_ldB hf (by decide) pl4 rfl rfl (hl0.sl hp) hc8.1 hc8.2 ?_
      clear hf; intro a ha hf; clear ha
      refine st_assign hf rfl rfl (by decide) ?_
      clear hf; intro a ha hf; clear ha
      refine st_assign hf rfl rfl (by decide) ?_
      clear hf; intro a ha hf; clear ha
      refine st_nil hf ?_
      refine th_n ?_
      refine wp_seq ?_
      refine wp_reg ?_
      refine st_move hf rfl rfl (by decide) ?_
      clear hf; intro a ha hf; clear ha
      refine st_nil hf ?_
      refine th_n ?_
      refine wp_if hf rfl (fun hb => ?_) (fun hb => ?_)
      · replace h := ifT h hb
        refine wp_reg ?_
        refine st_move hf rfl rfl (by decide) ?_
        clear hf; intro a ha hf; clear ha
        refine st_move hf rfl rfl (by decide) ?_
        clear hf; intro a ha hf; clear ha
        obtain ⟨hc9, h⟩ := chk h
        refine st_index (E := (Ek.int .u8)) hf (by decide) Try.underlying26 elt51 rfl rfl rfl (hp.sl (i := 0) rfl) hc9.1 hc9.2 ?_
        clear hf; intro a ha hf; clear ha
        refine st_store (E := (Ek.int .u8)) hf elt51 hp (i := 0) rfl rfl rfl rfl rfl hc9.1 hc9.2 ?_
        clear hf; intro a w hf hp0; clear hp; have hp := hp0; clear hp0
        replace hp : Hp S w0 w (Res.sl (Ek.int .u8) 51 v4 (out3.set (t11).toNat 1) :: ow) := hp
        refine st_nil hf ?_
        refine ib_n ?_
        refine th_n ?_
        refine wp_reg ?_
        refine st_iadd hf (by decide) rfl rfl rfl ?_
        clear hf; intro a ha hf; clear ha
        refine st_move hf rfl rfl (by decide) ?_
        clear hf; intro a ha hf; clear ha
        refine st_nil hf ?_
        obtain rfl := Option.some.inj h
        exact rnd_l ⟨_, hf.sub ⟨rfl, rfl, rfl, rfl, trivial⟩, hp⟩
      · replace h := ifF h hb
        refine wp_skip ?_
        refine ib_n ?_
        refine th_n ?_
        refine wp_reg ?_
        refine st_iadd hf (by decide) rfl rfl rfl ?_
        clear hf; intro a ha hf; clear ha
        refine st_move hf rfl rfl (by decide) ?_
        clear hf; intro a ha hf; clear ha
        refine st_nil hf ?_
        obtain rfl := Option.some.inj h
        exact rnd_l ⟨_, hf.sub ⟨rfl, rfl, rfl, rfl, trivial⟩, hp⟩
    · replace h := ifF h hb
      refine wp_exit ?_
      refine th_e ?_
      obtain rfl := Option.some.inj h
      exact rnd_r (by simp) ⟨rfl, _, hf.sub ⟨rfl, trivial⟩, hp⟩
  · clear hl hf hp
    intro e a w hne hO
    obtain ⟨rfl, v6, hf, hp⟩ := hO
    refine ib_same ?_
    refine th_n ?_
    refine wp_seq ?_
    refine wp_reg ?_
    refine st_move hf rfl rfl (by decide) ?_
    clear hf; intro a ha hf; clear ha
    refine st_assign hf rfl rfl (by decide) ?_
    clear hf; intro a ha hf; clear ha
    refine st_nil hf ?_
    refine th_n ?_
    refine wp_ret ?_
    obtain rfl := Option.some.inj h
    exact ⟨rfl, ⟨_, hf.sub ⟨rfl, trivial⟩, hp⟩⟩

noncomputable def f_foghornlaw22_HardThins.s1c (a11 : (List Bool)) (i19 : Int) : Option (((List Bool) × Int) ⊕ Unit) := (if (decide (i19 < (a11.length : Int))) = true then (if 0 ≤ i19 ∧ i19 < (a11.length : Int) then (if 0 ≤ i19 ∧ i19 < (a11.length : Int) then (some (Sum.inl ((a11.set (i19).toNat (!(gt a11 i19))), (IntKind.i64.wrap (i19 + 1))))) else none) else none) else (some (Sum.inr ())))
noncomputable def f_foghornlaw22_HardThins.s1  (s : ((List Bool) × Int)) : Option (((List Bool) × Int) ⊕ Unit) := f_foghornlaw22_HardThins.s1c s.1 s.2
noncomputable def f_foghornlaw22_HardThins (l0 : (List Bool)) (keep1 : (List Bool)) (less2 : (List Bool)) (n3 : Int) : Option Bool := (if (([] : List Bool).length + l0.length) * 1 ≤ 140737488355328 then (if (([] : List Bool).length + keep1.length) * 1 ≤ 140737488355328 then ((f_hard_Thin (([] : List Bool) ++ l0) (([] : List Bool) ++ keep1)).bind fun q9 => ((f_foghornref22_Thin l0 keep1).bind fun q23 => ((f_hard_Fill less2 (([] : List Bool) ++ keep1) n3).bind fun q27 => ((f_foghornref22_Fill less2 keep1 n3).bind fun q36 => ((f_foghornlaw22_sameBits q9.1 q23.1).bind fun q40 => ((if ((!q40) || (q9.2 != q23.2)) = true then (some true) else ((f_foghornlaw22_sameMarks q27.1 q36.1).bind fun q53 => (some (!q53)))).bind fun z52 => ((if (z52 || (q27.2 != q36.2)) = true then (some true) else ((f_hard_Marks (([] : List Bool) ++ l0)).bind fun q66 => ((f_foghornref22_Marks l0).bind fun q75 => ((f_foghornlaw22_sameMarks q66 q75).bind fun q79 => (some (!q79)))))).bind fun z65 => ((if z65 = true then (some true) else ((f_foghornlaw22_sameBits (([] : List Bool) ++ keep1) keep1).bind fun q92 => (some (!q92)))).bind fun z91 => (if z91 = true then (some false) else ((loop f_foghornlaw22_HardThins.s1 (q9.1, 0)).bind (fun q103 => ((f_foghornlaw22_sameBits (([] : List Bool) ++ l0) l0).bind fun q104 => (some q104))))))))))))) else none) else none)
theorem f_foghornlaw22_HardThins_c {S : Nat → Prop} {w0 w : World} {ow : List Res} (hp : Hp S w0 w ow) (vl0 : Value) (l0 : (List Bool)) (hl0 : RdS Ek.bool S w0 vl0 l0) (vkeep1 : Value) (keep1 : (List Bool)) (hkeep1 : RdS Ek.bool S w0 vkeep1 keep1) (vless2 : Value) (less2 : (List Bool)) (hless2 : RdS Ek.bool S w0 vless2 less2) (n3 : Int) {r : Bool} (h : f_foghornlaw22_HardThins l0 keep1 less2 n3 = some r) :
    Calls Try.prog 3 #[vl0, vkeep1, vless2, .int .i64 n3] w (fun e w' => e = .returned (.bool r) ∧ Hp S w0 w' (ow)) := by
  unfold f_foghornlaw22_HardThins at h
  refine enter (n := 103) (args := [vl0, vkeep1, vless2, .int .i64 n3]) Try.func3 rfl rfl (Nat.le_of_ble_eq_true rfl) fun a hf => ?_
  replace hf : Fr 103 a [(0, vl0), (1, vkeep1), (2, vless2), (3, .int .i64 n3)] := hf
  refine wp_mono (Q := fun e a w => e = .ret ∧ Fr 103 a [(8, .bool r)] ∧ Hp S w0 w (ow)) ?_ ?_
  rotate_left
  · rintro e a w ⟨rfl, hf, hp⟩
    exact ret1 hf rfl rfl ⟨rfl, hp⟩
  refine wp_seq ?_
  refine wp_reg ?_
  refine st_assign hf rfl rfl (by decide) ?_
  clear hf; intro a ha hf; clear ha
  refine st_nil hf ?_
  refine th_n ?_
  refine wp_seq ?_
  refine wp_reg ?_
  refine st_build0 (E := Ek.bool) hf (by decide) elt4 Try.underlying22 hp rfl ?_
  clear hf; intro a w v1 hf hp0; clear hp; have hp := hp0; clear hp0
  replace hp : Hp S w0 w (Res.sl Ek.bool 4 v1 ([] : List Bool) :: ow) := hp
  refine st_move hf rfl rfl (by decide) ?_
  clear hf; intro a ha hf; clear ha
  obtain ⟨hc3, h⟩ := chk h
  refine st_append (E := Ek.bool) hf (by decide) elt4 Try.underlying22 (by decide) hp (i := 0) rfl rfl rfl rfl (hl0.sl hp) hc3 ?_
  clear hf; intro a w v4 hf hp0; clear hp; have hp := hp0; clear hp0
  replace hp : Hp S w0 w (Res.sl Ek.bool 4 v4 (([] : List Bool) ++ l0) :: ow) := hp
  refine st_assign hf rfl rfl (by decide) ?_
  clear hf; intro a ha hf; clear ha
  refine st_nil hf ?_
  refine th_n ?_
  refine wp_seq ?_
  refine wp_reg ?_
  refine st_build0 (E := Ek.bool) hf (by decide) elt4 Try.underlying22 hp rfl ?_
  clear hf; intro a w v5 hf hp0; clear hp; have hp := hp0; clear hp0
  replace hp : Hp S w0 w (Res.sl Ek.bool 4 v5 ([] : List Bool) :: Res.sl Ek.bool 4 v4 (([] : List Bool) ++ l0) :: ow) := hp
  refine st_move hf rfl rfl (by decide) ?_
  clear hf; intro a ha hf; clear ha
  obtain ⟨hc7, h⟩ := chk h
  refine st_append (E := Ek.bool) hf (by decide) elt4 Try.underlying22 (by decide) hp (i := 0) rfl rfl rfl rfl (hkeep1.sl hp) hc7 ?_
  clear hf; intro a w v8 hf hp0; clear hp; have hp := hp0; clear hp0
  replace hp : Hp S w0 w (Res.sl Ek.bool 4 v8 (([] : List Bool) ++ keep1) :: Res.sl Ek.bool 4 v4 (([] : List Bool) ++ l0) :: ow) := hp
  refine st_assign hf rfl rfl (by decide) ?_
  clear hf; intro a ha hf; clear ha
  refine st_nil hf ?_
  refine th_n ?_
  refine wp_seq ?_
  refine wp_reg ?_
  refine st_move hf rfl rfl (by decide) ?_
  clear hf; intro a ha hf; clear ha
  refine st_move hf rfl rfl (by decide) ?_
  clear hf; intro a ha hf; clear ha
  obtain ⟨q9, hcall10, h⟩ := bnd h
  obtain ⟨S11, hp12, rd13, up14, bk15⟩ := Hp.lendS hp (i := 1) rfl
  obtain ⟨S16, hp17, rd18, up19, bk20⟩ := Hp.lendS hp12 (i := 0) rfl
  refine st_call hf (by decide) Try.func9 rfl rfl rfl rfl rfl (f_hard_Thin_c hp17 _ _ ((rd13.now hp12).mono up19) _ _ rd18 hcall10) ?_
  rintro _ w ⟨v21, rfl, hp0⟩
  have hp0 := bk20 _ _ hp0
  have hp0 := bk15 _ _ hp0
  clear hp; have hp := hp0; clear hp0
  replace hp : Hp S w0 w (Res.sl Ek.bool 4 v4 (([] : List Bool) ++ l0) :: Res.sl Ek.bool 4 v8 (([] : List Bool) ++ keep1) :: Res.sl Ek.bool 4 v21 q9.1 :: ow) := hp
  refine ⟨_, rfl, ?_⟩
  clear hf; intro a hf
  refine st_move hf rfl rfl (by decide) ?_
  clear hf; intro a ha hf; clear ha
  refine st_extract hf (by decide) rfl rfl rfl ?_
  clear hf; intro a ha hf; clear ha
  refine st_extract hf (by decide) rfl rfl rfl ?_
  clear hf; intro a ha hf; clear ha
  refine st_assign hf rfl rfl (by decide) ?_
  clear hf; intro a ha hf; clear ha
  refine st_assign hf rfl rfl (by decide) ?_
  clear hf; intro a ha hf; clear ha
  refine st_nil hf ?_
  refine th_n ?_
  refine wp_seq ?_
  refine wp_reg ?_
  refine st_move hf rfl rfl (by decide) ?_
  clear hf; intro a ha hf; clear ha
  refine st_move hf rfl rfl (by decide) ?_
  clear hf; intro a ha hf; clear ha
  obtain ⟨q23, hcall24, h⟩ := bnd h
  refine st_call hf (by decide) Try.func10 rfl rfl rfl rfl rfl (f_foghornref22_Thin_c hp _ _ hl0 _ _ hkeep1 hcall24) ?_
  rintro _ w ⟨v25, rfl, hp0⟩
  clear hp; have hp := hp0; clear hp0
  replace hp : Hp S w0 w (Res.sl Ek.bool 4 v25 q23.1 :: Res.sl Ek.bool 4 v4 (([] : List Bool) ++ l0) :: Res.sl Ek.bool 4 v8 (([] : List Bool) ++ keep1) :: Res.sl Ek.bool 4 v21 q9.1 :: ow) := hp
  refine ⟨_, rfl, ?_⟩
  clear hf; intro a hf
  refine st_move hf rfl rfl (by decide) ?_
  clear hf; intro a ha hf; clear ha
  refine st_extract hf (by decide) rfl rfl rfl ?_
  clear hf; intro a ha hf; clear ha
  refine st_extract hf (by decide) rfl rfl rfl ?_
  clear hf; intro a ha hf; clear ha
  refine st_assign hf rfl rfl (by decide) ?_
  clear hf; intro a ha hf; clear ha
  refine st_assign hf rfl rfl (by decide) ?_
  clear hf; intro a ha hf; clear ha
  refine st_nil hf ?_
  refine th_n ?_
  refine wp_seq ?_
  refine wp_reg ?_
  refine st_move hf rfl rfl (by decide) ?_
  clear hf; intro a ha hf; clear ha
  refine st_move hf rfl rfl (by decide) ?_
  clear hf; intro a ha hf; clear ha
  refine st_move hf rfl rfl (by decide) ?_
  clear hf; intro a ha hf; clear ha
  obtain ⟨q27, hcall28, h⟩ := bnd h
  obtain ⟨S29, hp30, rd31, up32, bk33⟩ := Hp.lendS hp (i := 2) rfl
  refine st_call hf (by decide) Try.func11 rfl rfl rfl rfl rfl (f_hard_Fill_c hp30 _ _ ((hless2.now hp).mono up32) _ _ rd31 _ hcall28) ?_
  rintro _ w ⟨v34, rfl, hp0⟩
  have hp0 := bk33 _ _ hp0
  clear hp; have hp := hp0; clear hp0
  replace hp : Hp S w0 w (Res.sl Ek.bool 4 v8 (([] : List Bool) ++ keep1) :: Res.sl (Ek.int .u8) 51 v34 q27.1 :: Res.sl Ek.bool 4 v25 q23.1 :: Res.sl Ek.bool 4 v4 (([] : List Bool) ++ l0) :: Res.sl Ek.bool 4 v21 q9.1 :: ow) := hp
  refine ⟨_, rfl, ?_⟩
  clear hf; intro a hf
  refine st_move hf rfl rfl (by decide) ?_
  clear hf; intro a ha hf; clear ha
  refine st_extract hf (by decide) rfl rfl rfl ?_
  clear hf; intro a ha hf; clear ha
  refine st_extract hf (by decide) rfl rfl rfl ?_
  clear hf; intro a ha hf; clear ha
  refine st_assign hf rfl rfl (by decide) ?_
  clear hf; intro a ha hf; clear ha
  refine st_assign hf rfl rfl (by decide) ?_
  clear hf; intro a ha hf; clear ha
  refine st_nil hf ?_
  refine th_n ?_
  refine wp_seq ?_
  refine wp_reg ?_
  refine st_move hf rfl rfl (by decide) ?_
  clear hf; intro a ha hf; clear ha
  refine st_move hf rfl rfl (by decide) ?_
  clear hf; intro a ha hf; clear ha
  refine st_move hf rfl rfl (by decide) ?_
  clear hf; intro a ha hf; clear ha
  obtain ⟨q36, hcall37, h⟩ := bnd h
  refine st_call hf (by decide) Try.func12 rfl rfl rfl rfl rfl (f_foghornref22_Fill_c hp _ _ hless2 _ _ hkeep1 _ hcall37) ?_
  rintro _ w ⟨v38, rfl, hp0⟩
  clear hp; have hp := hp0; clear hp0
  replace hp : Hp S w0 w (Res.sl (Ek.int .u8) 5 v38 q36.1 :: Res.sl Ek.bool 4 v8 (([] : List Bool) ++ keep1) :: Res.sl (Ek.int .u8) 51 v34 q27.1 :: Res.sl Ek.bool 4 v25 q23.1 :: Res.sl Ek.bool 4 v4 (([] : List Bool) ++ l0) :: Res.sl Ek.bool 4 v21 q9.1 :: ow) := hp
  refine ⟨_, rfl, ?_⟩
  clear hf; intro a hf
  refine st_move hf rfl rfl (by decide) ?_
  clear hf; intro a ha hf; clear ha
  refine st_extract hf (by decide) rfl rfl rfl ?_
  clear hf; intro a ha hf; clear ha
  refine st_extract hf (by decide) rfl rfl rfl ?_
  clear hf; intro a ha hf; clear ha
  refine st_assign hf rfl rfl (by decide) ?_
  clear hf; intro a ha hf; clear ha
  refine st_assign hf rfl rfl (by decide) ?_
  clear hf; intro a ha hf; clear ha
  refine st_nil hf ?_
  refine th_n ?_
  refine wp_seq ?_
  refine wp_seq ?_
  refine wp_reg ?_
  refine st_move hf rfl rfl (by decide) ?_
  clear hf; intro a ha hf; clear ha
  refine st_move hf rfl rfl (by decide) ?_
  clear hf; intro a ha hf; clear ha
  obtain ⟨q40, hcall41, h⟩ := bnd h
  obtain ⟨S42, hp43, rd44, up45, bk46⟩ := Hp.lendS hp (i := 5) rfl
  obtain ⟨S47, hp48, rd49, up50, bk51⟩ := Hp.lendS hp43 (i := 3) rfl
  refine st_call hf (by decide) Try.func13 rfl rfl rfl rfl rfl (f_foghornlaw22_sameBits_c hp48 _ _ ((rd44.now hp43).mono up50) _ _ rd49 hcall41) ?_
  rintro _ w ⟨rfl, hp0⟩
  have hp0 := bk51 _ _ hp0
  have hp0 := bk46 _ _ hp0
  clear hp; have hp := hp0; clear hp0
  replace hp : Hp S w0 w (Res.sl Ek.bool 4 v21 q9.1 :: Res.sl Ek.bool 4 v25 q23.1 :: Res.sl (Ek.int .u8) 5 v38 q36.1 :: Res.sl Ek.bool 4 v8 (([] : List Bool) ++ keep1) :: Res.sl (Ek.int .u8) 51 v34 q27.1 :: Res.sl Ek.bool 4 v4 (([] : List Bool) ++ l0) :: ow) := hp
  refine ⟨_, rfl, ?_⟩
  clear hf; intro a hf
  refine st_not hf (by decide) rfl rfl ?_
  clear hf; intro a ha hf; clear ha
  refine st_move hf rfl rfl (by decide) ?_
  clear hf; intro a ha hf; clear ha
  refine wpList_cut 4 (fun a w => Fr 103 a [(0, vl0), (1, vkeep1), (9, v4), (10, v8), (11, v21), (15, v34), (16, .int .i64 q27.2), (17, v38), (18, .int .i64 q36.2), (60, .bool ((!q40) || (q9.2 != q23.2)))] ∧ Hp S w0 w (Res.sl Ek.bool 4 v21 q9.1 :: Res.sl Ek.bool 4 v25 q23.1 :: Res.sl (Ek.int .u8) 5 v38 q36.1 :: Res.sl Ek.bool 4 v8 (([] : List Bool) ++ keep1) :: Res.sl (Ek.int .u8) 51 v34 q27.1 :: Res.sl Ek.bool 4 v4 (([] : List Bool) ++ l0) :: ow)) ?_ ?_
  · rcases Bool.eq_false_or_eq_true (!q40) with hb | hb
    · skip
      refine st_skip hf (wantN hf rfl rfl hb) rfl (by decide) ?_ rfl
      clear hf; intro a hf
      refine st_skip hf (wantN hf rfl rfl hb) rfl (by decide) ?_ rfl
      clear hf; intro a hf
      refine st_skip hf (wantN hf rfl rfl hb) rfl (by decide) ?_ rfl
      clear hf; intro a hf
      refine st_pick (v := .bool true) hf rfl rfl (fun hb' => ?_) (fun hb' => ?_) (by decide) ?_
      · rfl
      · exact absurd (hb.symm.trans hb') (by decide)
      clear hf; intro a ha hf; clear ha
      refine st_nil hf (th_n ?_)
      exact ⟨hf.sub ⟨rfl, rfl, rfl, rfl, rfl, rfl, rfl, rfl, rfl, (by rw [hb]; rfl), trivial⟩, hp⟩
    · skip
      refine st_move hf (wantY hf rfl rfl hb) rfl (by decide) ?_
      clear hf; intro a ha hf; clear ha
      refine st_move hf (wantY hf rfl rfl hb) rfl (by decide) ?_
      clear hf; intro a ha hf; clear ha
      refine st_ineq hf (by decide) (wantY hf rfl rfl hb) rfl rfl ?_
      clear hf; intro a ha hf; clear ha
      refine st_pick (v := .bool (q9.2 != q23.2)) hf rfl rfl (fun hb' => ?_) (fun hb' => ?_) (by decide) ?_
      · exact absurd (hb.symm.trans hb') (by decide)
      · rfl
      clear hf; intro a ha hf; clear ha
      refine st_nil hf (th_n ?_)
      exact ⟨hf.sub ⟨rfl, rfl, rfl, rfl, rfl, rfl, rfl, rfl, rfl, (by rw [hb]; rfl), trivial⟩, hp⟩
  · rintro a w ⟨hf, hp⟩
    refine st_move hf rfl rfl (by decide) ?_
    clear hf; intro a ha hf; clear ha
    obtain ⟨z52, hz, h⟩ := bnd h
    refine wpList_cut 5 (fun a w => Fr 103 a [(0, vl0), (1, vkeep1), (9, v4), (10, v8), (11, v21), (16, .int .i64 q27.2), (18, .int .i64 q36.2), (66, .bool z52)] ∧ Hp S w0 w (Res.sl Ek.bool 4 v21 q9.1 :: Res.sl Ek.bool 4 v25 q23.1 :: Res.sl (Ek.int .u8) 5 v38 q36.1 :: Res.sl Ek.bool 4 v8 (([] : List Bool) ++ keep1) :: Res.sl (Ek.int .u8) 51 v34 q27.1 :: Res.sl Ek.bool 4 v4 (([] : List Bool) ++ l0) :: ow)) ?_ ?_
    · rcases Bool.eq_false_or_eq_true ((!q40) || (q9.2 != q23.2)) with hb | hb
      · skip
        replace hz := ifT hz hb
        refine st_skip hf (wantN hf rfl rfl hb) rfl (by decide) ?_ rfl
        clear hf; intro a hf
        refine st_skip hf (wantN hf rfl rfl hb) rfl (by decide) ?_ rfl
        clear hf; intro a hf
        refine st_skip hf (wantN hf rfl rfl hb) rfl (by decide) ?_ rfl
        clear hf; intro a hf
        refine st_skip hf (wantN hf rfl rfl hb) rfl (by decide) ?_ rfl
        clear hf; intro a hf
        obtain rfl := Option.some.inj hz
        refine st_pick (v := .bool true) hf rfl rfl (fun hb' => ?_) (fun hb' => ?_) (by decide) ?_
        · rfl
        · exact absurd (hb.symm.trans hb') (by decide)
        clear hf; intro a ha hf; clear ha
        refine st_nil hf (th_n ?_)
        exact ⟨hf.sub ⟨rfl, rfl, rfl, rfl, rfl, rfl, rfl, rfl, trivial⟩, hp⟩
      · skip
        replace hz := ifF hz hb
        refine st_move hf (wantY hf rfl rfl hb) rfl (by decide) ?_
        clear hf; intro a ha hf; clear ha
        refine st_move hf (wantY hf rfl rfl hb) rfl (by decide) ?_
        clear hf; intro a ha hf; clear ha
        obtain ⟨q53, hcall54, hz⟩ := bnd hz
        obtain ⟨S55, hp56, rd57, up58, bk59⟩ := Hp.lendS hp (i := 4) rfl
        obtain ⟨S60, hp61, rd62, up63, bk64⟩ := Hp.lendS hp56 (i := 2) rfl
        refine st_call hf (by decide) Try.func14 rfl rfl (wantY hf rfl rfl hb) rfl rfl (f_foghornlaw22_sameMarks_c hp61 _ _ ((rd57.now hp56).mono up63) _ _ rd62 hcall54) ?_
        rintro _ w ⟨rfl, hp0⟩
        have hp0 := bk64 _ _ hp0
        have hp0 := bk59 _ _ hp0
        clear hp; have hp := hp0; clear hp0
        replace hp : Hp S w0 w (Res.sl (Ek.int .u8) 51 v34 q27.1 :: Res.sl (Ek.int .u8) 5 v38 q36.1 :: Res.sl Ek.bool 4 v21 q9.1 :: Res.sl Ek.bool 4 v25 q23.1 :: Res.sl Ek.bool 4 v8 (([] : List Bool) ++ keep1) :: Res.sl Ek.bool 4 v4 (([] : List Bool) ++ l0) :: ow) := hp
        refine ⟨_, rfl, ?_⟩
        clear hf; intro a hf
        refine st_not hf (by decide) (wantY hf rfl rfl hb) rfl ?_
        clear hf; intro a ha hf; clear ha
        obtain rfl := Option.some.inj hz
        refine st_pick (v := .bool (!q53)) hf rfl rfl (fun hb' => ?_) (fun hb' => ?_) (by decide) ?_
        · exact absurd (hb.symm.trans hb') (by decide)
        · rfl
        clear hf; intro a ha hf; clear ha
        refine st_nil hf (th_n ?_)
        have hp : Hp S w0 w (Res.sl Ek.bool 4 v21 q9.1 :: Res.sl Ek.bool 4 v25 q23.1 :: Res.sl (Ek.int .u8) 5 v38 q36.1 :: Res.sl Ek.bool 4 v8 (([] : List Bool) ++ keep1) :: Res.sl (Ek.int .u8) 51 v34 q27.1 :: Res.sl Ek.bool 4 v4 (([] : List Bool) ++ l0) :: ow) := Hp.sel (pre := [Res.sl (Ek.int .u8) 51 v34 q27.1, Res.sl (Ek.int .u8) 5 v38 q36.1, Res.sl Ek.bool 4 v21 q9.1, Res.sl Ek.bool 4 v25 q23.1, Res.sl Ek.bool 4 v8 (([] : List Bool) ++ keep1), Res.sl Ek.bool 4 v4 (([] : List Bool) ++ l0)]) (tail := ow) (rs' := [Res.sl Ek.bool 4 v21 q9.1, Res.sl Ek.bool 4 v25 q23.1, Res.sl (Ek.int .u8) 5 v38 q36.1, Res.sl Ek.bool 4 v8 (([] : List Bool) ++ keep1), Res.sl (Ek.int .u8) 51 v34 q27.1, Res.sl Ek.bool 4 v4 (([] : List Bool) ++ l0)]) hp [2, 3, 1, 4, 0, 5] (by decide) (by simp) rfl
        exact ⟨hf.sub ⟨rfl, rfl, rfl, rfl, rfl, rfl, rfl, rfl, trivial⟩, hp⟩
    · rintro a w ⟨hf, hp⟩
      refine st_move hf rfl rfl (by decide) ?_
      clear hf; intro a ha hf; clear ha
      refine wpList_cut 4 (fun a w => Fr 103 a [(0, vl0), (1, vkeep1), (9, v4), (10, v8), (11, v21), (71, .bool (z52 || (q27.2 != q36.2)))] ∧ Hp S w0 w (Res.sl Ek.bool 4 v21 q9.1 :: Res.sl Ek.bool 4 v25 q23.1 :: Res.sl (Ek.int .u8) 5 v38 q36.1 :: Res.sl Ek.bool 4 v8 (([] : List Bool) ++ keep1) :: Res.sl (Ek.int .u8) 51 v34 q27.1 :: Res.sl Ek.bool 4 v4 (([] : List Bool) ++ l0) :: ow)) ?_ ?_
      · rcases Bool.eq_false_or_eq_true z52 with hb | hb
        · skip
          refine st_skip hf (wantN hf rfl rfl hb) rfl (by decide) ?_ rfl
          clear hf; intro a hf
          refine st_skip hf (wantN hf rfl rfl hb) rfl (by decide) ?_ rfl
          clear hf; intro a hf
          refine st_skip hf (wantN hf rfl rfl hb) rfl (by decide) ?_ rfl
          clear hf; intro a hf
          refine st_pick (v := .bool true) hf rfl rfl (fun hb' => ?_) (fun hb' => ?_) (by decide) ?_
          · rfl
          · exact absurd (hb.symm.trans hb') (by decide)
          clear hf; intro a ha hf; clear ha
          refine st_nil hf (th_n ?_)
          exact ⟨hf.sub ⟨rfl, rfl, rfl, rfl, rfl, (by rw [hb]; rfl), trivial⟩, hp⟩
        · skip
          refine st_move hf (wantY hf rfl rfl hb) rfl (by decide) ?_
          clear hf; intro a ha hf; clear ha
          refine st_move hf (wantY hf rfl rfl hb) rfl (by decide) ?_
          clear hf; intro a ha hf; clear ha
          refine st_ineq hf (by decide) (wantY hf rfl rfl hb) rfl rfl ?_
          clear hf; intro a ha hf; clear ha
          refine st_pick (v := .bool (q27.2 != q36.2)) hf rfl rfl (fun hb' => ?_) (fun hb' => ?_) (by decide) ?_
          · exact absurd (hb.symm.trans hb') (by decide)
          · rfl
          clear hf; intro a ha hf; clear ha
          refine st_nil hf (th_n ?_)
          exact ⟨hf.sub ⟨rfl, rfl, rfl, rfl, rfl, (by rw [hb]; rfl), trivial⟩, hp⟩
      · rintro a w ⟨hf, hp⟩
        refine st_move hf rfl rfl (by decide) ?_
        clear hf; intro a ha hf; clear ha
        obtain ⟨z65, hz, h⟩ := bnd h
        refine wpList_cut 7 (fun a w => Fr 103 a [(0, vl0), (1, vkeep1), (9, v4), (10, v8), (11, v21), (79, .bool z65)] ∧ Hp S w0 w (Res.sl Ek.bool 4 v21 q9.1 :: Res.sl Ek.bool 4 v25 q23.1 :: Res.sl (Ek.int .u8) 5 v38 q36.1 :: Res.sl Ek.bool 4 v8 (([] : List Bool) ++ keep1) :: Res.sl (Ek.int .u8) 51 v34 q27.1 :: Res.sl Ek.bool 4 v4 (([] : List Bool) ++ l0) :: ow)) ?_ ?_
        · rcases Bool.eq_false_or_eq_true (z52 || (q27.2 != q36.2)) with hb | hb
          · skip
            replace hz := ifT hz hb
            refine st_skip hf (wantN hf rfl rfl hb) rfl (by decide) ?_ rfl
            clear hf; intro a hf
            refine st_skip hf (wantN hf rfl rfl hb) rfl (by decide) ?_ rfl
            clear hf; intro a hf
            refine st_skip hf (wantN hf rfl rfl hb) rfl (by decide) ?_ rfl
            clear hf; intro a hf
            refine st_skip hf (wantN hf rfl rfl hb) rfl (by decide) ?_ rfl
            clear hf; intro a hf
            refine st_skip hf (wantN hf rfl rfl hb) rfl (by decide) ?_ rfl
            clear hf; intro a hf
            refine st_skip hf (wantN hf rfl rfl hb) rfl (by decide) ?_ rfl
            clear hf; intro a hf
            obtain rfl := Option.some.inj hz
            refine st_pick (v := .bool true) hf rfl rfl (fun hb' => ?_) (fun hb' => ?_) (by decide) ?_
            · rfl
            · exact absurd (hb.symm.trans hb') (by decide)
            clear hf; intro a ha hf; clear ha
            refine st_nil hf (th_n ?_)
            exact ⟨hf.sub ⟨rfl, rfl, rfl, rfl, rfl, rfl, trivial⟩, hp⟩
          · skip
            replace hz := ifF hz hb
            refine st_move hf (wantY hf rfl rfl hb) rfl (by decide) ?_
            clear hf; intro a ha hf; clear ha
            obtain ⟨q66, hcall67, hz⟩ := bnd hz
            obtain ⟨S68, hp69, rd70, up71, bk72⟩ := Hp.lendS hp (i := 5) rfl
            refine st_call hf (by decide) Try.func15 rfl rfl (wantY hf rfl rfl hb) rfl rfl (f_hard_Marks_c hp69 _ _ rd70 hcall67) ?_
            rintro _ w ⟨v73, rfl, hp0⟩
            have hp0 := bk72 _ _ hp0
            clear hp; have hp := hp0; clear hp0
            replace hp : Hp S w0 w (Res.sl Ek.bool 4 v4 (([] : List Bool) ++ l0) :: Res.sl (Ek.int .u8) 51 v73 q66 :: Res.sl Ek.bool 4 v21 q9.1 :: Res.sl Ek.bool 4 v25 q23.1 :: Res.sl (Ek.int .u8) 5 v38 q36.1 :: Res.sl Ek.bool 4 v8 (([] : List Bool) ++ keep1) :: Res.sl (Ek.int .u8) 51 v34 q27.1 :: ow) := hp
            refine ⟨_, rfl, ?_⟩
            clear hf; intro a hf
            refine st_move hf (wantY hf rfl rfl hb) rfl (by decide) ?_
            clear hf; intro a ha hf; clear ha
            obtain ⟨q75, hcall76, hz⟩ := bnd hz
            refine st_call hf (by decide) Try.func16 rfl rfl (wantY hf rfl rfl hb) rfl rfl (f_foghornref22_Marks_c hp _ _ hl0 hcall76) ?_
            rintro _ w ⟨v77, rfl, hp0⟩
            clear hp; have hp := hp0; clear hp0
            replace hp : Hp S w0 w (Res.sl (Ek.int .u8) 5 v77 q75 :: Res.sl Ek.bool 4 v4 (([] : List Bool) ++ l0) :: Res.sl (Ek.int .u8) 51 v73 q66 :: Res.sl Ek.bool 4 v21 q9.1 :: Res.sl Ek.bool 4 v25 q23.1 :: Res.sl (Ek.int .u8) 5 v38 q36.1 :: Res.sl Ek.bool 4 v8 (([] : List Bool) ++ keep1) :: Res.sl (Ek.int .u8) 51 v34 q27.1 :: ow) := hp
            refine ⟨_, rfl, ?_⟩
            clear hf; intro a hf
            obtain ⟨q79, hcall80, hz⟩ := bnd hz
            obtain ⟨S81, hp82, rd83, up84, bk85⟩ := Hp.lendS hp (i := 2) rfl
            obtain ⟨S86, hp87, rd88, up89, bk90⟩ := Hp.lendS hp82 (i := 0) rfl
            refine st_call hf (by decide) Try.func14 rfl rfl (wantY hf rfl rfl hb) rfl rfl (f_foghornlaw22_sameMarks_c hp87 _ _ ((rd83.now hp82).mono up89) _ _ rd88 hcall80) ?_
            rintro _ w ⟨rfl, hp0⟩
            have hp0 := bk90 _ _ hp0
            have hp0 := bk85 _ _ hp0
            clear hp; have hp := hp0; clear hp0
            replace hp : Hp S w0 w (Res.sl (Ek.int .u8) 51 v73 q66 :: Res.sl (Ek.int .u8) 5 v77 q75 :: Res.sl Ek.bool 4 v4 (([] : List Bool) ++ l0) :: Res.sl Ek.bool 4 v21 q9.1 :: Res.sl Ek.bool 4 v25 q23.1 :: Res.sl (Ek.int .u8) 5 v38 q36.1 :: Res.sl Ek.bool 4 v8 (([] : List Bool) ++ keep1) :: Res.sl (Ek.int .u8) 51 v34 q27.1 :: ow) := hp
            refine ⟨_, rfl, ?_⟩
            clear hf; intro a hf
            refine st_not hf (by decide) (wantY hf rfl rfl hb) rfl ?_
            clear hf; intro a ha hf; clear ha
            obtain rfl := Option.some.inj hz
            refine st_pick (v := .bool (!q79)) hf rfl rfl (fun hb' => ?_) (fun hb' => ?_) (by decide) ?_
            · exact absurd (hb.symm.trans hb') (by decide)
            · rfl
            clear hf; intro a ha hf; clear ha
            refine st_nil hf (th_n ?_)
            have hp : Hp S w0 w (Res.sl Ek.bool 4 v21 q9.1 :: Res.sl Ek.bool 4 v25 q23.1 :: Res.sl (Ek.int .u8) 5 v38 q36.1 :: Res.sl Ek.bool 4 v8 (([] : List Bool) ++ keep1) :: Res.sl (Ek.int .u8) 51 v34 q27.1 :: Res.sl Ek.bool 4 v4 (([] : List Bool) ++ l0) :: ow) := Hp.sel (pre := [Res.sl (Ek.int .u8) 51 v73 q66, Res.sl (Ek.int .u8) 5 v77 q75, Res.sl Ek.bool 4 v4 (([] : List Bool) ++ l0), Res.sl Ek.bool 4 v21 q9.1, Res.sl Ek.bool 4 v25 q23.1, Res.sl (Ek.int .u8) 5 v38 q36.1, Res.sl Ek.bool 4 v8 (([] : List Bool) ++ keep1), Res.sl (Ek.int .u8) 51 v34 q27.1]) (tail := ow) (rs' := [Res.sl Ek.bool 4 v21 q9.1, Res.sl Ek.bool 4 v25 q23.1, Res.sl (Ek.int .u8) 5 v38 q36.1, Res.sl Ek.bool 4 v8 (([] : List Bool) ++ keep1), Res.sl (Ek.int .u8) 51 v34 q27.1, Res.sl Ek.bool 4 v4 (([] : List Bool) ++ l0)]) hp [3, 4, 5, 6, 7, 2] (by decide) (by simp) rfl
            exact ⟨hf.sub ⟨rfl, rfl, rfl, rfl, rfl, rfl, trivial⟩, hp⟩
        · rintro a w ⟨hf, hp⟩
          refine st_move hf rfl rfl (by decide) ?_
          clear hf; intro a ha hf; clear ha
          obtain ⟨z91, hz, h⟩ := bnd h
          refine wpList_cut 5 (fun a w => Fr 103 a [(0, vl0), (9, v4), (11, v21), (85, .bool z91)] ∧ Hp S w0 w (Res.sl Ek.bool 4 v21 q9.1 :: Res.sl Ek.bool 4 v25 q23.1 :: Res.sl (Ek.int .u8) 5 v38 q36.1 :: Res.sl Ek.bool 4 v8 (([] : List Bool) ++ keep1) :: Res.sl (Ek.int .u8) 51 v34 q27.1 :: Res.sl Ek.bool 4 v4 (([] : List Bool) ++ l0) :: ow)) ?_ ?_
          · rcases Bool.eq_false_or_eq_true z65 with hb | hb
            · skip
              replace hz := ifT hz hb
              refine st_skip hf (wantN hf rfl rfl hb) rfl (by decide) ?_ rfl
              clear hf; intro a hf
              refine st_skip hf (wantN hf rfl rfl hb) rfl (by decide) ?_ rfl
              clear hf; intro a hf
              refine st_skip hf (wantN hf rfl rfl hb) rfl (by decide) ?_ rfl
              clear hf; intro a hf
              refine st_skip hf (wantN hf rfl rfl hb) rfl (by decide) ?_ rfl
              clear hf; intro a hf
              obtain rfl := Option.some.inj hz
              refine st_pick (v := .bool true) hf rfl rfl (fun hb' => ?_) (fun hb' => ?_) (by decide) ?_
              · rfl
              · exact absurd (hb.symm.trans hb') (by decide)
              clear hf; intro a ha hf; clear ha
              refine st_nil hf (th_n ?_)
              exact ⟨hf.sub ⟨rfl, rfl, rfl, rfl, trivial⟩, hp⟩
            · skip
              replace hz := ifF hz hb
              refine st_move hf (wantY hf rfl rfl hb) rfl (by decide) ?_
              clear hf; intro a ha hf; clear ha
              refine st_move hf (wantY hf rfl rfl hb) rfl (by decide) ?_
              clear hf; intro a ha hf; clear ha
              obtain ⟨q92, hcall93, hz⟩ := bnd hz
              obtain ⟨S94, hp95, rd96, up97, bk98⟩ := Hp.lendS hp (i := 3) rfl
              refine st_call hf (by decide) Try.func13 rfl rfl (wantY hf rfl rfl hb) rfl rfl (f_foghornlaw22_sameBits_c hp95 _ _ rd96 _ _ ((hkeep1.now hp).mono up97) hcall93) ?_
              rintro _ w ⟨rfl, hp0⟩
              have hp0 := bk98 _ _ hp0
              clear hp; have hp := hp0; clear hp0
              replace hp : Hp S w0 w (Res.sl Ek.bool 4 v8 (([] : List Bool) ++ keep1) :: Res.sl Ek.bool 4 v21 q9.1 :: Res.sl Ek.bool 4 v25 q23.1 :: Res.sl (Ek.int .u8) 5 v38 q36.1 :: Res.sl (Ek.int .u8) 51 v34 q27.1 :: Res.sl Ek.bool 4 v4 (([] : List Bool) ++ l0) :: ow) := hp
              refine ⟨_, rfl, ?_⟩
              clear hf; intro a hf
              refine st_not hf (by decide) (wantY hf rfl rfl hb) rfl ?_
              clear hf; intro a ha hf; clear ha
              obtain rfl := Option.some.inj hz
              refine st_pick (v := .bool (!q92)) hf rfl rfl (fun hb' => ?_) (fun hb' => ?_) (by decide) ?_
              · exact absurd (hb.symm.trans hb') (by decide)
              · rfl
              clear hf; intro a ha hf; clear ha
              refine st_nil hf (th_n ?_)
              have hp : Hp S w0 w (Res.sl Ek.bool 4 v21 q9.1 :: Res.sl Ek.bool 4 v25 q23.1 :: Res.sl (Ek.int .u8) 5 v38 q36.1 :: Res.sl Ek.bool 4 v8 (([] : List Bool) ++ keep1) :: Res.sl (Ek.int .u8) 51 v34 q27.1 :: Res.sl Ek.bool 4 v4 (([] : List Bool) ++ l0) :: ow) := Hp.sel (pre := [Res.sl Ek.bool 4 v8 (([] : List Bool) ++ keep1), Res.sl Ek.bool 4 v21 q9.1, Res.sl Ek.bool 4 v25 q23.1, Res.sl (Ek.int .u8) 5 v38 q36.1, Res.sl (Ek.int .u8) 51 v34 q27.1, Res.sl Ek.bool 4 v4 (([] : List Bool) ++ l0)]) (tail := ow) (rs' := [Res.sl Ek.bool 4 v21 q9.1, Res.sl Ek.bool 4 v25 q23.1, Res.sl (Ek.int .u8) 5 v38 q36.1, Res.sl Ek.bool 4 v8 (([] : List Bool) ++ keep1), Res.sl (Ek.int .u8) 51 v34 q27.1, Res.sl Ek.bool 4 v4 (([] : List Bool) ++ l0)]) hp [1, 2, 3, 0, 4, 5] (by decide) (by simp) rfl
              exact ⟨hf.sub ⟨rfl, rfl, rfl, rfl, trivial⟩, hp⟩
          · rintro a w ⟨hf, hp⟩
            refine st_nil hf ?_
            refine th_n ?_
            refine wp_if hf rfl (fun hb => ?_) (fun hb => ?_)
            · replace h := ifT h hb
              refine wp_seq ?_
              refine wp_reg ?_
              refine st_assign hf rfl rfl (by decide) ?_
              clear hf; intro a ha hf; clear ha
              refine st_nil hf ?_
              refine th_n ?_
              refine wp_ret ?_
              refine th_r ?_
              obtain rfl := Option.some.inj h
              have hp : Hp S w0 w (ow) := Hp.sel (pre := [Res.sl Ek.bool 4 v21 q9.1, Res.sl Ek.bool 4 v25 q23.1, Res.sl (Ek.int .u8) 5 v38 q36.1, Res.sl Ek.bool 4 v8 (([] : List Bool) ++ keep1), Res.sl (Ek.int .u8) 51 v34 q27.1, Res.sl Ek.bool 4 v4 (([] : List Bool) ++ l0)]) (tail := ow) (rs' := []) hp [] (by decide) (by simp) rfl
              exact ⟨rfl, ⟨hf.sub ⟨rfl, trivial⟩, hp⟩⟩
            · replace h := ifF h hb
              refine wp_skip ?_
              refine th_n ?_
              refine wp_seq ?_
              refine wp_seq ?_
              refine wp_reg ?_
              refine st_assign hf rfl rfl (by decide) ?_
              clear hf; intro a ha hf; clear ha
              refine st_nil hf ?_
              refine th_n ?_
              refine wp_block ?_
              obtain ⟨q103, hl, h⟩ := bnd h
              have hp : Hp S w0 w (Res.sl Ek.bool 4 v21 q9.1 :: Res.sl Ek.bool 4 v4 (([] : List Bool) ++ l0) :: ow) := Hp.sel (pre := [Res.sl Ek.bool 4 v21 q9.1, Res.sl Ek.bool 4 v25 q23.1, Res.sl (Ek.int .u8) 5 v38 q36.1, Res.sl Ek.bool 4 v8 (([] : List Bool) ++ keep1), Res.sl (Ek.int .u8) 51 v34 q27.1, Res.sl Ek.bool 4 v4 (([] : List Bool) ++ l0)]) (tail := ow) (rs' := [Res.sl Ek.bool 4 v21 q9.1, Res.sl Ek.bool 4 v4 (([] : List Bool) ++ l0)]) hp [0, 5] (by decide) (by simp) rfl
              refine wp_loop_pure (f := f_foghornlaw22_HardThins.s1) (s := (q9.1, 0)) (fun s a w => ∃ (v99 : Value), Fr 103 a [(0, vl0), (9, v4), (11, v99), (19, .int .i64 s.2)] ∧ Hp S w0 w (Res.sl Ek.bool 4 v99 s.1 :: Res.sl Ek.bool 4 v4 (([] : List Bool) ++ l0) :: ow)) (fun q e a w => e = .exit 0 ∧ Fr 103 a [(0, vl0), (9, v4)] ∧ Hp S w0 w (Res.sl Ek.bool 4 v4 (([] : List Bool) ++ l0) :: ow)) ?_ hl ⟨_, hf.sub ⟨rfl, rfl, rfl, rfl, trivial⟩, hp⟩ ?_
              · clear hl hf hp
                intro s x a w h hI
                obtain ⟨a11, i19⟩ := s
                obtain ⟨v99, hf, hp⟩ : ∃ (v99 : Value), Fr 103 a [(0, vl0), (9, v4), (11, v99), (19, .int .i64 i19)] ∧ Hp S w0 w (Res.sl Ek.bool 4 v99 a11 :: Res.sl Ek.bool 4 v4 (([] : List Bool) ++ l0) :: ow) := hI
                replace h : f_foghornlaw22_HardThins.s1c a11 i19 = some x := h
                unfold f_foghornlaw22_HardThins.s1c at h
                refine wp_seq ?_
                refine wp_seq ?_
                refine wp_reg ?_
                refine st_move hf rfl rfl (by decide) ?_
                clear hf; intro a ha hf; clear ha
                refine st_move hf rfl rfl (by decide) ?_
                clear hf; intro a ha hf; clear ha
                refine st_len (E := Ek.bool) hf (by decide) Try.underlying22 rfl rfl (hp.sl (i := 0) rfl) ?_
                clear hf; intro a ha hf; clear ha
                refine st_ilss hf (by decide) rfl rfl rfl ?_
                clear hf; intro a ha hf; clear ha
                refine st_nil hf ?_
                refine th_n ?_
                refine wp_if hf rfl (fun hb => ?_) (fun hb => ?_)
                · replace h := ifT h hb
                  refine wp_skip ?_
                  refine th_n ?_
                  refine wp_seq ?_
                  refine wp_block ?_
                  refine wp_reg ?_
                  refine st_move hf rfl rfl (by decide) ?_
                  clear hf; intro a ha hf; clear ha
                  refine st_move hf rfl rfl (by decide) ?_
                  clear hf; intro a ha hf; clear ha
                  refine st_move hf rfl rfl (by decide) ?_
                  clear hf; intro a ha hf; clear ha
                  refine st_move hf rfl rfl (by decide) ?_
                  clear hf; intro a ha hf; clear ha
                  obtain ⟨hc101, h⟩ := chk h
                  refine st_index (E := Ek.bool) hf (by decide) Try.underlying22 elt4 rfl rfl rfl (hp.sl (i := 0) rfl) hc101.1 hc101.2 ?_
                  clear hf; intro a ha hf; clear ha
                  refine st_ldB hf (by decide) pl4 rfl rfl (hp.sl (i := 0) rfl) hc101.1 hc101.2 ?_
                  clear hf; intro a ha hf; clear ha
                  refine st_not hf (by decide) rfl rfl ?_
                  clear hf; intro a ha hf; clear ha
                  obtain ⟨hc102, h⟩ := chk h
                  refine st_index (E := Ek.bool) hf (by decide) Try.underlying22 elt4 rfl rfl rfl (hp.sl (i := 0) rfl) hc102.1 hc102.2 ?_
                  clear hf; intro a ha hf; clear ha
                  refine st_store (E := Ek.bool) hf elt4 hp (i := 0) rfl rfl rfl rfl rfl hc102.1 hc102.2 ?_
                  clear hf; intro a w hf hp0; clear hp; have hp := hp0; clear hp0
                  replace hp : Hp S w0 w (Res.sl Ek.bool 4 v99 (a11.set (i19).toNat (!(gt a11 i19))) :: Res.sl Ek.bool 4 v4 (([] : List Bool) ++ l0) :: ow) := hp
                  refine st_nil hf ?_
                  refine ib_n ?_
                  refine th_n ?_
                  refine wp_reg ?_
                  refine st_move hf rfl rfl (by decide) ?_
                  clear hf; intro a ha hf; clear ha
                  refine st_iadd hf (by decide) rfl rfl rfl ?_
                  clear hf; intro a ha hf; clear ha
                  refine st_assign hf rfl rfl (by decide) ?_
                  clear hf; intro a ha hf; clear ha
                  refine st_nil hf ?_
                  obtain rfl := Option.some.inj h
                  exact rnd_l ⟨_, hf.sub ⟨rfl, rfl, rfl, rfl, trivial⟩, hp⟩
                · replace h := ifF h hb
                  refine wp_exit ?_
                  refine th_e ?_
                  obtain rfl := Option.some.inj h
                  have hp : Hp S w0 w (Res.sl Ek.bool 4 v4 (([] : List Bool) ++ l0) :: ow) := Hp.sel (pre := [Res.sl Ek.bool 4 v99 a11, Res.sl Ek.bool 4 v4 (([] : List Bool) ++ l0)]) (tail := ow) (rs' := [Res.sl Ek.bool 4 v4 (([] : List Bool) ++ l0)]) hp [1] (by decide) (by simp) rfl
                  exact rnd_r (by simp) ⟨rfl, hf.sub ⟨rfl, rfl, trivial⟩, hp⟩
              · clear hl hf hp
                intro e a w hne hO
                obtain ⟨rfl, hf, hp⟩ := hO
                refine ib_same ?_
                refine th_n ?_
                refine wp_seq ?_
                refine wp_reg ?_
                refine st_move hf rfl rfl (by decide) ?_
                clear hf; intro a ha hf; clear ha
                refine st_move hf rfl rfl (by decide) ?_
                clear hf; intro a ha hf; clear ha
                obtain ⟨q104, hcall105, h⟩ := bnd h
                obtain ⟨S106, hp107, rd108, up109, bk110⟩ := Hp.lendS hp (i := 0) rfl
                refine st_call hf (by decide) Try.func13 rfl rfl rfl rfl rfl (f_foghornlaw22_sameBits_c hp107 _ _ rd108 _ _ ((hl0.now hp).mono up109) hcall105) ?_
                rintro _ w ⟨rfl, hp0⟩
                have hp0 := bk110 _ _ hp0
                clear hp; have hp := hp0; clear hp0
                replace hp : Hp S w0 w (Res.sl Ek.bool 4 v4 (([] : List Bool) ++ l0) :: ow) := hp
                refine ⟨_, rfl, ?_⟩
                clear hf; intro a hf
                refine st_assign hf rfl rfl (by decide) ?_
                clear hf; intro a ha hf; clear ha
                refine st_nil hf ?_
                refine th_n ?_
                refine wp_ret ?_
                obtain rfl := Option.some.inj h
                have hp : Hp S w0 w (ow) := Hp.sel (pre := [Res.sl Ek.bool 4 v4 (([] : List Bool) ++ l0)]) (tail := ow) (rs' := []) hp [] (by decide) (by simp) rfl
                exact ⟨rfl, ⟨hf.sub ⟨rfl, trivial⟩, hp⟩⟩

end Go.Proofs.Ythajdlihjobcoaa
