/- The functions foghorn foghornlaw06.TurnsRows: what each answers, as a plain function, and that its call answers it; printed by gen.py. -/
import Derived.Test.YtienojgmpjpcjaaProg
import Derived.Test.YtienojgmpjpcjaaGlY
import Derived.KernelRfl
set_option linter.unusedVariables false
set_option linter.unusedSimpArgs false
set_option maxRecDepth 100000
set_option maxHeartbeats 4000000
namespace Go.Proofs.Ytienojgmpjpcjaa
open GL
theorem elt4 : ElT Try.prog Ek.bool 4 1 false := ElT.of (z := .bool false) (by kernel_rfl) rfl
theorem elt5 : ElT Try.prog (Ek.int .u8) 5 1 (0 : Int) := ElT.of (z := .int .u8 0) (by kernel_rfl) rfl
theorem pl3 : Plain Try.prog 3 := ⟨⟨_, Try.underlying3, trivial⟩⟩
theorem pl4 : Plain Try.prog 4 := ⟨⟨_, Try.underlying4, trivial⟩⟩
theorem pl5 : Plain Try.prog 5 := ⟨⟨_, Try.underlying5, trivial⟩⟩
noncomputable def f_turns_row.s1c (qx0 : (List Int)) (t7 : Int) : Option (Int ⊕ (Unit ⊕ Bool)) := (if (decide (t7 < (qx0.length : Int))) = true then (if 0 ≤ t7 ∧ t7 < (qx0.length : Int) then (if (decide ((3 : Int) < (gt qx0 t7))) = true then (some (Sum.inr (Sum.inr false))) else (some (Sum.inl (IntKind.i64.wrap (t7 + (1 : Int)))))) else none) else (some (Sum.inr (Sum.inl ()))))
noncomputable def f_turns_row.s1 (qx0 : (List Int)) (s : Int) : Option (Int ⊕ (Unit ⊕ Bool)) := f_turns_row.s1c qx0 s
noncomputable def f_turns_row (qx0 : (List Int)) : Option Bool := ((loop (f_turns_row.s1 qx0) (0 : Int)).bind (fun q2 => sm q2 (fun q3 => (some (decide ((qx0.length : Int) ≤ (65536 : Int))))) (fun q4 => (some q4))))
theorem f_turns_row_c {S : Nat → Prop} {w0 w : World} {ow : List Res} (hp : Hp S w0 w ow) (vqx0 : Value) (qx0 : (List Int)) (hqx0 : RdS (Ek.int .u8) S w0 vqx0 qx0) {r : Bool} (h : f_turns_row qx0 = some r) :
    Calls Try.prog 36 #[vqx0] w (fun e w' => e = .returned (.bool r) ∧ Hp S w0 w' (ow)) := by
  unfold f_turns_row at h
  refine enter (n := 17) (args := [vqx0]) Try.func36 rfl rfl (Nat.le_of_ble_eq_true rfl) fun a hf => ?_
  replace hf : Fr 17 a [(0, vqx0)] := hf
  refine wp_mono (Q := fun e a w => e = .ret ∧ Fr 17 a [(2, .bool r)] ∧ Hp S w0 w (ow)) ?_ ?_
  rotate_left
  · rintro e a w ⟨rfl, hf, hp⟩
    exact ret1 hf rfl rfl ⟨rfl, hp⟩
  refine wp_seq ?_
  refine wp_reg ?_
  refine st_assign hf rfl rfl (by decide) ?_
  clear hf; intro a ha hf; clear ha
  refine st_nil hf ?_
  refine th_n ?_
  refine wp_seq ?_
  refine wp_seq ?_
  refine wp_reg ?_
  refine st_move hf rfl rfl (by decide) ?_
  clear hf; intro a ha hf; clear ha
  refine st_len (E := (Ek.int .u8)) hf (by decide) Try.underlying22 rfl rfl (hqx0.sl hp) ?_
  clear hf; intro a ha hf; clear ha
  refine st_move hf rfl rfl (by decide) ?_
  clear hf; intro a ha hf; clear ha
  refine st_nil hf ?_
  refine th_n ?_
  refine wp_block ?_
  obtain ⟨q2, hl, h⟩ := bnd h
  refine wp_loop_pure (f := (f_turns_row.s1 qx0)) (s := (0 : Int)) (fun s a w => Fr 17 a [(0, vqx0), (5, vqx0), (6, .int .i64 (qx0.length : Int)), (7, .int .i64 s)] ∧ Hp S w0 w (ow)) (fun q e a w => match q with | (Sum.inl q) => e = .exit 0 ∧ Fr 17 a [(0, vqx0)] ∧ Hp S w0 w (ow) | (Sum.inr q) => e = .ret ∧ Fr 17 a [(2, .bool q)] ∧ Hp S w0 w (ow)) ?_ hl ⟨hf.sub ⟨rfl, rfl, rfl, rfl, trivial⟩, hp⟩ ?_
  · clear hl hf hp
    intro s x a w h hI
    obtain ⟨t7, hs⟩ : ∃ z, z = s := ⟨s, rfl⟩; subst hs
    obtain ⟨hf, hp⟩ : Fr 17 a [(0, vqx0), (5, vqx0), (6, .int .i64 (qx0.length : Int)), (7, .int .i64 t7)] ∧ Hp S w0 w (ow) := hI
    replace h : f_turns_row.s1c qx0 t7 = some x := h
    unfold f_turns_row.s1c at h
    refine wp_seq ?_
    refine wp_reg ?_
    refine st_ilss hf (by decide) rfl rfl rfl ?_
    clear hf; intro a ha hf; clear ha
    refine st_nil hf ?_
    refine th_n ?_
    refine wp_seq ?_
    refine wp_if hf rfl (fun hb => ?_) (fun hb => ?_)
    · replace h := ifT h hb
      refine wp_skip ?_
      refine th_n ?_
      refine wp_seq ?_
      refine wp_block ?_
      refine wp_seq ?_
      refine wp_reg ?_
      obtain ⟨hc1, h⟩ := chk h
      refine st_index (E := (Ek.int .u8)) hf (by decide) Try.underlying22 elt5 rfl rfl rfl (hqx0.sl hp) hc1.1 hc1.2 ?_
      clear hf; intro a ha hf; clear ha
      refine st_ldI hf (by decide) pl5 rfl rfl (hqx0.sl hp) hc1.1 hc1.2 ?_
      clear hf; intro a ha hf; clear ha
      refine st_assign hf rfl rfl (by decide) ?_
      clear hf; intro a ha hf; clear ha
      refine st_nil hf ?_
      refine th_n ?_
      refine wp_seq ?_
      refine wp_reg ?_
      refine st_move hf rfl rfl (by decide) ?_
      clear hf; intro a ha hf; clear ha
      refine st_igtr hf (by decide) rfl rfl rfl ?_
      clear hf; intro a ha hf; clear ha
      refine st_nil hf ?_
      refine th_n ?_
      refine wp_if hf rfl (fun hb => ?_) (fun hb => ?_)
      · replace h := ifT h hb
        refine wp_seq ?_
        refine wp_reg ?_
        refine st_assign hf rfl rfl (by decide) ?_
        clear hf; intro a ha hf; clear ha
        refine st_nil hf ?_
        refine th_n ?_
        refine wp_ret ?_
        refine ib_r ?_
        refine th_r ?_
        obtain rfl := Option.some.inj h
        exact rnd_r (by simp) ⟨rfl, ⟨hf.sub ⟨rfl, trivial⟩, hp⟩⟩
      replace h := ifF h hb
      refine wp_skip ?_
      refine ib_n ?_
      refine th_n ?_
      refine wp_reg ?_
      refine st_iadd hf (by decide) rfl rfl rfl ?_
      clear hf; intro a ha hf; clear ha
      refine st_move hf rfl rfl (by decide) ?_
      clear hf; intro a ha hf; clear ha
      refine st_nil hf ?_
      obtain rfl := Option.some.inj h
      exact rnd_l ⟨hf.sub ⟨rfl, rfl, rfl, rfl, trivial⟩, hp⟩
    replace h := ifF h hb
    refine wp_exit ?_
    refine th_e ?_
    obtain rfl := Option.some.inj h
    exact rnd_r (by simp) ⟨rfl, hf.sub ⟨rfl, trivial⟩, hp⟩
  clear hl hf hp
  intro e a w hne hO
  rcases q2 with q3 | q4
  · replace h := smL h
    obtain ⟨rfl, hf, hp⟩ := hO
    refine ib_same ?_
    refine th_n ?_
    refine wp_seq ?_
    refine wp_reg ?_
    refine st_move hf rfl rfl (by decide) ?_
    clear hf; intro a ha hf; clear ha
    refine st_len (E := (Ek.int .u8)) hf (by decide) Try.underlying22 rfl rfl (hqx0.sl hp) ?_
    clear hf; intro a ha hf; clear ha
    refine st_ileq hf (by decide) rfl rfl rfl ?_
    clear hf; intro a ha hf; clear ha
    refine st_assign hf rfl rfl (by decide) ?_
    clear hf; intro a ha hf; clear ha
    refine st_nil hf ?_
    refine th_n ?_
    refine wp_ret ?_
    obtain rfl := Option.some.inj h
    exact ⟨rfl, ⟨hf.sub ⟨rfl, trivial⟩, hp⟩⟩
  replace h := smR h
  obtain ⟨rfl, hf, hp⟩ := hO
  refine ib_r ?_
  refine th_r ?_
  obtain rfl := Option.some.inj h
  exact ⟨rfl, ⟨hf.sub ⟨rfl, trivial⟩, hp⟩⟩

noncomputable def f_turns_Into_1 (n0 : Int) (t1 : Int) : Option (Int × Int) := (some ((IntKind.u8.wrap (t1 + n0)), (IntKind.u8.wrap (t1 + n0))))
theorem f_turns_Into_1_c {S : Nat → Prop} {w0 w : World} {ow : List Res} (n0 : Int) (t1 : Int) (ot1 : Value) (hp : Hp S w0 w (Res.obj 5 ot1 [.int .u8 t1] :: ow)) {r : (Int × Int)} (h : f_turns_Into_1 n0 t1 = some r) :
    Calls Try.prog 34 #[.int .u8 n0, optr ot1 0] w (fun e w' => e = .returned (.int .u8 r.1) ∧ Hp S w0 w' (Res.obj 5 ot1 [.int .u8 r.2] :: ow)) := by
  unfold f_turns_Into_1 at h
  refine enter (n := 8) (args := [.int .u8 n0, optr ot1 0]) Try.func34 rfl rfl (Nat.le_of_ble_eq_true rfl) fun a hf => ?_
  replace hf : Fr 8 a [(0, .int .u8 n0), (1, optr ot1 0)] := hf
  refine wp_mono (Q := fun e a w => e = .ret ∧ Fr 8 a [(3, .int .u8 r.1)] ∧ Hp S w0 w (Res.obj 5 ot1 [.int .u8 r.2] :: ow)) ?_ ?_
  rotate_left
  · rintro e a w ⟨rfl, hf, hp⟩
    exact ret1 hf rfl rfl ⟨rfl, hp⟩
  refine wp_seq ?_
  refine wp_reg ?_
  refine st_assign hf rfl rfl (by decide) ?_
  clear hf; intro a ha hf; clear ha
  refine st_nil hf ?_
  refine th_n ?_
  refine wp_seq ?_
  refine wp_reg ?_
  refine st_ldO (u := .int .u8 t1) hf (by decide) pl5 rfl rfl (hp.ob (i := 0) rfl) rfl ?_
  clear hf; intro a ha hf; clear ha
  refine st_move hf rfl rfl (by decide) ?_
  clear hf; intro a ha hf; clear ha
  refine st_iadd hf (by decide) rfl rfl rfl ?_
  clear hf; intro a ha hf; clear ha
  refine st_stO (us := [.int .u8 (IntKind.u8.wrap (t1 + n0))]) hf hp (i := 0) rfl rfl rfl rfl rfl (by rfl) (by kernel_rfl) (Nat.le_of_ble_eq_true rfl) ?_
  clear hf; intro a w hf hp0; clear hp; have hp := hp0; clear hp0
  replace hp : Hp _ _ _ (Res.obj 5 ot1 [.int .u8 (IntKind.u8.wrap (t1 + n0))] :: ow) := hp
  refine st_nil hf ?_
  refine th_n ?_
  refine wp_seq ?_
  refine wp_reg ?_
  refine st_ldO (u := .int .u8 (IntKind.u8.wrap (t1 + n0))) hf (by decide) pl5 rfl rfl (hp.ob (i := 0) rfl) rfl ?_
  clear hf; intro a ha hf; clear ha
  refine st_assign hf rfl rfl (by decide) ?_
  clear hf; intro a ha hf; clear ha
  refine st_nil hf ?_
  refine th_n ?_
  refine wp_ret ?_
  obtain rfl := Option.some.inj h
  exact ⟨rfl, ⟨hf.sub ⟨rfl, trivial⟩, hp⟩⟩

noncomputable def f_turns_each.s1c (qx0 : (List Int)) (f1_0c : Int) (out6 : (List Int)) (t17 : Int) : Option ((Int × (List Int) × Int) ⊕ (Int × (List Int))) := (if (decide (t17 < (qx0.length : Int))) = true then (if 0 ≤ t17 ∧ t17 < (qx0.length : Int) then ((f_turns_Into_1 (gt qx0 t17) f1_0c).bind fun q15 => (if 0 ≤ t17 ∧ t17 < (out6.length : Int) then (some (Sum.inl (q15.2, (out6.set (t17).toNat (iand .u8 q15.1 (3 : Int))), (IntKind.i64.wrap (t17 + (1 : Int)))))) else none)) else none) else (some (Sum.inr (f1_0c, out6))))
noncomputable def f_turns_each.s1 (qx0 : (List Int)) (s : (Int × (List Int) × Int)) : Option ((Int × (List Int) × Int) ⊕ (Int × (List Int))) := f_turns_each.s1c qx0 s.1 s.2.1 s.2.2
noncomputable def f_turns_each (qx0 : (List Int)) (t2000 : Int) : Option ((List Int) × Int × Int) := ((f_turns_row qx0).bind fun q2 => (if (!q2) = true then (some ([], (1 : Int), t2000)) else (if 0 ≤ (qx0.length : Int) ∧ (qx0.length : Int) ≤ (qx0.length : Int) ∧ (qx0.length : Int) * 1 ≤ 281474976710656 then ((loop (f_turns_each.s1 qx0) (t2000, (List.replicate ((qx0.length : Int)).toNat (0 : Int)), (0 : Int))).bind (fun q19 => (some (q19.2, (0 : Int), q19.1)))) else none)))
theorem f_turns_each_c {S : Nat → Prop} {w0 w : World} {ow : List Res} (vqx0 : Value) (qx0 : (List Int)) (hqx0 : RdS (Ek.int .u8) S w0 vqx0 qx0) (t2000 : Int) (ot2000 : Value) (hp : Hp S w0 w (Res.obj 5 ot2000 [.int .u8 t2000] :: ow)) {r : ((List Int) × Int × Int)} (h : f_turns_each qx0 t2000 = some r) :
    Calls Try.prog 33 #[vqx0, .func (.func 34) #[] #[optr ot2000 0]] w (fun e w' => ∃ (u0 : Value), e = .returned (.tuple #[u0, .int .i64 r.2.1]) ∧ Hp S w0 w' (Res.sl (Ek.int .u8) 5 u0 r.1 :: Res.obj 5 ot2000 [.int .u8 r.2.2] :: ow)) := by
  unfold f_turns_each at h
  refine enter (n := 31) (args := [vqx0, .func (.func 34) #[] #[optr ot2000 0]]) Try.func33 rfl rfl (Nat.le_of_ble_eq_true rfl) fun a hf => ?_
  replace hf : Fr 31 a [(0, vqx0), (1, .func (.func 34) #[] #[optr ot2000 0])] := hf
  refine wp_mono (Q := fun e a w => e = .ret ∧ ∃ (u0 : Value), Fr 31 a [(4, u0), (5, .int .i64 r.2.1)] ∧ Hp S w0 w (Res.sl (Ek.int .u8) 5 u0 r.1 :: Res.obj 5 ot2000 [.int .u8 r.2.2] :: ow)) ?_ ?_
  rotate_left
  · rintro e a w ⟨rfl, x0, hf, hp⟩
    exact ret2 hf rfl rfl rfl ⟨x0, rfl, hp⟩
  refine wp_seq ?_
  refine wp_reg ?_
  refine st_assign hf rfl rfl (by decide) ?_
  clear hf; intro a ha hf; clear ha
  refine st_assign hf rfl rfl (by decide) ?_
  clear hf; intro a ha hf; clear ha
  refine st_nil hf ?_
  refine th_n ?_
  refine wp_seq ?_
  refine wp_seq ?_
  refine wp_reg ?_
  refine st_move hf rfl rfl (by decide) ?_
  clear hf; intro a ha hf; clear ha
  obtain ⟨q2, hcall3, h⟩ := bnd h
  refine st_call hf (by decide) Try.func36 rfl rfl rfl rfl rfl (f_turns_row_c hp _ _ hqx0 hcall3) ?_
  rintro _ w ⟨rfl, hp0⟩
  clear hp; have hp := hp0; clear hp0
  replace hp : Hp _ _ _ (Res.obj 5 ot2000 [.int .u8 t2000] :: ow) := hp
  refine ⟨_, rfl, ?_⟩
  clear hf; intro a hf
  refine st_not hf (by decide) rfl rfl ?_
  clear hf; intro a ha hf; clear ha
  refine st_nil hf ?_
  refine th_n ?_
  refine wp_if hf rfl (fun hb => ?_) (fun hb => ?_)
  · replace h := ifT h hb
    refine wp_seq ?_
    refine wp_reg ?_
    refine st_assign hf rfl rfl (by decide) ?_
    clear hf; intro a ha hf; clear ha
    refine st_assign hf rfl rfl (by decide) ?_
    clear hf; intro a ha hf; clear ha
    refine st_nil hf ?_
    refine th_n ?_
    refine wp_ret ?_
    refine th_r ?_
    obtain rfl := Option.some.inj h
    have hp := hp.nil (Ek.int .u8) 5
    exact ⟨rfl, ⟨_, hf.sub ⟨rfl, rfl, trivial⟩, hp⟩⟩
  replace h := ifF h hb
  refine wp_skip ?_
  refine th_n ?_
  refine wp_seq ?_
  refine wp_reg ?_
  refine st_move hf rfl rfl (by decide) ?_
  clear hf; intro a ha hf; clear ha
  refine st_len (E := (Ek.int .u8)) hf (by decide) Try.underlying22 rfl rfl (hqx0.sl hp) ?_
  clear hf; intro a ha hf; clear ha
  obtain ⟨hc5, h⟩ := chk h
  refine st_make (E := (Ek.int .u8)) hf (by decide) elt5 Try.underlying22 (by decide) hp rfl rfl rfl hc5.1 hc5.2.1 hc5.2.2 ?_
  clear hf; intro a w v6 hf hp0; clear hp; have hp := hp0; clear hp0
  replace hp : Hp _ _ _ (Res.sl (Ek.int .u8) 5 v6 (List.replicate ((qx0.length : Int)).toNat (0 : Int)) :: Res.obj 5 ot2000 [.int .u8 t2000] :: ow) := hp
  refine st_assign hf rfl rfl (by decide) ?_
  clear hf; intro a ha hf; clear ha
  refine st_nil hf ?_
  refine th_n ?_
  refine wp_seq ?_
  refine wp_seq ?_
  refine wp_reg ?_
  refine st_move hf rfl rfl (by decide) ?_
  clear hf; intro a ha hf; clear ha
  refine st_len (E := (Ek.int .u8)) hf (by decide) Try.underlying22 rfl rfl (hqx0.sl hp) ?_
  clear hf; intro a ha hf; clear ha
  refine st_move hf rfl rfl (by decide) ?_
  clear hf; intro a ha hf; clear ha
  refine st_nil hf ?_
  refine th_n ?_
  refine wp_block ?_
  obtain ⟨q19, hl, h⟩ := bnd h
  have hp : Hp _ _ _ (Res.obj 5 ot2000 [.int .u8 t2000] :: Res.sl (Ek.int .u8) 5 v6 (List.replicate ((qx0.length : Int)).toNat (0 : Int)) :: ow) := Hp.sel (pre := [Res.sl (Ek.int .u8) 5 v6 (List.replicate ((qx0.length : Int)).toNat (0 : Int)), Res.obj 5 ot2000 [.int .u8 t2000]]) (tail := ow) (rs' := [Res.obj 5 ot2000 [.int .u8 t2000], Res.sl (Ek.int .u8) 5 v6 (List.replicate ((qx0.length : Int)).toNat (0 : Int))]) hp [1, 0] (by decide) (by simp) rfl
  refine wp_loop_pure (f := (f_turns_each.s1 qx0)) (s := (t2000, (List.replicate ((qx0.length : Int)).toNat (0 : Int)), (0 : Int))) (fun s a w => ∃ (v9 : Value), Fr 31 a [(1, .func (.func 34) #[] #[optr ot2000 0]), (6, v9), (15, vqx0), (16, .int .i64 (qx0.length : Int)), (17, .int .i64 s.2.2)] ∧ Hp S w0 w (Res.obj 5 ot2000 [.int .u8 s.1] :: Res.sl (Ek.int .u8) 5 v9 s.2.1 :: ow)) (fun q e a w => e = .exit 0 ∧ ∃ (v12 : Value), Fr 31 a [(1, .func (.func 34) #[] #[optr ot2000 0]), (6, v12)] ∧ Hp S w0 w (Res.obj 5 ot2000 [.int .u8 q.1] :: Res.sl (Ek.int .u8) 5 v12 q.2 :: ow)) ?_ hl ⟨_, hf.sub ⟨rfl, rfl, rfl, rfl, rfl, trivial⟩, hp⟩ ?_
  · clear hl hf hp
    intro s x a w h hI
    obtain ⟨f1_0c, out6, t17⟩ := s
    obtain ⟨v9, hf, hp⟩ : ∃ (v9 : Value), Fr 31 a [(1, .func (.func 34) #[] #[optr ot2000 0]), (6, v9), (15, vqx0), (16, .int .i64 (qx0.length : Int)), (17, .int .i64 t17)] ∧ Hp S w0 w (Res.obj 5 ot2000 [.int .u8 f1_0c] :: Res.sl (Ek.int .u8) 5 v9 out6 :: ow) := hI
    replace h : f_turns_each.s1c qx0 f1_0c out6 t17 = some x := h
    unfold f_turns_each.s1c at h
    refine wp_seq ?_
    refine wp_reg ?_
    refine st_ilss hf (by decide) rfl rfl rfl ?_
    clear hf; intro a ha hf; clear ha
    refine st_nil hf ?_
    refine th_n ?_
    refine wp_seq ?_
    refine wp_if hf rfl (fun hb => ?_) (fun hb => ?_)
    · replace h := ifT h hb
      refine wp_skip ?_
      refine th_n ?_
      refine wp_seq ?_
      refine wp_block ?_
      refine wp_seq ?_
      refine wp_reg ?_
      refine st_move hf rfl rfl (by decide) ?_
      clear hf; intro a ha hf; clear ha
      obtain ⟨hc14, h⟩ := chk h
      refine st_index (E := (Ek.int .u8)) hf (by decide) Try.underlying22 elt5 rfl rfl rfl (hqx0.sl hp) hc14.1 hc14.2 ?_
      clear hf; intro a ha hf; clear ha
      refine st_ldI hf (by decide) pl5 rfl rfl (hqx0.sl hp) hc14.1 hc14.2 ?_
      clear hf; intro a ha hf; clear ha
      refine st_assign hf rfl rfl (by decide) ?_
      clear hf; intro a ha hf; clear ha
      refine st_assign hf rfl rfl (by decide) ?_
      clear hf; intro a ha hf; clear ha
      refine st_nil hf ?_
      refine th_n ?_
      refine wp_reg ?_
      refine st_move hf rfl rfl (by decide) ?_
      clear hf; intro a ha hf; clear ha
      refine st_move hf rfl rfl (by decide) ?_
      clear hf; intro a ha hf; clear ha
      refine st_move hf rfl rfl (by decide) ?_
      clear hf; intro a ha hf; clear ha
      refine st_move hf rfl rfl (by decide) ?_
      clear hf; intro a ha hf; clear ha
      obtain ⟨q15, hcall16, h⟩ := bnd h
      have hp17 : Hp _ _ _ (Res.obj 5 ot2000 [.int .u8 f1_0c] :: Res.sl (Ek.int .u8) 5 v9 out6 :: ow) := Hp.sel (pre := [Res.obj 5 ot2000 [.int .u8 f1_0c], Res.sl (Ek.int .u8) 5 v9 out6]) (tail := ow) (rs' := [Res.obj 5 ot2000 [.int .u8 f1_0c], Res.sl (Ek.int .u8) 5 v9 out6]) hp [0, 1] (by decide) (by simp) rfl
      refine st_call hf (by decide) Try.func34 rfl rfl rfl rfl rfl (f_turns_Into_1_c _ _ _ hp17 hcall16) ?_
      rintro _ w ⟨rfl, hp0⟩
      clear hp; have hp := hp0; clear hp0
      replace hp : Hp _ _ _ (Res.obj 5 ot2000 [.int .u8 q15.2] :: Res.sl (Ek.int .u8) 5 v9 out6 :: ow) := hp
      refine ⟨_, rfl, ?_⟩
      clear hf; intro a hf
      refine st_iand hf (by decide) rfl rfl rfl ?_
      clear hf; intro a ha hf; clear ha
      obtain ⟨hc18, h⟩ := chk h
      refine st_index (E := (Ek.int .u8)) hf (by decide) Try.underlying22 elt5 rfl rfl rfl (hp.sl (i := 1) rfl) hc18.1 hc18.2 ?_
      clear hf; intro a ha hf; clear ha
      refine st_store (E := (Ek.int .u8)) hf elt5 hp (i := 1) rfl rfl rfl rfl rfl hc18.1 hc18.2 ?_
      clear hf; intro a w hf hp0; clear hp; have hp := hp0; clear hp0
      replace hp : Hp _ _ _ (Res.obj 5 ot2000 [.int .u8 q15.2] :: Res.sl (Ek.int .u8) 5 v9 (out6.set (t17).toNat (iand .u8 q15.1 (3 : Int))) :: ow) := hp
      refine st_nil hf ?_
      refine ib_n ?_
      refine th_n ?_
      refine wp_reg ?_
      refine st_iadd hf (by decide) rfl rfl rfl ?_
      clear hf; intro a ha hf; clear ha
      refine st_move hf rfl rfl (by decide) ?_
      clear hf; intro a ha hf; clear ha
      refine st_nil hf ?_
      obtain rfl := Option.some.inj h
      exact rnd_l ⟨_, hf.sub ⟨rfl, rfl, rfl, rfl, rfl, trivial⟩, hp⟩
    replace h := ifF h hb
    refine wp_exit ?_
    refine th_e ?_
    obtain rfl := Option.some.inj h
    exact rnd_r (by simp) ⟨rfl, _, hf.sub ⟨rfl, rfl, trivial⟩, hp⟩
  clear hl hf hp
  intro e a w hne hO
  obtain ⟨rfl, v12, hf, hp⟩ := hO
  refine ib_same ?_
  refine th_n ?_
  refine wp_seq ?_
  refine wp_reg ?_
  refine st_move hf rfl rfl (by decide) ?_
  clear hf; intro a ha hf; clear ha
  refine st_assign hf rfl rfl (by decide) ?_
  clear hf; intro a ha hf; clear ha
  refine st_assign hf rfl rfl (by decide) ?_
  clear hf; intro a ha hf; clear ha
  refine st_nil hf ?_
  refine th_n ?_
  refine wp_ret ?_
  obtain rfl := Option.some.inj h
  have hp : Hp _ _ _ (Res.sl (Ek.int .u8) 5 v12 q19.2 :: Res.obj 5 ot2000 [.int .u8 q19.1] :: ow) := Hp.sel (pre := [Res.obj 5 ot2000 [.int .u8 q19.1], Res.sl (Ek.int .u8) 5 v12 q19.2]) (tail := ow) (rs' := [Res.sl (Ek.int .u8) 5 v12 q19.2, Res.obj 5 ot2000 [.int .u8 q19.1]]) hp [1, 0] (by decide) (by simp) rfl
  exact ⟨rfl, ⟨_, hf.sub ⟨rfl, rfl, trivial⟩, hp⟩⟩

noncomputable def f_turns_Into (qx0 : (List Int)) : Option ((List Int) × Int) := ((f_turns_each qx0 (0 : Int)).bind fun q3 => (some (q3.1, q3.2.1)))
theorem f_turns_Into_c {S : Nat → Prop} {w0 w : World} {ow : List Res} (hp : Hp S w0 w ow) (vqx0 : Value) (qx0 : (List Int)) (hqx0 : RdS (Ek.int .u8) S w0 vqx0 qx0) {r : ((List Int) × Int)} (h : f_turns_Into qx0 = some r) :
    Calls Try.prog 9 #[vqx0] w (fun e w' => ∃ (u0 : Value), e = .returned (.tuple #[u0, .int .i64 r.2]) ∧ Hp S w0 w' (Res.sl (Ek.int .u8) 5 u0 r.1 :: ow)) := by
  unfold f_turns_Into at h
  refine enter (n := 10) (args := [vqx0]) Try.func9 rfl rfl (Nat.le_of_ble_eq_true rfl) fun a hf => ?_
  replace hf : Fr 10 a [(0, vqx0)] := hf
  refine wp_mono (Q := fun e a w => e = .ret ∧ ∃ (u0 : Value), Fr 10 a [(2, u0), (3, .int .i64 r.2)] ∧ Hp S w0 w (Res.sl (Ek.int .u8) 5 u0 r.1 :: ow)) ?_ ?_
  rotate_left
  · rintro e a w ⟨rfl, x0, hf, hp⟩
    exact ret2 hf rfl rfl rfl ⟨x0, rfl, hp⟩
  refine wp_seq ?_
  refine wp_reg ?_
  refine st_assign hf rfl rfl (by decide) ?_
  clear hf; intro a ha hf; clear ha
  refine st_assign hf rfl rfl (by decide) ?_
  clear hf; intro a ha hf; clear ha
  refine st_nil hf ?_
  refine th_n ?_
  refine wp_seq ?_
  refine wp_reg ?_
  refine st_alloc (cs := [.int .u8 (0 : Int)]) (zv := .int .u8 (0 : Int)) hf (by decide) (by kernel_rfl) rfl hp rfl ?_
  clear hf; intro a w v1 hf hp0; clear hp; have hp := hp0; clear hp0
  replace hp : Hp _ _ _ (Res.obj 5 v1 [.int .u8 (0 : Int)] :: ow) := hp
  refine st_stO (us := [.int .u8 (0 : Int)]) hf hp (i := 0) rfl rfl rfl rfl rfl (by rfl) (by kernel_rfl) (Nat.le_of_ble_eq_true rfl) ?_
  clear hf; intro a w hf hp0; clear hp; have hp := hp0; clear hp0
  replace hp : Hp _ _ _ (Res.obj 5 v1 [.int .u8 (0 : Int)] :: ow) := hp
  refine st_nil hf ?_
  refine th_n ?_
  refine wp_seq ?_
  refine wp_reg ?_
  refine st_move hf rfl rfl (by decide) ?_
  clear hf; intro a ha hf; clear ha
  refine st_makeFunc1 hf (by decide) rfl rfl ?_
  clear hf; intro a ha hf; clear ha
  obtain ⟨q3, hcall4, h⟩ := bnd h
  have hp5 : Hp _ _ _ (Res.obj 5 v1 [.int .u8 (0 : Int)] :: ow) := Hp.sel (pre := [Res.obj 5 v1 [.int .u8 (0 : Int)]]) (tail := ow) (rs' := [Res.obj 5 v1 [.int .u8 (0 : Int)]]) hp [0] (by decide) (by simp) rfl
  refine st_call hf (by decide) Try.func33 rfl rfl rfl rfl rfl (f_turns_each_c _ _ hqx0 _ _ hp5 hcall4) ?_
  rintro _ w ⟨v6, rfl, hp0⟩
  clear hp; have hp := hp0; clear hp0
  replace hp : Hp _ _ _ (Res.sl (Ek.int .u8) 5 v6 q3.1 :: Res.obj 5 v1 [.int .u8 q3.2.2] :: ow) := hp
  refine ⟨_, rfl, ?_⟩
  clear hf; intro a hf
  refine st_extract hf (by decide) rfl rfl rfl ?_
  clear hf; intro a ha hf; clear ha
  refine st_extract hf (by decide) rfl rfl rfl ?_
  clear hf; intro a ha hf; clear ha
  refine st_assign hf rfl rfl (by decide) ?_
  clear hf; intro a ha hf; clear ha
  refine st_assign hf rfl rfl (by decide) ?_
  clear hf; intro a ha hf; clear ha
  refine st_nil hf ?_
  refine th_n ?_
  refine wp_ret ?_
  obtain rfl := Option.some.inj h
  have hp : Hp _ _ _ (Res.sl (Ek.int .u8) 5 v6 q3.1 :: ow) := Hp.sel (pre := [Res.sl (Ek.int .u8) 5 v6 q3.1, Res.obj 5 v1 [.int .u8 q3.2.2]]) (tail := ow) (rs' := [Res.sl (Ek.int .u8) 5 v6 q3.1]) hp [0] (by decide) (by simp) rfl
  exact ⟨rfl, ⟨_, hf.sub ⟨rfl, rfl, trivial⟩, hp⟩⟩

noncomputable def f_foghornref06_row.s1c (qx0 : (List Int)) (i3 : Int) : Option (Int ⊕ (Unit ⊕ Bool)) := (if (decide (i3 < (qx0.length : Int))) = true then (if 0 ≤ i3 ∧ i3 < (qx0.length : Int) then (if (decide ((3 : Int) < (gt qx0 i3))) = true then (some (Sum.inr (Sum.inr false))) else (some (Sum.inl (IntKind.i64.wrap (i3 + (1 : Int)))))) else none) else (some (Sum.inr (Sum.inl ()))))
noncomputable def f_foghornref06_row.s1 (qx0 : (List Int)) (s : Int) : Option (Int ⊕ (Unit ⊕ Bool)) := f_foghornref06_row.s1c qx0 s
noncomputable def f_foghornref06_row (qx0 : (List Int)) : Option Bool := (if (decide ((65536 : Int) < (qx0.length : Int))) = true then (some false) else ((loop (f_foghornref06_row.s1 qx0) (0 : Int)).bind (fun q2 => sm q2 (fun q3 => (some true)) (fun q4 => (some q4)))))
theorem f_foghornref06_row_c {S : Nat → Prop} {w0 w : World} {ow : List Res} (hp : Hp S w0 w ow) (vqx0 : Value) (qx0 : (List Int)) (hqx0 : RdS (Ek.int .u8) S w0 vqx0 qx0) {r : Bool} (h : f_foghornref06_row qx0 = some r) :
    Calls Try.prog 45 #[vqx0] w (fun e w' => e = .returned (.bool r) ∧ Hp S w0 w' (ow)) := by
  unfold f_foghornref06_row at h
  refine enter (n := 18) (args := [vqx0]) Try.func45 rfl rfl (Nat.le_of_ble_eq_true rfl) fun a hf => ?_
  replace hf : Fr 18 a [(0, vqx0)] := hf
  refine wp_mono (Q := fun e a w => e = .ret ∧ Fr 18 a [(2, .bool r)] ∧ Hp S w0 w (ow)) ?_ ?_
  rotate_left
  · rintro e a w ⟨rfl, hf, hp⟩
    exact ret1 hf rfl rfl ⟨rfl, hp⟩
  refine wp_seq ?_
  refine wp_reg ?_
  refine st_assign hf rfl rfl (by decide) ?_
  clear hf; intro a ha hf; clear ha
  refine st_nil hf ?_
  refine th_n ?_
  refine wp_seq ?_
  refine wp_seq ?_
  refine wp_reg ?_
  refine st_move hf rfl rfl (by decide) ?_
  clear hf; intro a ha hf; clear ha
  refine st_len (E := (Ek.int .u8)) hf (by decide) Try.underlying22 rfl rfl (hqx0.sl hp) ?_
  clear hf; intro a ha hf; clear ha
  refine st_igtr hf (by decide) rfl rfl rfl ?_
  clear hf; intro a ha hf; clear ha
  refine st_nil hf ?_
  refine th_n ?_
  refine wp_if hf rfl (fun hb => ?_) (fun hb => ?_)
  · replace h := ifT h hb
    refine wp_seq ?_
    refine wp_reg ?_
    refine st_assign hf rfl rfl (by decide) ?_
    clear hf; intro a ha hf; clear ha
    refine st_nil hf ?_
    refine th_n ?_
    refine wp_ret ?_
    refine th_r ?_
    obtain rfl := Option.some.inj h
    exact ⟨rfl, ⟨hf.sub ⟨rfl, trivial⟩, hp⟩⟩
  replace h := ifF h hb
  refine wp_skip ?_
  refine th_n ?_
  refine wp_seq ?_
  refine wp_seq ?_
  refine wp_reg ?_
  refine st_assign hf rfl rfl (by decide) ?_
  clear hf; intro a ha hf; clear ha
  refine st_nil hf ?_
  refine th_n ?_
  refine wp_block ?_
  obtain ⟨q2, hl, h⟩ := bnd h
  refine wp_loop_pure (f := (f_foghornref06_row.s1 qx0)) (s := (0 : Int)) (fun s a w => Fr 18 a [(0, vqx0), (3, .int .i64 s)] ∧ Hp S w0 w (ow)) (fun q e a w => match q with | (Sum.inl q) => e = .exit 0 ∧ Fr 18 a [] ∧ Hp S w0 w (ow) | (Sum.inr q) => e = .ret ∧ Fr 18 a [(2, .bool q)] ∧ Hp S w0 w (ow)) ?_ hl ⟨hf.sub ⟨rfl, rfl, trivial⟩, hp⟩ ?_
  · clear hl hf hp
    intro s x a w h hI
    obtain ⟨i3, hs⟩ : ∃ z, z = s := ⟨s, rfl⟩; subst hs
    obtain ⟨hf, hp⟩ : Fr 18 a [(0, vqx0), (3, .int .i64 i3)] ∧ Hp S w0 w (ow) := hI
    replace h : f_foghornref06_row.s1c qx0 i3 = some x := h
    unfold f_foghornref06_row.s1c at h
    refine wp_seq ?_
    refine wp_seq ?_
    refine wp_reg ?_
    refine st_move hf rfl rfl (by decide) ?_
    clear hf; intro a ha hf; clear ha
    refine st_move hf rfl rfl (by decide) ?_
    clear hf; intro a ha hf; clear ha
    refine st_len (E := (Ek.int .u8)) hf (by decide) Try.underlying22 rfl rfl (hqx0.sl hp) ?_
    clear hf; intro a ha hf; clear ha
    refine st_ilss hf (by decide) rfl rfl rfl ?_
    clear hf; intro a ha hf; clear ha
    refine st_nil hf ?_
    refine th_n ?_
    refine wp_if hf rfl (fun hb => ?_) (fun hb => ?_)
    · replace h := ifT h hb
      refine wp_skip ?_
      refine th_n ?_
      refine wp_seq ?_
      refine wp_block ?_
      refine wp_seq ?_
      refine wp_reg ?_
      refine st_move hf rfl rfl (by decide) ?_
      clear hf; intro a ha hf; clear ha
      refine st_move hf rfl rfl (by decide) ?_
      clear hf; intro a ha hf; clear ha
      obtain ⟨hc1, h⟩ := chk h
      refine st_index (E := (Ek.int .u8)) hf (by decide) Try.underlying22 elt5 rfl rfl rfl (hqx0.sl hp) hc1.1 hc1.2 ?_
      clear hf; intro a ha hf; clear ha
      refine st_ldI hf (by decide) pl5 rfl rfl (hqx0.sl hp) hc1.1 hc1.2 ?_
      clear hf; intro a ha hf; clear ha
      refine st_igtr hf (by decide) rfl rfl rfl ?_
      clear hf; intro a ha hf; clear ha
      refine st_nil hf ?_
      refine th_n ?_
      refine wp_if hf rfl (fun hb => ?_) (fun hb => ?_)
      · replace h := ifT h hb
        refine wp_seq ?_
        refine wp_reg ?_
        refine st_assign hf rfl rfl (by decide) ?_
        clear hf; intro a ha hf; clear ha
        refine st_nil hf ?_
        refine th_n ?_
        refine wp_ret ?_
        refine ib_r ?_
        refine th_r ?_
        obtain rfl := Option.some.inj h
        exact rnd_r (by simp) ⟨rfl, ⟨hf.sub ⟨rfl, trivial⟩, hp⟩⟩
      replace h := ifF h hb
      refine wp_skip ?_
      refine ib_n ?_
      refine th_n ?_
      refine wp_reg ?_
      refine st_move hf rfl rfl (by decide) ?_
      clear hf; intro a ha hf; clear ha
      refine st_iadd hf (by decide) rfl rfl rfl ?_
      clear hf; intro a ha hf; clear ha
      refine st_assign hf rfl rfl (by decide) ?_
      clear hf; intro a ha hf; clear ha
      refine st_nil hf ?_
      obtain rfl := Option.some.inj h
      exact rnd_l ⟨hf.sub ⟨rfl, rfl, trivial⟩, hp⟩
    replace h := ifF h hb
    refine wp_exit ?_
    refine th_e ?_
    obtain rfl := Option.some.inj h
    exact rnd_r (by simp) ⟨rfl, hf.sub trivial, hp⟩
  clear hl hf hp
  intro e a w hne hO
  rcases q2 with q3 | q4
  · replace h := smL h
    obtain ⟨rfl, hf, hp⟩ := hO
    refine ib_same ?_
    refine th_n ?_
    refine wp_seq ?_
    refine wp_reg ?_
    refine st_assign hf rfl rfl (by decide) ?_
    clear hf; intro a ha hf; clear ha
    refine st_nil hf ?_
    refine th_n ?_
    refine wp_ret ?_
    obtain rfl := Option.some.inj h
    exact ⟨rfl, ⟨hf.sub ⟨rfl, trivial⟩, hp⟩⟩
  replace h := smR h
  obtain ⟨rfl, hf, hp⟩ := hO
  refine ib_r ?_
  refine th_r ?_
  obtain rfl := Option.some.inj h
  exact ⟨rfl, ⟨hf.sub ⟨rfl, trivial⟩, hp⟩⟩

noncomputable def f_foghornref06_Into.s1c (qx0 : (List Int)) (out4 : (List Int)) (at5 : Int) (i6 : Int) : Option (((List Int) × Int × Int) ⊕ (List Int)) := (if (decide (i6 < (qx0.length : Int))) = true then (if 0 ≤ i6 ∧ i6 < (qx0.length : Int) then (if (out4.length + ([(((IntKind.u8.wrap (at5 + (gt qx0 i6)))).tmod (4 : Int))]).length) * 1 ≤ 140737488355328 then (some (Sum.inl ((out4 ++ [(((IntKind.u8.wrap (at5 + (gt qx0 i6)))).tmod (4 : Int))]), (((IntKind.u8.wrap (at5 + (gt qx0 i6)))).tmod (4 : Int)), (IntKind.i64.wrap (i6 + (1 : Int)))))) else none) else none) else (some (Sum.inr out4)))
noncomputable def f_foghornref06_Into.s1 (qx0 : (List Int)) (s : ((List Int) × Int × Int)) : Option (((List Int) × Int × Int) ⊕ (List Int)) := f_foghornref06_Into.s1c qx0 s.1 s.2.1 s.2.2
noncomputable def f_foghornref06_Into (qx0 : (List Int)) : Option ((List Int) × Int) := ((f_foghornref06_row qx0).bind fun q1 => (if (!q1) = true then (some ([], (1 : Int))) else ((loop (f_foghornref06_Into.s1 qx0) ([], (0 : Int), (0 : Int))).bind (fun q13 => (some (q13, (0 : Int)))))))
theorem f_foghornref06_Into_c {S : Nat → Prop} {w0 w : World} {ow : List Res} (hp : Hp S w0 w ow) (vqx0 : Value) (qx0 : (List Int)) (hqx0 : RdS (Ek.int .u8) S w0 vqx0 qx0) {r : ((List Int) × Int)} (h : f_foghornref06_Into qx0 = some r) :
    Calls Try.prog 37 #[vqx0] w (fun e w' => ∃ (u0 : Value), e = .returned (.tuple #[u0, .int .i64 r.2]) ∧ Hp S w0 w' (Res.sl (Ek.int .u8) 5 u0 r.1 :: ow)) := by
  unfold f_foghornref06_Into at h
  refine enter (n := 28) (args := [vqx0]) Try.func37 rfl rfl (Nat.le_of_ble_eq_true rfl) fun a hf => ?_
  replace hf : Fr 28 a [(0, vqx0)] := hf
  refine wp_mono (Q := fun e a w => e = .ret ∧ ∃ (u0 : Value), Fr 28 a [(2, u0), (3, .int .i64 r.2)] ∧ Hp S w0 w (Res.sl (Ek.int .u8) 5 u0 r.1 :: ow)) ?_ ?_
  rotate_left
  · rintro e a w ⟨rfl, x0, hf, hp⟩
    exact ret2 hf rfl rfl rfl ⟨x0, rfl, hp⟩
  refine wp_seq ?_
  refine wp_reg ?_
  refine st_assign hf rfl rfl (by decide) ?_
  clear hf; intro a ha hf; clear ha
  refine st_assign hf rfl rfl (by decide) ?_
  clear hf; intro a ha hf; clear ha
  refine st_nil hf ?_
  refine th_n ?_
  refine wp_seq ?_
  refine wp_seq ?_
  refine wp_reg ?_
  refine st_move hf rfl rfl (by decide) ?_
  clear hf; intro a ha hf; clear ha
  obtain ⟨q1, hcall2, h⟩ := bnd h
  refine st_call hf (by decide) Try.func45 rfl rfl rfl rfl rfl (f_foghornref06_row_c hp _ _ hqx0 hcall2) ?_
  rintro _ w ⟨rfl, hp0⟩
  clear hp; have hp := hp0; clear hp0
  replace hp : Hp _ _ _ (ow) := hp
  refine ⟨_, rfl, ?_⟩
  clear hf; intro a hf
  refine st_not hf (by decide) rfl rfl ?_
  clear hf; intro a ha hf; clear ha
  refine st_nil hf ?_
  refine th_n ?_
  refine wp_if hf rfl (fun hb => ?_) (fun hb => ?_)
  · replace h := ifT h hb
    refine wp_seq ?_
    refine wp_reg ?_
    refine st_assign hf rfl rfl (by decide) ?_
    clear hf; intro a ha hf; clear ha
    refine st_assign hf rfl rfl (by decide) ?_
    clear hf; intro a ha hf; clear ha
    refine st_nil hf ?_
    refine th_n ?_
    refine wp_ret ?_
    refine th_r ?_
    obtain rfl := Option.some.inj h
    have hp := hp.nil (Ek.int .u8) 5
    exact ⟨rfl, ⟨_, hf.sub ⟨rfl, rfl, trivial⟩, hp⟩⟩
  replace h := ifF h hb
  refine wp_skip ?_
  refine th_n ?_
  refine wp_seq ?_
  refine wp_reg ?_
  refine st_assign hf rfl rfl (by decide) ?_
  clear hf; intro a ha hf; clear ha
  refine st_nil hf ?_
  refine th_n ?_
  refine wp_seq ?_
  refine wp_reg ?_
  refine st_assign hf rfl rfl (by decide) ?_
  clear hf; intro a ha hf; clear ha
  refine st_nil hf ?_
  refine th_n ?_
  refine wp_seq ?_
  refine wp_seq ?_
  refine wp_reg ?_
  refine st_assign hf rfl rfl (by decide) ?_
  clear hf; intro a ha hf; clear ha
  refine st_nil hf ?_
  refine th_n ?_
  refine wp_block ?_
  obtain ⟨q13, hl, h⟩ := bnd h
  have hp := hp.nil (Ek.int .u8) 5
  refine wp_loop_pure (f := (f_foghornref06_Into.s1 qx0)) (s := ([], (0 : Int), (0 : Int))) (fun s a w => ∃ (v4 : Value), Fr 28 a [(0, vqx0), (4, v4), (5, .int .u8 s.2.1), (6, .int .i64 s.2.2)] ∧ Hp S w0 w (Res.sl (Ek.int .u8) 5 v4 s.1 :: ow)) (fun q e a w => e = .exit 0 ∧ ∃ (v6 : Value), Fr 28 a [(4, v6)] ∧ Hp S w0 w (Res.sl (Ek.int .u8) 5 v6 q :: ow)) ?_ hl ⟨_, hf.sub ⟨rfl, rfl, rfl, rfl, trivial⟩, hp⟩ ?_
  · clear hl hf hp
    intro s x a w h hI
    obtain ⟨out4, at5, i6⟩ := s
    obtain ⟨v4, hf, hp⟩ : ∃ (v4 : Value), Fr 28 a [(0, vqx0), (4, v4), (5, .int .u8 at5), (6, .int .i64 i6)] ∧ Hp S w0 w (Res.sl (Ek.int .u8) 5 v4 out4 :: ow) := hI
    replace h : f_foghornref06_Into.s1c qx0 out4 at5 i6 = some x := h
    unfold f_foghornref06_Into.s1c at h
    refine wp_seq ?_
    refine wp_seq ?_
    refine wp_reg ?_
    refine st_move hf rfl rfl (by decide) ?_
    clear hf; intro a ha hf; clear ha
    refine st_move hf rfl rfl (by decide) ?_
    clear hf; intro a ha hf; clear ha
    refine st_len (E := (Ek.int .u8)) hf (by decide) Try.underlying22 rfl rfl (hqx0.sl hp) ?_
    clear hf; intro a ha hf; clear ha
    refine st_ilss hf (by decide) rfl rfl rfl ?_
    clear hf; intro a ha hf; clear ha
    refine st_nil hf ?_
    refine th_n ?_
    refine wp_if hf rfl (fun hb => ?_) (fun hb => ?_)
    · replace h := ifT h hb
      refine wp_skip ?_
      refine th_n ?_
      refine wp_seq ?_
      refine wp_block ?_
      refine wp_seq ?_
      refine wp_reg ?_
      refine st_move hf rfl rfl (by decide) ?_
      clear hf; intro a ha hf; clear ha
      refine st_move hf rfl rfl (by decide) ?_
      clear hf; intro a ha hf; clear ha
      refine st_move hf rfl rfl (by decide) ?_
      clear hf; intro a ha hf; clear ha
      obtain ⟨hc8, h⟩ := chk h
      refine st_index (E := (Ek.int .u8)) hf (by decide) Try.underlying22 elt5 rfl rfl rfl (hqx0.sl hp) hc8.1 hc8.2 ?_
      clear hf; intro a ha hf; clear ha
      refine st_ldI hf (by decide) pl5 rfl rfl (hqx0.sl hp) hc8.1 hc8.2 ?_
      clear hf; intro a ha hf; clear ha
      refine st_iadd hf (by decide) rfl rfl rfl ?_
      clear hf; intro a ha hf; clear ha
      refine st_irem hf (by decide) rfl rfl rfl (by decide) ?_
      clear hf; intro a ha hf; clear ha
      refine st_assign hf rfl rfl (by decide) ?_
      clear hf; intro a ha hf; clear ha
      refine st_nil hf ?_
      refine th_n ?_
      refine wp_reg ?_
      refine st_move hf rfl rfl (by decide) ?_
      clear hf; intro a ha hf; clear ha
      refine st_move hf rfl rfl (by decide) ?_
      clear hf; intro a ha hf; clear ha
      refine st_build (E := (Ek.int .u8)) (xs := [(((IntKind.u8.wrap (at5 + (gt qx0 i6)))).tmod (4 : Int))]) hf (by decide) elt5 Try.underlying22 hp (vals := #[(0, .int .u8 (((IntKind.u8.wrap (at5 + (gt qx0 i6)))).tmod (4 : Int)))]) (cells := #[.int .u8 (((IntKind.u8.wrap (at5 + (gt qx0 i6)))).tmod (4 : Int))]) rfl (by simp [hf.ev (x := (Operand.tmp 24)) rfl]) (by decide) (by decide) (z := .int .u8 0) (by kernel_rfl) (by kernel_rfl) rfl (reps_cons (cs := [.int .u8 (((IntKind.u8.wrap (at5 + (gt qx0 i6)))).tmod (4 : Int))]) rfl (reps_nil _)) ?_
      clear hf; intro a w v9 hf hp0; clear hp; have hp := hp0; clear hp0
      replace hp : Hp _ _ _ (Res.sl (Ek.int .u8) 5 v9 ([(((IntKind.u8.wrap (at5 + (gt qx0 i6)))).tmod (4 : Int))]) :: Res.sl (Ek.int .u8) 5 v4 out4 :: ow) := hp
      obtain ⟨hc11, h⟩ := chk h
      refine st_append (E := (Ek.int .u8)) hf (by decide) elt5 Try.underlying22 (by decide) hp (i := 1) rfl rfl rfl rfl (hp.sl (i := 0) rfl) hc11 ?_
      clear hf; intro a w v12 hf hp0; clear hp; have hp := hp0; clear hp0
      replace hp : Hp _ _ _ (Res.sl (Ek.int .u8) 5 v9 ([(((IntKind.u8.wrap (at5 + (gt qx0 i6)))).tmod (4 : Int))]) :: Res.sl (Ek.int .u8) 5 v12 (out4 ++ [(((IntKind.u8.wrap (at5 + (gt qx0 i6)))).tmod (4 : Int))]) :: ow) := hp
      refine st_assign hf rfl rfl (by decide) ?_
      clear hf; intro a ha hf; clear ha
      refine st_nil hf ?_
      refine ib_n ?_
      refine th_n ?_
      refine wp_reg ?_
      refine st_move hf rfl rfl (by decide) ?_
      clear hf; intro a ha hf; clear ha
      refine st_iadd hf (by decide) rfl rfl rfl ?_
      clear hf; intro a ha hf; clear ha
      refine st_assign hf rfl rfl (by decide) ?_
      clear hf; intro a ha hf; clear ha
      refine st_nil hf ?_
      obtain rfl := Option.some.inj h
      have hp : Hp _ _ _ (Res.sl (Ek.int .u8) 5 v12 (out4 ++ [(((IntKind.u8.wrap (at5 + (gt qx0 i6)))).tmod (4 : Int))]) :: ow) := Hp.sel (pre := [Res.sl (Ek.int .u8) 5 v9 ([(((IntKind.u8.wrap (at5 + (gt qx0 i6)))).tmod (4 : Int))]), Res.sl (Ek.int .u8) 5 v12 (out4 ++ [(((IntKind.u8.wrap (at5 + (gt qx0 i6)))).tmod (4 : Int))])]) (tail := ow) (rs' := [Res.sl (Ek.int .u8) 5 v12 (out4 ++ [(((IntKind.u8.wrap (at5 + (gt qx0 i6)))).tmod (4 : Int))])]) hp [1] (by decide) (by simp) rfl
      exact rnd_l ⟨_, hf.sub ⟨rfl, rfl, rfl, rfl, trivial⟩, hp⟩
    replace h := ifF h hb
    refine wp_exit ?_
    refine th_e ?_
    obtain rfl := Option.some.inj h
    exact rnd_r (by simp) ⟨rfl, _, hf.sub ⟨rfl, trivial⟩, hp⟩
  clear hl hf hp
  intro e a w hne hO
  obtain ⟨rfl, v6, hf, hp⟩ := hO
  refine ib_same ?_
  refine th_n ?_
  refine wp_seq ?_
  refine wp_reg ?_
  refine st_move hf rfl rfl (by decide) ?_
  clear hf; intro a ha hf; clear ha
  refine st_assign hf rfl rfl (by decide) ?_
  clear hf; intro a ha hf; clear ha
  refine st_assign hf rfl rfl (by decide) ?_
  clear hf; intro a ha hf; clear ha
  refine st_nil hf ?_
  refine th_n ?_
  refine wp_ret ?_
  obtain rfl := Option.some.inj h
  exact ⟨rfl, ⟨_, hf.sub ⟨rfl, rfl, trivial⟩, hp⟩⟩

noncomputable def f_foghornlaw06_quarters.s1c (ax0 : (List Int)) (bx1 : (List Int)) (i5 : Int) : Option (Int ⊕ (Unit ⊕ Bool)) := (if (decide (i5 < (ax0.length : Int))) = true then (if 0 ≤ i5 ∧ i5 < (ax0.length : Int) then (if 0 ≤ i5 ∧ i5 < (bx1.length : Int) then (if ((gt ax0 i5) != (gt bx1 i5)) = true then (some (Sum.inr (Sum.inr false))) else (some (Sum.inl (IntKind.i64.wrap (i5 + (1 : Int)))))) else none) else none) else (some (Sum.inr (Sum.inl ()))))
noncomputable def f_foghornlaw06_quarters.s1 (ax0 : (List Int)) (bx1 : (List Int)) (s : Int) : Option (Int ⊕ (Unit ⊕ Bool)) := f_foghornlaw06_quarters.s1c ax0 bx1 s
noncomputable def f_foghornlaw06_quarters (ax0 : (List Int)) (bx1 : (List Int)) : Option Bool := (if ((ax0.length : Int) != (bx1.length : Int)) = true then (some false) else ((loop (f_foghornlaw06_quarters.s1 ax0 bx1) (0 : Int)).bind (fun q3 => sm q3 (fun q4 => (some true)) (fun q5 => (some q5)))))
theorem f_foghornlaw06_quarters_c {S : Nat → Prop} {w0 w : World} {ow : List Res} (hp : Hp S w0 w ow) (vax0 : Value) (ax0 : (List Int)) (hax0 : RdS (Ek.int .u8) S w0 vax0 ax0) (vbx1 : Value) (bx1 : (List Int)) (hbx1 : RdS (Ek.int .u8) S w0 vbx1 bx1) {r : Bool} (h : f_foghornlaw06_quarters ax0 bx1 = some r) :
    Calls Try.prog 13 #[vax0, vbx1] w (fun e w' => e = .returned (.bool r) ∧ Hp S w0 w' (ow)) := by
  unfold f_foghornlaw06_quarters at h
  refine enter (n := 26) (args := [vax0, vbx1]) Try.func13 rfl rfl (Nat.le_of_ble_eq_true rfl) fun a hf => ?_
  replace hf : Fr 26 a [(0, vax0), (1, vbx1)] := hf
  refine wp_mono (Q := fun e a w => e = .ret ∧ Fr 26 a [(4, .bool r)] ∧ Hp S w0 w (ow)) ?_ ?_
  rotate_left
  · rintro e a w ⟨rfl, hf, hp⟩
    exact ret1 hf rfl rfl ⟨rfl, hp⟩
  refine wp_seq ?_
  refine wp_reg ?_
  refine st_assign hf rfl rfl (by decide) ?_
  clear hf; intro a ha hf; clear ha
  refine st_nil hf ?_
  refine th_n ?_
  refine wp_seq ?_
  refine wp_seq ?_
  refine wp_reg ?_
  refine st_move hf rfl rfl (by decide) ?_
  clear hf; intro a ha hf; clear ha
  refine st_len (E := (Ek.int .u8)) hf (by decide) Try.underlying22 rfl rfl (hax0.sl hp) ?_
  clear hf; intro a ha hf; clear ha
  refine st_move hf rfl rfl (by decide) ?_
  clear hf; intro a ha hf; clear ha
  refine st_len (E := (Ek.int .u8)) hf (by decide) Try.underlying22 rfl rfl (hbx1.sl hp) ?_
  clear hf; intro a ha hf; clear ha
  refine st_ineq hf (by decide) rfl rfl rfl ?_
  clear hf; intro a ha hf; clear ha
  refine st_nil hf ?_
  refine th_n ?_
  refine wp_if hf rfl (fun hb => ?_) (fun hb => ?_)
  · replace h := ifT h hb
    refine wp_seq ?_
    refine wp_reg ?_
    refine st_assign hf rfl rfl (by decide) ?_
    clear hf; intro a ha hf; clear ha
    refine st_nil hf ?_
    refine th_n ?_
    refine wp_ret ?_
    refine th_r ?_
    obtain rfl := Option.some.inj h
    exact ⟨rfl, ⟨hf.sub ⟨rfl, trivial⟩, hp⟩⟩
  replace h := ifF h hb
  refine wp_skip ?_
  refine th_n ?_
  refine wp_seq ?_
  refine wp_seq ?_
  refine wp_reg ?_
  refine st_assign hf rfl rfl (by decide) ?_
  clear hf; intro a ha hf; clear ha
  refine st_nil hf ?_
  refine th_n ?_
  refine wp_block ?_
  obtain ⟨q3, hl, h⟩ := bnd h
  refine wp_loop_pure (f := (f_foghornlaw06_quarters.s1 ax0 bx1)) (s := (0 : Int)) (fun s a w => Fr 26 a [(0, vax0), (1, vbx1), (5, .int .i64 s)] ∧ Hp S w0 w (ow)) (fun q e a w => match q with | (Sum.inl q) => e = .exit 0 ∧ Fr 26 a [] ∧ Hp S w0 w (ow) | (Sum.inr q) => e = .ret ∧ Fr 26 a [(4, .bool q)] ∧ Hp S w0 w (ow)) ?_ hl ⟨hf.sub ⟨rfl, rfl, rfl, trivial⟩, hp⟩ ?_
  · clear hl hf hp
    intro s x a w h hI
    obtain ⟨i5, hs⟩ : ∃ z, z = s := ⟨s, rfl⟩; subst hs
    obtain ⟨hf, hp⟩ : Fr 26 a [(0, vax0), (1, vbx1), (5, .int .i64 i5)] ∧ Hp S w0 w (ow) := hI
    replace h : f_foghornlaw06_quarters.s1c ax0 bx1 i5 = some x := h
    unfold f_foghornlaw06_quarters.s1c at h
    refine wp_seq ?_
    refine wp_seq ?_
    refine wp_reg ?_
    refine st_move hf rfl rfl (by decide) ?_
    clear hf; intro a ha hf; clear ha
    refine st_move hf rfl rfl (by decide) ?_
    clear hf; intro a ha hf; clear ha
    refine st_len (E := (Ek.int .u8)) hf (by decide) Try.underlying22 rfl rfl (hax0.sl hp) ?_
    clear hf; intro a ha hf; clear ha
    refine st_ilss hf (by decide) rfl rfl rfl ?_
    clear hf; intro a ha hf; clear ha
    refine st_nil hf ?_
    refine th_n ?_
    refine wp_if hf rfl (fun hb => ?_) (fun hb => ?_)
    · replace h := ifT h hb
      refine wp_skip ?_
      refine th_n ?_
      refine wp_seq ?_
      refine wp_block ?_
      refine wp_seq ?_
      obtain ⟨hc1, h⟩ := chk h
      obtain ⟨hc2, h⟩ := chk h
      refine wp_cutN (fun a w => Fr 26 a [(0, vax0), (1, vbx1), (5, .int .i64 i5), (25, .bool ((gt ax0 i5) != (gt bx1 i5)))] ∧ Hp S w0 w (ow)) ?_ ?_
      · have hp := hp.same (Same.drew w)
        refine dr_begin' (fun a w => Fr 26 a [(0, vax0), (1, vbx1), (5, .int .i64 i5), (25, .bool ((gt ax0 i5) != (gt bx1 i5)))] ∧ Hp S w0 w (ow)) (fun w' => ∃ l, Hp S w0 w' l) [] (by kernel_rfl) ?_
        refine dr_take 0 (vax0) rfl (by kernel_rfl) (by kernel_rfl) (by kernel_rfl) (by kernel_rfl) rfl rfl hf (by decide) rfl (fun w hp => ?_) ⟨_, hp⟩ ?_
        · obtain ⟨_, hp⟩ := hp
          refine st_move hf rfl rfl (by decide) ?_
          clear hf; intro a ha hf
          exact st_nil hf (th_n ⟨ha, rfl⟩)
        clear hf; intro a hf
        refine dr_take 1 (.int .i64 i5) rfl (by kernel_rfl) (by kernel_rfl) (by kernel_rfl) (by kernel_rfl) rfl rfl hf (by decide) rfl (fun w hp => ?_) ⟨_, hp⟩ ?_
        · obtain ⟨_, hp⟩ := hp
          refine st_move hf rfl rfl (by decide) ?_
          clear hf; intro a ha hf
          exact st_nil hf (th_n ⟨ha, rfl⟩)
        clear hf; intro a hf
        refine dr_take 2 (eptr vax0 i5 1) rfl (by kernel_rfl) (by kernel_rfl) (by kernel_rfl) (by kernel_rfl) rfl rfl hf (by decide) rfl (fun w hp => ?_) ⟨_, hp⟩ ?_
        · obtain ⟨_, hp⟩ := hp
          refine st_index (E := (Ek.int .u8)) hf (by decide) Try.underlying22 elt5 rfl rfl rfl (hax0.sl hp) hc1.1 hc1.2 ?_
          clear hf; intro a ha hf
          exact st_nil hf (th_n ⟨ha, rfl⟩)
        clear hf; intro a hf
        refine dr_take 3 (.int .u8 (gt ax0 i5)) rfl (by kernel_rfl) (by kernel_rfl) (by kernel_rfl) (by kernel_rfl) rfl rfl hf (by decide) rfl (fun w hp => ?_) ⟨_, hp⟩ ?_
        · obtain ⟨_, hp⟩ := hp
          refine st_ldI hf (by decide) pl5 rfl rfl (hax0.sl hp) hc1.1 hc1.2 ?_
          clear hf; intro a ha hf
          exact st_nil hf (th_n ⟨ha, rfl⟩)
        clear hf; intro a hf
        refine dr_take 4 (vbx1) rfl (by kernel_rfl) (by kernel_rfl) (by kernel_rfl) (by kernel_rfl) rfl rfl hf (by decide) rfl (fun w hp => ?_) ⟨_, hp⟩ ?_
        · obtain ⟨_, hp⟩ := hp
          refine st_move hf rfl rfl (by decide) ?_
          clear hf; intro a ha hf
          exact st_nil hf (th_n ⟨ha, rfl⟩)
        clear hf; intro a hf
        refine dr_take 5 (.int .i64 i5) rfl (by kernel_rfl) (by kernel_rfl) (by kernel_rfl) (by kernel_rfl) rfl rfl hf (by decide) rfl (fun w hp => ?_) ⟨_, hp⟩ ?_
        · obtain ⟨_, hp⟩ := hp
          refine st_move hf rfl rfl (by decide) ?_
          clear hf; intro a ha hf
          exact st_nil hf (th_n ⟨ha, rfl⟩)
        clear hf; intro a hf
        refine dr_take 6 (eptr vbx1 i5 1) rfl (by kernel_rfl) (by kernel_rfl) (by kernel_rfl) (by kernel_rfl) rfl rfl hf (by decide) rfl (fun w hp => ?_) ⟨_, hp⟩ ?_
        · obtain ⟨_, hp⟩ := hp
          refine st_index (E := (Ek.int .u8)) hf (by decide) Try.underlying22 elt5 rfl rfl rfl (hbx1.sl hp) hc2.1 hc2.2 ?_
          clear hf; intro a ha hf
          exact st_nil hf (th_n ⟨ha, rfl⟩)
        clear hf; intro a hf
        refine dr_take 7 (.int .u8 (gt bx1 i5)) rfl (by kernel_rfl) (by kernel_rfl) (by kernel_rfl) (by kernel_rfl) rfl rfl hf (by decide) rfl (fun w hp => ?_) ⟨_, hp⟩ ?_
        · obtain ⟨_, hp⟩ := hp
          refine st_ldI hf (by decide) pl5 rfl rfl (hbx1.sl hp) hc2.1 hc2.2 ?_
          clear hf; intro a ha hf
          exact st_nil hf (th_n ⟨ha, rfl⟩)
        clear hf; intro a hf
        refine dr_take 8 (.bool ((gt ax0 i5) != (gt bx1 i5))) rfl (by kernel_rfl) (by kernel_rfl) (by kernel_rfl) (by kernel_rfl) rfl rfl hf (by decide) rfl (fun w hp => ?_) ⟨_, hp⟩ ?_
        · obtain ⟨_, hp⟩ := hp
          refine st_ineq hf (by decide) rfl rfl rfl ?_
          clear hf; intro a ha hf
          exact st_nil hf (th_n ⟨ha, rfl⟩)
        clear hf; intro a hf
        refine dr_end (by kernel_rfl) ?_ _
        exact ⟨hf.sub ⟨rfl, rfl, rfl, rfl, trivial⟩, hp⟩
      rintro a w ⟨hf, hp⟩
      refine th_n ?_
      refine wp_if hf rfl (fun hb => ?_) (fun hb => ?_)
      · replace h := ifT h hb
        refine wp_seq ?_
        refine wp_reg ?_
        refine st_assign hf rfl rfl (by decide) ?_
        clear hf; intro a ha hf; clear ha
        refine st_nil hf ?_
        refine th_n ?_
        refine wp_ret ?_
        refine ib_r ?_
        refine th_r ?_
        obtain rfl := Option.some.inj h
        exact rnd_r (by simp) ⟨rfl, ⟨hf.sub ⟨rfl, trivial⟩, hp⟩⟩
      replace h := ifF h hb
      refine wp_skip ?_
      refine ib_n ?_
      refine th_n ?_
      refine wp_reg ?_
      refine st_move hf rfl rfl (by decide) ?_
      clear hf; intro a ha hf; clear ha
      refine st_iadd hf (by decide) rfl rfl rfl ?_
      clear hf; intro a ha hf; clear ha
      refine st_assign hf rfl rfl (by decide) ?_
      clear hf; intro a ha hf; clear ha
      refine st_nil hf ?_
      obtain rfl := Option.some.inj h
      exact rnd_l ⟨hf.sub ⟨rfl, rfl, rfl, trivial⟩, hp⟩
    replace h := ifF h hb
    refine wp_exit ?_
    refine th_e ?_
    obtain rfl := Option.some.inj h
    exact rnd_r (by simp) ⟨rfl, hf.sub trivial, hp⟩
  clear hl hf hp
  intro e a w hne hO
  rcases q3 with q4 | q5
  · replace h := smL h
    obtain ⟨rfl, hf, hp⟩ := hO
    refine ib_same ?_
    refine th_n ?_
    refine wp_seq ?_
    refine wp_reg ?_
    refine st_assign hf rfl rfl (by decide) ?_
    clear hf; intro a ha hf; clear ha
    refine st_nil hf ?_
    refine th_n ?_
    refine wp_ret ?_
    obtain rfl := Option.some.inj h
    exact ⟨rfl, ⟨hf.sub ⟨rfl, trivial⟩, hp⟩⟩
  replace h := smR h
  obtain ⟨rfl, hf, hp⟩ := hO
  refine ib_r ?_
  refine th_r ?_
  obtain rfl := Option.some.inj h
  exact ⟨rfl, ⟨hf.sub ⟨rfl, trivial⟩, hp⟩⟩

noncomputable def f_turns_Out_1 (n0 : Int) (t1 : Int) : Option (Int × Int) := (some ((IntKind.u8.wrap (n0 - t1)), n0))
theorem f_turns_Out_1_c {S : Nat → Prop} {w0 w : World} {ow : List Res} (n0 : Int) (t1 : Int) (ot1 : Value) (hp : Hp S w0 w (Res.obj 5 ot1 [.int .u8 t1] :: ow)) {r : (Int × Int)} (h : f_turns_Out_1 n0 t1 = some r) :
    Calls Try.prog 35 #[.int .u8 n0, optr ot1 0] w (fun e w' => e = .returned (.int .u8 r.1) ∧ Hp S w0 w' (Res.obj 5 ot1 [.int .u8 r.2] :: ow)) := by
  unfold f_turns_Out_1 at h
  refine enter (n := 10) (args := [.int .u8 n0, optr ot1 0]) Try.func35 rfl rfl (Nat.le_of_ble_eq_true rfl) fun a hf => ?_
  replace hf : Fr 10 a [(0, .int .u8 n0), (1, optr ot1 0)] := hf
  refine wp_mono (Q := fun e a w => e = .ret ∧ Fr 10 a [(3, .int .u8 r.1)] ∧ Hp S w0 w (Res.obj 5 ot1 [.int .u8 r.2] :: ow)) ?_ ?_
  rotate_left
  · rintro e a w ⟨rfl, hf, hp⟩
    exact ret1 hf rfl rfl ⟨rfl, hp⟩
  refine wp_seq ?_
  refine wp_reg ?_
  refine st_assign hf rfl rfl (by decide) ?_
  clear hf; intro a ha hf; clear ha
  refine st_nil hf ?_
  refine th_n ?_
  refine wp_seq ?_
  refine wp_reg ?_
  refine st_move hf rfl rfl (by decide) ?_
  clear hf; intro a ha hf; clear ha
  refine st_ldO (u := .int .u8 t1) hf (by decide) pl5 rfl rfl (hp.ob (i := 0) rfl) rfl ?_
  clear hf; intro a ha hf; clear ha
  refine st_isub hf (by decide) rfl rfl rfl ?_
  clear hf; intro a ha hf; clear ha
  refine st_assign hf rfl rfl (by decide) ?_
  clear hf; intro a ha hf; clear ha
  refine st_nil hf ?_
  refine th_n ?_
  refine wp_seq ?_
  refine wp_reg ?_
  refine st_move hf rfl rfl (by decide) ?_
  clear hf; intro a ha hf; clear ha
  refine st_stO (us := [.int .u8 n0]) hf hp (i := 0) rfl rfl rfl rfl rfl (by rfl) (by kernel_rfl) (Nat.le_of_ble_eq_true rfl) ?_
  clear hf; intro a w hf hp0; clear hp; have hp := hp0; clear hp0
  replace hp : Hp _ _ _ (Res.obj 5 ot1 [.int .u8 n0] :: ow) := hp
  refine st_nil hf ?_
  refine th_n ?_
  refine wp_seq ?_
  refine wp_reg ?_
  refine st_move hf rfl rfl (by decide) ?_
  clear hf; intro a ha hf; clear ha
  refine st_assign hf rfl rfl (by decide) ?_
  clear hf; intro a ha hf; clear ha
  refine st_nil hf ?_
  refine th_n ?_
  refine wp_ret ?_
  obtain rfl := Option.some.inj h
  exact ⟨rfl, ⟨hf.sub ⟨rfl, trivial⟩, hp⟩⟩

noncomputable def f_turns_each_33.s1c (qx0 : (List Int)) (f1_0c : Int) (out6 : (List Int)) (t17 : Int) : Option ((Int × (List Int) × Int) ⊕ (Int × (List Int))) := (if (decide (t17 < (qx0.length : Int))) = true then (if 0 ≤ t17 ∧ t17 < (qx0.length : Int) then ((f_turns_Out_1 (gt qx0 t17) f1_0c).bind fun q15 => (if 0 ≤ t17 ∧ t17 < (out6.length : Int) then (some (Sum.inl (q15.2, (out6.set (t17).toNat (iand .u8 q15.1 (3 : Int))), (IntKind.i64.wrap (t17 + (1 : Int)))))) else none)) else none) else (some (Sum.inr (f1_0c, out6))))
noncomputable def f_turns_each_33.s1 (qx0 : (List Int)) (s : (Int × (List Int) × Int)) : Option ((Int × (List Int) × Int) ⊕ (Int × (List Int))) := f_turns_each_33.s1c qx0 s.1 s.2.1 s.2.2
noncomputable def f_turns_each_33 (qx0 : (List Int)) (t2000 : Int) : Option ((List Int) × Int × Int) := ((f_turns_row qx0).bind fun q2 => (if (!q2) = true then (some ([], (1 : Int), t2000)) else (if 0 ≤ (qx0.length : Int) ∧ (qx0.length : Int) ≤ (qx0.length : Int) ∧ (qx0.length : Int) * 1 ≤ 281474976710656 then ((loop (f_turns_each_33.s1 qx0) (t2000, (List.replicate ((qx0.length : Int)).toNat (0 : Int)), (0 : Int))).bind (fun q19 => (some (q19.2, (0 : Int), q19.1)))) else none)))
theorem f_turns_each_33_c {S : Nat → Prop} {w0 w : World} {ow : List Res} (vqx0 : Value) (qx0 : (List Int)) (hqx0 : RdS (Ek.int .u8) S w0 vqx0 qx0) (t2000 : Int) (ot2000 : Value) (hp : Hp S w0 w (Res.obj 5 ot2000 [.int .u8 t2000] :: ow)) {r : ((List Int) × Int × Int)} (h : f_turns_each_33 qx0 t2000 = some r) :
    Calls Try.prog 33 #[vqx0, .func (.func 35) #[] #[optr ot2000 0]] w (fun e w' => ∃ (u0 : Value), e = .returned (.tuple #[u0, .int .i64 r.2.1]) ∧ Hp S w0 w' (Res.sl (Ek.int .u8) 5 u0 r.1 :: Res.obj 5 ot2000 [.int .u8 r.2.2] :: ow)) := by
  unfold f_turns_each_33 at h
  refine enter (n := 31) (args := [vqx0, .func (.func 35) #[] #[optr ot2000 0]]) Try.func33 rfl rfl (Nat.le_of_ble_eq_true rfl) fun a hf => ?_
  replace hf : Fr 31 a [(0, vqx0), (1, .func (.func 35) #[] #[optr ot2000 0])] := hf
  refine wp_mono (Q := fun e a w => e = .ret ∧ ∃ (u0 : Value), Fr 31 a [(4, u0), (5, .int .i64 r.2.1)] ∧ Hp S w0 w (Res.sl (Ek.int .u8) 5 u0 r.1 :: Res.obj 5 ot2000 [.int .u8 r.2.2] :: ow)) ?_ ?_
  rotate_left
  · rintro e a w ⟨rfl, x0, hf, hp⟩
    exact ret2 hf rfl rfl rfl ⟨x0, rfl, hp⟩
  refine wp_seq ?_
  refine wp_reg ?_
  refine st_assign hf rfl rfl (by decide) ?_
  clear hf; intro a ha hf; clear ha
  refine st_assign hf rfl rfl (by decide) ?_
  clear hf; intro a ha hf; clear ha
  refine st_nil hf ?_
  refine th_n ?_
  refine wp_seq ?_
  refine wp_seq ?_
  refine wp_reg ?_
  refine st_move hf rfl rfl (by decide) ?_
  clear hf; intro a ha hf; clear ha
  obtain ⟨q2, hcall3, h⟩ := bnd h
  refine st_call hf (by decide) Try.func36 rfl rfl rfl rfl rfl (f_turns_row_c hp _ _ hqx0 hcall3) ?_
  rintro _ w ⟨rfl, hp0⟩
  clear hp; have hp := hp0; clear hp0
  replace hp : Hp _ _ _ (Res.obj 5 ot2000 [.int .u8 t2000] :: ow) := hp
  refine ⟨_, rfl, ?_⟩
  clear hf; intro a hf
  refine st_not hf (by decide) rfl rfl ?_
  clear hf; intro a ha hf; clear ha
  refine st_nil hf ?_
  refine th_n ?_
  refine wp_if hf rfl (fun hb => ?_) (fun hb => ?_)
  · replace h := ifT h hb
    refine wp_seq ?_
    refine wp_reg ?_
    refine st_assign hf rfl rfl (by decide) ?_
    clear hf; intro a ha hf; clear ha
    refine st_assign hf rfl rfl (by decide) ?_
    clear hf; intro a ha hf; clear ha
    refine st_nil hf ?_
    refine th_n ?_
    refine wp_ret ?_
    refine th_r ?_
    obtain rfl := Option.some.inj h
    have hp := hp.nil (Ek.int .u8) 5
    exact ⟨rfl, ⟨_, hf.sub ⟨rfl, rfl, trivial⟩, hp⟩⟩
  replace h := ifF h hb
  refine wp_skip ?_
  refine th_n ?_
  refine wp_seq ?_
  refine wp_reg ?_
  refine st_move hf rfl rfl (by decide) ?_
  clear hf; intro a ha hf; clear ha
  refine st_len (E := (Ek.int .u8)) hf (by decide) Try.underlying22 rfl rfl (hqx0.sl hp) ?_
  clear hf; intro a ha hf; clear ha
  obtain ⟨hc5, h⟩ := chk h
  refine st_make (E := (Ek.int .u8)) hf (by decide) elt5 Try.underlying22 (by decide) hp rfl rfl rfl hc5.1 hc5.2.1 hc5.2.2 ?_
  clear hf; intro a w v6 hf hp0; clear hp; have hp := hp0; clear hp0
  replace hp : Hp _ _ _ (Res.sl (Ek.int .u8) 5 v6 (List.replicate ((qx0.length : Int)).toNat (0 : Int)) :: Res.obj 5 ot2000 [.int .u8 t2000] :: ow) := hp
  refine st_assign hf rfl rfl (by decide) ?_
  clear hf; intro a ha hf; clear ha
  refine st_nil hf ?_
  refine th_n ?_
  refine wp_seq ?_
  refine wp_seq ?_
  refine wp_reg ?_
  refine st_move hf rfl rfl (by decide) ?_
  clear hf; intro a ha hf; clear ha
  refine st_len (E := (Ek.int .u8)) hf (by decide) Try.underlying22 rfl rfl (hqx0.sl hp) ?_
  clear hf; intro a ha hf; clear ha
  refine st_move hf rfl rfl (by decide) ?_
  clear hf; intro a ha hf; clear ha
  refine st_nil hf ?_
  refine th_n ?_
  refine wp_block ?_
  obtain ⟨q19, hl, h⟩ := bnd h
  have hp : Hp _ _ _ (Res.obj 5 ot2000 [.int .u8 t2000] :: Res.sl (Ek.int .u8) 5 v6 (List.replicate ((qx0.length : Int)).toNat (0 : Int)) :: ow) := Hp.sel (pre := [Res.sl (Ek.int .u8) 5 v6 (List.replicate ((qx0.length : Int)).toNat (0 : Int)), Res.obj 5 ot2000 [.int .u8 t2000]]) (tail := ow) (rs' := [Res.obj 5 ot2000 [.int .u8 t2000], Res.sl (Ek.int .u8) 5 v6 (List.replicate ((qx0.length : Int)).toNat (0 : Int))]) hp [1, 0] (by decide) (by simp) rfl
  refine wp_loop_pure (f := (f_turns_each_33.s1 qx0)) (s := (t2000, (List.replicate ((qx0.length : Int)).toNat (0 : Int)), (0 : Int))) (fun s a w => ∃ (v9 : Value), Fr 31 a [(1, .func (.func 35) #[] #[optr ot2000 0]), (6, v9), (15, vqx0), (16, .int .i64 (qx0.length : Int)), (17, .int .i64 s.2.2)] ∧ Hp S w0 w (Res.obj 5 ot2000 [.int .u8 s.1] :: Res.sl (Ek.int .u8) 5 v9 s.2.1 :: ow)) (fun q e a w => e = .exit 0 ∧ ∃ (v12 : Value), Fr 31 a [(1, .func (.func 35) #[] #[optr ot2000 0]), (6, v12)] ∧ Hp S w0 w (Res.obj 5 ot2000 [.int .u8 q.1] :: Res.sl (Ek.int .u8) 5 v12 q.2 :: ow)) ?_ hl ⟨_, hf.sub ⟨rfl, rfl, rfl, rfl, rfl, trivial⟩, hp⟩ ?_
  · clear hl hf hp
    intro s x a w h hI
    obtain ⟨f1_0c, out6, t17⟩ := s
    obtain ⟨v9, hf, hp⟩ : ∃ (v9 : Value), Fr 31 a [(1, .func (.func 35) #[] #[optr ot2000 0]), (6, v9), (15, vqx0), (16, .int .i64 (qx0.length : Int)), (17, .int .i64 t17)] ∧ Hp S w0 w (Res.obj 5 ot2000 [.int .u8 f1_0c] :: Res.sl (Ek.int .u8) 5 v9 out6 :: ow) := hI
    replace h : f_turns_each_33.s1c qx0 f1_0c out6 t17 = some x := h
    unfold f_turns_each_33.s1c at h
    refine wp_seq ?_
    refine wp_reg ?_
    refine st_ilss hf (by decide) rfl rfl rfl ?_
    clear hf; intro a ha hf; clear ha
    refine st_nil hf ?_
    refine th_n ?_
    refine wp_seq ?_
    refine wp_if hf rfl (fun hb => ?_) (fun hb => ?_)
    · replace h := ifT h hb
      refine wp_skip ?_
      refine th_n ?_
      refine wp_seq ?_
      refine wp_block ?_
      refine wp_seq ?_
      refine wp_reg ?_
      refine st_move hf rfl rfl (by decide) ?_
      clear hf; intro a ha hf; clear ha
      obtain ⟨hc14, h⟩ := chk h
      refine st_index (E := (Ek.int .u8)) hf (by decide) Try.underlying22 elt5 rfl rfl rfl (hqx0.sl hp) hc14.1 hc14.2 ?_
      clear hf; intro a ha hf; clear ha
      refine st_ldI hf (by decide) pl5 rfl rfl (hqx0.sl hp) hc14.1 hc14.2 ?_
      clear hf; intro a ha hf; clear ha
      refine st_assign hf rfl rfl (by decide) ?_
      clear hf; intro a ha hf; clear ha
      refine st_assign hf rfl rfl (by decide) ?_
      clear hf; intro a ha hf; clear ha
      refine st_nil hf ?_
      refine th_n ?_
      refine wp_reg ?_
      refine st_move hf rfl rfl (by decide) ?_
      clear hf; intro a ha hf; clear ha
      refine st_move hf rfl rfl (by decide) ?_
      clear hf; intro a ha hf; clear ha
      refine st_move hf rfl rfl (by decide) ?_
      clear hf; intro a ha hf; clear ha
      refine st_move hf rfl rfl (by decide) ?_
      clear hf; intro a ha hf; clear ha
      obtain ⟨q15, hcall16, h⟩ := bnd h
      have hp17 : Hp _ _ _ (Res.obj 5 ot2000 [.int .u8 f1_0c] :: Res.sl (Ek.int .u8) 5 v9 out6 :: ow) := Hp.sel (pre := [Res.obj 5 ot2000 [.int .u8 f1_0c], Res.sl (Ek.int .u8) 5 v9 out6]) (tail := ow) (rs' := [Res.obj 5 ot2000 [.int .u8 f1_0c], Res.sl (Ek.int .u8) 5 v9 out6]) hp [0, 1] (by decide) (by simp) rfl
      refine st_call hf (by decide) Try.func35 rfl rfl rfl rfl rfl (f_turns_Out_1_c _ _ _ hp17 hcall16) ?_
      rintro _ w ⟨rfl, hp0⟩
      clear hp; have hp := hp0; clear hp0
      replace hp : Hp _ _ _ (Res.obj 5 ot2000 [.int .u8 q15.2] :: Res.sl (Ek.int .u8) 5 v9 out6 :: ow) := hp
      refine ⟨_, rfl, ?_⟩
      clear hf; intro a hf
      refine st_iand hf (by decide) rfl rfl rfl ?_
      clear hf; intro a ha hf; clear ha
      obtain ⟨hc18, h⟩ := chk h
      refine st_index (E := (Ek.int .u8)) hf (by decide) Try.underlying22 elt5 rfl rfl rfl (hp.sl (i := 1) rfl) hc18.1 hc18.2 ?_
      clear hf; intro a ha hf; clear ha
      refine st_store (E := (Ek.int .u8)) hf elt5 hp (i := 1) rfl rfl rfl rfl rfl hc18.1 hc18.2 ?_
      clear hf; intro a w hf hp0; clear hp; have hp := hp0; clear hp0
      replace hp : Hp _ _ _ (Res.obj 5 ot2000 [.int .u8 q15.2] :: Res.sl (Ek.int .u8) 5 v9 (out6.set (t17).toNat (iand .u8 q15.1 (3 : Int))) :: ow) := hp
      refine st_nil hf ?_
      refine ib_n ?_
      refine th_n ?_
      refine wp_reg ?_
      refine st_iadd hf (by decide) rfl rfl rfl ?_
      clear hf; intro a ha hf; clear ha
      refine st_move hf rfl rfl (by decide) ?_
      clear hf; intro a ha hf; clear ha
      refine st_nil hf ?_
      obtain rfl := Option.some.inj h
      exact rnd_l ⟨_, hf.sub ⟨rfl, rfl, rfl, rfl, rfl, trivial⟩, hp⟩
    replace h := ifF h hb
    refine wp_exit ?_
    refine th_e ?_
    obtain rfl := Option.some.inj h
    exact rnd_r (by simp) ⟨rfl, _, hf.sub ⟨rfl, rfl, trivial⟩, hp⟩
  clear hl hf hp
  intro e a w hne hO
  obtain ⟨rfl, v12, hf, hp⟩ := hO
  refine ib_same ?_
  refine th_n ?_
  refine wp_seq ?_
  refine wp_reg ?_
  refine st_move hf rfl rfl (by decide) ?_
  clear hf; intro a ha hf; clear ha
  refine st_assign hf rfl rfl (by decide) ?_
  clear hf; intro a ha hf; clear ha
  refine st_assign hf rfl rfl (by decide) ?_
  clear hf; intro a ha hf; clear ha
  refine st_nil hf ?_
  refine th_n ?_
  refine wp_ret ?_
  obtain rfl := Option.some.inj h
  have hp : Hp _ _ _ (Res.sl (Ek.int .u8) 5 v12 q19.2 :: Res.obj 5 ot2000 [.int .u8 q19.1] :: ow) := Hp.sel (pre := [Res.obj 5 ot2000 [.int .u8 q19.1], Res.sl (Ek.int .u8) 5 v12 q19.2]) (tail := ow) (rs' := [Res.sl (Ek.int .u8) 5 v12 q19.2, Res.obj 5 ot2000 [.int .u8 q19.1]]) hp [1, 0] (by decide) (by simp) rfl
  exact ⟨rfl, ⟨_, hf.sub ⟨rfl, rfl, trivial⟩, hp⟩⟩

noncomputable def f_turns_Out (p0 : (List Int)) : Option ((List Int) × Int) := ((f_turns_each_33 p0 (0 : Int)).bind fun q3 => (some (q3.1, q3.2.1)))
theorem f_turns_Out_c {S : Nat → Prop} {w0 w : World} {ow : List Res} (hp : Hp S w0 w ow) (vp0 : Value) (p0 : (List Int)) (hp0 : RdS (Ek.int .u8) S w0 vp0 p0) {r : ((List Int) × Int)} (h : f_turns_Out p0 = some r) :
    Calls Try.prog 10 #[vp0] w (fun e w' => ∃ (u0 : Value), e = .returned (.tuple #[u0, .int .i64 r.2]) ∧ Hp S w0 w' (Res.sl (Ek.int .u8) 5 u0 r.1 :: ow)) := by
  unfold f_turns_Out at h
  refine enter (n := 10) (args := [vp0]) Try.func10 rfl rfl (Nat.le_of_ble_eq_true rfl) fun a hf => ?_
  replace hf : Fr 10 a [(0, vp0)] := hf
  refine wp_mono (Q := fun e a w => e = .ret ∧ ∃ (u0 : Value), Fr 10 a [(2, u0), (3, .int .i64 r.2)] ∧ Hp S w0 w (Res.sl (Ek.int .u8) 5 u0 r.1 :: ow)) ?_ ?_
  rotate_left
  · rintro e a w ⟨rfl, x0, hf, hp⟩
    exact ret2 hf rfl rfl rfl ⟨x0, rfl, hp⟩
  refine wp_seq ?_
  refine wp_reg ?_
  refine st_assign hf rfl rfl (by decide) ?_
  clear hf; intro a ha hf; clear ha
  refine st_assign hf rfl rfl (by decide) ?_
  clear hf; intro a ha hf; clear ha
  refine st_nil hf ?_
  refine th_n ?_
  refine wp_seq ?_
  refine wp_reg ?_
  refine st_alloc (cs := [.int .u8 (0 : Int)]) (zv := .int .u8 (0 : Int)) hf (by decide) (by kernel_rfl) rfl hp rfl ?_
  clear hf; intro a w v1 hf hp0; clear hp; have hp := hp0; clear hp0
  replace hp : Hp _ _ _ (Res.obj 5 v1 [.int .u8 (0 : Int)] :: ow) := hp
  refine st_stO (us := [.int .u8 (0 : Int)]) hf hp (i := 0) rfl rfl rfl rfl rfl (by rfl) (by kernel_rfl) (Nat.le_of_ble_eq_true rfl) ?_
  clear hf; intro a w hf hp0; clear hp; have hp := hp0; clear hp0
  replace hp : Hp _ _ _ (Res.obj 5 v1 [.int .u8 (0 : Int)] :: ow) := hp
  refine st_nil hf ?_
  refine th_n ?_
  refine wp_seq ?_
  refine wp_reg ?_
  refine st_move hf rfl rfl (by decide) ?_
  clear hf; intro a ha hf; clear ha
  refine st_makeFunc1 hf (by decide) rfl rfl ?_
  clear hf; intro a ha hf; clear ha
  obtain ⟨q3, hcall4, h⟩ := bnd h
  have hp5 : Hp _ _ _ (Res.obj 5 v1 [.int .u8 (0 : Int)] :: ow) := Hp.sel (pre := [Res.obj 5 v1 [.int .u8 (0 : Int)]]) (tail := ow) (rs' := [Res.obj 5 v1 [.int .u8 (0 : Int)]]) hp [0] (by decide) (by simp) rfl
  refine st_call hf (by decide) Try.func33 rfl rfl rfl rfl rfl (f_turns_each_33_c _ _ hp0 _ _ hp5 hcall4) ?_
  rintro _ w ⟨v6, rfl, hp0⟩
  clear hp; have hp := hp0; clear hp0
  replace hp : Hp _ _ _ (Res.sl (Ek.int .u8) 5 v6 q3.1 :: Res.obj 5 v1 [.int .u8 q3.2.2] :: ow) := hp
  refine ⟨_, rfl, ?_⟩
  clear hf; intro a hf
  refine st_extract hf (by decide) rfl rfl rfl ?_
  clear hf; intro a ha hf; clear ha
  refine st_extract hf (by decide) rfl rfl rfl ?_
  clear hf; intro a ha hf; clear ha
  refine st_assign hf rfl rfl (by decide) ?_
  clear hf; intro a ha hf; clear ha
  refine st_assign hf rfl rfl (by decide) ?_
  clear hf; intro a ha hf; clear ha
  refine st_nil hf ?_
  refine th_n ?_
  refine wp_ret ?_
  obtain rfl := Option.some.inj h
  have hp : Hp _ _ _ (Res.sl (Ek.int .u8) 5 v6 q3.1 :: ow) := Hp.sel (pre := [Res.sl (Ek.int .u8) 5 v6 q3.1, Res.obj 5 v1 [.int .u8 q3.2.2]]) (tail := ow) (rs' := [Res.sl (Ek.int .u8) 5 v6 q3.1]) hp [0] (by decide) (by simp) rfl
  exact ⟨rfl, ⟨_, hf.sub ⟨rfl, rfl, trivial⟩, hp⟩⟩

noncomputable def f_foghornref06_Out.s1c (p0 : (List Int)) (out4 : (List Int)) (i5 : Int) : Option (((List Int) × Int) ⊕ (List Int)) := (if (decide (i5 < (p0.length : Int))) = true then (if (i5 == (0 : Int)) = true then (if 0 ≤ (0 : Int) ∧ (0 : Int) < (p0.length : Int) then (if (out4.length + ([(gt p0 (0 : Int))]).length) * 1 ≤ 140737488355328 then (some (Sum.inl ((out4 ++ [(gt p0 (0 : Int))]), (IntKind.i64.wrap (i5 + (1 : Int)))))) else none) else none) else (if 0 ≤ i5 ∧ i5 < (p0.length : Int) then (if 0 ≤ (IntKind.i64.wrap (i5 - (1 : Int))) ∧ (IntKind.i64.wrap (i5 - (1 : Int))) < (p0.length : Int) then (if (out4.length + ([(((IntKind.u8.wrap ((IntKind.u8.wrap ((gt p0 i5) + (4 : Int))) - (gt p0 (IntKind.i64.wrap (i5 - (1 : Int))))))).tmod (4 : Int))]).length) * 1 ≤ 140737488355328 then (some (Sum.inl ((out4 ++ [(((IntKind.u8.wrap ((IntKind.u8.wrap ((gt p0 i5) + (4 : Int))) - (gt p0 (IntKind.i64.wrap (i5 - (1 : Int))))))).tmod (4 : Int))]), (IntKind.i64.wrap (i5 + (1 : Int)))))) else none) else none) else none)) else (some (Sum.inr out4)))
noncomputable def f_foghornref06_Out.s1 (p0 : (List Int)) (s : ((List Int) × Int)) : Option (((List Int) × Int) ⊕ (List Int)) := f_foghornref06_Out.s1c p0 s.1 s.2
noncomputable def f_foghornref06_Out (p0 : (List Int)) : Option ((List Int) × Int) := ((f_foghornref06_row p0).bind fun q1 => (if (!q1) = true then (some ([], (1 : Int))) else ((loop (f_foghornref06_Out.s1 p0) ([], (0 : Int))).bind (fun q19 => (some (q19, (0 : Int)))))))
theorem f_foghornref06_Out_c {S : Nat → Prop} {w0 w : World} {ow : List Res} (hp : Hp S w0 w ow) (vp0 : Value) (p0 : (List Int)) (hp0 : RdS (Ek.int .u8) S w0 vp0 p0) {r : ((List Int) × Int)} (h : f_foghornref06_Out p0 = some r) :
    Calls Try.prog 38 #[vp0] w (fun e w' => ∃ (u0 : Value), e = .returned (.tuple #[u0, .int .i64 r.2]) ∧ Hp S w0 w' (Res.sl (Ek.int .u8) 5 u0 r.1 :: ow)) := by
  unfold f_foghornref06_Out at h
  refine enter (n := 39) (args := [vp0]) Try.func38 rfl rfl (Nat.le_of_ble_eq_true rfl) fun a hf => ?_
  replace hf : Fr 39 a [(0, vp0)] := hf
  refine wp_mono (Q := fun e a w => e = .ret ∧ ∃ (u0 : Value), Fr 39 a [(2, u0), (3, .int .i64 r.2)] ∧ Hp S w0 w (Res.sl (Ek.int .u8) 5 u0 r.1 :: ow)) ?_ ?_
  rotate_left
  · rintro e a w ⟨rfl, x0, hf, hp⟩
    exact ret2 hf rfl rfl rfl ⟨x0, rfl, hp⟩
  refine wp_seq ?_
  refine wp_reg ?_
  refine st_assign hf rfl rfl (by decide) ?_
  clear hf; intro a ha hf; clear ha
  refine st_assign hf rfl rfl (by decide) ?_
  clear hf; intro a ha hf; clear ha
  refine st_nil hf ?_
  refine th_n ?_
  refine wp_seq ?_
  refine wp_seq ?_
  refine wp_reg ?_
  refine st_move hf rfl rfl (by decide) ?_
  clear hf; intro a ha hf; clear ha
  obtain ⟨q1, hcall2, h⟩ := bnd h
  refine st_call hf (by decide) Try.func45 rfl rfl rfl rfl rfl (f_foghornref06_row_c hp _ _ hp0 hcall2) ?_
  rintro _ w ⟨rfl, hp0⟩
  clear hp; have hp := hp0; clear hp0
  replace hp : Hp _ _ _ (ow) := hp
  refine ⟨_, rfl, ?_⟩
  clear hf; intro a hf
  refine st_not hf (by decide) rfl rfl ?_
  clear hf; intro a ha hf; clear ha
  refine st_nil hf ?_
  refine th_n ?_
  refine wp_if hf rfl (fun hb => ?_) (fun hb => ?_)
  · replace h := ifT h hb
    refine wp_seq ?_
    refine wp_reg ?_
    refine st_assign hf rfl rfl (by decide) ?_
    clear hf; intro a ha hf; clear ha
    refine st_assign hf rfl rfl (by decide) ?_
    clear hf; intro a ha hf; clear ha
    refine st_nil hf ?_
    refine th_n ?_
    refine wp_ret ?_
    refine th_r ?_
    obtain rfl := Option.some.inj h
    have hp := hp.nil (Ek.int .u8) 5
    exact ⟨rfl, ⟨_, hf.sub ⟨rfl, rfl, trivial⟩, hp⟩⟩
  replace h := ifF h hb
  refine wp_skip ?_
  refine th_n ?_
  refine wp_seq ?_
  refine wp_reg ?_
  refine st_assign hf rfl rfl (by decide) ?_
  clear hf; intro a ha hf; clear ha
  refine st_nil hf ?_
  refine th_n ?_
  refine wp_seq ?_
  refine wp_seq ?_
  refine wp_reg ?_
  refine st_assign hf rfl rfl (by decide) ?_
  clear hf; intro a ha hf; clear ha
  refine st_nil hf ?_
  refine th_n ?_
  refine wp_block ?_
  obtain ⟨q19, hl, h⟩ := bnd h
  have hp := hp.nil (Ek.int .u8) 5
  refine wp_loop_pure (f := (f_foghornref06_Out.s1 p0)) (s := ([], (0 : Int))) (fun s a w => ∃ (v4 : Value), Fr 39 a [(0, vp0), (4, v4), (5, .int .i64 s.2)] ∧ Hp S w0 w (Res.sl (Ek.int .u8) 5 v4 s.1 :: ow)) (fun q e a w => e = .exit 0 ∧ ∃ (v6 : Value), Fr 39 a [(4, v6)] ∧ Hp S w0 w (Res.sl (Ek.int .u8) 5 v6 q :: ow)) ?_ hl ⟨_, hf.sub ⟨rfl, rfl, rfl, trivial⟩, hp⟩ ?_
  · clear hl hf hp
    intro s x a w h hI
    obtain ⟨out4, i5⟩ := s
    obtain ⟨v4, hf, hp⟩ : ∃ (v4 : Value), Fr 39 a [(0, vp0), (4, v4), (5, .int .i64 i5)] ∧ Hp S w0 w (Res.sl (Ek.int .u8) 5 v4 out4 :: ow) := hI
    replace h : f_foghornref06_Out.s1c p0 out4 i5 = some x := h
    unfold f_foghornref06_Out.s1c at h
    refine wp_seq ?_
    refine wp_seq ?_
    refine wp_reg ?_
    refine st_move hf rfl rfl (by decide) ?_
    clear hf; intro a ha hf; clear ha
    refine st_move hf rfl rfl (by decide) ?_
    clear hf; intro a ha hf; clear ha
    refine st_len (E := (Ek.int .u8)) hf (by decide) Try.underlying22 rfl rfl (hp0.sl hp) ?_
    clear hf; intro a ha hf; clear ha
    refine st_ilss hf (by decide) rfl rfl rfl ?_
    clear hf; intro a ha hf; clear ha
    refine st_nil hf ?_
    refine th_n ?_
    refine wp_if hf rfl (fun hb => ?_) (fun hb => ?_)
    · replace h := ifT h hb
      refine wp_skip ?_
      refine th_n ?_
      refine wp_seq ?_
      refine wp_block ?_
      refine wp_seq ?_
      refine wp_reg ?_
      refine st_move hf rfl rfl (by decide) ?_
      clear hf; intro a ha hf; clear ha
      refine st_ieql hf (by decide) rfl rfl rfl ?_
      clear hf; intro a ha hf; clear ha
      refine st_nil hf ?_
      refine th_n ?_
      refine wp_if hf rfl (fun hb => ?_) (fun hb => ?_)
      · replace h := ifT h hb
        refine wp_reg ?_
        refine st_move hf rfl rfl (by decide) ?_
        clear hf; intro a ha hf; clear ha
        refine st_move hf rfl rfl (by decide) ?_
        clear hf; intro a ha hf; clear ha
        obtain ⟨hc8, h⟩ := chk h
        refine st_index (E := (Ek.int .u8)) hf (by decide) Try.underlying22 elt5 rfl rfl rfl (hp0.sl hp) hc8.1 hc8.2 ?_
        clear hf; intro a ha hf; clear ha
        refine st_ldI hf (by decide) pl5 rfl rfl (hp0.sl hp) hc8.1 hc8.2 ?_
        clear hf; intro a ha hf; clear ha
        refine st_build (E := (Ek.int .u8)) (xs := [(gt p0 (0 : Int))]) hf (by decide) elt5 Try.underlying22 hp (vals := #[(0, .int .u8 (gt p0 (0 : Int)))]) (cells := #[.int .u8 (gt p0 (0 : Int))]) rfl (by simp [hf.ev (x := (Operand.tmp 20)) rfl]) (by decide) (by decide) (z := .int .u8 0) (by kernel_rfl) (by kernel_rfl) rfl (reps_cons (cs := [.int .u8 (gt p0 (0 : Int))]) rfl (reps_nil _)) ?_
        clear hf; intro a w v9 hf hp0; clear hp; have hp := hp0; clear hp0
        replace hp : Hp _ _ _ (Res.sl (Ek.int .u8) 5 v9 ([(gt p0 (0 : Int))]) :: Res.sl (Ek.int .u8) 5 v4 out4 :: ow) := hp
        obtain ⟨hc11, h⟩ := chk h
        refine st_append (E := (Ek.int .u8)) hf (by decide) elt5 Try.underlying22 (by decide) hp (i := 1) rfl rfl rfl rfl (hp.sl (i := 0) rfl) hc11 ?_
        clear hf; intro a w v12 hf hp0; clear hp; have hp := hp0; clear hp0
        replace hp : Hp _ _ _ (Res.sl (Ek.int .u8) 5 v9 ([(gt p0 (0 : Int))]) :: Res.sl (Ek.int .u8) 5 v12 (out4 ++ [(gt p0 (0 : Int))]) :: ow) := hp
        refine st_assign hf rfl rfl (by decide) ?_
        clear hf; intro a ha hf; clear ha
        refine st_nil hf ?_
        refine ib_n ?_
        refine th_n ?_
        refine wp_reg ?_
        refine st_move hf rfl rfl (by decide) ?_
        clear hf; intro a ha hf; clear ha
        refine st_iadd hf (by decide) rfl rfl rfl ?_
        clear hf; intro a ha hf; clear ha
        refine st_assign hf rfl rfl (by decide) ?_
        clear hf; intro a ha hf; clear ha
        refine st_nil hf ?_
        obtain rfl := Option.some.inj h
        have hp : Hp _ _ _ (Res.sl (Ek.int .u8) 5 v12 (out4 ++ [(gt p0 (0 : Int))]) :: ow) := Hp.sel (pre := [Res.sl (Ek.int .u8) 5 v9 ([(gt p0 (0 : Int))]), Res.sl (Ek.int .u8) 5 v12 (out4 ++ [(gt p0 (0 : Int))])]) (tail := ow) (rs' := [Res.sl (Ek.int .u8) 5 v12 (out4 ++ [(gt p0 (0 : Int))])]) hp [1] (by decide) (by simp) rfl
        exact rnd_l ⟨_, hf.sub ⟨rfl, rfl, rfl, trivial⟩, hp⟩
      replace h := ifF h hb
      obtain ⟨hc13, h⟩ := chk h
      obtain ⟨hc14, h⟩ := chk h
      obtain ⟨hc17, h⟩ := chk h
      refine wp_cutN (fun a w => ∃ (v15 : Value) (v18 : Value), Fr 39 a [(0, vp0), (4, v18), (5, .int .i64 i5)] ∧ Hp S w0 w (Res.sl (Ek.int .u8) 5 v15 ([(((IntKind.u8.wrap ((IntKind.u8.wrap ((gt p0 i5) + (4 : Int))) - (gt p0 (IntKind.i64.wrap (i5 - (1 : Int))))))).tmod (4 : Int))]) :: Res.sl (Ek.int .u8) 5 v18 (out4 ++ [(((IntKind.u8.wrap ((IntKind.u8.wrap ((gt p0 i5) + (4 : Int))) - (gt p0 (IntKind.i64.wrap (i5 - (1 : Int))))))).tmod (4 : Int))]) :: ow)) ?_ ?_
      · have hp := hp.same (Same.drew w)
        refine dr_begin' (fun a w => ∃ (v15 : Value) (v18 : Value), Fr 39 a [(0, vp0), (4, v18), (5, .int .i64 i5)] ∧ Hp S w0 w (Res.sl (Ek.int .u8) 5 v15 ([(((IntKind.u8.wrap ((IntKind.u8.wrap ((gt p0 i5) + (4 : Int))) - (gt p0 (IntKind.i64.wrap (i5 - (1 : Int))))))).tmod (4 : Int))]) :: Res.sl (Ek.int .u8) 5 v18 (out4 ++ [(((IntKind.u8.wrap ((IntKind.u8.wrap ((gt p0 i5) + (4 : Int))) - (gt p0 (IntKind.i64.wrap (i5 - (1 : Int))))))).tmod (4 : Int))]) :: ow)) (fun w' => ∃ l, Hp S w0 w' l) [] (by kernel_rfl) ?_
        refine dr_take 0 (v4) rfl (by kernel_rfl) (by kernel_rfl) (by kernel_rfl) (by kernel_rfl) rfl rfl hf (by decide) rfl (fun w hp => ?_) ⟨_, hp⟩ ?_
        · obtain ⟨_, hp⟩ := hp
          refine st_move hf rfl rfl (by decide) ?_
          clear hf; intro a ha hf
          exact st_nil hf (th_n ⟨ha, rfl⟩)
        clear hf; intro a hf
        refine dr_take 1 (vp0) rfl (by kernel_rfl) (by kernel_rfl) (by kernel_rfl) (by kernel_rfl) rfl rfl hf (by decide) rfl (fun w hp => ?_) ⟨_, hp⟩ ?_
        · obtain ⟨_, hp⟩ := hp
          refine st_move hf rfl rfl (by decide) ?_
          clear hf; intro a ha hf
          exact st_nil hf (th_n ⟨ha, rfl⟩)
        clear hf; intro a hf
        refine dr_take 2 (.int .i64 i5) rfl (by kernel_rfl) (by kernel_rfl) (by kernel_rfl) (by kernel_rfl) rfl rfl hf (by decide) rfl (fun w hp => ?_) ⟨_, hp⟩ ?_
        · obtain ⟨_, hp⟩ := hp
          refine st_move hf rfl rfl (by decide) ?_
          clear hf; intro a ha hf
          exact st_nil hf (th_n ⟨ha, rfl⟩)
        clear hf; intro a hf
        refine dr_take 3 (eptr vp0 i5 1) rfl (by kernel_rfl) (by kernel_rfl) (by kernel_rfl) (by kernel_rfl) rfl rfl hf (by decide) rfl (fun w hp => ?_) ⟨_, hp⟩ ?_
        · obtain ⟨_, hp⟩ := hp
          refine st_index (E := (Ek.int .u8)) hf (by decide) Try.underlying22 elt5 rfl rfl rfl (hp0.sl hp) hc13.1 hc13.2 ?_
          clear hf; intro a ha hf
          exact st_nil hf (th_n ⟨ha, rfl⟩)
        clear hf; intro a hf
        refine dr_take 4 (.int .u8 (gt p0 i5)) rfl (by kernel_rfl) (by kernel_rfl) (by kernel_rfl) (by kernel_rfl) rfl rfl hf (by decide) rfl (fun w hp => ?_) ⟨_, hp⟩ ?_
        · obtain ⟨_, hp⟩ := hp
          refine st_ldI hf (by decide) pl5 rfl rfl (hp0.sl hp) hc13.1 hc13.2 ?_
          clear hf; intro a ha hf
          exact st_nil hf (th_n ⟨ha, rfl⟩)
        clear hf; intro a hf
        refine dr_take 5 (.int .u8 (IntKind.u8.wrap ((gt p0 i5) + (4 : Int)))) rfl (by kernel_rfl) (by kernel_rfl) (by kernel_rfl) (by kernel_rfl) rfl rfl hf (by decide) rfl (fun w hp => ?_) ⟨_, hp⟩ ?_
        · obtain ⟨_, hp⟩ := hp
          refine st_iadd hf (by decide) rfl rfl rfl ?_
          clear hf; intro a ha hf
          exact st_nil hf (th_n ⟨ha, rfl⟩)
        clear hf; intro a hf
        refine dr_take 6 (vp0) rfl (by kernel_rfl) (by kernel_rfl) (by kernel_rfl) (by kernel_rfl) rfl rfl hf (by decide) rfl (fun w hp => ?_) ⟨_, hp⟩ ?_
        · obtain ⟨_, hp⟩ := hp
          refine st_move hf rfl rfl (by decide) ?_
          clear hf; intro a ha hf
          exact st_nil hf (th_n ⟨ha, rfl⟩)
        clear hf; intro a hf
        refine dr_take 7 (.int .i64 i5) rfl (by kernel_rfl) (by kernel_rfl) (by kernel_rfl) (by kernel_rfl) rfl rfl hf (by decide) rfl (fun w hp => ?_) ⟨_, hp⟩ ?_
        · obtain ⟨_, hp⟩ := hp
          refine st_move hf rfl rfl (by decide) ?_
          clear hf; intro a ha hf
          exact st_nil hf (th_n ⟨ha, rfl⟩)
        clear hf; intro a hf
        refine dr_take 8 (.int .i64 (IntKind.i64.wrap (i5 - (1 : Int)))) rfl (by kernel_rfl) (by kernel_rfl) (by kernel_rfl) (by kernel_rfl) rfl rfl hf (by decide) rfl (fun w hp => ?_) ⟨_, hp⟩ ?_
        · obtain ⟨_, hp⟩ := hp
          refine st_isub hf (by decide) rfl rfl rfl ?_
          clear hf; intro a ha hf
          exact st_nil hf (th_n ⟨ha, rfl⟩)
        clear hf; intro a hf
        refine dr_take 9 (eptr vp0 (IntKind.i64.wrap (i5 - (1 : Int))) 1) rfl (by kernel_rfl) (by kernel_rfl) (by kernel_rfl) (by kernel_rfl) rfl rfl hf (by decide) rfl (fun w hp => ?_) ⟨_, hp⟩ ?_
        · obtain ⟨_, hp⟩ := hp
          refine st_index (E := (Ek.int .u8)) hf (by decide) Try.underlying22 elt5 rfl rfl rfl (hp0.sl hp) hc14.1 hc14.2 ?_
          clear hf; intro a ha hf
          exact st_nil hf (th_n ⟨ha, rfl⟩)
        clear hf; intro a hf
        refine dr_take 10 (.int .u8 (gt p0 (IntKind.i64.wrap (i5 - (1 : Int))))) rfl (by kernel_rfl) (by kernel_rfl) (by kernel_rfl) (by kernel_rfl) rfl rfl hf (by decide) rfl (fun w hp => ?_) ⟨_, hp⟩ ?_
        · obtain ⟨_, hp⟩ := hp
          refine st_ldI hf (by decide) pl5 rfl rfl (hp0.sl hp) hc14.1 hc14.2 ?_
          clear hf; intro a ha hf
          exact st_nil hf (th_n ⟨ha, rfl⟩)
        clear hf; intro a hf
        refine dr_take 11 (.int .u8 (IntKind.u8.wrap ((IntKind.u8.wrap ((gt p0 i5) + (4 : Int))) - (gt p0 (IntKind.i64.wrap (i5 - (1 : Int))))))) rfl (by kernel_rfl) (by kernel_rfl) (by kernel_rfl) (by kernel_rfl) rfl rfl hf (by decide) rfl (fun w hp => ?_) ⟨_, hp⟩ ?_
        · obtain ⟨_, hp⟩ := hp
          refine st_isub hf (by decide) rfl rfl rfl ?_
          clear hf; intro a ha hf
          exact st_nil hf (th_n ⟨ha, rfl⟩)
        clear hf; intro a hf
        refine dr_take 12 (.int .u8 (((IntKind.u8.wrap ((IntKind.u8.wrap ((gt p0 i5) + (4 : Int))) - (gt p0 (IntKind.i64.wrap (i5 - (1 : Int))))))).tmod (4 : Int))) rfl (by kernel_rfl) (by kernel_rfl) (by kernel_rfl) (by kernel_rfl) rfl rfl hf (by decide) rfl (fun w hp => ?_) ⟨_, hp⟩ ?_
        · obtain ⟨_, hp⟩ := hp
          refine st_irem hf (by decide) rfl rfl rfl (by decide) ?_
          clear hf; intro a ha hf
          exact st_nil hf (th_n ⟨ha, rfl⟩)
        clear hf; intro a hf
        refine dr_one 13 rfl (by kernel_rfl) ?_
        refine st_build (E := (Ek.int .u8)) (xs := [(((IntKind.u8.wrap ((IntKind.u8.wrap ((gt p0 i5) + (4 : Int))) - (gt p0 (IntKind.i64.wrap (i5 - (1 : Int))))))).tmod (4 : Int))]) hf (by decide) elt5 Try.underlying22 hp (vals := #[(0, .int .u8 (((IntKind.u8.wrap ((IntKind.u8.wrap ((gt p0 i5) + (4 : Int))) - (gt p0 (IntKind.i64.wrap (i5 - (1 : Int))))))).tmod (4 : Int)))]) (cells := #[.int .u8 (((IntKind.u8.wrap ((IntKind.u8.wrap ((gt p0 i5) + (4 : Int))) - (gt p0 (IntKind.i64.wrap (i5 - (1 : Int))))))).tmod (4 : Int))]) rfl (by simp [hf.ev (x := (Operand.tmp 35)) rfl]) (by decide) (by decide) (z := .int .u8 0) (by kernel_rfl) (by kernel_rfl) rfl (reps_cons (cs := [.int .u8 (((IntKind.u8.wrap ((IntKind.u8.wrap ((gt p0 i5) + (4 : Int))) - (gt p0 (IntKind.i64.wrap (i5 - (1 : Int))))))).tmod (4 : Int))]) rfl (reps_nil _)) ?_
        clear hf; intro a w v15 hf hp0; clear hp; have hp := hp0; clear hp0
        replace hp : Hp _ _ _ (Res.sl (Ek.int .u8) 5 v15 ([(((IntKind.u8.wrap ((IntKind.u8.wrap ((gt p0 i5) + (4 : Int))) - (gt p0 (IntKind.i64.wrap (i5 - (1 : Int))))))).tmod (4 : Int))]) :: Res.sl (Ek.int .u8) 5 v4 out4 :: ow) := hp
        refine st_nil hf (th_n ⟨fun _ _ => ⟨_, hp⟩, ?_⟩)
        refine dr_one 14 rfl (by kernel_rfl) ?_
        refine st_append (E := (Ek.int .u8)) hf (by decide) elt5 Try.underlying22 (by decide) hp (i := 1) rfl rfl rfl rfl (hp.sl (i := 0) rfl) hc17 ?_
        clear hf; intro a w v18 hf hp0; clear hp; have hp := hp0; clear hp0
        replace hp : Hp _ _ _ (Res.sl (Ek.int .u8) 5 v15 ([(((IntKind.u8.wrap ((IntKind.u8.wrap ((gt p0 i5) + (4 : Int))) - (gt p0 (IntKind.i64.wrap (i5 - (1 : Int))))))).tmod (4 : Int))]) :: Res.sl (Ek.int .u8) 5 v18 (out4 ++ [(((IntKind.u8.wrap ((IntKind.u8.wrap ((gt p0 i5) + (4 : Int))) - (gt p0 (IntKind.i64.wrap (i5 - (1 : Int))))))).tmod (4 : Int))]) :: ow) := hp
        refine st_nil hf (th_n ⟨fun _ _ => ⟨_, hp⟩, ?_⟩)
        refine dr_take 15 (v18) rfl (by kernel_rfl) (by kernel_rfl) (by kernel_rfl) (by kernel_rfl) rfl rfl hf (by decide) rfl (fun w hp => ?_) ⟨_, hp⟩ ?_
        · obtain ⟨_, hp⟩ := hp
          refine st_assign hf rfl rfl (by decide) ?_
          clear hf; intro a ha hf
          exact st_nil hf (th_n ⟨ha, rfl⟩)
        clear hf; intro a hf
        refine dr_end (by kernel_rfl) ?_ _
        exact ⟨v15, v18, hf.sub ⟨rfl, rfl, rfl, trivial⟩, hp⟩
      rintro a w ⟨v15, v18, hf, hp⟩
      refine ib_n ?_
      refine th_n ?_
      refine wp_reg ?_
      refine st_move hf rfl rfl (by decide) ?_
      clear hf; intro a ha hf; clear ha
      refine st_iadd hf (by decide) rfl rfl rfl ?_
      clear hf; intro a ha hf; clear ha
      refine st_assign hf rfl rfl (by decide) ?_
      clear hf; intro a ha hf; clear ha
      refine st_nil hf ?_
      obtain rfl := Option.some.inj h
      have hp : Hp _ _ _ (Res.sl (Ek.int .u8) 5 v18 (out4 ++ [(((IntKind.u8.wrap ((IntKind.u8.wrap ((gt p0 i5) + (4 : Int))) - (gt p0 (IntKind.i64.wrap (i5 - (1 : Int))))))).tmod (4 : Int))]) :: ow) := Hp.sel (pre := [Res.sl (Ek.int .u8) 5 v15 ([(((IntKind.u8.wrap ((IntKind.u8.wrap ((gt p0 i5) + (4 : Int))) - (gt p0 (IntKind.i64.wrap (i5 - (1 : Int))))))).tmod (4 : Int))]), Res.sl (Ek.int .u8) 5 v18 (out4 ++ [(((IntKind.u8.wrap ((IntKind.u8.wrap ((gt p0 i5) + (4 : Int))) - (gt p0 (IntKind.i64.wrap (i5 - (1 : Int))))))).tmod (4 : Int))])]) (tail := ow) (rs' := [Res.sl (Ek.int .u8) 5 v18 (out4 ++ [(((IntKind.u8.wrap ((IntKind.u8.wrap ((gt p0 i5) + (4 : Int))) - (gt p0 (IntKind.i64.wrap (i5 - (1 : Int))))))).tmod (4 : Int))])]) hp [1] (by decide) (by simp) rfl
      exact rnd_l ⟨_, hf.sub ⟨rfl, rfl, rfl, trivial⟩, hp⟩
    replace h := ifF h hb
    refine wp_exit ?_
    refine th_e ?_
    obtain rfl := Option.some.inj h
    exact rnd_r (by simp) ⟨rfl, _, hf.sub ⟨rfl, trivial⟩, hp⟩
  clear hl hf hp
  intro e a w hne hO
  obtain ⟨rfl, v6, hf, hp⟩ := hO
  refine ib_same ?_
  refine th_n ?_
  refine wp_seq ?_
  refine wp_reg ?_
  refine st_move hf rfl rfl (by decide) ?_
  clear hf; intro a ha hf; clear ha
  refine st_assign hf rfl rfl (by decide) ?_
  clear hf; intro a ha hf; clear ha
  refine st_assign hf rfl rfl (by decide) ?_
  clear hf; intro a ha hf; clear ha
  refine st_nil hf ?_
  refine th_n ?_
  refine wp_ret ?_
  obtain rfl := Option.some.inj h
  exact ⟨rfl, ⟨_, hf.sub ⟨rfl, rfl, trivial⟩, hp⟩⟩

noncomputable def f_turns_Marked.s1c (there1 : (List Bool)) (qx7 : (List Int)) (marks9 : (List Bool)) (last10 : Bool) (t32 : Int) : Option (((List Int) × (List Bool) × Bool × Int) ⊕ ((List Int) × (List Bool))) := (if (decide (t32 < (there1.length : Int))) = true then (if 0 ≤ t32 ∧ t32 < (there1.length : Int) then (if 0 ≤ t32 ∧ t32 < (marks9.length : Int) then (if 0 ≤ t32 ∧ t32 < ((marks9.set (t32).toNat ((gt there1 t32) && last10)).length : Int) then (if (!(gt (marks9.set (t32).toNat ((gt there1 t32) && last10)) t32)) = true then (if 0 ≤ t32 ∧ t32 < (qx7.length : Int) then (some (Sum.inl ((qx7.set (t32).toNat (0 : Int)), (marks9.set (t32).toNat ((gt there1 t32) && last10)), (gt there1 t32), (IntKind.i64.wrap (t32 + (1 : Int)))))) else none) else (some (Sum.inl (qx7, (marks9.set (t32).toNat ((gt there1 t32) && last10)), (gt there1 t32), (IntKind.i64.wrap (t32 + (1 : Int))))))) else none) else none) else none) else (some (Sum.inr (qx7, marks9))))
noncomputable def f_turns_Marked.s1 (there1 : (List Bool)) (s : ((List Int) × (List Bool) × Bool × Int)) : Option (((List Int) × (List Bool) × Bool × Int) ⊕ ((List Int) × (List Bool))) := f_turns_Marked.s1c there1 s.1 s.2.1 s.2.2.1 s.2.2.2
noncomputable def f_turns_Marked (p0 : (List Int)) (there1 : (List Bool)) : Option ((List Int) × (List Bool) × Int) := ((f_turns_Out p0).bind fun q1 => (if ((q1.2 != (0 : Int)) || ((there1.length : Int) != (p0.length : Int))) = true then (some ([], [], (1 : Int))) else (if 0 ≤ (p0.length : Int) ∧ (p0.length : Int) ≤ (p0.length : Int) ∧ (p0.length : Int) * 1 ≤ 281474976710656 then ((loop (f_turns_Marked.s1 there1) (q1.1, (List.replicate ((p0.length : Int)).toNat false), true, (0 : Int))).bind (fun q26 => (some (q26.1, q26.2, (0 : Int))))) else none)))
theorem f_turns_Marked_c {S : Nat → Prop} {w0 w : World} {ow : List Res} (hp : Hp S w0 w ow) (vp0 : Value) (p0 : (List Int)) (hp0 : RdS (Ek.int .u8) S w0 vp0 p0) (vthere1 : Value) (there1 : (List Bool)) (hthere1 : RdS Ek.bool S w0 vthere1 there1) {r : ((List Int) × (List Bool) × Int)} (h : f_turns_Marked p0 there1 = some r) :
    Calls Try.prog 32 #[vp0, vthere1] w (fun e w' => ∃ (u0 : Value) (u1 : Value), e = .returned (.tuple #[u0, u1, .int .i64 r.2.2]) ∧ Hp S w0 w' (Res.sl (Ek.int .u8) 5 u0 r.1 :: Res.sl Ek.bool 4 u1 r.2.1 :: ow)) := by
  unfold f_turns_Marked at h
  refine enter (n := 56) (args := [vp0, vthere1]) Try.func32 rfl rfl (Nat.le_of_ble_eq_true rfl) fun a hf => ?_
  replace hf : Fr 56 a [(0, vp0), (1, vthere1)] := hf
  refine wp_mono (Q := fun e a w => e = .ret ∧ ∃ (u0 : Value) (u1 : Value), Fr 56 a [(4, u0), (5, u1), (6, .int .i64 r.2.2)] ∧ Hp S w0 w (Res.sl (Ek.int .u8) 5 u0 r.1 :: Res.sl Ek.bool 4 u1 r.2.1 :: ow)) ?_ ?_
  rotate_left
  · rintro e a w ⟨rfl, x0, x1, hf, hp⟩
    exact ret3 hf rfl rfl rfl rfl ⟨x0, x1, rfl, hp⟩
  refine wp_seq ?_
  refine wp_reg ?_
  refine st_assign hf rfl rfl (by decide) ?_
  clear hf; intro a ha hf; clear ha
  refine st_assign hf rfl rfl (by decide) ?_
  clear hf; intro a ha hf; clear ha
  refine st_assign hf rfl rfl (by decide) ?_
  clear hf; intro a ha hf; clear ha
  refine st_nil hf ?_
  refine th_n ?_
  refine wp_seq ?_
  refine wp_reg ?_
  refine st_move hf rfl rfl (by decide) ?_
  clear hf; intro a ha hf; clear ha
  obtain ⟨q1, hcall2, h⟩ := bnd h
  refine st_call hf (by decide) Try.func10 rfl rfl rfl rfl rfl (f_turns_Out_c hp _ _ hp0 hcall2) ?_
  rintro _ w ⟨v3, rfl, hp0⟩
  clear hp; have hp := hp0; clear hp0
  replace hp : Hp _ _ _ (Res.sl (Ek.int .u8) 5 v3 q1.1 :: ow) := hp
  refine ⟨_, rfl, ?_⟩
  clear hf; intro a hf
  refine st_move hf rfl rfl (by decide) ?_
  clear hf; intro a ha hf; clear ha
  refine st_extract hf (by decide) rfl rfl rfl ?_
  clear hf; intro a ha hf; clear ha
  refine st_extract hf (by decide) rfl rfl rfl ?_
  clear hf; intro a ha hf; clear ha
  refine st_assign hf rfl rfl (by decide) ?_
  clear hf; intro a ha hf; clear ha
  refine st_assign hf rfl rfl (by decide) ?_
  clear hf; intro a ha hf; clear ha
  refine st_nil hf ?_
  refine th_n ?_
  refine wp_seq ?_
  refine wp_seq ?_
  refine wp_reg ?_
  refine st_move hf rfl rfl (by decide) ?_
  clear hf; intro a ha hf; clear ha
  refine st_ineq hf (by decide) rfl rfl rfl ?_
  clear hf; intro a ha hf; clear ha
  refine st_move hf rfl rfl (by decide) ?_
  clear hf; intro a ha hf; clear ha
  refine wpList_cut 6 (fun a w => Fr 56 a [(0, vp0), (1, vthere1), (7, v3), (26, .bool ((q1.2 != (0 : Int)) || ((there1.length : Int) != (p0.length : Int))))] ∧ Hp S w0 w (Res.sl (Ek.int .u8) 5 v3 q1.1 :: ow)) ?_ ?_
  · rcases Bool.eq_false_or_eq_true (q1.2 != (0 : Int)) with hb6 | hb6
    · skip
      refine st_skip hf (wantN hf rfl rfl hb6) rfl (by decide) ?_ rfl
      clear hf; intro a hf
      refine st_skip hf (wantN hf rfl rfl hb6) rfl (by decide) ?_ rfl
      clear hf; intro a hf
      refine st_skip hf (wantN hf rfl rfl hb6) rfl (by decide) ?_ rfl
      clear hf; intro a hf
      refine st_skip hf (wantN hf rfl rfl hb6) rfl (by decide) ?_ rfl
      clear hf; intro a hf
      refine st_skip hf (wantN hf rfl rfl hb6) rfl (by decide) ?_ rfl
      clear hf; intro a hf
      refine st_pick (v := .bool true) hf rfl rfl (fun hb' => ?_) (fun hb' => ?_) (by decide) ?_
      · rfl
      · exact absurd (hb6.symm.trans hb') (by decide)
      clear hf; intro a ha hf; clear ha
      refine st_nil hf (th_n ?_)
      exact ⟨hf.sub ⟨rfl, rfl, rfl, (by rw [hb6]; rfl), trivial⟩, hp⟩
    refine st_move hf (wantY hf rfl rfl hb6) rfl (by decide) ?_
    clear hf; intro a ha hf; clear ha
    refine st_len (E := Ek.bool) hf (by decide) Try.underlying27 (wantY hf rfl rfl hb6) rfl (hthere1.sl hp) ?_
    clear hf; intro a ha hf; clear ha
    refine st_move hf (wantY hf rfl rfl hb6) rfl (by decide) ?_
    clear hf; intro a ha hf; clear ha
    refine st_len (E := (Ek.int .u8)) hf (by decide) Try.underlying22 (wantY hf rfl rfl hb6) rfl (hp0.sl hp) ?_
    clear hf; intro a ha hf; clear ha
    refine st_ineq hf (by decide) (wantY hf rfl rfl hb6) rfl rfl ?_
    clear hf; intro a ha hf; clear ha
    refine st_pick (v := .bool ((there1.length : Int) != (p0.length : Int))) hf rfl rfl (fun hb' => ?_) (fun hb' => ?_) (by decide) ?_
    · exact absurd (hb6.symm.trans hb') (by decide)
    · rfl
    clear hf; intro a ha hf; clear ha
    refine st_nil hf (th_n ?_)
    exact ⟨hf.sub ⟨rfl, rfl, rfl, (by rw [hb6]; rfl), trivial⟩, hp⟩
  rintro a w ⟨hf, hp⟩
  refine st_nil hf ?_
  refine th_n ?_
  refine wp_if hf rfl (fun hb => ?_) (fun hb => ?_)
  · replace h := ifT h hb
    refine wp_seq ?_
    refine wp_reg ?_
    refine st_assign hf rfl rfl (by decide) ?_
    clear hf; intro a ha hf; clear ha
    refine st_assign hf rfl rfl (by decide) ?_
    clear hf; intro a ha hf; clear ha
    refine st_assign hf rfl rfl (by decide) ?_
    clear hf; intro a ha hf; clear ha
    refine st_nil hf ?_
    refine th_n ?_
    refine wp_ret ?_
    refine th_r ?_
    obtain rfl := Option.some.inj h
    have hp := hp.nil (Ek.int .u8) 5
    have hp := hp.nil Ek.bool 4
    have hp : Hp _ _ _ (Res.sl (Ek.int .u8) 5 (.slice none 0 0) ([]) :: Res.sl Ek.bool 4 (.slice none 0 0) ([]) :: ow) := Hp.sel (pre := [Res.sl Ek.bool 4 (.slice none 0 0) ([]), Res.sl (Ek.int .u8) 5 (.slice none 0 0) ([]), Res.sl (Ek.int .u8) 5 v3 q1.1]) (tail := ow) (rs' := [Res.sl (Ek.int .u8) 5 (.slice none 0 0) ([]), Res.sl Ek.bool 4 (.slice none 0 0) ([])]) hp [1, 0] (by decide) (by simp) rfl
    exact ⟨rfl, ⟨_, _, hf.sub ⟨rfl, rfl, rfl, trivial⟩, hp⟩⟩
  replace h := ifF h hb
  refine wp_skip ?_
  refine th_n ?_
  refine wp_seq ?_
  refine wp_reg ?_
  refine st_move hf rfl rfl (by decide) ?_
  clear hf; intro a ha hf; clear ha
  refine st_len (E := (Ek.int .u8)) hf (by decide) Try.underlying22 rfl rfl (hp0.sl hp) ?_
  clear hf; intro a ha hf; clear ha
  obtain ⟨hc9, h⟩ := chk h
  refine st_make (E := Ek.bool) hf (by decide) elt4 Try.underlying27 (by decide) hp rfl rfl rfl hc9.1 hc9.2.1 hc9.2.2 ?_
  clear hf; intro a w v10 hf hp0; clear hp; have hp := hp0; clear hp0
  replace hp : Hp _ _ _ (Res.sl Ek.bool 4 v10 (List.replicate ((p0.length : Int)).toNat false) :: Res.sl (Ek.int .u8) 5 v3 q1.1 :: ow) := hp
  refine st_assign hf rfl rfl (by decide) ?_
  clear hf; intro a ha hf; clear ha
  refine st_nil hf ?_
  refine th_n ?_
  refine wp_seq ?_
  refine wp_reg ?_
  refine st_assign hf rfl rfl (by decide) ?_
  clear hf; intro a ha hf; clear ha
  refine st_nil hf ?_
  refine th_n ?_
  refine wp_seq ?_
  refine wp_seq ?_
  refine wp_reg ?_
  refine st_move hf rfl rfl (by decide) ?_
  clear hf; intro a ha hf; clear ha
  refine st_len (E := Ek.bool) hf (by decide) Try.underlying27 rfl rfl (hthere1.sl hp) ?_
  clear hf; intro a ha hf; clear ha
  refine st_move hf rfl rfl (by decide) ?_
  clear hf; intro a ha hf; clear ha
  refine st_nil hf ?_
  refine th_n ?_
  refine wp_block ?_
  obtain ⟨q26, hl, h⟩ := bnd h
  have hp : Hp _ _ _ (Res.sl (Ek.int .u8) 5 v3 q1.1 :: Res.sl Ek.bool 4 v10 (List.replicate ((p0.length : Int)).toNat false) :: ow) := Hp.sel (pre := [Res.sl Ek.bool 4 v10 (List.replicate ((p0.length : Int)).toNat false), Res.sl (Ek.int .u8) 5 v3 q1.1]) (tail := ow) (rs' := [Res.sl (Ek.int .u8) 5 v3 q1.1, Res.sl Ek.bool 4 v10 (List.replicate ((p0.length : Int)).toNat false)]) hp [1, 0] (by decide) (by simp) rfl
  refine wp_loop_pure (f := (f_turns_Marked.s1 there1)) (s := (q1.1, (List.replicate ((p0.length : Int)).toNat false), true, (0 : Int))) (fun s a w => ∃ (v12 : Value) (v14 : Value), Fr 56 a [(7, v12), (9, v14), (10, .bool s.2.2.1), (30, vthere1), (31, .int .i64 (there1.length : Int)), (32, .int .i64 s.2.2.2)] ∧ Hp S w0 w (Res.sl (Ek.int .u8) 5 v12 s.1 :: Res.sl Ek.bool 4 v14 s.2.1 :: ow)) (fun q e a w => e = .exit 0 ∧ ∃ (v16 : Value) (v18 : Value), Fr 56 a [(7, v16), (9, v18)] ∧ Hp S w0 w (Res.sl (Ek.int .u8) 5 v16 q.1 :: Res.sl Ek.bool 4 v18 q.2 :: ow)) ?_ hl ⟨_, _, hf.sub ⟨rfl, rfl, rfl, rfl, rfl, rfl, trivial⟩, hp⟩ ?_
  · clear hl hf hp
    intro s x a w h hI
    obtain ⟨qx7, marks9, last10, t32⟩ := s
    obtain ⟨v12, v14, hf, hp⟩ : ∃ (v12 : Value) (v14 : Value), Fr 56 a [(7, v12), (9, v14), (10, .bool last10), (30, vthere1), (31, .int .i64 (there1.length : Int)), (32, .int .i64 t32)] ∧ Hp S w0 w (Res.sl (Ek.int .u8) 5 v12 qx7 :: Res.sl Ek.bool 4 v14 marks9 :: ow) := hI
    replace h : f_turns_Marked.s1c there1 qx7 marks9 last10 t32 = some x := h
    unfold f_turns_Marked.s1c at h
    refine wp_seq ?_
    refine wp_reg ?_
    refine st_ilss hf (by decide) rfl rfl rfl ?_
    clear hf; intro a ha hf; clear ha
    refine st_nil hf ?_
    refine th_n ?_
    refine wp_seq ?_
    refine wp_if hf rfl (fun hb => ?_) (fun hb => ?_)
    · replace h := ifT h hb
      refine wp_skip ?_
      refine th_n ?_
      refine wp_seq ?_
      refine wp_block ?_
      refine wp_seq ?_
      refine wp_reg ?_
      refine st_move hf rfl rfl (by decide) ?_
      clear hf; intro a ha hf; clear ha
      obtain ⟨hc20, h⟩ := chk h
      refine st_index (E := Ek.bool) hf (by decide) Try.underlying27 elt4 rfl rfl rfl (hthere1.sl hp) hc20.1 hc20.2 ?_
      clear hf; intro a ha hf; clear ha
      refine st_ldB hf (by decide) pl4 rfl rfl (hthere1.sl hp) hc20.1 hc20.2 ?_
      clear hf; intro a ha hf; clear ha
      refine st_assign hf rfl rfl (by decide) ?_
      clear hf; intro a ha hf; clear ha
      refine st_assign hf rfl rfl (by decide) ?_
      clear hf; intro a ha hf; clear ha
      refine st_nil hf ?_
      refine th_n ?_
      refine wp_seq ?_
      refine wp_reg ?_
      refine st_move hf rfl rfl (by decide) ?_
      clear hf; intro a ha hf; clear ha
      refine st_move hf rfl rfl (by decide) ?_
      clear hf; intro a ha hf; clear ha
      refine st_move hf rfl rfl (by decide) ?_
      clear hf; intro a ha hf; clear ha
      refine st_move hf rfl rfl (by decide) ?_
      clear hf; intro a ha hf; clear ha
      refine wpList_cut 2 (fun a w => Fr 56 a [(7, v12), (9, v14), (11, .int .i64 t32), (12, .bool (gt there1 t32)), (30, vthere1), (31, .int .i64 (there1.length : Int)), (32, .int .i64 t32), (37, v14), (38, .int .i64 t32), (42, .bool ((gt there1 t32) && last10))] ∧ Hp S w0 w (Res.sl (Ek.int .u8) 5 v12 qx7 :: Res.sl Ek.bool 4 v14 marks9 :: ow)) ?_ ?_
      · rcases Bool.eq_false_or_eq_true (gt there1 t32) with hb22 | hb22
        · skip
          refine st_move hf (wantY hf rfl rfl hb22) rfl (by decide) ?_
          clear hf; intro a ha hf; clear ha
          refine st_pick (v := .bool last10) hf rfl rfl (fun hb' => ?_) (fun hb' => ?_) (by decide) ?_
          · rfl
          · exact absurd (hb22.symm.trans hb') (by decide)
          clear hf; intro a ha hf; clear ha
          refine st_nil hf (th_n ?_)
          exact ⟨hf.sub ⟨rfl, rfl, rfl, rfl, rfl, rfl, rfl, rfl, rfl, (by rw [hb22]; rfl), trivial⟩, hp⟩
        refine st_skip hf (wantN hf rfl rfl hb22) rfl (by decide) ?_ rfl
        clear hf; intro a hf
        refine st_pick (v := .bool false) hf rfl rfl (fun hb' => ?_) (fun hb' => ?_) (by decide) ?_
        · exact absurd (hb22.symm.trans hb') (by decide)
        · rfl
        clear hf; intro a ha hf; clear ha
        refine st_nil hf (th_n ?_)
        exact ⟨hf.sub ⟨rfl, rfl, rfl, rfl, rfl, rfl, rfl, rfl, rfl, (by rw [hb22]; rfl), trivial⟩, hp⟩
      rintro a w ⟨hf, hp⟩
      obtain ⟨hc23, h⟩ := chk h
      refine st_index (E := Ek.bool) hf (by decide) Try.underlying27 elt4 rfl rfl rfl (hp.sl (i := 1) rfl) hc23.1 hc23.2 ?_
      clear hf; intro a ha hf; clear ha
      refine st_store (E := Ek.bool) hf elt4 hp (i := 1) rfl rfl rfl rfl rfl hc23.1 hc23.2 ?_
      clear hf; intro a w hf hp0; clear hp; have hp := hp0; clear hp0
      replace hp : Hp _ _ _ (Res.sl (Ek.int .u8) 5 v12 qx7 :: Res.sl Ek.bool 4 v14 (marks9.set (t32).toNat ((gt there1 t32) && last10)) :: ow) := hp
      refine st_nil hf ?_
      refine th_n ?_
      refine wp_seq ?_
      refine wp_reg ?_
      refine st_move hf rfl rfl (by decide) ?_
      clear hf; intro a ha hf; clear ha
      refine st_assign hf rfl rfl (by decide) ?_
      clear hf; intro a ha hf; clear ha
      refine st_nil hf ?_
      refine th_n ?_
      refine wp_seq ?_
      refine wp_reg ?_
      refine st_move hf rfl rfl (by decide) ?_
      clear hf; intro a ha hf; clear ha
      refine st_move hf rfl rfl (by decide) ?_
      clear hf; intro a ha hf; clear ha
      obtain ⟨hc24, h⟩ := chk h
      refine st_index (E := Ek.bool) hf (by decide) Try.underlying27 elt4 rfl rfl rfl (hp.sl (i := 1) rfl) hc24.1 hc24.2 ?_
      clear hf; intro a ha hf; clear ha
      refine st_ldB hf (by decide) pl4 rfl rfl (hp.sl (i := 1) rfl) hc24.1 hc24.2 ?_
      clear hf; intro a ha hf; clear ha
      refine st_not hf (by decide) rfl rfl ?_
      clear hf; intro a ha hf; clear ha
      refine st_nil hf ?_
      refine th_n ?_
      refine wp_if hf rfl (fun hb => ?_) (fun hb => ?_)
      · replace h := ifT h hb
        refine wp_reg ?_
        refine st_move hf rfl rfl (by decide) ?_
        clear hf; intro a ha hf; clear ha
        refine st_move hf rfl rfl (by decide) ?_
        clear hf; intro a ha hf; clear ha
        obtain ⟨hc25, h⟩ := chk h
        refine st_index (E := (Ek.int .u8)) hf (by decide) Try.underlying22 elt5 rfl rfl rfl (hp.sl (i := 0) rfl) hc25.1 hc25.2 ?_
        clear hf; intro a ha hf; clear ha
        refine st_store (E := (Ek.int .u8)) hf elt5 hp (i := 0) rfl rfl rfl rfl rfl hc25.1 hc25.2 ?_
        clear hf; intro a w hf hp0; clear hp; have hp := hp0; clear hp0
        replace hp : Hp _ _ _ (Res.sl (Ek.int .u8) 5 v12 (qx7.set (t32).toNat (0 : Int)) :: Res.sl Ek.bool 4 v14 (marks9.set (t32).toNat ((gt there1 t32) && last10)) :: ow) := hp
        refine st_nil hf ?_
        refine ib_n ?_
        refine th_n ?_
        refine wp_reg ?_
        refine st_iadd hf (by decide) rfl rfl rfl ?_
        clear hf; intro a ha hf; clear ha
        refine st_move hf rfl rfl (by decide) ?_
        clear hf; intro a ha hf; clear ha
        refine st_nil hf ?_
        obtain rfl := Option.some.inj h
        exact rnd_l ⟨_, _, hf.sub ⟨rfl, rfl, rfl, rfl, rfl, rfl, trivial⟩, hp⟩
      replace h := ifF h hb
      refine wp_skip ?_
      refine ib_n ?_
      refine th_n ?_
      refine wp_reg ?_
      refine st_iadd hf (by decide) rfl rfl rfl ?_
      clear hf; intro a ha hf; clear ha
      refine st_move hf rfl rfl (by decide) ?_
      clear hf; intro a ha hf; clear ha
      refine st_nil hf ?_
      obtain rfl := Option.some.inj h
      exact rnd_l ⟨_, _, hf.sub ⟨rfl, rfl, rfl, rfl, rfl, rfl, trivial⟩, hp⟩
    replace h := ifF h hb
    refine wp_exit ?_
    refine th_e ?_
    obtain rfl := Option.some.inj h
    exact rnd_r (by simp) ⟨rfl, _, _, hf.sub ⟨rfl, rfl, trivial⟩, hp⟩
  clear hl hf hp
  intro e a w hne hO
  obtain ⟨rfl, v16, v18, hf, hp⟩ := hO
  refine ib_same ?_
  refine th_n ?_
  refine wp_seq ?_
  refine wp_reg ?_
  refine st_move hf rfl rfl (by decide) ?_
  clear hf; intro a ha hf; clear ha
  refine st_move hf rfl rfl (by decide) ?_
  clear hf; intro a ha hf; clear ha
  refine st_assign hf rfl rfl (by decide) ?_
  clear hf; intro a ha hf; clear ha
  refine st_assign hf rfl rfl (by decide) ?_
  clear hf; intro a ha hf; clear ha
  refine st_assign hf rfl rfl (by decide) ?_
  clear hf; intro a ha hf; clear ha
  refine st_nil hf ?_
  refine th_n ?_
  refine wp_ret ?_
  obtain rfl := Option.some.inj h
  exact ⟨rfl, ⟨_, _, hf.sub ⟨rfl, rfl, rfl, trivial⟩, hp⟩⟩

noncomputable def f_foghornref06_Marked.s1c (p0 : (List Int)) (there1 : (List Bool)) (qx7 : (List Int)) (marks9 : (List Bool)) (i10 : Int) : Option (((List Int) × (List Bool) × Int) ⊕ ((List Int) × (List Bool))) := (if (decide (i10 < (p0.length : Int))) = true then (if 0 ≤ i10 ∧ i10 < (there1.length : Int) then ((if (gt there1 i10) = true then ((if (i10 == (0 : Int)) = true then (some true) else (if 0 ≤ (IntKind.i64.wrap (i10 - (1 : Int))) ∧ (IntKind.i64.wrap (i10 - (1 : Int))) < (there1.length : Int) then (some (gt there1 (IntKind.i64.wrap (i10 - (1 : Int))))) else none)).bind fun z23 => (some z23)) else (some false)).bind fun z20 => (if (!z20) = true then (if 0 ≤ i10 ∧ i10 < (qx7.length : Int) then (if (marks9.length + ([z20]).length) * 1 ≤ 140737488355328 then (some (Sum.inl ((qx7.set (i10).toNat (0 : Int)), (marks9 ++ [z20]), (IntKind.i64.wrap (i10 + (1 : Int)))))) else none) else none) else (if (marks9.length + ([z20]).length) * 1 ≤ 140737488355328 then (some (Sum.inl (qx7, (marks9 ++ [z20]), (IntKind.i64.wrap (i10 + (1 : Int)))))) else none))) else none) else (some (Sum.inr (qx7, marks9))))
noncomputable def f_foghornref06_Marked.s1 (p0 : (List Int)) (there1 : (List Bool)) (s : ((List Int) × (List Bool) × Int)) : Option (((List Int) × (List Bool) × Int) ⊕ ((List Int) × (List Bool))) := f_foghornref06_Marked.s1c p0 there1 s.1 s.2.1 s.2.2
noncomputable def f_foghornref06_Marked (p0 : (List Int)) (there1 : (List Bool)) : Option ((List Int) × (List Bool) × Int) := ((f_foghornref06_Out p0).bind fun q1 => (if ((q1.2 != (0 : Int)) || ((there1.length : Int) != (p0.length : Int))) = true then (some ([], [], (1 : Int))) else ((loop (f_foghornref06_Marked.s1 p0 there1) (q1.1, [], (0 : Int))).bind (fun q34 => (some (q34.1, q34.2, (0 : Int)))))))
theorem f_foghornref06_Marked_c {S : Nat → Prop} {w0 w : World} {ow : List Res} (hp : Hp S w0 w ow) (vp0 : Value) (p0 : (List Int)) (hp0 : RdS (Ek.int .u8) S w0 vp0 p0) (vthere1 : Value) (there1 : (List Bool)) (hthere1 : RdS Ek.bool S w0 vthere1 there1) {r : ((List Int) × (List Bool) × Int)} (h : f_foghornref06_Marked p0 there1 = some r) :
    Calls Try.prog 39 #[vp0, vthere1] w (fun e w' => ∃ (u0 : Value) (u1 : Value), e = .returned (.tuple #[u0, u1, .int .i64 r.2.2]) ∧ Hp S w0 w' (Res.sl (Ek.int .u8) 5 u0 r.1 :: Res.sl Ek.bool 4 u1 r.2.1 :: ow)) := by
  unfold f_foghornref06_Marked at h
  refine enter (n := 58) (args := [vp0, vthere1]) Try.func39 rfl rfl (Nat.le_of_ble_eq_true rfl) fun a hf => ?_
  replace hf : Fr 58 a [(0, vp0), (1, vthere1)] := hf
  refine wp_mono (Q := fun e a w => e = .ret ∧ ∃ (u0 : Value) (u1 : Value), Fr 58 a [(4, u0), (5, u1), (6, .int .i64 r.2.2)] ∧ Hp S w0 w (Res.sl (Ek.int .u8) 5 u0 r.1 :: Res.sl Ek.bool 4 u1 r.2.1 :: ow)) ?_ ?_
  rotate_left
  · rintro e a w ⟨rfl, x0, x1, hf, hp⟩
    exact ret3 hf rfl rfl rfl rfl ⟨x0, x1, rfl, hp⟩
  refine wp_seq ?_
  refine wp_reg ?_
  refine st_assign hf rfl rfl (by decide) ?_
  clear hf; intro a ha hf; clear ha
  refine st_assign hf rfl rfl (by decide) ?_
  clear hf; intro a ha hf; clear ha
  refine st_assign hf rfl rfl (by decide) ?_
  clear hf; intro a ha hf; clear ha
  refine st_nil hf ?_
  refine th_n ?_
  refine wp_seq ?_
  refine wp_reg ?_
  refine st_move hf rfl rfl (by decide) ?_
  clear hf; intro a ha hf; clear ha
  obtain ⟨q1, hcall2, h⟩ := bnd h
  refine st_call hf (by decide) Try.func38 rfl rfl rfl rfl rfl (f_foghornref06_Out_c hp _ _ hp0 hcall2) ?_
  rintro _ w ⟨v3, rfl, hp0⟩
  clear hp; have hp := hp0; clear hp0
  replace hp : Hp _ _ _ (Res.sl (Ek.int .u8) 5 v3 q1.1 :: ow) := hp
  refine ⟨_, rfl, ?_⟩
  clear hf; intro a hf
  refine st_move hf rfl rfl (by decide) ?_
  clear hf; intro a ha hf; clear ha
  refine st_extract hf (by decide) rfl rfl rfl ?_
  clear hf; intro a ha hf; clear ha
  refine st_extract hf (by decide) rfl rfl rfl ?_
  clear hf; intro a ha hf; clear ha
  refine st_assign hf rfl rfl (by decide) ?_
  clear hf; intro a ha hf; clear ha
  refine st_assign hf rfl rfl (by decide) ?_
  clear hf; intro a ha hf; clear ha
  refine st_nil hf ?_
  refine th_n ?_
  refine wp_seq ?_
  refine wp_seq ?_
  refine wp_reg ?_
  refine st_move hf rfl rfl (by decide) ?_
  clear hf; intro a ha hf; clear ha
  refine st_ineq hf (by decide) rfl rfl rfl ?_
  clear hf; intro a ha hf; clear ha
  refine st_move hf rfl rfl (by decide) ?_
  clear hf; intro a ha hf; clear ha
  refine wpList_cut 6 (fun a w => Fr 58 a [(0, vp0), (1, vthere1), (7, v3), (25, .bool ((q1.2 != (0 : Int)) || ((there1.length : Int) != (p0.length : Int))))] ∧ Hp S w0 w (Res.sl (Ek.int .u8) 5 v3 q1.1 :: ow)) ?_ ?_
  · rcases Bool.eq_false_or_eq_true (q1.2 != (0 : Int)) with hb6 | hb6
    · skip
      refine st_skip hf (wantN hf rfl rfl hb6) rfl (by decide) ?_ rfl
      clear hf; intro a hf
      refine st_skip hf (wantN hf rfl rfl hb6) rfl (by decide) ?_ rfl
      clear hf; intro a hf
      refine st_skip hf (wantN hf rfl rfl hb6) rfl (by decide) ?_ rfl
      clear hf; intro a hf
      refine st_skip hf (wantN hf rfl rfl hb6) rfl (by decide) ?_ rfl
      clear hf; intro a hf
      refine st_skip hf (wantN hf rfl rfl hb6) rfl (by decide) ?_ rfl
      clear hf; intro a hf
      refine st_pick (v := .bool true) hf rfl rfl (fun hb' => ?_) (fun hb' => ?_) (by decide) ?_
      · rfl
      · exact absurd (hb6.symm.trans hb') (by decide)
      clear hf; intro a ha hf; clear ha
      refine st_nil hf (th_n ?_)
      exact ⟨hf.sub ⟨rfl, rfl, rfl, (by rw [hb6]; rfl), trivial⟩, hp⟩
    refine st_move hf (wantY hf rfl rfl hb6) rfl (by decide) ?_
    clear hf; intro a ha hf; clear ha
    refine st_len (E := Ek.bool) hf (by decide) Try.underlying27 (wantY hf rfl rfl hb6) rfl (hthere1.sl hp) ?_
    clear hf; intro a ha hf; clear ha
    refine st_move hf (wantY hf rfl rfl hb6) rfl (by decide) ?_
    clear hf; intro a ha hf; clear ha
    refine st_len (E := (Ek.int .u8)) hf (by decide) Try.underlying22 (wantY hf rfl rfl hb6) rfl (hp0.sl hp) ?_
    clear hf; intro a ha hf; clear ha
    refine st_ineq hf (by decide) (wantY hf rfl rfl hb6) rfl rfl ?_
    clear hf; intro a ha hf; clear ha
    refine st_pick (v := .bool ((there1.length : Int) != (p0.length : Int))) hf rfl rfl (fun hb' => ?_) (fun hb' => ?_) (by decide) ?_
    · exact absurd (hb6.symm.trans hb') (by decide)
    · rfl
    clear hf; intro a ha hf; clear ha
    refine st_nil hf (th_n ?_)
    exact ⟨hf.sub ⟨rfl, rfl, rfl, (by rw [hb6]; rfl), trivial⟩, hp⟩
  rintro a w ⟨hf, hp⟩
  refine st_nil hf ?_
  refine th_n ?_
  refine wp_if hf rfl (fun hb => ?_) (fun hb => ?_)
  · replace h := ifT h hb
    refine wp_seq ?_
    refine wp_reg ?_
    refine st_assign hf rfl rfl (by decide) ?_
    clear hf; intro a ha hf; clear ha
    refine st_assign hf rfl rfl (by decide) ?_
    clear hf; intro a ha hf; clear ha
    refine st_assign hf rfl rfl (by decide) ?_
    clear hf; intro a ha hf; clear ha
    refine st_nil hf ?_
    refine th_n ?_
    refine wp_ret ?_
    refine th_r ?_
    obtain rfl := Option.some.inj h
    have hp := hp.nil (Ek.int .u8) 5
    have hp := hp.nil Ek.bool 4
    have hp : Hp _ _ _ (Res.sl (Ek.int .u8) 5 (.slice none 0 0) ([]) :: Res.sl Ek.bool 4 (.slice none 0 0) ([]) :: ow) := Hp.sel (pre := [Res.sl Ek.bool 4 (.slice none 0 0) ([]), Res.sl (Ek.int .u8) 5 (.slice none 0 0) ([]), Res.sl (Ek.int .u8) 5 v3 q1.1]) (tail := ow) (rs' := [Res.sl (Ek.int .u8) 5 (.slice none 0 0) ([]), Res.sl Ek.bool 4 (.slice none 0 0) ([])]) hp [1, 0] (by decide) (by simp) rfl
    exact ⟨rfl, ⟨_, _, hf.sub ⟨rfl, rfl, rfl, trivial⟩, hp⟩⟩
  replace h := ifF h hb
  refine wp_skip ?_
  refine th_n ?_
  refine wp_seq ?_
  refine wp_reg ?_
  refine st_assign hf rfl rfl (by decide) ?_
  clear hf; intro a ha hf; clear ha
  refine st_nil hf ?_
  refine th_n ?_
  refine wp_seq ?_
  refine wp_seq ?_
  refine wp_reg ?_
  refine st_assign hf rfl rfl (by decide) ?_
  clear hf; intro a ha hf; clear ha
  refine st_nil hf ?_
  refine th_n ?_
  refine wp_block ?_
  obtain ⟨q34, hl, h⟩ := bnd h
  have hp := hp.nil Ek.bool 4
  have hp : Hp _ _ _ (Res.sl (Ek.int .u8) 5 v3 q1.1 :: Res.sl Ek.bool 4 (.slice none 0 0) ([]) :: ow) := Hp.sel (pre := [Res.sl Ek.bool 4 (.slice none 0 0) ([]), Res.sl (Ek.int .u8) 5 v3 q1.1]) (tail := ow) (rs' := [Res.sl (Ek.int .u8) 5 v3 q1.1, Res.sl Ek.bool 4 (.slice none 0 0) ([])]) hp [1, 0] (by decide) (by simp) rfl
  refine wp_loop_pure (f := (f_foghornref06_Marked.s1 p0 there1)) (s := (q1.1, [], (0 : Int))) (fun s a w => ∃ (v9 : Value) (v11 : Value), Fr 58 a [(0, vp0), (1, vthere1), (7, v9), (9, v11), (10, .int .i64 s.2.2)] ∧ Hp S w0 w (Res.sl (Ek.int .u8) 5 v9 s.1 :: Res.sl Ek.bool 4 v11 s.2.1 :: ow)) (fun q e a w => e = .exit 0 ∧ ∃ (v13 : Value) (v15 : Value), Fr 58 a [(7, v13), (9, v15)] ∧ Hp S w0 w (Res.sl (Ek.int .u8) 5 v13 q.1 :: Res.sl Ek.bool 4 v15 q.2 :: ow)) ?_ hl ⟨_, _, hf.sub ⟨rfl, rfl, rfl, rfl, rfl, trivial⟩, hp⟩ ?_
  · clear hl hf hp
    intro s x a w h hI
    obtain ⟨qx7, marks9, i10⟩ := s
    obtain ⟨v9, v11, hf, hp⟩ : ∃ (v9 : Value) (v11 : Value), Fr 58 a [(0, vp0), (1, vthere1), (7, v9), (9, v11), (10, .int .i64 i10)] ∧ Hp S w0 w (Res.sl (Ek.int .u8) 5 v9 qx7 :: Res.sl Ek.bool 4 v11 marks9 :: ow) := hI
    replace h : f_foghornref06_Marked.s1c p0 there1 qx7 marks9 i10 = some x := h
    unfold f_foghornref06_Marked.s1c at h
    refine wp_seq ?_
    refine wp_seq ?_
    refine wp_reg ?_
    refine st_move hf rfl rfl (by decide) ?_
    clear hf; intro a ha hf; clear ha
    refine st_move hf rfl rfl (by decide) ?_
    clear hf; intro a ha hf; clear ha
    refine st_len (E := (Ek.int .u8)) hf (by decide) Try.underlying22 rfl rfl (hp0.sl hp) ?_
    clear hf; intro a ha hf; clear ha
    refine st_ilss hf (by decide) rfl rfl rfl ?_
    clear hf; intro a ha hf; clear ha
    refine st_nil hf ?_
    refine th_n ?_
    refine wp_if hf rfl (fun hb => ?_) (fun hb => ?_)
    · replace h := ifT h hb
      refine wp_skip ?_
      refine th_n ?_
      refine wp_seq ?_
      refine wp_block ?_
      refine wp_seq ?_
      refine wp_reg ?_
      refine st_move hf rfl rfl (by decide) ?_
      clear hf; intro a ha hf; clear ha
      refine st_move hf rfl rfl (by decide) ?_
      clear hf; intro a ha hf; clear ha
      obtain ⟨hc17, h⟩ := chk h
      refine st_index (E := Ek.bool) hf (by decide) Try.underlying27 elt4 rfl rfl rfl (hthere1.sl hp) hc17.1 hc17.2 ?_
      clear hf; intro a ha hf; clear ha
      refine st_ldB hf (by decide) pl4 rfl rfl (hthere1.sl hp) hc17.1 hc17.2 ?_
      clear hf; intro a ha hf; clear ha
      refine st_move hf rfl rfl (by decide) ?_
      clear hf; intro a ha hf; clear ha
      obtain ⟨z20, hz18, h⟩ := bnd h
      refine wpList_cut 10 (fun a w => Fr 58 a [(0, vp0), (1, vthere1), (7, v9), (9, v11), (10, .int .i64 i10), (46, .bool z20)] ∧ Hp S w0 w (Res.sl (Ek.int .u8) 5 v9 qx7 :: Res.sl Ek.bool 4 v11 marks9 :: ow)) ?_ ?_
      · rcases Bool.eq_false_or_eq_true (gt there1 i10) with hb19 | hb19
        · skip
          replace hz18 := ifT hz18 hb19
          refine st_move hf (wantY hf rfl rfl hb19) rfl (by decide) ?_
          clear hf; intro a ha hf; clear ha
          refine st_ieql hf (by decide) (wantY hf rfl rfl hb19) rfl rfl ?_
          clear hf; intro a ha hf; clear ha
          refine st_move hf (wantY hf rfl rfl hb19) rfl (by decide) ?_
          clear hf; intro a ha hf; clear ha
          obtain ⟨z23, hz21, hz18⟩ := bnd hz18
          refine wpList_cut 6 (fun a w => Fr 58 a [(0, vp0), (1, vthere1), (7, v9), (9, v11), (10, .int .i64 i10), (36, .bool (gt there1 i10)), (45, .bool z23)] ∧ Hp S w0 w (Res.sl (Ek.int .u8) 5 v9 qx7 :: Res.sl Ek.bool 4 v11 marks9 :: ow)) ?_ ?_
          · rcases Bool.eq_false_or_eq_true (i10 == (0 : Int)) with hb22 | hb22
            · skip
              replace hz21 := ifT hz21 hb22
              refine st_skip hf (wantN hf rfl rfl hb22) rfl (by decide) ?_ rfl
              clear hf; intro a hf
              refine st_skip hf (wantN hf rfl rfl hb22) rfl (by decide) ?_ rfl
              clear hf; intro a hf
              refine st_skip hf (wantN hf rfl rfl hb22) rfl (by decide) ?_ rfl
              clear hf; intro a hf
              refine st_skip hf (wantN hf rfl rfl hb22) rfl (by decide) ?_ rfl
              clear hf; intro a hf
              refine st_skip hf (wantN hf rfl rfl hb22) rfl (by decide) ?_ rfl
              clear hf; intro a hf
              obtain rfl := Option.some.inj hz21
              refine st_pick (v := .bool true) hf (wantY hf rfl rfl hb19) rfl (fun hb' => ?_) (fun hb' => ?_) (by decide) ?_
              · rfl
              · exact absurd (hb22.symm.trans hb') (by decide)
              clear hf; intro a ha hf; clear ha
              refine st_nil hf (th_n ?_)
              exact ⟨hf.sub ⟨rfl, rfl, rfl, rfl, rfl, rfl, rfl, trivial⟩, hp⟩
            replace hz21 := ifF hz21 hb22
            refine st_move hf (wantY hf rfl rfl hb22) rfl (by decide) ?_
            clear hf; intro a ha hf; clear ha
            refine st_move hf (wantY hf rfl rfl hb22) rfl (by decide) ?_
            clear hf; intro a ha hf; clear ha
            refine st_isub hf (by decide) (wantY hf rfl rfl hb22) rfl rfl ?_
            clear hf; intro a ha hf; clear ha
            obtain ⟨hc24, hz21⟩ := chk hz21
            refine st_index (E := Ek.bool) hf (by decide) Try.underlying27 elt4 (wantY hf rfl rfl hb22) rfl rfl (hthere1.sl hp) hc24.1 hc24.2 ?_
            clear hf; intro a ha hf; clear ha
            refine st_ldB hf (by decide) pl4 (wantY hf rfl rfl hb22) rfl (hthere1.sl hp) hc24.1 hc24.2 ?_
            clear hf; intro a ha hf; clear ha
            obtain rfl := Option.some.inj hz21
            refine st_pick (v := .bool (gt there1 (IntKind.i64.wrap (i10 - (1 : Int))))) hf (wantY hf rfl rfl hb19) rfl (fun hb' => ?_) (fun hb' => ?_) (by decide) ?_
            · exact absurd (hb22.symm.trans hb') (by decide)
            · rfl
            clear hf; intro a ha hf; clear ha
            refine st_nil hf (th_n ?_)
            exact ⟨hf.sub ⟨rfl, rfl, rfl, rfl, rfl, rfl, rfl, trivial⟩, hp⟩
          rintro a w ⟨hf, hp⟩
          obtain rfl := Option.some.inj hz18
          refine st_pick (v := .bool z23) hf rfl rfl (fun hb' => ?_) (fun hb' => ?_) (by decide) ?_
          · rfl
          · exact absurd (hb19.symm.trans hb') (by decide)
          clear hf; intro a ha hf; clear ha
          refine st_nil hf (th_n ?_)
          exact ⟨hf.sub ⟨rfl, rfl, rfl, rfl, rfl, rfl, trivial⟩, hp⟩
        replace hz18 := ifF hz18 hb19
        refine st_skip hf (wantN hf rfl rfl hb19) rfl (by decide) ?_ rfl
        clear hf; intro a hf
        refine st_skip hf (wantN hf rfl rfl hb19) rfl (by decide) ?_ rfl
        clear hf; intro a hf
        refine st_skipU hf (wantN hf rfl rfl hb19) rfl (by decide) ?_
        clear hf; intro a hf
        refine st_skip hf (wantU hf rfl rfl) rfl (by decide) ?_ rfl
        clear hf; intro a hf
        refine st_skip hf (wantU hf rfl rfl) rfl (by decide) ?_ rfl
        clear hf; intro a hf
        refine st_skip hf (wantU hf rfl rfl) rfl (by decide) ?_ rfl
        clear hf; intro a hf
        refine st_skip hf (wantU hf rfl rfl) rfl (by decide) ?_ rfl
        clear hf; intro a hf
        refine st_skip hf (wantU hf rfl rfl) rfl (by decide) ?_ rfl
        clear hf; intro a hf
        refine st_skip hf (wantN hf rfl rfl hb19) rfl (by decide) ?_ rfl
        clear hf; intro a hf
        obtain rfl := Option.some.inj hz18
        refine st_pick (v := .bool false) hf rfl rfl (fun hb' => ?_) (fun hb' => ?_) (by decide) ?_
        · exact absurd (hb19.symm.trans hb') (by decide)
        · rfl
        clear hf; intro a ha hf; clear ha
        refine st_nil hf (th_n ?_)
        exact ⟨hf.sub ⟨rfl, rfl, rfl, rfl, rfl, rfl, trivial⟩, hp⟩
      rintro a w ⟨hf, hp⟩
      refine st_assign hf rfl rfl (by decide) ?_
      clear hf; intro a ha hf; clear ha
      refine st_nil hf ?_
      refine th_n ?_
      refine wp_seq ?_
      refine wp_seq ?_
      refine wp_reg ?_
      refine st_move hf rfl rfl (by decide) ?_
      clear hf; intro a ha hf; clear ha
      refine st_not hf (by decide) rfl rfl ?_
      clear hf; intro a ha hf; clear ha
      refine st_nil hf ?_
      refine th_n ?_
      refine wp_if hf rfl (fun hb => ?_) (fun hb => ?_)
      · replace h := ifT h hb
        refine wp_reg ?_
        refine st_move hf rfl rfl (by decide) ?_
        clear hf; intro a ha hf; clear ha
        refine st_move hf rfl rfl (by decide) ?_
        clear hf; intro a ha hf; clear ha
        obtain ⟨hc25, h⟩ := chk h
        refine st_index (E := (Ek.int .u8)) hf (by decide) Try.underlying22 elt5 rfl rfl rfl (hp.sl (i := 0) rfl) hc25.1 hc25.2 ?_
        clear hf; intro a ha hf; clear ha
        refine st_store (E := (Ek.int .u8)) hf elt5 hp (i := 0) rfl rfl rfl rfl rfl hc25.1 hc25.2 ?_
        clear hf; intro a w hf hp0; clear hp; have hp := hp0; clear hp0
        replace hp : Hp _ _ _ (Res.sl (Ek.int .u8) 5 v9 (qx7.set (i10).toNat (0 : Int)) :: Res.sl Ek.bool 4 v11 marks9 :: ow) := hp
        refine st_nil hf ?_
        refine th_n ?_
        refine wp_reg ?_
        refine st_move hf rfl rfl (by decide) ?_
        clear hf; intro a ha hf; clear ha
        refine st_move hf rfl rfl (by decide) ?_
        clear hf; intro a ha hf; clear ha
        refine st_build (E := Ek.bool) (xs := [z20]) hf (by decide) elt4 Try.underlying27 hp (vals := #[(0, .bool z20)]) (cells := #[.bool z20]) rfl (by simp [hf.ev (x := (Operand.tmp 53)) rfl]) (by decide) (by decide) (z := .bool false) (by kernel_rfl) (by kernel_rfl) rfl (reps_cons (cs := [.bool z20]) rfl (reps_nil _)) ?_
        clear hf; intro a w v26 hf hp0; clear hp; have hp := hp0; clear hp0
        replace hp : Hp _ _ _ (Res.sl Ek.bool 4 v26 ([z20]) :: Res.sl (Ek.int .u8) 5 v9 (qx7.set (i10).toNat (0 : Int)) :: Res.sl Ek.bool 4 v11 marks9 :: ow) := hp
        obtain ⟨hc28, h⟩ := chk h
        refine st_append (E := Ek.bool) hf (by decide) elt4 Try.underlying27 (by decide) hp (i := 2) rfl rfl rfl rfl (hp.sl (i := 0) rfl) hc28 ?_
        clear hf; intro a w v29 hf hp0; clear hp; have hp := hp0; clear hp0
        replace hp : Hp _ _ _ (Res.sl Ek.bool 4 v26 ([z20]) :: Res.sl (Ek.int .u8) 5 v9 (qx7.set (i10).toNat (0 : Int)) :: Res.sl Ek.bool 4 v29 (marks9 ++ [z20]) :: ow) := hp
        refine st_assign hf rfl rfl (by decide) ?_
        clear hf; intro a ha hf; clear ha
        refine st_nil hf ?_
        refine ib_n ?_
        refine th_n ?_
        refine wp_reg ?_
        refine st_move hf rfl rfl (by decide) ?_
        clear hf; intro a ha hf; clear ha
        refine st_iadd hf (by decide) rfl rfl rfl ?_
        clear hf; intro a ha hf; clear ha
        refine st_assign hf rfl rfl (by decide) ?_
        clear hf; intro a ha hf; clear ha
        refine st_nil hf ?_
        obtain rfl := Option.some.inj h
        have hp : Hp _ _ _ (Res.sl (Ek.int .u8) 5 v9 (qx7.set (i10).toNat (0 : Int)) :: Res.sl Ek.bool 4 v29 (marks9 ++ [z20]) :: ow) := Hp.sel (pre := [Res.sl Ek.bool 4 v26 ([z20]), Res.sl (Ek.int .u8) 5 v9 (qx7.set (i10).toNat (0 : Int)), Res.sl Ek.bool 4 v29 (marks9 ++ [z20])]) (tail := ow) (rs' := [Res.sl (Ek.int .u8) 5 v9 (qx7.set (i10).toNat (0 : Int)), Res.sl Ek.bool 4 v29 (marks9 ++ [z20])]) hp [1, 2] (by decide) (by simp) rfl
        exact rnd_l ⟨_, _, hf.sub ⟨rfl, rfl, rfl, rfl, rfl, trivial⟩, hp⟩
      replace h := ifF h hb
      refine wp_skip ?_
      refine th_n ?_
      refine wp_reg ?_
      refine st_move hf rfl rfl (by decide) ?_
      clear hf; intro a ha hf; clear ha
      refine st_move hf rfl rfl (by decide) ?_
      clear hf; intro a ha hf; clear ha
      refine st_build (E := Ek.bool) (xs := [z20]) hf (by decide) elt4 Try.underlying27 hp (vals := #[(0, .bool z20)]) (cells := #[.bool z20]) rfl (by simp [hf.ev (x := (Operand.tmp 53)) rfl]) (by decide) (by decide) (z := .bool false) (by kernel_rfl) (by kernel_rfl) rfl (reps_cons (cs := [.bool z20]) rfl (reps_nil _)) ?_
      clear hf; intro a w v30 hf hp0; clear hp; have hp := hp0; clear hp0
      replace hp : Hp _ _ _ (Res.sl Ek.bool 4 v30 ([z20]) :: Res.sl (Ek.int .u8) 5 v9 qx7 :: Res.sl Ek.bool 4 v11 marks9 :: ow) := hp
      obtain ⟨hc32, h⟩ := chk h
      refine st_append (E := Ek.bool) hf (by decide) elt4 Try.underlying27 (by decide) hp (i := 2) rfl rfl rfl rfl (hp.sl (i := 0) rfl) hc32 ?_
      clear hf; intro a w v33 hf hp0; clear hp; have hp := hp0; clear hp0
      replace hp : Hp _ _ _ (Res.sl Ek.bool 4 v30 ([z20]) :: Res.sl (Ek.int .u8) 5 v9 qx7 :: Res.sl Ek.bool 4 v33 (marks9 ++ [z20]) :: ow) := hp
      refine st_assign hf rfl rfl (by decide) ?_
      clear hf; intro a ha hf; clear ha
      refine st_nil hf ?_
      refine ib_n ?_
      refine th_n ?_
      refine wp_reg ?_
      refine st_move hf rfl rfl (by decide) ?_
      clear hf; intro a ha hf; clear ha
      refine st_iadd hf (by decide) rfl rfl rfl ?_
      clear hf; intro a ha hf; clear ha
      refine st_assign hf rfl rfl (by decide) ?_
      clear hf; intro a ha hf; clear ha
      refine st_nil hf ?_
      obtain rfl := Option.some.inj h
      have hp : Hp _ _ _ (Res.sl (Ek.int .u8) 5 v9 qx7 :: Res.sl Ek.bool 4 v33 (marks9 ++ [z20]) :: ow) := Hp.sel (pre := [Res.sl Ek.bool 4 v30 ([z20]), Res.sl (Ek.int .u8) 5 v9 qx7, Res.sl Ek.bool 4 v33 (marks9 ++ [z20])]) (tail := ow) (rs' := [Res.sl (Ek.int .u8) 5 v9 qx7, Res.sl Ek.bool 4 v33 (marks9 ++ [z20])]) hp [1, 2] (by decide) (by simp) rfl
      exact rnd_l ⟨_, _, hf.sub ⟨rfl, rfl, rfl, rfl, rfl, trivial⟩, hp⟩
    replace h := ifF h hb
    refine wp_exit ?_
    refine th_e ?_
    obtain rfl := Option.some.inj h
    exact rnd_r (by simp) ⟨rfl, _, _, hf.sub ⟨rfl, rfl, trivial⟩, hp⟩
  clear hl hf hp
  intro e a w hne hO
  obtain ⟨rfl, v13, v15, hf, hp⟩ := hO
  refine ib_same ?_
  refine th_n ?_
  refine wp_seq ?_
  refine wp_reg ?_
  refine st_move hf rfl rfl (by decide) ?_
  clear hf; intro a ha hf; clear ha
  refine st_move hf rfl rfl (by decide) ?_
  clear hf; intro a ha hf; clear ha
  refine st_assign hf rfl rfl (by decide) ?_
  clear hf; intro a ha hf; clear ha
  refine st_assign hf rfl rfl (by decide) ?_
  clear hf; intro a ha hf; clear ha
  refine st_assign hf rfl rfl (by decide) ?_
  clear hf; intro a ha hf; clear ha
  refine st_nil hf ?_
  refine th_n ?_
  refine wp_ret ?_
  obtain rfl := Option.some.inj h
  exact ⟨rfl, ⟨_, _, hf.sub ⟨rfl, rfl, rfl, trivial⟩, hp⟩⟩

noncomputable def f_foghornlaw06_truths.s1c (ax0 : (List Bool)) (bx1 : (List Bool)) (i5 : Int) : Option (Int ⊕ (Unit ⊕ Bool)) := (if (decide (i5 < (ax0.length : Int))) = true then (if 0 ≤ i5 ∧ i5 < (ax0.length : Int) then (if 0 ≤ i5 ∧ i5 < (bx1.length : Int) then (if ((gt ax0 i5) != (gt bx1 i5)) = true then (some (Sum.inr (Sum.inr false))) else (some (Sum.inl (IntKind.i64.wrap (i5 + (1 : Int)))))) else none) else none) else (some (Sum.inr (Sum.inl ()))))
noncomputable def f_foghornlaw06_truths.s1 (ax0 : (List Bool)) (bx1 : (List Bool)) (s : Int) : Option (Int ⊕ (Unit ⊕ Bool)) := f_foghornlaw06_truths.s1c ax0 bx1 s
noncomputable def f_foghornlaw06_truths (ax0 : (List Bool)) (bx1 : (List Bool)) : Option Bool := (if ((ax0.length : Int) != (bx1.length : Int)) = true then (some false) else ((loop (f_foghornlaw06_truths.s1 ax0 bx1) (0 : Int)).bind (fun q3 => sm q3 (fun q4 => (some true)) (fun q5 => (some q5)))))
theorem f_foghornlaw06_truths_c {S : Nat → Prop} {w0 w : World} {ow : List Res} (hp : Hp S w0 w ow) (vax0 : Value) (ax0 : (List Bool)) (hax0 : RdS Ek.bool S w0 vax0 ax0) (vbx1 : Value) (bx1 : (List Bool)) (hbx1 : RdS Ek.bool S w0 vbx1 bx1) {r : Bool} (h : f_foghornlaw06_truths ax0 bx1 = some r) :
    Calls Try.prog 16 #[vax0, vbx1] w (fun e w' => e = .returned (.bool r) ∧ Hp S w0 w' (ow)) := by
  unfold f_foghornlaw06_truths at h
  refine enter (n := 26) (args := [vax0, vbx1]) Try.func16 rfl rfl (Nat.le_of_ble_eq_true rfl) fun a hf => ?_
  replace hf : Fr 26 a [(0, vax0), (1, vbx1)] := hf
  refine wp_mono (Q := fun e a w => e = .ret ∧ Fr 26 a [(4, .bool r)] ∧ Hp S w0 w (ow)) ?_ ?_
  rotate_left
  · rintro e a w ⟨rfl, hf, hp⟩
    exact ret1 hf rfl rfl ⟨rfl, hp⟩
  refine wp_seq ?_
  refine wp_reg ?_
  refine st_assign hf rfl rfl (by decide) ?_
  clear hf; intro a ha hf; clear ha
  refine st_nil hf ?_
  refine th_n ?_
  refine wp_seq ?_
  refine wp_seq ?_
  refine wp_reg ?_
  refine st_move hf rfl rfl (by decide) ?_
  clear hf; intro a ha hf; clear ha
  refine st_len (E := Ek.bool) hf (by decide) Try.underlying27 rfl rfl (hax0.sl hp) ?_
  clear hf; intro a ha hf; clear ha
  refine st_move hf rfl rfl (by decide) ?_
  clear hf; intro a ha hf; clear ha
  refine st_len (E := Ek.bool) hf (by decide) Try.underlying27 rfl rfl (hbx1.sl hp) ?_
  clear hf; intro a ha hf; clear ha
  refine st_ineq hf (by decide) rfl rfl rfl ?_
  clear hf; intro a ha hf; clear ha
  refine st_nil hf ?_
  refine th_n ?_
  refine wp_if hf rfl (fun hb => ?_) (fun hb => ?_)
  · replace h := ifT h hb
    refine wp_seq ?_
    refine wp_reg ?_
    refine st_assign hf rfl rfl (by decide) ?_
    clear hf; intro a ha hf; clear ha
    refine st_nil hf ?_
    refine th_n ?_
    refine wp_ret ?_
    refine th_r ?_
    obtain rfl := Option.some.inj h
    exact ⟨rfl, ⟨hf.sub ⟨rfl, trivial⟩, hp⟩⟩
  replace h := ifF h hb
  refine wp_skip ?_
  refine th_n ?_
  refine wp_seq ?_
  refine wp_seq ?_
  refine wp_reg ?_
  refine st_assign hf rfl rfl (by decide) ?_
  clear hf; intro a ha hf; clear ha
  refine st_nil hf ?_
  refine th_n ?_
  refine wp_block ?_
  obtain ⟨q3, hl, h⟩ := bnd h
  refine wp_loop_pure (f := (f_foghornlaw06_truths.s1 ax0 bx1)) (s := (0 : Int)) (fun s a w => Fr 26 a [(0, vax0), (1, vbx1), (5, .int .i64 s)] ∧ Hp S w0 w (ow)) (fun q e a w => match q with | (Sum.inl q) => e = .exit 0 ∧ Fr 26 a [] ∧ Hp S w0 w (ow) | (Sum.inr q) => e = .ret ∧ Fr 26 a [(4, .bool q)] ∧ Hp S w0 w (ow)) ?_ hl ⟨hf.sub ⟨rfl, rfl, rfl, trivial⟩, hp⟩ ?_
  · clear hl hf hp
    intro s x a w h hI
    obtain ⟨i5, hs⟩ : ∃ z, z = s := ⟨s, rfl⟩; subst hs
    obtain ⟨hf, hp⟩ : Fr 26 a [(0, vax0), (1, vbx1), (5, .int .i64 i5)] ∧ Hp S w0 w (ow) := hI
    replace h : f_foghornlaw06_truths.s1c ax0 bx1 i5 = some x := h
    unfold f_foghornlaw06_truths.s1c at h
    refine wp_seq ?_
    refine wp_seq ?_
    refine wp_reg ?_
    refine st_move hf rfl rfl (by decide) ?_
    clear hf; intro a ha hf; clear ha
    refine st_move hf rfl rfl (by decide) ?_
    clear hf; intro a ha hf; clear ha
    refine st_len (E := Ek.bool) hf (by decide) Try.underlying27 rfl rfl (hax0.sl hp) ?_
    clear hf; intro a ha hf; clear ha
    refine st_ilss hf (by decide) rfl rfl rfl ?_
    clear hf; intro a ha hf; clear ha
    refine st_nil hf ?_
    refine th_n ?_
    refine wp_if hf rfl (fun hb => ?_) (fun hb => ?_)
    · replace h := ifT h hb
      refine wp_skip ?_
      refine th_n ?_
      refine wp_seq ?_
      refine wp_block ?_
      refine wp_seq ?_
      obtain ⟨hc1, h⟩ := chk h
      obtain ⟨hc2, h⟩ := chk h
      refine wp_cutN (fun a w => Fr 26 a [(0, vax0), (1, vbx1), (5, .int .i64 i5), (25, .bool ((gt ax0 i5) != (gt bx1 i5)))] ∧ Hp S w0 w (ow)) ?_ ?_
      · have hp := hp.same (Same.drew w)
        refine dr_begin' (fun a w => Fr 26 a [(0, vax0), (1, vbx1), (5, .int .i64 i5), (25, .bool ((gt ax0 i5) != (gt bx1 i5)))] ∧ Hp S w0 w (ow)) (fun w' => ∃ l, Hp S w0 w' l) [] (by kernel_rfl) ?_
        refine dr_take 0 (vax0) rfl (by kernel_rfl) (by kernel_rfl) (by kernel_rfl) (by kernel_rfl) rfl rfl hf (by decide) rfl (fun w hp => ?_) ⟨_, hp⟩ ?_
        · obtain ⟨_, hp⟩ := hp
          refine st_move hf rfl rfl (by decide) ?_
          clear hf; intro a ha hf
          exact st_nil hf (th_n ⟨ha, rfl⟩)
        clear hf; intro a hf
        refine dr_take 1 (.int .i64 i5) rfl (by kernel_rfl) (by kernel_rfl) (by kernel_rfl) (by kernel_rfl) rfl rfl hf (by decide) rfl (fun w hp => ?_) ⟨_, hp⟩ ?_
        · obtain ⟨_, hp⟩ := hp
          refine st_move hf rfl rfl (by decide) ?_
          clear hf; intro a ha hf
          exact st_nil hf (th_n ⟨ha, rfl⟩)
        clear hf; intro a hf
        refine dr_take 2 (eptr vax0 i5 1) rfl (by kernel_rfl) (by kernel_rfl) (by kernel_rfl) (by kernel_rfl) rfl rfl hf (by decide) rfl (fun w hp => ?_) ⟨_, hp⟩ ?_
        · obtain ⟨_, hp⟩ := hp
          refine st_index (E := Ek.bool) hf (by decide) Try.underlying27 elt4 rfl rfl rfl (hax0.sl hp) hc1.1 hc1.2 ?_
          clear hf; intro a ha hf
          exact st_nil hf (th_n ⟨ha, rfl⟩)
        clear hf; intro a hf
        refine dr_take 3 (.bool (gt ax0 i5)) rfl (by kernel_rfl) (by kernel_rfl) (by kernel_rfl) (by kernel_rfl) rfl rfl hf (by decide) rfl (fun w hp => ?_) ⟨_, hp⟩ ?_
        · obtain ⟨_, hp⟩ := hp
          refine st_ldB hf (by decide) pl4 rfl rfl (hax0.sl hp) hc1.1 hc1.2 ?_
          clear hf; intro a ha hf
          exact st_nil hf (th_n ⟨ha, rfl⟩)
        clear hf; intro a hf
        refine dr_take 4 (vbx1) rfl (by kernel_rfl) (by kernel_rfl) (by kernel_rfl) (by kernel_rfl) rfl rfl hf (by decide) rfl (fun w hp => ?_) ⟨_, hp⟩ ?_
        · obtain ⟨_, hp⟩ := hp
          refine st_move hf rfl rfl (by decide) ?_
          clear hf; intro a ha hf
          exact st_nil hf (th_n ⟨ha, rfl⟩)
        clear hf; intro a hf
        refine dr_take 5 (.int .i64 i5) rfl (by kernel_rfl) (by kernel_rfl) (by kernel_rfl) (by kernel_rfl) rfl rfl hf (by decide) rfl (fun w hp => ?_) ⟨_, hp⟩ ?_
        · obtain ⟨_, hp⟩ := hp
          refine st_move hf rfl rfl (by decide) ?_
          clear hf; intro a ha hf
          exact st_nil hf (th_n ⟨ha, rfl⟩)
        clear hf; intro a hf
        refine dr_take 6 (eptr vbx1 i5 1) rfl (by kernel_rfl) (by kernel_rfl) (by kernel_rfl) (by kernel_rfl) rfl rfl hf (by decide) rfl (fun w hp => ?_) ⟨_, hp⟩ ?_
        · obtain ⟨_, hp⟩ := hp
          refine st_index (E := Ek.bool) hf (by decide) Try.underlying27 elt4 rfl rfl rfl (hbx1.sl hp) hc2.1 hc2.2 ?_
          clear hf; intro a ha hf
          exact st_nil hf (th_n ⟨ha, rfl⟩)
        clear hf; intro a hf
        refine dr_take 7 (.bool (gt bx1 i5)) rfl (by kernel_rfl) (by kernel_rfl) (by kernel_rfl) (by kernel_rfl) rfl rfl hf (by decide) rfl (fun w hp => ?_) ⟨_, hp⟩ ?_
        · obtain ⟨_, hp⟩ := hp
          refine st_ldB hf (by decide) pl4 rfl rfl (hbx1.sl hp) hc2.1 hc2.2 ?_
          clear hf; intro a ha hf
          exact st_nil hf (th_n ⟨ha, rfl⟩)
        clear hf; intro a hf
        refine dr_take 8 (.bool ((gt ax0 i5) != (gt bx1 i5))) rfl (by kernel_rfl) (by kernel_rfl) (by kernel_rfl) (by kernel_rfl) rfl rfl hf (by decide) rfl (fun w hp => ?_) ⟨_, hp⟩ ?_
        · obtain ⟨_, hp⟩ := hp
          refine st_bneq hf (by decide) Try.underlying4 rfl rfl rfl ?_
          clear hf; intro a ha hf
          exact st_nil hf (th_n ⟨ha, rfl⟩)
        clear hf; intro a hf
        refine dr_end (by kernel_rfl) ?_ _
        exact ⟨hf.sub ⟨rfl, rfl, rfl, rfl, trivial⟩, hp⟩
      rintro a w ⟨hf, hp⟩
      refine th_n ?_
      refine wp_if hf rfl (fun hb => ?_) (fun hb => ?_)
      · replace h := ifT h hb
        refine wp_seq ?_
        refine wp_reg ?_
        refine st_assign hf rfl rfl (by decide) ?_
        clear hf; intro a ha hf; clear ha
        refine st_nil hf ?_
        refine th_n ?_
        refine wp_ret ?_
        refine ib_r ?_
        refine th_r ?_
        obtain rfl := Option.some.inj h
        exact rnd_r (by simp) ⟨rfl, ⟨hf.sub ⟨rfl, trivial⟩, hp⟩⟩
      replace h := ifF h hb
      refine wp_skip ?_
      refine ib_n ?_
      refine th_n ?_
      refine wp_reg ?_
      refine st_move hf rfl rfl (by decide) ?_
      clear hf; intro a ha hf; clear ha
      refine st_iadd hf (by decide) rfl rfl rfl ?_
      clear hf; intro a ha hf; clear ha
      refine st_assign hf rfl rfl (by decide) ?_
      clear hf; intro a ha hf; clear ha
      refine st_nil hf ?_
      obtain rfl := Option.some.inj h
      exact rnd_l ⟨hf.sub ⟨rfl, rfl, rfl, trivial⟩, hp⟩
    replace h := ifF h hb
    refine wp_exit ?_
    refine th_e ?_
    obtain rfl := Option.some.inj h
    exact rnd_r (by simp) ⟨rfl, hf.sub trivial, hp⟩
  clear hl hf hp
  intro e a w hne hO
  rcases q3 with q4 | q5
  · replace h := smL h
    obtain ⟨rfl, hf, hp⟩ := hO
    refine ib_same ?_
    refine th_n ?_
    refine wp_seq ?_
    refine wp_reg ?_
    refine st_assign hf rfl rfl (by decide) ?_
    clear hf; intro a ha hf; clear ha
    refine st_nil hf ?_
    refine th_n ?_
    refine wp_ret ?_
    obtain rfl := Option.some.inj h
    exact ⟨rfl, ⟨hf.sub ⟨rfl, trivial⟩, hp⟩⟩
  replace h := smR h
  obtain ⟨rfl, hf, hp⟩ := hO
  refine ib_r ?_
  refine th_r ?_
  obtain rfl := Option.some.inj h
  exact ⟨rfl, ⟨hf.sub ⟨rfl, trivial⟩, hp⟩⟩

noncomputable def f_turns_Bits.s1c (qx0 : (List Int)) (l4 : (List Bool)) (t18 : Int) : Option (((List Bool) × Int) ⊕ (List Bool)) := (if (decide (t18 < (qx0.length : Int))) = true then (if 0 ≤ t18 ∧ t18 < (qx0.length : Int) then (if (l4.length + ([(decide ((0 : Int) < (iand .u8 (gt qx0 t18) (2 : Int)))), (decide ((0 : Int) < (iand .u8 (ixor .u8 (gt qx0 t18) (ishr .u8 (gt qx0 t18) (1 : Int))) (1 : Int))))]).length) * 1 ≤ 140737488355328 then (some (Sum.inl ((l4 ++ [(decide ((0 : Int) < (iand .u8 (gt qx0 t18) (2 : Int)))), (decide ((0 : Int) < (iand .u8 (ixor .u8 (gt qx0 t18) (ishr .u8 (gt qx0 t18) (1 : Int))) (1 : Int))))]), (IntKind.i64.wrap (t18 + (1 : Int)))))) else none) else none) else (some (Sum.inr l4)))
noncomputable def f_turns_Bits.s1 (qx0 : (List Int)) (s : ((List Bool) × Int)) : Option (((List Bool) × Int) ⊕ (List Bool)) := f_turns_Bits.s1c qx0 s.1 s.2
noncomputable def f_turns_Bits (qx0 : (List Int)) : Option ((List Bool) × Int) := ((f_turns_row qx0).bind fun q1 => (if ((!q1) || (decide ((32768 : Int) < (IntKind.i64.wrap ((2 : Int) * (qx0.length : Int)))))) = true then (some ([], (1 : Int))) else ((loop (f_turns_Bits.s1 qx0) ([], (0 : Int))).bind (fun q15 => (some (q15, (0 : Int)))))))
theorem f_turns_Bits_c {S : Nat → Prop} {w0 w : World} {ow : List Res} (hp : Hp S w0 w ow) (vqx0 : Value) (qx0 : (List Int)) (hqx0 : RdS (Ek.int .u8) S w0 vqx0 qx0) {r : ((List Bool) × Int)} (h : f_turns_Bits qx0 = some r) :
    Calls Try.prog 11 #[vqx0] w (fun e w' => ∃ (u0 : Value), e = .returned (.tuple #[u0, .int .i64 r.2]) ∧ Hp S w0 w' (Res.sl Ek.bool 4 u0 r.1 :: ow)) := by
  unfold f_turns_Bits at h
  refine enter (n := 36) (args := [vqx0]) Try.func11 rfl rfl (Nat.le_of_ble_eq_true rfl) fun a hf => ?_
  replace hf : Fr 36 a [(0, vqx0)] := hf
  refine wp_mono (Q := fun e a w => e = .ret ∧ ∃ (u0 : Value), Fr 36 a [(2, u0), (3, .int .i64 r.2)] ∧ Hp S w0 w (Res.sl Ek.bool 4 u0 r.1 :: ow)) ?_ ?_
  rotate_left
  · rintro e a w ⟨rfl, x0, hf, hp⟩
    exact ret2 hf rfl rfl rfl ⟨x0, rfl, hp⟩
  refine wp_seq ?_
  refine wp_reg ?_
  refine st_assign hf rfl rfl (by decide) ?_
  clear hf; intro a ha hf; clear ha
  refine st_assign hf rfl rfl (by decide) ?_
  clear hf; intro a ha hf; clear ha
  refine st_nil hf ?_
  refine th_n ?_
  refine wp_seq ?_
  refine wp_seq ?_
  refine wp_reg ?_
  refine st_move hf rfl rfl (by decide) ?_
  clear hf; intro a ha hf; clear ha
  obtain ⟨q1, hcall2, h⟩ := bnd h
  refine st_call hf (by decide) Try.func36 rfl rfl rfl rfl rfl (f_turns_row_c hp _ _ hqx0 hcall2) ?_
  rintro _ w ⟨rfl, hp0⟩
  clear hp; have hp := hp0; clear hp0
  replace hp : Hp _ _ _ (ow) := hp
  refine ⟨_, rfl, ?_⟩
  clear hf; intro a hf
  refine st_not hf (by decide) rfl rfl ?_
  clear hf; intro a ha hf; clear ha
  refine st_move hf rfl rfl (by decide) ?_
  clear hf; intro a ha hf; clear ha
  refine wpList_cut 5 (fun a w => Fr 36 a [(0, vqx0), (15, .bool ((!q1) || (decide ((32768 : Int) < (IntKind.i64.wrap ((2 : Int) * (qx0.length : Int)))))))] ∧ Hp S w0 w (ow)) ?_ ?_
  · rcases Bool.eq_false_or_eq_true (!q1) with hb4 | hb4
    · skip
      refine st_skip hf (wantN hf rfl rfl hb4) rfl (by decide) ?_ rfl
      clear hf; intro a hf
      refine st_skip hf (wantN hf rfl rfl hb4) rfl (by decide) ?_ rfl
      clear hf; intro a hf
      refine st_skip hf (wantN hf rfl rfl hb4) rfl (by decide) ?_ rfl
      clear hf; intro a hf
      refine st_skip hf (wantN hf rfl rfl hb4) rfl (by decide) ?_ rfl
      clear hf; intro a hf
      refine st_pick (v := .bool true) hf rfl rfl (fun hb' => ?_) (fun hb' => ?_) (by decide) ?_
      · rfl
      · exact absurd (hb4.symm.trans hb') (by decide)
      clear hf; intro a ha hf; clear ha
      refine st_nil hf (th_n ?_)
      exact ⟨hf.sub ⟨rfl, (by rw [hb4]; rfl), trivial⟩, hp⟩
    refine st_move hf (wantY hf rfl rfl hb4) rfl (by decide) ?_
    clear hf; intro a ha hf; clear ha
    refine st_len (E := (Ek.int .u8)) hf (by decide) Try.underlying22 (wantY hf rfl rfl hb4) rfl (hqx0.sl hp) ?_
    clear hf; intro a ha hf; clear ha
    refine st_imul hf (by decide) (wantY hf rfl rfl hb4) rfl rfl ?_
    clear hf; intro a ha hf; clear ha
    refine st_igtr hf (by decide) (wantY hf rfl rfl hb4) rfl rfl ?_
    clear hf; intro a ha hf; clear ha
    refine st_pick (v := .bool (decide ((32768 : Int) < (IntKind.i64.wrap ((2 : Int) * (qx0.length : Int)))))) hf rfl rfl (fun hb' => ?_) (fun hb' => ?_) (by decide) ?_
    · exact absurd (hb4.symm.trans hb') (by decide)
    · rfl
    clear hf; intro a ha hf; clear ha
    refine st_nil hf (th_n ?_)
    exact ⟨hf.sub ⟨rfl, (by rw [hb4]; rfl), trivial⟩, hp⟩
  rintro a w ⟨hf, hp⟩
  refine st_nil hf ?_
  refine th_n ?_
  refine wp_if hf rfl (fun hb => ?_) (fun hb => ?_)
  · replace h := ifT h hb
    refine wp_seq ?_
    refine wp_reg ?_
    refine st_assign hf rfl rfl (by decide) ?_
    clear hf; intro a ha hf; clear ha
    refine st_assign hf rfl rfl (by decide) ?_
    clear hf; intro a ha hf; clear ha
    refine st_nil hf ?_
    refine th_n ?_
    refine wp_ret ?_
    refine th_r ?_
    obtain rfl := Option.some.inj h
    have hp := hp.nil Ek.bool 4
    exact ⟨rfl, ⟨_, hf.sub ⟨rfl, rfl, trivial⟩, hp⟩⟩
  replace h := ifF h hb
  refine wp_skip ?_
  refine th_n ?_
  refine wp_seq ?_
  refine wp_reg ?_
  refine st_assign hf rfl rfl (by decide) ?_
  clear hf; intro a ha hf; clear ha
  refine st_nil hf ?_
  refine th_n ?_
  refine wp_seq ?_
  refine wp_seq ?_
  refine wp_reg ?_
  refine st_move hf rfl rfl (by decide) ?_
  clear hf; intro a ha hf; clear ha
  refine st_len (E := (Ek.int .u8)) hf (by decide) Try.underlying22 rfl rfl (hqx0.sl hp) ?_
  clear hf; intro a ha hf; clear ha
  refine st_move hf rfl rfl (by decide) ?_
  clear hf; intro a ha hf; clear ha
  refine st_nil hf ?_
  refine th_n ?_
  refine wp_block ?_
  obtain ⟨q15, hl, h⟩ := bnd h
  have hp := hp.nil Ek.bool 4
  refine wp_loop_pure (f := (f_turns_Bits.s1 qx0)) (s := ([], (0 : Int))) (fun s a w => ∃ (v6 : Value), Fr 36 a [(4, v6), (16, vqx0), (17, .int .i64 (qx0.length : Int)), (18, .int .i64 s.2)] ∧ Hp S w0 w (Res.sl Ek.bool 4 v6 s.1 :: ow)) (fun q e a w => e = .exit 0 ∧ ∃ (v8 : Value), Fr 36 a [(4, v8)] ∧ Hp S w0 w (Res.sl Ek.bool 4 v8 q :: ow)) ?_ hl ⟨_, hf.sub ⟨rfl, rfl, rfl, rfl, trivial⟩, hp⟩ ?_
  · clear hl hf hp
    intro s x a w h hI
    obtain ⟨l4, t18⟩ := s
    obtain ⟨v6, hf, hp⟩ : ∃ (v6 : Value), Fr 36 a [(4, v6), (16, vqx0), (17, .int .i64 (qx0.length : Int)), (18, .int .i64 t18)] ∧ Hp S w0 w (Res.sl Ek.bool 4 v6 l4 :: ow) := hI
    replace h : f_turns_Bits.s1c qx0 l4 t18 = some x := h
    unfold f_turns_Bits.s1c at h
    refine wp_seq ?_
    refine wp_reg ?_
    refine st_ilss hf (by decide) rfl rfl rfl ?_
    clear hf; intro a ha hf; clear ha
    refine st_nil hf ?_
    refine th_n ?_
    refine wp_seq ?_
    refine wp_if hf rfl (fun hb => ?_) (fun hb => ?_)
    · replace h := ifT h hb
      refine wp_skip ?_
      refine th_n ?_
      refine wp_seq ?_
      refine wp_block ?_
      refine wp_seq ?_
      refine wp_reg ?_
      obtain ⟨hc10, h⟩ := chk h
      refine st_index (E := (Ek.int .u8)) hf (by decide) Try.underlying22 elt5 rfl rfl rfl (hqx0.sl hp) hc10.1 hc10.2 ?_
      clear hf; intro a ha hf; clear ha
      refine st_ldI hf (by decide) pl5 rfl rfl (hqx0.sl hp) hc10.1 hc10.2 ?_
      clear hf; intro a ha hf; clear ha
      refine st_assign hf rfl rfl (by decide) ?_
      clear hf; intro a ha hf; clear ha
      refine st_nil hf ?_
      refine th_n ?_
      refine wp_reg ?_
      refine st_move hf rfl rfl (by decide) ?_
      clear hf; intro a ha hf; clear ha
      refine st_move hf rfl rfl (by decide) ?_
      clear hf; intro a ha hf; clear ha
      refine st_iand hf (by decide) rfl rfl rfl ?_
      clear hf; intro a ha hf; clear ha
      refine st_igtr hf (by decide) rfl rfl rfl ?_
      clear hf; intro a ha hf; clear ha
      refine st_move hf rfl rfl (by decide) ?_
      clear hf; intro a ha hf; clear ha
      refine st_move hf rfl rfl (by decide) ?_
      clear hf; intro a ha hf; clear ha
      refine st_ishr hf (by decide) rfl rfl rfl (by decide) ?_
      clear hf; intro a ha hf; clear ha
      refine st_ixor hf (by decide) rfl rfl rfl ?_
      clear hf; intro a ha hf; clear ha
      refine st_iand hf (by decide) rfl rfl rfl ?_
      clear hf; intro a ha hf; clear ha
      refine st_igtr hf (by decide) rfl rfl rfl ?_
      clear hf; intro a ha hf; clear ha
      refine st_build (E := Ek.bool) (xs := [(decide ((0 : Int) < (iand .u8 (gt qx0 t18) (2 : Int)))), (decide ((0 : Int) < (iand .u8 (ixor .u8 (gt qx0 t18) (ishr .u8 (gt qx0 t18) (1 : Int))) (1 : Int))))]) hf (by decide) elt4 Try.underlying27 hp (vals := #[(0, .bool (decide ((0 : Int) < (iand .u8 (gt qx0 t18) (2 : Int))))), (1, .bool (decide ((0 : Int) < (iand .u8 (ixor .u8 (gt qx0 t18) (ishr .u8 (gt qx0 t18) (1 : Int))) (1 : Int)))))]) (cells := #[.bool (decide ((0 : Int) < (iand .u8 (gt qx0 t18) (2 : Int)))), .bool (decide ((0 : Int) < (iand .u8 (ixor .u8 (gt qx0 t18) (ishr .u8 (gt qx0 t18) (1 : Int))) (1 : Int))))]) rfl (by simp [hf.ev (x := (Operand.tmp 25)) rfl, hf.ev (x := (Operand.tmp 31)) rfl]) (by decide) (by decide) (z := .bool false) (by kernel_rfl) (by kernel_rfl) rfl (reps_cons (cs := [.bool (decide ((0 : Int) < (iand .u8 (gt qx0 t18) (2 : Int))))]) rfl (reps_cons (cs := [.bool (decide ((0 : Int) < (iand .u8 (ixor .u8 (gt qx0 t18) (ishr .u8 (gt qx0 t18) (1 : Int))) (1 : Int))))]) rfl (reps_nil _))) ?_
      clear hf; intro a w v11 hf hp0; clear hp; have hp := hp0; clear hp0
      replace hp : Hp _ _ _ (Res.sl Ek.bool 4 v11 ([(decide ((0 : Int) < (iand .u8 (gt qx0 t18) (2 : Int)))), (decide ((0 : Int) < (iand .u8 (ixor .u8 (gt qx0 t18) (ishr .u8 (gt qx0 t18) (1 : Int))) (1 : Int))))]) :: Res.sl Ek.bool 4 v6 l4 :: ow) := hp
      obtain ⟨hc13, h⟩ := chk h
      refine st_append (E := Ek.bool) hf (by decide) elt4 Try.underlying27 (by decide) hp (i := 1) rfl rfl rfl rfl (hp.sl (i := 0) rfl) hc13 ?_
      clear hf; intro a w v14 hf hp0; clear hp; have hp := hp0; clear hp0
      replace hp : Hp _ _ _ (Res.sl Ek.bool 4 v11 ([(decide ((0 : Int) < (iand .u8 (gt qx0 t18) (2 : Int)))), (decide ((0 : Int) < (iand .u8 (ixor .u8 (gt qx0 t18) (ishr .u8 (gt qx0 t18) (1 : Int))) (1 : Int))))]) :: Res.sl Ek.bool 4 v14 (l4 ++ [(decide ((0 : Int) < (iand .u8 (gt qx0 t18) (2 : Int)))), (decide ((0 : Int) < (iand .u8 (ixor .u8 (gt qx0 t18) (ishr .u8 (gt qx0 t18) (1 : Int))) (1 : Int))))]) :: ow) := hp
      refine st_assign hf rfl rfl (by decide) ?_
      clear hf; intro a ha hf; clear ha
      refine st_nil hf ?_
      refine ib_n ?_
      refine th_n ?_
      refine wp_reg ?_
      refine st_iadd hf (by decide) rfl rfl rfl ?_
      clear hf; intro a ha hf; clear ha
      refine st_move hf rfl rfl (by decide) ?_
      clear hf; intro a ha hf; clear ha
      refine st_nil hf ?_
      obtain rfl := Option.some.inj h
      have hp : Hp _ _ _ (Res.sl Ek.bool 4 v14 (l4 ++ [(decide ((0 : Int) < (iand .u8 (gt qx0 t18) (2 : Int)))), (decide ((0 : Int) < (iand .u8 (ixor .u8 (gt qx0 t18) (ishr .u8 (gt qx0 t18) (1 : Int))) (1 : Int))))]) :: ow) := Hp.sel (pre := [Res.sl Ek.bool 4 v11 ([(decide ((0 : Int) < (iand .u8 (gt qx0 t18) (2 : Int)))), (decide ((0 : Int) < (iand .u8 (ixor .u8 (gt qx0 t18) (ishr .u8 (gt qx0 t18) (1 : Int))) (1 : Int))))]), Res.sl Ek.bool 4 v14 (l4 ++ [(decide ((0 : Int) < (iand .u8 (gt qx0 t18) (2 : Int)))), (decide ((0 : Int) < (iand .u8 (ixor .u8 (gt qx0 t18) (ishr .u8 (gt qx0 t18) (1 : Int))) (1 : Int))))])]) (tail := ow) (rs' := [Res.sl Ek.bool 4 v14 (l4 ++ [(decide ((0 : Int) < (iand .u8 (gt qx0 t18) (2 : Int)))), (decide ((0 : Int) < (iand .u8 (ixor .u8 (gt qx0 t18) (ishr .u8 (gt qx0 t18) (1 : Int))) (1 : Int))))])]) hp [1] (by decide) (by simp) rfl
      exact rnd_l ⟨_, hf.sub ⟨rfl, rfl, rfl, rfl, trivial⟩, hp⟩
    replace h := ifF h hb
    refine wp_exit ?_
    refine th_e ?_
    obtain rfl := Option.some.inj h
    exact rnd_r (by simp) ⟨rfl, _, hf.sub ⟨rfl, trivial⟩, hp⟩
  clear hl hf hp
  intro e a w hne hO
  obtain ⟨rfl, v8, hf, hp⟩ := hO
  refine ib_same ?_
  refine th_n ?_
  refine wp_seq ?_
  refine wp_reg ?_
  refine st_move hf rfl rfl (by decide) ?_
  clear hf; intro a ha hf; clear ha
  refine st_assign hf rfl rfl (by decide) ?_
  clear hf; intro a ha hf; clear ha
  refine st_assign hf rfl rfl (by decide) ?_
  clear hf; intro a ha hf; clear ha
  refine st_nil hf ?_
  refine th_n ?_
  refine wp_ret ?_
  obtain rfl := Option.some.inj h
  exact ⟨rfl, ⟨_, hf.sub ⟨rfl, rfl, trivial⟩, hp⟩⟩

noncomputable def f_foghornref06_Bits.s1c (qx0 : (List Int)) (out4 : (List Bool)) (i5 : Int) : Option (((List Bool) × Int) ⊕ (List Bool)) := (if (decide (i5 < (qx0.length : Int))) = true then (if 0 ≤ i5 ∧ i5 < (qx0.length : Int) then (if 0 ≤ i5 ∧ i5 < (qx0.length : Int) then ((if ((gt qx0 i5) == (1 : Int)) = true then (some true) else (if 0 ≤ i5 ∧ i5 < (qx0.length : Int) then (some ((gt qx0 i5) == (2 : Int))) else none)).bind fun z15 => (if (out4.length + ([(decide ((2 : Int) ≤ (gt qx0 i5))), z15]).length) * 1 ≤ 140737488355328 then (some (Sum.inl ((out4 ++ [(decide ((2 : Int) ≤ (gt qx0 i5))), z15]), (IntKind.i64.wrap (i5 + (1 : Int)))))) else none)) else none) else none) else (some (Sum.inr out4)))
noncomputable def f_foghornref06_Bits.s1 (qx0 : (List Int)) (s : ((List Bool) × Int)) : Option (((List Bool) × Int) ⊕ (List Bool)) := f_foghornref06_Bits.s1c qx0 s.1 s.2
noncomputable def f_foghornref06_Bits (qx0 : (List Int)) : Option ((List Bool) × Int) := ((f_foghornref06_row qx0).bind fun q1 => (if ((!q1) || (decide ((32768 : Int) < (IntKind.i64.wrap ((2 : Int) * (qx0.length : Int)))))) = true then (some ([], (1 : Int))) else ((loop (f_foghornref06_Bits.s1 qx0) ([], (0 : Int))).bind (fun q20 => (some (q20, (0 : Int)))))))
theorem f_foghornref06_Bits_c {S : Nat → Prop} {w0 w : World} {ow : List Res} (hp : Hp S w0 w ow) (vqx0 : Value) (qx0 : (List Int)) (hqx0 : RdS (Ek.int .u8) S w0 vqx0 qx0) {r : ((List Bool) × Int)} (h : f_foghornref06_Bits qx0 = some r) :
    Calls Try.prog 40 #[vqx0] w (fun e w' => ∃ (u0 : Value), e = .returned (.tuple #[u0, .int .i64 r.2]) ∧ Hp S w0 w' (Res.sl Ek.bool 4 u0 r.1 :: ow)) := by
  unfold f_foghornref06_Bits at h
  refine enter (n := 42) (args := [vqx0]) Try.func40 rfl rfl (Nat.le_of_ble_eq_true rfl) fun a hf => ?_
  replace hf : Fr 42 a [(0, vqx0)] := hf
  refine wp_mono (Q := fun e a w => e = .ret ∧ ∃ (u0 : Value), Fr 42 a [(2, u0), (3, .int .i64 r.2)] ∧ Hp S w0 w (Res.sl Ek.bool 4 u0 r.1 :: ow)) ?_ ?_
  rotate_left
  · rintro e a w ⟨rfl, x0, hf, hp⟩
    exact ret2 hf rfl rfl rfl ⟨x0, rfl, hp⟩
  refine wp_seq ?_
  refine wp_reg ?_
  refine st_assign hf rfl rfl (by decide) ?_
  clear hf; intro a ha hf; clear ha
  refine st_assign hf rfl rfl (by decide) ?_
  clear hf; intro a ha hf; clear ha
  refine st_nil hf ?_
  refine th_n ?_
  refine wp_seq ?_
  refine wp_seq ?_
  refine wp_reg ?_
  refine st_move hf rfl rfl (by decide) ?_
  clear hf; intro a ha hf; clear ha
  obtain ⟨q1, hcall2, h⟩ := bnd h
  refine st_call hf (by decide) Try.func45 rfl rfl rfl rfl rfl (f_foghornref06_row_c hp _ _ hqx0 hcall2) ?_
  rintro _ w ⟨rfl, hp0⟩
  clear hp; have hp := hp0; clear hp0
  replace hp : Hp _ _ _ (ow) := hp
  refine ⟨_, rfl, ?_⟩
  clear hf; intro a hf
  refine st_not hf (by decide) rfl rfl ?_
  clear hf; intro a ha hf; clear ha
  refine st_move hf rfl rfl (by decide) ?_
  clear hf; intro a ha hf; clear ha
  refine wpList_cut 5 (fun a w => Fr 42 a [(0, vqx0), (14, .bool ((!q1) || (decide ((32768 : Int) < (IntKind.i64.wrap ((2 : Int) * (qx0.length : Int)))))))] ∧ Hp S w0 w (ow)) ?_ ?_
  · rcases Bool.eq_false_or_eq_true (!q1) with hb4 | hb4
    · skip
      refine st_skip hf (wantN hf rfl rfl hb4) rfl (by decide) ?_ rfl
      clear hf; intro a hf
      refine st_skip hf (wantN hf rfl rfl hb4) rfl (by decide) ?_ rfl
      clear hf; intro a hf
      refine st_skip hf (wantN hf rfl rfl hb4) rfl (by decide) ?_ rfl
      clear hf; intro a hf
      refine st_skip hf (wantN hf rfl rfl hb4) rfl (by decide) ?_ rfl
      clear hf; intro a hf
      refine st_pick (v := .bool true) hf rfl rfl (fun hb' => ?_) (fun hb' => ?_) (by decide) ?_
      · rfl
      · exact absurd (hb4.symm.trans hb') (by decide)
      clear hf; intro a ha hf; clear ha
      refine st_nil hf (th_n ?_)
      exact ⟨hf.sub ⟨rfl, (by rw [hb4]; rfl), trivial⟩, hp⟩
    refine st_move hf (wantY hf rfl rfl hb4) rfl (by decide) ?_
    clear hf; intro a ha hf; clear ha
    refine st_len (E := (Ek.int .u8)) hf (by decide) Try.underlying22 (wantY hf rfl rfl hb4) rfl (hqx0.sl hp) ?_
    clear hf; intro a ha hf; clear ha
    refine st_imul hf (by decide) (wantY hf rfl rfl hb4) rfl rfl ?_
    clear hf; intro a ha hf; clear ha
    refine st_igtr hf (by decide) (wantY hf rfl rfl hb4) rfl rfl ?_
    clear hf; intro a ha hf; clear ha
    refine st_pick (v := .bool (decide ((32768 : Int) < (IntKind.i64.wrap ((2 : Int) * (qx0.length : Int)))))) hf rfl rfl (fun hb' => ?_) (fun hb' => ?_) (by decide) ?_
    · exact absurd (hb4.symm.trans hb') (by decide)
    · rfl
    clear hf; intro a ha hf; clear ha
    refine st_nil hf (th_n ?_)
    exact ⟨hf.sub ⟨rfl, (by rw [hb4]; rfl), trivial⟩, hp⟩
  rintro a w ⟨hf, hp⟩
  refine st_nil hf ?_
  refine th_n ?_
  refine wp_if hf rfl (fun hb => ?_) (fun hb => ?_)
  · replace h := ifT h hb
    refine wp_seq ?_
    refine wp_reg ?_
    refine st_assign hf rfl rfl (by decide) ?_
    clear hf; intro a ha hf; clear ha
    refine st_assign hf rfl rfl (by decide) ?_
    clear hf; intro a ha hf; clear ha
    refine st_nil hf ?_
    refine th_n ?_
    refine wp_ret ?_
    refine th_r ?_
    obtain rfl := Option.some.inj h
    have hp := hp.nil Ek.bool 4
    exact ⟨rfl, ⟨_, hf.sub ⟨rfl, rfl, trivial⟩, hp⟩⟩
  replace h := ifF h hb
  refine wp_skip ?_
  refine th_n ?_
  refine wp_seq ?_
  refine wp_reg ?_
  refine st_assign hf rfl rfl (by decide) ?_
  clear hf; intro a ha hf; clear ha
  refine st_nil hf ?_
  refine th_n ?_
  refine wp_seq ?_
  refine wp_seq ?_
  refine wp_reg ?_
  refine st_assign hf rfl rfl (by decide) ?_
  clear hf; intro a ha hf; clear ha
  refine st_nil hf ?_
  refine th_n ?_
  refine wp_block ?_
  obtain ⟨q20, hl, h⟩ := bnd h
  have hp := hp.nil Ek.bool 4
  refine wp_loop_pure (f := (f_foghornref06_Bits.s1 qx0)) (s := ([], (0 : Int))) (fun s a w => ∃ (v6 : Value), Fr 42 a [(0, vqx0), (4, v6), (5, .int .i64 s.2)] ∧ Hp S w0 w (Res.sl Ek.bool 4 v6 s.1 :: ow)) (fun q e a w => e = .exit 0 ∧ ∃ (v8 : Value), Fr 42 a [(4, v8)] ∧ Hp S w0 w (Res.sl Ek.bool 4 v8 q :: ow)) ?_ hl ⟨_, hf.sub ⟨rfl, rfl, rfl, trivial⟩, hp⟩ ?_
  · clear hl hf hp
    intro s x a w h hI
    obtain ⟨out4, i5⟩ := s
    obtain ⟨v6, hf, hp⟩ : ∃ (v6 : Value), Fr 42 a [(0, vqx0), (4, v6), (5, .int .i64 i5)] ∧ Hp S w0 w (Res.sl Ek.bool 4 v6 out4 :: ow) := hI
    replace h : f_foghornref06_Bits.s1c qx0 out4 i5 = some x := h
    unfold f_foghornref06_Bits.s1c at h
    refine wp_seq ?_
    refine wp_seq ?_
    refine wp_reg ?_
    refine st_move hf rfl rfl (by decide) ?_
    clear hf; intro a ha hf; clear ha
    refine st_move hf rfl rfl (by decide) ?_
    clear hf; intro a ha hf; clear ha
    refine st_len (E := (Ek.int .u8)) hf (by decide) Try.underlying22 rfl rfl (hqx0.sl hp) ?_
    clear hf; intro a ha hf; clear ha
    refine st_ilss hf (by decide) rfl rfl rfl ?_
    clear hf; intro a ha hf; clear ha
    refine st_nil hf ?_
    refine th_n ?_
    refine wp_if hf rfl (fun hb => ?_) (fun hb => ?_)
    · replace h := ifT h hb
      refine wp_skip ?_
      refine th_n ?_
      refine wp_seq ?_
      refine wp_block ?_
      obtain ⟨hc10, h⟩ := chk h
      obtain ⟨hc11, h⟩ := chk h
      obtain ⟨z15, hz12, h⟩ := bnd h
      obtain ⟨hc18, h⟩ := chk h
      refine wp_cutN (fun a w => ∃ (v16 : Value) (v19 : Value), Fr 42 a [(0, vqx0), (4, v19), (5, .int .i64 i5)] ∧ Hp S w0 w (Res.sl Ek.bool 4 v16 ([(decide ((2 : Int) ≤ (gt qx0 i5))), z15]) :: Res.sl Ek.bool 4 v19 (out4 ++ [(decide ((2 : Int) ≤ (gt qx0 i5))), z15]) :: ow)) ?_ ?_
      · have hp := hp.same (Same.drew w)
        rcases Bool.eq_false_or_eq_true ((gt qx0 i5) == (1 : Int)) with hb13 | hb13
        · skip
          replace hz12 := ifT hz12 hb13
          replace hz12 := Option.some.inj hz12
          refine dr_begin' (fun a w => ∃ (v16 : Value) (v19 : Value), Fr 42 a [(0, vqx0), (4, v19), (5, .int .i64 i5)] ∧ Hp S w0 w (Res.sl Ek.bool 4 v16 ([(decide ((2 : Int) ≤ (gt qx0 i5))), z15]) :: Res.sl Ek.bool 4 v19 (out4 ++ [(decide ((2 : Int) ≤ (gt qx0 i5))), z15]) :: ow)) (fun w' => ∃ l, Hp S w0 w' l) [] (by kernel_rfl) ?_
          refine dr_take 0 (v6) rfl (by kernel_rfl) (by kernel_rfl) (by kernel_rfl) (by kernel_rfl) rfl rfl hf (by decide) rfl (fun w hp => ?_) ⟨_, hp⟩ ?_
          · obtain ⟨_, hp⟩ := hp
            refine st_move hf rfl rfl (by decide) ?_
            clear hf; intro a ha hf
            exact st_nil hf (th_n ⟨ha, rfl⟩)
          clear hf; intro a hf
          refine dr_take 1 (vqx0) rfl (by kernel_rfl) (by kernel_rfl) (by kernel_rfl) (by kernel_rfl) rfl rfl hf (by decide) rfl (fun w hp => ?_) ⟨_, hp⟩ ?_
          · obtain ⟨_, hp⟩ := hp
            refine st_move hf rfl rfl (by decide) ?_
            clear hf; intro a ha hf
            exact st_nil hf (th_n ⟨ha, rfl⟩)
          clear hf; intro a hf
          refine dr_take 2 (.int .i64 i5) rfl (by kernel_rfl) (by kernel_rfl) (by kernel_rfl) (by kernel_rfl) rfl rfl hf (by decide) rfl (fun w hp => ?_) ⟨_, hp⟩ ?_
          · obtain ⟨_, hp⟩ := hp
            refine st_move hf rfl rfl (by decide) ?_
            clear hf; intro a ha hf
            exact st_nil hf (th_n ⟨ha, rfl⟩)
          clear hf; intro a hf
          refine dr_take 3 (eptr vqx0 i5 1) rfl (by kernel_rfl) (by kernel_rfl) (by kernel_rfl) (by kernel_rfl) rfl rfl hf (by decide) rfl (fun w hp => ?_) ⟨_, hp⟩ ?_
          · obtain ⟨_, hp⟩ := hp
            refine st_index (E := (Ek.int .u8)) hf (by decide) Try.underlying22 elt5 rfl rfl rfl (hqx0.sl hp) hc10.1 hc10.2 ?_
            clear hf; intro a ha hf
            exact st_nil hf (th_n ⟨ha, rfl⟩)
          clear hf; intro a hf
          refine dr_take 4 (.int .u8 (gt qx0 i5)) rfl (by kernel_rfl) (by kernel_rfl) (by kernel_rfl) (by kernel_rfl) rfl rfl hf (by decide) rfl (fun w hp => ?_) ⟨_, hp⟩ ?_
          · obtain ⟨_, hp⟩ := hp
            refine st_ldI hf (by decide) pl5 rfl rfl (hqx0.sl hp) hc10.1 hc10.2 ?_
            clear hf; intro a ha hf
            exact st_nil hf (th_n ⟨ha, rfl⟩)
          clear hf; intro a hf
          refine dr_take 5 (.bool (decide ((2 : Int) ≤ (gt qx0 i5)))) rfl (by kernel_rfl) (by kernel_rfl) (by kernel_rfl) (by kernel_rfl) rfl rfl hf (by decide) rfl (fun w hp => ?_) ⟨_, hp⟩ ?_
          · obtain ⟨_, hp⟩ := hp
            refine st_igeq hf (by decide) rfl rfl rfl ?_
            clear hf; intro a ha hf
            exact st_nil hf (th_n ⟨ha, rfl⟩)
          clear hf; intro a hf
          refine dr_take 6 (vqx0) rfl (by kernel_rfl) (by kernel_rfl) (by kernel_rfl) (by kernel_rfl) rfl rfl hf (by decide) rfl (fun w hp => ?_) ⟨_, hp⟩ ?_
          · obtain ⟨_, hp⟩ := hp
            refine st_move hf rfl rfl (by decide) ?_
            clear hf; intro a ha hf
            exact st_nil hf (th_n ⟨ha, rfl⟩)
          clear hf; intro a hf
          refine dr_take 7 (.int .i64 i5) rfl (by kernel_rfl) (by kernel_rfl) (by kernel_rfl) (by kernel_rfl) rfl rfl hf (by decide) rfl (fun w hp => ?_) ⟨_, hp⟩ ?_
          · obtain ⟨_, hp⟩ := hp
            refine st_move hf rfl rfl (by decide) ?_
            clear hf; intro a ha hf
            exact st_nil hf (th_n ⟨ha, rfl⟩)
          clear hf; intro a hf
          refine dr_take 8 (eptr vqx0 i5 1) rfl (by kernel_rfl) (by kernel_rfl) (by kernel_rfl) (by kernel_rfl) rfl rfl hf (by decide) rfl (fun w hp => ?_) ⟨_, hp⟩ ?_
          · obtain ⟨_, hp⟩ := hp
            refine st_index (E := (Ek.int .u8)) hf (by decide) Try.underlying22 elt5 rfl rfl rfl (hqx0.sl hp) hc11.1 hc11.2 ?_
            clear hf; intro a ha hf
            exact st_nil hf (th_n ⟨ha, rfl⟩)
          clear hf; intro a hf
          refine dr_take 9 (.int .u8 (gt qx0 i5)) rfl (by kernel_rfl) (by kernel_rfl) (by kernel_rfl) (by kernel_rfl) rfl rfl hf (by decide) rfl (fun w hp => ?_) ⟨_, hp⟩ ?_
          · obtain ⟨_, hp⟩ := hp
            refine st_ldI hf (by decide) pl5 rfl rfl (hqx0.sl hp) hc11.1 hc11.2 ?_
            clear hf; intro a ha hf
            exact st_nil hf (th_n ⟨ha, rfl⟩)
          clear hf; intro a hf
          refine dr_take 10 (.bool ((gt qx0 i5) == (1 : Int))) rfl (by kernel_rfl) (by kernel_rfl) (by kernel_rfl) (by kernel_rfl) rfl rfl hf (by decide) rfl (fun w hp => ?_) ⟨_, hp⟩ ?_
          · obtain ⟨_, hp⟩ := hp
            refine st_ieql hf (by decide) rfl rfl rfl ?_
            clear hf; intro a ha hf
            exact st_nil hf (th_n ⟨ha, rfl⟩)
          clear hf; intro a hf
          refine dr_take 11 (.bool ((gt qx0 i5) == (1 : Int))) rfl (by kernel_rfl) (by kernel_rfl) (by kernel_rfl) (by kernel_rfl) rfl rfl hf (by decide) rfl (fun w hp => ?_) ⟨_, hp⟩ ?_
          · obtain ⟨_, hp⟩ := hp
            refine st_move hf rfl rfl (by decide) ?_
            clear hf; intro a ha hf
            exact st_nil hf (th_n ⟨ha, rfl⟩)
          clear hf; intro a hf
          refine dr_out 12 rfl (by kernel_rfl) (by kernel_rfl) (by kernel_rfl) (by kernel_rfl) rfl hf (by decide) rfl (wantN hf rfl rfl hb13) ⟨_, hp⟩ ?_
          clear hf; intro a hf
          refine dr_out 13 rfl (by kernel_rfl) (by kernel_rfl) (by kernel_rfl) (by kernel_rfl) rfl hf (by decide) rfl (wantN hf rfl rfl hb13) ⟨_, hp⟩ ?_
          clear hf; intro a hf
          refine dr_out 14 rfl (by kernel_rfl) (by kernel_rfl) (by kernel_rfl) (by kernel_rfl) rfl hf (by decide) rfl (wantN hf rfl rfl hb13) ⟨_, hp⟩ ?_
          clear hf; intro a hf
          refine dr_out 15 rfl (by kernel_rfl) (by kernel_rfl) (by kernel_rfl) (by kernel_rfl) rfl hf (by decide) rfl (wantN hf rfl rfl hb13) ⟨_, hp⟩ ?_
          clear hf; intro a hf
          refine dr_out 16 rfl (by kernel_rfl) (by kernel_rfl) (by kernel_rfl) (by kernel_rfl) rfl hf (by decide) rfl (wantN hf rfl rfl hb13) ⟨_, hp⟩ ?_
          clear hf; intro a hf
          refine dr_take 17 (.bool z15) rfl (by kernel_rfl) (by kernel_rfl) (by kernel_rfl) (by kernel_rfl) rfl rfl hf (by decide) rfl (fun w hp => ?_) ⟨_, hp⟩ ?_
          · obtain ⟨_, hp⟩ := hp
            refine st_pick (v := .bool z15) hf rfl rfl (fun _ => by rw [← hz12]; rfl) (fun hb' => absurd (hb13.symm.trans hb') (by decide)) (by decide) ?_
            clear hf; intro a ha hf
            exact st_nil hf (th_n ⟨ha, rfl⟩)
          clear hf; intro a hf
          refine dr_one 18 rfl (by kernel_rfl) ?_
          refine st_build (E := Ek.bool) (xs := [(decide ((2 : Int) ≤ (gt qx0 i5))), z15]) hf (by decide) elt4 Try.underlying27 hp (vals := #[(0, .bool (decide ((2 : Int) ≤ (gt qx0 i5)))), (1, .bool z15)]) (cells := #[.bool (decide ((2 : Int) ≤ (gt qx0 i5))), .bool z15]) rfl (by simp [hf.ev (x := (Operand.tmp 26)) rfl, hf.ev (x := (Operand.tmp 38)) rfl]) (by decide) (by decide) (z := .bool false) (by kernel_rfl) (by kernel_rfl) rfl (reps_cons (cs := [.bool (decide ((2 : Int) ≤ (gt qx0 i5)))]) rfl (reps_cons (cs := [.bool z15]) rfl (reps_nil _))) ?_
          clear hf; intro a w v16 hf hp0; clear hp; have hp := hp0; clear hp0
          replace hp : Hp _ _ _ (Res.sl Ek.bool 4 v16 ([(decide ((2 : Int) ≤ (gt qx0 i5))), z15]) :: Res.sl Ek.bool 4 v6 out4 :: ow) := hp
          refine st_nil hf (th_n ⟨fun _ _ => ⟨_, hp⟩, ?_⟩)
          refine dr_one 19 rfl (by kernel_rfl) ?_
          refine st_append (E := Ek.bool) hf (by decide) elt4 Try.underlying27 (by decide) hp (i := 1) rfl rfl rfl rfl (hp.sl (i := 0) rfl) hc18 ?_
          clear hf; intro a w v19 hf hp0; clear hp; have hp := hp0; clear hp0
          replace hp : Hp _ _ _ (Res.sl Ek.bool 4 v16 ([(decide ((2 : Int) ≤ (gt qx0 i5))), z15]) :: Res.sl Ek.bool 4 v19 (out4 ++ [(decide ((2 : Int) ≤ (gt qx0 i5))), z15]) :: ow) := hp
          refine st_nil hf (th_n ⟨fun _ _ => ⟨_, hp⟩, ?_⟩)
          refine dr_take 20 (v19) rfl (by kernel_rfl) (by kernel_rfl) (by kernel_rfl) (by kernel_rfl) rfl rfl hf (by decide) rfl (fun w hp => ?_) ⟨_, hp⟩ ?_
          · obtain ⟨_, hp⟩ := hp
            refine st_assign hf rfl rfl (by decide) ?_
            clear hf; intro a ha hf
            exact st_nil hf (th_n ⟨ha, rfl⟩)
          clear hf; intro a hf
          refine dr_end (by kernel_rfl) ?_ _
          exact ⟨v16, v19, hf.sub ⟨rfl, rfl, rfl, trivial⟩, hp⟩
        skip
        replace hz12 := ifF hz12 hb13
        obtain ⟨hc14, hz12⟩ := chk hz12
        replace hz12 := Option.some.inj hz12
        refine dr_begin' (fun a w => ∃ (v16 : Value) (v19 : Value), Fr 42 a [(0, vqx0), (4, v19), (5, .int .i64 i5)] ∧ Hp S w0 w (Res.sl Ek.bool 4 v16 ([(decide ((2 : Int) ≤ (gt qx0 i5))), z15]) :: Res.sl Ek.bool 4 v19 (out4 ++ [(decide ((2 : Int) ≤ (gt qx0 i5))), z15]) :: ow)) (fun w' => ∃ l, Hp S w0 w' l) [] (by kernel_rfl) ?_
        refine dr_take 0 (v6) rfl (by kernel_rfl) (by kernel_rfl) (by kernel_rfl) (by kernel_rfl) rfl rfl hf (by decide) rfl (fun w hp => ?_) ⟨_, hp⟩ ?_
        · obtain ⟨_, hp⟩ := hp
          refine st_move hf rfl rfl (by decide) ?_
          clear hf; intro a ha hf
          exact st_nil hf (th_n ⟨ha, rfl⟩)
        clear hf; intro a hf
        refine dr_take 1 (vqx0) rfl (by kernel_rfl) (by kernel_rfl) (by kernel_rfl) (by kernel_rfl) rfl rfl hf (by decide) rfl (fun w hp => ?_) ⟨_, hp⟩ ?_
        · obtain ⟨_, hp⟩ := hp
          refine st_move hf rfl rfl (by decide) ?_
          clear hf; intro a ha hf
          exact st_nil hf (th_n ⟨ha, rfl⟩)
        clear hf; intro a hf
        refine dr_take 2 (.int .i64 i5) rfl (by kernel_rfl) (by kernel_rfl) (by kernel_rfl) (by kernel_rfl) rfl rfl hf (by decide) rfl (fun w hp => ?_) ⟨_, hp⟩ ?_
        · obtain ⟨_, hp⟩ := hp
          refine st_move hf rfl rfl (by decide) ?_
          clear hf; intro a ha hf
          exact st_nil hf (th_n ⟨ha, rfl⟩)
        clear hf; intro a hf
        refine dr_take 3 (eptr vqx0 i5 1) rfl (by kernel_rfl) (by kernel_rfl) (by kernel_rfl) (by kernel_rfl) rfl rfl hf (by decide) rfl (fun w hp => ?_) ⟨_, hp⟩ ?_
        · obtain ⟨_, hp⟩ := hp
          refine st_index (E := (Ek.int .u8)) hf (by decide) Try.underlying22 elt5 rfl rfl rfl (hqx0.sl hp) hc10.1 hc10.2 ?_
          clear hf; intro a ha hf
          exact st_nil hf (th_n ⟨ha, rfl⟩)
        clear hf; intro a hf
        refine dr_take 4 (.int .u8 (gt qx0 i5)) rfl (by kernel_rfl) (by kernel_rfl) (by kernel_rfl) (by kernel_rfl) rfl rfl hf (by decide) rfl (fun w hp => ?_) ⟨_, hp⟩ ?_
        · obtain ⟨_, hp⟩ := hp
          refine st_ldI hf (by decide) pl5 rfl rfl (hqx0.sl hp) hc10.1 hc10.2 ?_
          clear hf; intro a ha hf
          exact st_nil hf (th_n ⟨ha, rfl⟩)
        clear hf; intro a hf
        refine dr_take 5 (.bool (decide ((2 : Int) ≤ (gt qx0 i5)))) rfl (by kernel_rfl) (by kernel_rfl) (by kernel_rfl) (by kernel_rfl) rfl rfl hf (by decide) rfl (fun w hp => ?_) ⟨_, hp⟩ ?_
        · obtain ⟨_, hp⟩ := hp
          refine st_igeq hf (by decide) rfl rfl rfl ?_
          clear hf; intro a ha hf
          exact st_nil hf (th_n ⟨ha, rfl⟩)
        clear hf; intro a hf
        refine dr_take 6 (vqx0) rfl (by kernel_rfl) (by kernel_rfl) (by kernel_rfl) (by kernel_rfl) rfl rfl hf (by decide) rfl (fun w hp => ?_) ⟨_, hp⟩ ?_
        · obtain ⟨_, hp⟩ := hp
          refine st_move hf rfl rfl (by decide) ?_
          clear hf; intro a ha hf
          exact st_nil hf (th_n ⟨ha, rfl⟩)
        clear hf; intro a hf
        refine dr_take 7 (.int .i64 i5) rfl (by kernel_rfl) (by kernel_rfl) (by kernel_rfl) (by kernel_rfl) rfl rfl hf (by decide) rfl (fun w hp => ?_) ⟨_, hp⟩ ?_
        · obtain ⟨_, hp⟩ := hp
          refine st_move hf rfl rfl (by decide) ?_
          clear hf; intro a ha hf
          exact st_nil hf (th_n ⟨ha, rfl⟩)
        clear hf; intro a hf
        refine dr_take 8 (eptr vqx0 i5 1) rfl (by kernel_rfl) (by kernel_rfl) (by kernel_rfl) (by kernel_rfl) rfl rfl hf (by decide) rfl (fun w hp => ?_) ⟨_, hp⟩ ?_
        · obtain ⟨_, hp⟩ := hp
          refine st_index (E := (Ek.int .u8)) hf (by decide) Try.underlying22 elt5 rfl rfl rfl (hqx0.sl hp) hc11.1 hc11.2 ?_
          clear hf; intro a ha hf
          exact st_nil hf (th_n ⟨ha, rfl⟩)
        clear hf; intro a hf
        refine dr_take 9 (.int .u8 (gt qx0 i5)) rfl (by kernel_rfl) (by kernel_rfl) (by kernel_rfl) (by kernel_rfl) rfl rfl hf (by decide) rfl (fun w hp => ?_) ⟨_, hp⟩ ?_
        · obtain ⟨_, hp⟩ := hp
          refine st_ldI hf (by decide) pl5 rfl rfl (hqx0.sl hp) hc11.1 hc11.2 ?_
          clear hf; intro a ha hf
          exact st_nil hf (th_n ⟨ha, rfl⟩)
        clear hf; intro a hf
        refine dr_take 10 (.bool ((gt qx0 i5) == (1 : Int))) rfl (by kernel_rfl) (by kernel_rfl) (by kernel_rfl) (by kernel_rfl) rfl rfl hf (by decide) rfl (fun w hp => ?_) ⟨_, hp⟩ ?_
        · obtain ⟨_, hp⟩ := hp
          refine st_ieql hf (by decide) rfl rfl rfl ?_
          clear hf; intro a ha hf
          exact st_nil hf (th_n ⟨ha, rfl⟩)
        clear hf; intro a hf
        refine dr_take 11 (.bool ((gt qx0 i5) == (1 : Int))) rfl (by kernel_rfl) (by kernel_rfl) (by kernel_rfl) (by kernel_rfl) rfl rfl hf (by decide) rfl (fun w hp => ?_) ⟨_, hp⟩ ?_
        · obtain ⟨_, hp⟩ := hp
          refine st_move hf rfl rfl (by decide) ?_
          clear hf; intro a ha hf
          exact st_nil hf (th_n ⟨ha, rfl⟩)
        clear hf; intro a hf
        refine dr_take 12 (vqx0) rfl (by kernel_rfl) (by kernel_rfl) (by kernel_rfl) (by kernel_rfl) rfl rfl hf (by decide) (wantY hf rfl rfl hb13) (fun w hp => ?_) ⟨_, hp⟩ ?_
        · obtain ⟨_, hp⟩ := hp
          refine st_move hf (wantY hf rfl rfl hb13) rfl (by decide) ?_
          clear hf; intro a ha hf
          exact st_nil hf (th_n ⟨ha, rfl⟩)
        clear hf; intro a hf
        refine dr_take 13 (.int .i64 i5) rfl (by kernel_rfl) (by kernel_rfl) (by kernel_rfl) (by kernel_rfl) rfl rfl hf (by decide) (wantY hf rfl rfl hb13) (fun w hp => ?_) ⟨_, hp⟩ ?_
        · obtain ⟨_, hp⟩ := hp
          refine st_move hf (wantY hf rfl rfl hb13) rfl (by decide) ?_
          clear hf; intro a ha hf
          exact st_nil hf (th_n ⟨ha, rfl⟩)
        clear hf; intro a hf
        refine dr_take 14 (eptr vqx0 i5 1) rfl (by kernel_rfl) (by kernel_rfl) (by kernel_rfl) (by kernel_rfl) rfl rfl hf (by decide) (wantY hf rfl rfl hb13) (fun w hp => ?_) ⟨_, hp⟩ ?_
        · obtain ⟨_, hp⟩ := hp
          refine st_index (E := (Ek.int .u8)) hf (by decide) Try.underlying22 elt5 (wantY hf rfl rfl hb13) rfl rfl (hqx0.sl hp) hc14.1 hc14.2 ?_
          clear hf; intro a ha hf
          exact st_nil hf (th_n ⟨ha, rfl⟩)
        clear hf; intro a hf
        refine dr_take 15 (.int .u8 (gt qx0 i5)) rfl (by kernel_rfl) (by kernel_rfl) (by kernel_rfl) (by kernel_rfl) rfl rfl hf (by decide) (wantY hf rfl rfl hb13) (fun w hp => ?_) ⟨_, hp⟩ ?_
        · obtain ⟨_, hp⟩ := hp
          refine st_ldI hf (by decide) pl5 (wantY hf rfl rfl hb13) rfl (hqx0.sl hp) hc14.1 hc14.2 ?_
          clear hf; intro a ha hf
          exact st_nil hf (th_n ⟨ha, rfl⟩)
        clear hf; intro a hf
        refine dr_take 16 (.bool ((gt qx0 i5) == (2 : Int))) rfl (by kernel_rfl) (by kernel_rfl) (by kernel_rfl) (by kernel_rfl) rfl rfl hf (by decide) (wantY hf rfl rfl hb13) (fun w hp => ?_) ⟨_, hp⟩ ?_
        · obtain ⟨_, hp⟩ := hp
          refine st_ieql hf (by decide) (wantY hf rfl rfl hb13) rfl rfl ?_
          clear hf; intro a ha hf
          exact st_nil hf (th_n ⟨ha, rfl⟩)
        clear hf; intro a hf
        refine dr_take 17 (.bool z15) rfl (by kernel_rfl) (by kernel_rfl) (by kernel_rfl) (by kernel_rfl) rfl rfl hf (by decide) rfl (fun w hp => ?_) ⟨_, hp⟩ ?_
        · obtain ⟨_, hp⟩ := hp
          refine st_pick (v := .bool z15) hf rfl rfl (fun hb' => absurd (hb13.symm.trans hb') (by decide)) (fun _ => by rw [← hz12]; rfl) (by decide) ?_
          clear hf; intro a ha hf
          exact st_nil hf (th_n ⟨ha, rfl⟩)
        clear hf; intro a hf
        refine dr_one 18 rfl (by kernel_rfl) ?_
        refine st_build (E := Ek.bool) (xs := [(decide ((2 : Int) ≤ (gt qx0 i5))), z15]) hf (by decide) elt4 Try.underlying27 hp (vals := #[(0, .bool (decide ((2 : Int) ≤ (gt qx0 i5)))), (1, .bool z15)]) (cells := #[.bool (decide ((2 : Int) ≤ (gt qx0 i5))), .bool z15]) rfl (by simp [hf.ev (x := (Operand.tmp 26)) rfl, hf.ev (x := (Operand.tmp 38)) rfl]) (by decide) (by decide) (z := .bool false) (by kernel_rfl) (by kernel_rfl) rfl (reps_cons (cs := [.bool (decide ((2 : Int) ≤ (gt qx0 i5)))]) rfl (reps_cons (cs := [.bool z15]) rfl (reps_nil _))) ?_
        clear hf; intro a w v16 hf hp0; clear hp; have hp := hp0; clear hp0
        replace hp : Hp _ _ _ (Res.sl Ek.bool 4 v16 ([(decide ((2 : Int) ≤ (gt qx0 i5))), z15]) :: Res.sl Ek.bool 4 v6 out4 :: ow) := hp
        refine st_nil hf (th_n ⟨fun _ _ => ⟨_, hp⟩, ?_⟩)
        refine dr_one 19 rfl (by kernel_rfl) ?_
        refine st_append (E := Ek.bool) hf (by decide) elt4 Try.underlying27 (by decide) hp (i := 1) rfl rfl rfl rfl (hp.sl (i := 0) rfl) hc18 ?_
        clear hf; intro a w v19 hf hp0; clear hp; have hp := hp0; clear hp0
        replace hp : Hp _ _ _ (Res.sl Ek.bool 4 v16 ([(decide ((2 : Int) ≤ (gt qx0 i5))), z15]) :: Res.sl Ek.bool 4 v19 (out4 ++ [(decide ((2 : Int) ≤ (gt qx0 i5))), z15]) :: ow) := hp
        refine st_nil hf (th_n ⟨fun _ _ => ⟨_, hp⟩, ?_⟩)
        refine dr_take 20 (v19) rfl (by kernel_rfl) (by kernel_rfl) (by kernel_rfl) (by kernel_rfl) rfl rfl hf (by decide) rfl (fun w hp => ?_) ⟨_, hp⟩ ?_
        · obtain ⟨_, hp⟩ := hp
          refine st_assign hf rfl rfl (by decide) ?_
          clear hf; intro a ha hf
          exact st_nil hf (th_n ⟨ha, rfl⟩)
        clear hf; intro a hf
        refine dr_end (by kernel_rfl) ?_ _
        exact ⟨v16, v19, hf.sub ⟨rfl, rfl, rfl, trivial⟩, hp⟩
      rintro a w ⟨v16, v19, hf, hp⟩
      refine ib_n ?_
      refine th_n ?_
      refine wp_reg ?_
      refine st_move hf rfl rfl (by decide) ?_
      clear hf; intro a ha hf; clear ha
      refine st_iadd hf (by decide) rfl rfl rfl ?_
      clear hf; intro a ha hf; clear ha
      refine st_assign hf rfl rfl (by decide) ?_
      clear hf; intro a ha hf; clear ha
      refine st_nil hf ?_
      obtain rfl := Option.some.inj h
      have hp : Hp _ _ _ (Res.sl Ek.bool 4 v19 (out4 ++ [(decide ((2 : Int) ≤ (gt qx0 i5))), z15]) :: ow) := Hp.sel (pre := [Res.sl Ek.bool 4 v16 ([(decide ((2 : Int) ≤ (gt qx0 i5))), z15]), Res.sl Ek.bool 4 v19 (out4 ++ [(decide ((2 : Int) ≤ (gt qx0 i5))), z15])]) (tail := ow) (rs' := [Res.sl Ek.bool 4 v19 (out4 ++ [(decide ((2 : Int) ≤ (gt qx0 i5))), z15])]) hp [1] (by decide) (by simp) rfl
      exact rnd_l ⟨_, hf.sub ⟨rfl, rfl, rfl, trivial⟩, hp⟩
    replace h := ifF h hb
    refine wp_exit ?_
    refine th_e ?_
    obtain rfl := Option.some.inj h
    exact rnd_r (by simp) ⟨rfl, _, hf.sub ⟨rfl, trivial⟩, hp⟩
  clear hl hf hp
  intro e a w hne hO
  obtain ⟨rfl, v8, hf, hp⟩ := hO
  refine ib_same ?_
  refine th_n ?_
  refine wp_seq ?_
  refine wp_reg ?_
  refine st_move hf rfl rfl (by decide) ?_
  clear hf; intro a ha hf; clear ha
  refine st_assign hf rfl rfl (by decide) ?_
  clear hf; intro a ha hf; clear ha
  refine st_assign hf rfl rfl (by decide) ?_
  clear hf; intro a ha hf; clear ha
  refine st_nil hf ?_
  refine th_n ?_
  refine wp_ret ?_
  obtain rfl := Option.some.inj h
  exact ⟨rfl, ⟨_, hf.sub ⟨rfl, rfl, trivial⟩, hp⟩⟩

noncomputable def f_turns_Counts.s1c (p0 : (List Int)) (n4c_0 : Int) (n4c_1 : Int) (n4c_2 : Int) (n4c_3 : Int) (t13 : Int) : Option ((Int × Int × Int × Int × Int) ⊕ (Int × Int × Int × Int)) := (if (decide (t13 < (p0.length : Int))) = true then (if 0 ≤ t13 ∧ t13 < (p0.length : Int) then (if 0 ≤ (gt p0 t13) ∧ (gt p0 t13) < (4 : Int) then (if 0 ≤ (gt p0 t13) ∧ (gt p0 t13) < (4 : Int) then (some (Sum.inl ((gt ([n4c_0, n4c_1, n4c_2, n4c_3].set ((gt p0 t13)).toNat (IntKind.i64.wrap ((gt [n4c_0, n4c_1, n4c_2, n4c_3] (gt p0 t13)) + (1 : Int)))) (0 : Int)), (gt ([n4c_0, n4c_1, n4c_2, n4c_3].set ((gt p0 t13)).toNat (IntKind.i64.wrap ((gt [n4c_0, n4c_1, n4c_2, n4c_3] (gt p0 t13)) + (1 : Int)))) (1 : Int)), (gt ([n4c_0, n4c_1, n4c_2, n4c_3].set ((gt p0 t13)).toNat (IntKind.i64.wrap ((gt [n4c_0, n4c_1, n4c_2, n4c_3] (gt p0 t13)) + (1 : Int)))) (2 : Int)), (gt ([n4c_0, n4c_1, n4c_2, n4c_3].set ((gt p0 t13)).toNat (IntKind.i64.wrap ((gt [n4c_0, n4c_1, n4c_2, n4c_3] (gt p0 t13)) + (1 : Int)))) (3 : Int)), (IntKind.i64.wrap (t13 + (1 : Int)))))) else none) else none) else none) else (some (Sum.inr (n4c_0, n4c_1, n4c_2, n4c_3))))
noncomputable def f_turns_Counts.s1 (p0 : (List Int)) (s : (Int × Int × Int × Int × Int)) : Option ((Int × Int × Int × Int × Int) ⊕ (Int × Int × Int × Int)) := f_turns_Counts.s1c p0 s.1 s.2.1 s.2.2.1 s.2.2.2.1 s.2.2.2.2
noncomputable def f_turns_Counts (p0 : (List Int)) : Option ((Int × Int × Int × Int) × Int) := ((f_turns_row p0).bind fun q3 => (if (!q3) = true then (some (((0 : Int), (0 : Int), (0 : Int), (0 : Int)), (1 : Int))) else ((loop (f_turns_Counts.s1 p0) ((0 : Int), (0 : Int), (0 : Int), (0 : Int), (0 : Int))).bind (fun q12 => (some ((q12.1, q12.2.1, q12.2.2.1, q12.2.2.2), (0 : Int)))))))
theorem f_turns_Counts_c {S : Nat → Prop} {w0 w : World} {ow : List Res} (hp : Hp S w0 w ow) (vp0 : Value) (p0 : (List Int)) (hp0 : RdS (Ek.int .u8) S w0 vp0 p0) {r : ((Int × Int × Int × Int) × Int)} (h : f_turns_Counts p0 = some r) :
    Calls Try.prog 41 #[vp0] w (fun e w' => e = .returned (.tuple #[.agg #[.int .i64 r.1.1, .int .i64 r.1.2.1, .int .i64 r.1.2.2.1, .int .i64 r.1.2.2.2], .int .i64 r.2]) ∧ Hp S w0 w' (ow)) := by
  unfold f_turns_Counts at h
  refine enter (n := 24) (args := [vp0]) Try.func41 rfl rfl (Nat.le_of_ble_eq_true rfl) fun a hf => ?_
  replace hf : Fr 24 a [(0, vp0)] := hf
  refine wp_mono (Q := fun e a w => e = .ret ∧ ∃ (c0 : Value), Fr 24 a [(2, optr c0 0), (3, .int .i64 r.2)] ∧ Hp S w0 w (Res.obj 72 c0 [.int .i64 r.1.1, .int .i64 r.1.2.1, .int .i64 r.1.2.2.1, .int .i64 r.1.2.2.2] :: ow)) ?_ ?_
  rotate_left
  · rintro e a w ⟨rfl, c0, hf, hp⟩
    exact retG2 hf rfl ⟨_, _, rfl, hp.ob (i := 0) rfl, .inr ⟨by kernel_rfl, rfl⟩⟩ rfl ⟨rfl, hp.drop⟩
  refine wp_seq ?_
  refine wp_reg ?_
  refine st_alloc (cs := [.int .i64 (0 : Int), .int .i64 (0 : Int), .int .i64 (0 : Int), .int .i64 (0 : Int)]) (zv := .agg #[.int .i64 (0 : Int), .int .i64 (0 : Int), .int .i64 (0 : Int), .int .i64 (0 : Int)]) hf (by decide) (by kernel_rfl) rfl hp rfl ?_
  clear hf; intro a w v1 hf hp0; clear hp; have hp := hp0; clear hp0
  replace hp : Hp _ _ _ (Res.obj 72 v1 [.int .i64 (0 : Int), .int .i64 (0 : Int), .int .i64 (0 : Int), .int .i64 (0 : Int)] :: ow) := hp
  refine st_assign hf rfl rfl (by decide) ?_
  clear hf; intro a ha hf; clear ha
  refine st_nil hf ?_
  refine th_n ?_
  refine wp_seq ?_
  refine wp_seq ?_
  refine wp_reg ?_
  refine st_move hf rfl rfl (by decide) ?_
  clear hf; intro a ha hf; clear ha
  obtain ⟨q3, hcall4, h⟩ := bnd h
  refine st_call hf (by decide) Try.func36 rfl rfl rfl rfl rfl (f_turns_row_c hp _ _ hp0 hcall4) ?_
  rintro _ w ⟨rfl, hp0⟩
  clear hp; have hp := hp0; clear hp0
  replace hp : Hp _ _ _ (Res.obj 72 v1 [.int .i64 (0 : Int), .int .i64 (0 : Int), .int .i64 (0 : Int), .int .i64 (0 : Int)] :: ow) := hp
  refine ⟨_, rfl, ?_⟩
  clear hf; intro a hf
  refine st_not hf (by decide) rfl rfl ?_
  clear hf; intro a ha hf; clear ha
  refine st_nil hf ?_
  refine th_n ?_
  refine wp_if hf rfl (fun hb => ?_) (fun hb => ?_)
  · replace h := ifT h hb
    refine wp_seq ?_
    refine wp_reg ?_
    refine st_buildA (vals := []) (cells := [.int .i64 (0 : Int), .int .i64 (0 : Int), .int .i64 (0 : Int), .int .i64 (0 : Int)]) hf (by decide) rfl (by simp []) (fun w => by kernel_rfl) ?_
    clear hf; intro a ha hf; clear ha
    refine st_stO (us := [.int .i64 (0 : Int), .int .i64 (0 : Int), .int .i64 (0 : Int), .int .i64 (0 : Int)]) hf hp (i := 0) rfl rfl rfl rfl rfl (by rfl) (by kernel_rfl) (Nat.le_of_ble_eq_true rfl) ?_
    clear hf; intro a w hf hp0; clear hp; have hp := hp0; clear hp0
    replace hp : Hp _ _ _ (Res.obj 72 v1 [.int .i64 (0 : Int), .int .i64 (0 : Int), .int .i64 (0 : Int), .int .i64 (0 : Int)] :: ow) := hp
    refine st_assign hf rfl rfl (by decide) ?_
    clear hf; intro a ha hf; clear ha
    refine st_nil hf ?_
    refine th_n ?_
    refine wp_ret ?_
    refine th_r ?_
    obtain rfl := Option.some.inj h
    exact ⟨rfl, ⟨_, hf.sub ⟨rfl, rfl, trivial⟩, hp⟩⟩
  replace h := ifF h hb
  refine wp_skip ?_
  refine th_n ?_
  refine wp_seq ?_
  refine wp_reg ?_
  refine st_alloc (cs := [.int .i64 (0 : Int), .int .i64 (0 : Int), .int .i64 (0 : Int), .int .i64 (0 : Int)]) (zv := .agg #[.int .i64 (0 : Int), .int .i64 (0 : Int), .int .i64 (0 : Int), .int .i64 (0 : Int)]) hf (by decide) (by kernel_rfl) rfl hp rfl ?_
  clear hf; intro a w v5 hf hp0; clear hp; have hp := hp0; clear hp0
  replace hp : Hp _ _ _ (Res.obj 72 v5 [.int .i64 (0 : Int), .int .i64 (0 : Int), .int .i64 (0 : Int), .int .i64 (0 : Int)] :: Res.obj 72 v1 [.int .i64 (0 : Int), .int .i64 (0 : Int), .int .i64 (0 : Int), .int .i64 (0 : Int)] :: ow) := hp
  refine st_nil hf ?_
  refine th_n ?_
  refine wp_seq ?_
  refine wp_seq ?_
  refine wp_reg ?_
  refine st_move hf rfl rfl (by decide) ?_
  clear hf; intro a ha hf; clear ha
  refine st_len (E := (Ek.int .u8)) hf (by decide) Try.underlying22 rfl rfl (hp0.sl hp) ?_
  clear hf; intro a ha hf; clear ha
  refine st_move hf rfl rfl (by decide) ?_
  clear hf; intro a ha hf; clear ha
  refine st_nil hf ?_
  refine th_n ?_
  refine wp_block ?_
  obtain ⟨q12, hl, h⟩ := bnd h
  refine wp_loop_pure (f := (f_turns_Counts.s1 p0)) (s := ((0 : Int), (0 : Int), (0 : Int), (0 : Int), (0 : Int))) (fun s a w => Fr 24 a [(2, optr v1 0), (4, optr v5 0), (11, vp0), (12, .int .i64 (p0.length : Int)), (13, .int .i64 s.2.2.2.2)] ∧ Hp S w0 w (Res.obj 72 v5 [.int .i64 s.1, .int .i64 s.2.1, .int .i64 s.2.2.1, .int .i64 s.2.2.2.1] :: Res.obj 72 v1 [.int .i64 (0 : Int), .int .i64 (0 : Int), .int .i64 (0 : Int), .int .i64 (0 : Int)] :: ow)) (fun q e a w => e = .exit 0 ∧ Fr 24 a [(2, optr v1 0), (4, optr v5 0)] ∧ Hp S w0 w (Res.obj 72 v5 [.int .i64 q.1, .int .i64 q.2.1, .int .i64 q.2.2.1, .int .i64 q.2.2.2] :: Res.obj 72 v1 [.int .i64 (0 : Int), .int .i64 (0 : Int), .int .i64 (0 : Int), .int .i64 (0 : Int)] :: ow)) ?_ hl ⟨hf.sub ⟨rfl, rfl, rfl, rfl, rfl, trivial⟩, hp⟩ ?_
  · clear hl hf hp
    intro s x a w h hI
    obtain ⟨n4c_0, n4c_1, n4c_2, n4c_3, t13⟩ := s
    obtain ⟨hf, hp⟩ : Fr 24 a [(2, optr v1 0), (4, optr v5 0), (11, vp0), (12, .int .i64 (p0.length : Int)), (13, .int .i64 t13)] ∧ Hp S w0 w (Res.obj 72 v5 [.int .i64 n4c_0, .int .i64 n4c_1, .int .i64 n4c_2, .int .i64 n4c_3] :: Res.obj 72 v1 [.int .i64 (0 : Int), .int .i64 (0 : Int), .int .i64 (0 : Int), .int .i64 (0 : Int)] :: ow) := hI
    replace h : f_turns_Counts.s1c p0 n4c_0 n4c_1 n4c_2 n4c_3 t13 = some x := h
    unfold f_turns_Counts.s1c at h
    refine wp_seq ?_
    refine wp_reg ?_
    refine st_ilss hf (by decide) rfl rfl rfl ?_
    clear hf; intro a ha hf; clear ha
    refine st_nil hf ?_
    refine th_n ?_
    refine wp_seq ?_
    refine wp_if hf rfl (fun hb => ?_) (fun hb => ?_)
    · replace h := ifT h hb
      refine wp_skip ?_
      refine th_n ?_
      refine wp_seq ?_
      refine wp_block ?_
      refine wp_seq ?_
      refine wp_reg ?_
      obtain ⟨hc9, h⟩ := chk h
      refine st_index (E := (Ek.int .u8)) hf (by decide) Try.underlying22 elt5 rfl rfl rfl (hp0.sl hp) hc9.1 hc9.2 ?_
      clear hf; intro a ha hf; clear ha
      refine st_ldI hf (by decide) pl5 rfl rfl (hp0.sl hp) hc9.1 hc9.2 ?_
      clear hf; intro a ha hf; clear ha
      refine st_assign hf rfl rfl (by decide) ?_
      clear hf; intro a ha hf; clear ha
      refine st_nil hf ?_
      refine th_n ?_
      refine wp_reg ?_
      refine st_move hf rfl rfl (by decide) ?_
      clear hf; intro a ha hf; clear ha
      obtain ⟨hc10, h⟩ := chk h
      refine st_ia (o' := 0 + ((gt p0 t13)).toNat * 1) hf (by decide) Try.underlying72 (sz := 1) (by kernel_rfl) rfl rfl rfl (hp.ob (i := 0) rfl) hc10.1 hc10.2 rfl ?_
      clear hf; intro a ha hf; clear ha
      refine st_ldO (u := .int .i64 (gt [n4c_0, n4c_1, n4c_2, n4c_3] (gt p0 t13))) hf (by decide) pl3 rfl rfl (hp.ob (i := 0) rfl) (sel_int (xs := [n4c_0, n4c_1, n4c_2, n4c_3]) (N := 4) hc10 rfl) ?_
      clear hf; intro a ha hf; clear ha
      refine st_iadd hf (by decide) rfl rfl rfl ?_
      clear hf; intro a ha hf; clear ha
      obtain ⟨hc11, h⟩ := chk h
      refine st_ia (o' := 0 + ((gt p0 t13)).toNat * 1) hf (by decide) Try.underlying72 (sz := 1) (by kernel_rfl) rfl rfl rfl (hp.ob (i := 0) rfl) hc11.1 hc11.2 rfl ?_
      clear hf; intro a ha hf; clear ha
      refine st_stOE (us := [.int .i64 (IntKind.i64.wrap ((gt [n4c_0, n4c_1, n4c_2, n4c_3] (gt p0 t13)) + (1 : Int)))]) hf hp (i := 0) rfl rfl rfl rfl rfl (by rfl) (by kernel_rfl) (st_bd hc11) (sti_int4 hc11) ?_
      clear hf; intro a w hf hp0; clear hp; have hp := hp0; clear hp0
      replace hp : Hp _ _ _ (Res.obj 72 v5 [.int .i64 (gt ([n4c_0, n4c_1, n4c_2, n4c_3].set ((gt p0 t13)).toNat (IntKind.i64.wrap ((gt [n4c_0, n4c_1, n4c_2, n4c_3] (gt p0 t13)) + (1 : Int)))) (0 : Int)), .int .i64 (gt ([n4c_0, n4c_1, n4c_2, n4c_3].set ((gt p0 t13)).toNat (IntKind.i64.wrap ((gt [n4c_0, n4c_1, n4c_2, n4c_3] (gt p0 t13)) + (1 : Int)))) (1 : Int)), .int .i64 (gt ([n4c_0, n4c_1, n4c_2, n4c_3].set ((gt p0 t13)).toNat (IntKind.i64.wrap ((gt [n4c_0, n4c_1, n4c_2, n4c_3] (gt p0 t13)) + (1 : Int)))) (2 : Int)), .int .i64 (gt ([n4c_0, n4c_1, n4c_2, n4c_3].set ((gt p0 t13)).toNat (IntKind.i64.wrap ((gt [n4c_0, n4c_1, n4c_2, n4c_3] (gt p0 t13)) + (1 : Int)))) (3 : Int))] :: Res.obj 72 v1 [.int .i64 (0 : Int), .int .i64 (0 : Int), .int .i64 (0 : Int), .int .i64 (0 : Int)] :: ow) := hp
      refine st_nil hf ?_
      refine ib_n ?_
      refine th_n ?_
      refine wp_reg ?_
      refine st_iadd hf (by decide) rfl rfl rfl ?_
      clear hf; intro a ha hf; clear ha
      refine st_move hf rfl rfl (by decide) ?_
      clear hf; intro a ha hf; clear ha
      refine st_nil hf ?_
      obtain rfl := Option.some.inj h
      exact rnd_l ⟨hf.sub ⟨rfl, rfl, rfl, rfl, rfl, trivial⟩, hp⟩
    replace h := ifF h hb
    refine wp_exit ?_
    refine th_e ?_
    obtain rfl := Option.some.inj h
    exact rnd_r (by simp) ⟨rfl, hf.sub ⟨rfl, rfl, trivial⟩, hp⟩
  clear hl hf hp
  intro e a w hne hO
  obtain ⟨rfl, hf, hp⟩ := hO
  refine ib_same ?_
  refine th_n ?_
  refine wp_seq ?_
  refine wp_reg ?_
  refine st_ldOA (m := 4) (us := [.int .i64 q12.1, .int .i64 q12.2.1, .int .i64 q12.2.2.1, .int .i64 q12.2.2.2]) hf (by decide) (by kernel_rfl) rfl rfl (hp.ob (i := 0) rfl) rfl rfl ?_
  clear hf; intro a ha hf; clear ha
  refine st_stO (us := [.int .i64 q12.1, .int .i64 q12.2.1, .int .i64 q12.2.2.1, .int .i64 q12.2.2.2]) hf hp (i := 1) rfl rfl rfl rfl rfl (by rfl) (by kernel_rfl) (Nat.le_of_ble_eq_true rfl) ?_
  clear hf; intro a w hf hp0; clear hp; have hp := hp0; clear hp0
  replace hp : Hp _ _ _ (Res.obj 72 v5 [.int .i64 q12.1, .int .i64 q12.2.1, .int .i64 q12.2.2.1, .int .i64 q12.2.2.2] :: Res.obj 72 v1 [.int .i64 q12.1, .int .i64 q12.2.1, .int .i64 q12.2.2.1, .int .i64 q12.2.2.2] :: ow) := hp
  refine st_assign hf rfl rfl (by decide) ?_
  clear hf; intro a ha hf; clear ha
  refine st_nil hf ?_
  refine th_n ?_
  refine wp_ret ?_
  obtain rfl := Option.some.inj h
  have hp : Hp _ _ _ (Res.obj 72 v1 [.int .i64 q12.1, .int .i64 q12.2.1, .int .i64 q12.2.2.1, .int .i64 q12.2.2.2] :: ow) := Hp.sel (pre := [Res.obj 72 v5 [.int .i64 q12.1, .int .i64 q12.2.1, .int .i64 q12.2.2.1, .int .i64 q12.2.2.2], Res.obj 72 v1 [.int .i64 q12.1, .int .i64 q12.2.1, .int .i64 q12.2.2.1, .int .i64 q12.2.2.2]]) (tail := ow) (rs' := [Res.obj 72 v1 [.int .i64 q12.1, .int .i64 q12.2.1, .int .i64 q12.2.2.1, .int .i64 q12.2.2.2]]) hp [1] (by decide) (by simp) rfl
  exact ⟨rfl, ⟨_, hf.sub ⟨rfl, rfl, trivial⟩, hp⟩⟩

noncomputable def f_foghornref06_Counts.s1c (p0 : (List Int)) (n4c_0 : Int) (n4c_1 : Int) (n4c_2 : Int) (n4c_3 : Int) (i5 : Int) : Option ((Int × Int × Int × Int × Int) ⊕ (Int × Int × Int × Int)) := (if (decide (i5 < (p0.length : Int))) = true then (if 0 ≤ i5 ∧ i5 < (p0.length : Int) then (if 0 ≤ (gt p0 i5) ∧ (gt p0 i5) < (4 : Int) then (if 0 ≤ (gt p0 i5) ∧ (gt p0 i5) < (4 : Int) then (some (Sum.inl ((gt ([n4c_0, n4c_1, n4c_2, n4c_3].set ((gt p0 i5)).toNat (IntKind.i64.wrap ((gt [n4c_0, n4c_1, n4c_2, n4c_3] (gt p0 i5)) + (1 : Int)))) (0 : Int)), (gt ([n4c_0, n4c_1, n4c_2, n4c_3].set ((gt p0 i5)).toNat (IntKind.i64.wrap ((gt [n4c_0, n4c_1, n4c_2, n4c_3] (gt p0 i5)) + (1 : Int)))) (1 : Int)), (gt ([n4c_0, n4c_1, n4c_2, n4c_3].set ((gt p0 i5)).toNat (IntKind.i64.wrap ((gt [n4c_0, n4c_1, n4c_2, n4c_3] (gt p0 i5)) + (1 : Int)))) (2 : Int)), (gt ([n4c_0, n4c_1, n4c_2, n4c_3].set ((gt p0 i5)).toNat (IntKind.i64.wrap ((gt [n4c_0, n4c_1, n4c_2, n4c_3] (gt p0 i5)) + (1 : Int)))) (3 : Int)), (IntKind.i64.wrap (i5 + (1 : Int)))))) else none) else none) else none) else (some (Sum.inr (n4c_0, n4c_1, n4c_2, n4c_3))))
noncomputable def f_foghornref06_Counts.s1 (p0 : (List Int)) (s : (Int × Int × Int × Int × Int)) : Option ((Int × Int × Int × Int × Int) ⊕ (Int × Int × Int × Int)) := f_foghornref06_Counts.s1c p0 s.1 s.2.1 s.2.2.1 s.2.2.2.1 s.2.2.2.2
noncomputable def f_foghornref06_Counts (p0 : (List Int)) : Option ((Int × Int × Int × Int) × Int) := ((f_foghornref06_row p0).bind fun q5 => (if (!q5) = true then (some (((0 : Int), (0 : Int), (0 : Int), (0 : Int)), (1 : Int))) else ((loop (f_foghornref06_Counts.s1 p0) ((0 : Int), (0 : Int), (0 : Int), (0 : Int), (0 : Int))).bind (fun q12 => (some ((q12.1, q12.2.1, q12.2.2.1, q12.2.2.2), (0 : Int)))))))
theorem f_foghornref06_Counts_c {S : Nat → Prop} {w0 w : World} {ow : List Res} (hp : Hp S w0 w ow) (vp0 : Value) (p0 : (List Int)) (hp0 : RdS (Ek.int .u8) S w0 vp0 p0) {r : ((Int × Int × Int × Int) × Int)} (h : f_foghornref06_Counts p0 = some r) :
    Calls Try.prog 42 #[vp0] w (fun e w' => e = .returned (.tuple #[.agg #[.int .i64 r.1.1, .int .i64 r.1.2.1, .int .i64 r.1.2.2.1, .int .i64 r.1.2.2.2], .int .i64 r.2]) ∧ Hp S w0 w' (ow)) := by
  unfold f_foghornref06_Counts at h
  refine enter (n := 25) (args := [vp0]) Try.func42 rfl rfl (Nat.le_of_ble_eq_true rfl) fun a hf => ?_
  replace hf : Fr 25 a [(0, vp0)] := hf
  refine wp_mono (Q := fun e a w => e = .ret ∧ ∃ (c0 : Value), Fr 25 a [(2, optr c0 0), (3, .int .i64 r.2)] ∧ Hp S w0 w (Res.obj 72 c0 [.int .i64 r.1.1, .int .i64 r.1.2.1, .int .i64 r.1.2.2.1, .int .i64 r.1.2.2.2] :: ow)) ?_ ?_
  rotate_left
  · rintro e a w ⟨rfl, c0, hf, hp⟩
    exact retG2 hf rfl ⟨_, _, rfl, hp.ob (i := 0) rfl, .inr ⟨by kernel_rfl, rfl⟩⟩ rfl ⟨rfl, hp.drop⟩
  refine wp_seq ?_
  refine wp_reg ?_
  refine st_alloc (cs := [.int .i64 (0 : Int), .int .i64 (0 : Int), .int .i64 (0 : Int), .int .i64 (0 : Int)]) (zv := .agg #[.int .i64 (0 : Int), .int .i64 (0 : Int), .int .i64 (0 : Int), .int .i64 (0 : Int)]) hf (by decide) (by kernel_rfl) rfl hp rfl ?_
  clear hf; intro a w v1 hf hp0; clear hp; have hp := hp0; clear hp0
  replace hp : Hp _ _ _ (Res.obj 72 v1 [.int .i64 (0 : Int), .int .i64 (0 : Int), .int .i64 (0 : Int), .int .i64 (0 : Int)] :: ow) := hp
  refine st_assign hf rfl rfl (by decide) ?_
  clear hf; intro a ha hf; clear ha
  refine st_nil hf ?_
  refine th_n ?_
  refine wp_seq ?_
  refine wp_reg ?_
  refine st_alloc (cs := [.int .i64 (0 : Int), .int .i64 (0 : Int), .int .i64 (0 : Int), .int .i64 (0 : Int)]) (zv := .agg #[.int .i64 (0 : Int), .int .i64 (0 : Int), .int .i64 (0 : Int), .int .i64 (0 : Int)]) hf (by decide) (by kernel_rfl) rfl hp rfl ?_
  clear hf; intro a w v3 hf hp0; clear hp; have hp := hp0; clear hp0
  replace hp : Hp _ _ _ (Res.obj 72 v3 [.int .i64 (0 : Int), .int .i64 (0 : Int), .int .i64 (0 : Int), .int .i64 (0 : Int)] :: Res.obj 72 v1 [.int .i64 (0 : Int), .int .i64 (0 : Int), .int .i64 (0 : Int), .int .i64 (0 : Int)] :: ow) := hp
  refine st_nil hf ?_
  refine th_n ?_
  refine wp_seq ?_
  refine wp_seq ?_
  refine wp_reg ?_
  refine st_move hf rfl rfl (by decide) ?_
  clear hf; intro a ha hf; clear ha
  obtain ⟨q5, hcall6, h⟩ := bnd h
  refine st_call hf (by decide) Try.func45 rfl rfl rfl rfl rfl (f_foghornref06_row_c hp _ _ hp0 hcall6) ?_
  rintro _ w ⟨rfl, hp0⟩
  clear hp; have hp := hp0; clear hp0
  replace hp : Hp _ _ _ (Res.obj 72 v3 [.int .i64 (0 : Int), .int .i64 (0 : Int), .int .i64 (0 : Int), .int .i64 (0 : Int)] :: Res.obj 72 v1 [.int .i64 (0 : Int), .int .i64 (0 : Int), .int .i64 (0 : Int), .int .i64 (0 : Int)] :: ow) := hp
  refine ⟨_, rfl, ?_⟩
  clear hf; intro a hf
  refine st_not hf (by decide) rfl rfl ?_
  clear hf; intro a ha hf; clear ha
  refine st_nil hf ?_
  refine th_n ?_
  refine wp_if hf rfl (fun hb => ?_) (fun hb => ?_)
  · replace h := ifT h hb
    refine wp_seq ?_
    refine wp_reg ?_
    refine st_ldOA (m := 4) (us := [.int .i64 (0 : Int), .int .i64 (0 : Int), .int .i64 (0 : Int), .int .i64 (0 : Int)]) hf (by decide) (by kernel_rfl) rfl rfl (hp.ob (i := 0) rfl) rfl rfl ?_
    clear hf; intro a ha hf; clear ha
    refine st_stO (us := [.int .i64 (0 : Int), .int .i64 (0 : Int), .int .i64 (0 : Int), .int .i64 (0 : Int)]) hf hp (i := 1) rfl rfl rfl rfl rfl (by rfl) (by kernel_rfl) (Nat.le_of_ble_eq_true rfl) ?_
    clear hf; intro a w hf hp0; clear hp; have hp := hp0; clear hp0
    replace hp : Hp _ _ _ (Res.obj 72 v3 [.int .i64 (0 : Int), .int .i64 (0 : Int), .int .i64 (0 : Int), .int .i64 (0 : Int)] :: Res.obj 72 v1 [.int .i64 (0 : Int), .int .i64 (0 : Int), .int .i64 (0 : Int), .int .i64 (0 : Int)] :: ow) := hp
    refine st_assign hf rfl rfl (by decide) ?_
    clear hf; intro a ha hf; clear ha
    refine st_nil hf ?_
    refine th_n ?_
    refine wp_ret ?_
    refine th_r ?_
    obtain rfl := Option.some.inj h
    have hp : Hp _ _ _ (Res.obj 72 v1 [.int .i64 (0 : Int), .int .i64 (0 : Int), .int .i64 (0 : Int), .int .i64 (0 : Int)] :: ow) := Hp.sel (pre := [Res.obj 72 v3 [.int .i64 (0 : Int), .int .i64 (0 : Int), .int .i64 (0 : Int), .int .i64 (0 : Int)], Res.obj 72 v1 [.int .i64 (0 : Int), .int .i64 (0 : Int), .int .i64 (0 : Int), .int .i64 (0 : Int)]]) (tail := ow) (rs' := [Res.obj 72 v1 [.int .i64 (0 : Int), .int .i64 (0 : Int), .int .i64 (0 : Int), .int .i64 (0 : Int)]]) hp [1] (by decide) (by simp) rfl
    exact ⟨rfl, ⟨_, hf.sub ⟨rfl, rfl, trivial⟩, hp⟩⟩
  replace h := ifF h hb
  refine wp_skip ?_
  refine th_n ?_
  refine wp_seq ?_
  refine wp_seq ?_
  refine wp_reg ?_
  refine st_assign hf rfl rfl (by decide) ?_
  clear hf; intro a ha hf; clear ha
  refine st_nil hf ?_
  refine th_n ?_
  refine wp_block ?_
  obtain ⟨q12, hl, h⟩ := bnd h
  refine wp_loop_pure (f := (f_foghornref06_Counts.s1 p0)) (s := ((0 : Int), (0 : Int), (0 : Int), (0 : Int), (0 : Int))) (fun s a w => Fr 25 a [(0, vp0), (2, optr v1 0), (4, optr v3 0), (5, .int .i64 s.2.2.2.2)] ∧ Hp S w0 w (Res.obj 72 v3 [.int .i64 s.1, .int .i64 s.2.1, .int .i64 s.2.2.1, .int .i64 s.2.2.2.1] :: Res.obj 72 v1 [.int .i64 (0 : Int), .int .i64 (0 : Int), .int .i64 (0 : Int), .int .i64 (0 : Int)] :: ow)) (fun q e a w => e = .exit 0 ∧ Fr 25 a [(2, optr v1 0), (4, optr v3 0)] ∧ Hp S w0 w (Res.obj 72 v3 [.int .i64 q.1, .int .i64 q.2.1, .int .i64 q.2.2.1, .int .i64 q.2.2.2] :: Res.obj 72 v1 [.int .i64 (0 : Int), .int .i64 (0 : Int), .int .i64 (0 : Int), .int .i64 (0 : Int)] :: ow)) ?_ hl ⟨hf.sub ⟨rfl, rfl, rfl, rfl, trivial⟩, hp⟩ ?_
  · clear hl hf hp
    intro s x a w h hI
    obtain ⟨n4c_0, n4c_1, n4c_2, n4c_3, i5⟩ := s
    obtain ⟨hf, hp⟩ : Fr 25 a [(0, vp0), (2, optr v1 0), (4, optr v3 0), (5, .int .i64 i5)] ∧ Hp S w0 w (Res.obj 72 v3 [.int .i64 n4c_0, .int .i64 n4c_1, .int .i64 n4c_2, .int .i64 n4c_3] :: Res.obj 72 v1 [.int .i64 (0 : Int), .int .i64 (0 : Int), .int .i64 (0 : Int), .int .i64 (0 : Int)] :: ow) := hI
    replace h : f_foghornref06_Counts.s1c p0 n4c_0 n4c_1 n4c_2 n4c_3 i5 = some x := h
    unfold f_foghornref06_Counts.s1c at h
    refine wp_seq ?_
    refine wp_seq ?_
    refine wp_reg ?_
    refine st_move hf rfl rfl (by decide) ?_
    clear hf; intro a ha hf; clear ha
    refine st_move hf rfl rfl (by decide) ?_
    clear hf; intro a ha hf; clear ha
    refine st_len (E := (Ek.int .u8)) hf (by decide) Try.underlying22 rfl rfl (hp0.sl hp) ?_
    clear hf; intro a ha hf; clear ha
    refine st_ilss hf (by decide) rfl rfl rfl ?_
    clear hf; intro a ha hf; clear ha
    refine st_nil hf ?_
    refine th_n ?_
    refine wp_if hf rfl (fun hb => ?_) (fun hb => ?_)
    · replace h := ifT h hb
      refine wp_skip ?_
      refine th_n ?_
      refine wp_seq ?_
      refine wp_block ?_
      refine wp_reg ?_
      refine st_move hf rfl rfl (by decide) ?_
      clear hf; intro a ha hf; clear ha
      refine st_move hf rfl rfl (by decide) ?_
      clear hf; intro a ha hf; clear ha
      obtain ⟨hc9, h⟩ := chk h
      refine st_index (E := (Ek.int .u8)) hf (by decide) Try.underlying22 elt5 rfl rfl rfl (hp0.sl hp) hc9.1 hc9.2 ?_
      clear hf; intro a ha hf; clear ha
      refine st_ldI hf (by decide) pl5 rfl rfl (hp0.sl hp) hc9.1 hc9.2 ?_
      clear hf; intro a ha hf; clear ha
      obtain ⟨hc10, h⟩ := chk h
      refine st_ia (o' := 0 + ((gt p0 i5)).toNat * 1) hf (by decide) Try.underlying72 (sz := 1) (by kernel_rfl) rfl rfl rfl (hp.ob (i := 0) rfl) hc10.1 hc10.2 rfl ?_
      clear hf; intro a ha hf; clear ha
      refine st_ldO (u := .int .i64 (gt [n4c_0, n4c_1, n4c_2, n4c_3] (gt p0 i5))) hf (by decide) pl3 rfl rfl (hp.ob (i := 0) rfl) (sel_int (xs := [n4c_0, n4c_1, n4c_2, n4c_3]) (N := 4) hc10 rfl) ?_
      clear hf; intro a ha hf; clear ha
      refine st_iadd hf (by decide) rfl rfl rfl ?_
      clear hf; intro a ha hf; clear ha
      obtain ⟨hc11, h⟩ := chk h
      refine st_ia (o' := 0 + ((gt p0 i5)).toNat * 1) hf (by decide) Try.underlying72 (sz := 1) (by kernel_rfl) rfl rfl rfl (hp.ob (i := 0) rfl) hc11.1 hc11.2 rfl ?_
      clear hf; intro a ha hf; clear ha
      refine st_stOE (us := [.int .i64 (IntKind.i64.wrap ((gt [n4c_0, n4c_1, n4c_2, n4c_3] (gt p0 i5)) + (1 : Int)))]) hf hp (i := 0) rfl rfl rfl rfl rfl (by rfl) (by kernel_rfl) (st_bd hc11) (sti_int4 hc11) ?_
      clear hf; intro a w hf hp0; clear hp; have hp := hp0; clear hp0
      replace hp : Hp _ _ _ (Res.obj 72 v3 [.int .i64 (gt ([n4c_0, n4c_1, n4c_2, n4c_3].set ((gt p0 i5)).toNat (IntKind.i64.wrap ((gt [n4c_0, n4c_1, n4c_2, n4c_3] (gt p0 i5)) + (1 : Int)))) (0 : Int)), .int .i64 (gt ([n4c_0, n4c_1, n4c_2, n4c_3].set ((gt p0 i5)).toNat (IntKind.i64.wrap ((gt [n4c_0, n4c_1, n4c_2, n4c_3] (gt p0 i5)) + (1 : Int)))) (1 : Int)), .int .i64 (gt ([n4c_0, n4c_1, n4c_2, n4c_3].set ((gt p0 i5)).toNat (IntKind.i64.wrap ((gt [n4c_0, n4c_1, n4c_2, n4c_3] (gt p0 i5)) + (1 : Int)))) (2 : Int)), .int .i64 (gt ([n4c_0, n4c_1, n4c_2, n4c_3].set ((gt p0 i5)).toNat (IntKind.i64.wrap ((gt [n4c_0, n4c_1, n4c_2, n4c_3] (gt p0 i5)) + (1 : Int)))) (3 : Int))] :: Res.obj 72 v1 [.int .i64 (0 : Int), .int .i64 (0 : Int), .int .i64 (0 : Int), .int .i64 (0 : Int)] :: ow) := hp
      refine st_nil hf ?_
      refine ib_n ?_
      refine th_n ?_
      refine wp_reg ?_
      refine st_move hf rfl rfl (by decide) ?_
      clear hf; intro a ha hf; clear ha
      refine st_iadd hf (by decide) rfl rfl rfl ?_
      clear hf; intro a ha hf; clear ha
      refine st_assign hf rfl rfl (by decide) ?_
      clear hf; intro a ha hf; clear ha
      refine st_nil hf ?_
      obtain rfl := Option.some.inj h
      exact rnd_l ⟨hf.sub ⟨rfl, rfl, rfl, rfl, trivial⟩, hp⟩
    replace h := ifF h hb
    refine wp_exit ?_
    refine th_e ?_
    obtain rfl := Option.some.inj h
    exact rnd_r (by simp) ⟨rfl, hf.sub ⟨rfl, rfl, trivial⟩, hp⟩
  clear hl hf hp
  intro e a w hne hO
  obtain ⟨rfl, hf, hp⟩ := hO
  refine ib_same ?_
  refine th_n ?_
  refine wp_seq ?_
  refine wp_reg ?_
  refine st_ldOA (m := 4) (us := [.int .i64 q12.1, .int .i64 q12.2.1, .int .i64 q12.2.2.1, .int .i64 q12.2.2.2]) hf (by decide) (by kernel_rfl) rfl rfl (hp.ob (i := 0) rfl) rfl rfl ?_
  clear hf; intro a ha hf; clear ha
  refine st_stO (us := [.int .i64 q12.1, .int .i64 q12.2.1, .int .i64 q12.2.2.1, .int .i64 q12.2.2.2]) hf hp (i := 1) rfl rfl rfl rfl rfl (by rfl) (by kernel_rfl) (Nat.le_of_ble_eq_true rfl) ?_
  clear hf; intro a w hf hp0; clear hp; have hp := hp0; clear hp0
  replace hp : Hp _ _ _ (Res.obj 72 v3 [.int .i64 q12.1, .int .i64 q12.2.1, .int .i64 q12.2.2.1, .int .i64 q12.2.2.2] :: Res.obj 72 v1 [.int .i64 q12.1, .int .i64 q12.2.1, .int .i64 q12.2.2.1, .int .i64 q12.2.2.2] :: ow) := hp
  refine st_assign hf rfl rfl (by decide) ?_
  clear hf; intro a ha hf; clear ha
  refine st_nil hf ?_
  refine th_n ?_
  refine wp_ret ?_
  obtain rfl := Option.some.inj h
  have hp : Hp _ _ _ (Res.obj 72 v1 [.int .i64 q12.1, .int .i64 q12.2.1, .int .i64 q12.2.2.1, .int .i64 q12.2.2.2] :: ow) := Hp.sel (pre := [Res.obj 72 v3 [.int .i64 q12.1, .int .i64 q12.2.1, .int .i64 q12.2.2.1, .int .i64 q12.2.2.2], Res.obj 72 v1 [.int .i64 q12.1, .int .i64 q12.2.1, .int .i64 q12.2.2.1, .int .i64 q12.2.2.2]]) (tail := ow) (rs' := [Res.obj 72 v1 [.int .i64 q12.1, .int .i64 q12.2.1, .int .i64 q12.2.2.1, .int .i64 q12.2.2.2]]) hp [1] (by decide) (by simp) rfl
  exact ⟨rfl, ⟨_, hf.sub ⟨rfl, rfl, trivial⟩, hp⟩⟩

end Go.Proofs.Ytienojgmpjpcjaa
