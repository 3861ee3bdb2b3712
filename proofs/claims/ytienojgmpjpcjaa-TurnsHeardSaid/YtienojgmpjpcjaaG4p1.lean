/- The functions foghorn foghornlaw06.TurnsHeard: what each answers, as a plain function, and that its call answers it; printed by gen.py. -/
import Derived.Test.YtienojgmpjpcjaaProg
import Derived.Test.YtienojgmpjpcjaaGlY
import Derived.KernelRfl
set_option linter.unusedVariables false
set_option linter.unusedSimpArgs false
set_option maxRecDepth 100000
set_option maxHeartbeats 4000000
namespace Go.Proofs.Ytienojgmpjpcjaa
open GL
theorem elt4 : ElT Try.prog Ek.bool 4 1 false := ElT.of (z := .bool false) (by kernel_rfl) rfl
theorem elt5 : ElT Try.prog (Ek.int .u8) 5 1 (0 : Int) := ElT.of (z := .int .u8 0) (by kernel_rfl) rfl
theorem elt49 : ElT Try.prog Ek.c128 49 16 (Fl.bits 0, Fl.bits 0) := ElT.of (z := .complex .f64 0 0) (by kernel_rfl) ⟨_, _, rfl, rfl, rfl⟩
theorem elt51 : ElT Try.prog (Ek.pair Ek.c128 Ek.bool) 51 24 ((Fl.bits 0, Fl.bits 0), false) := ElT.of (z := .agg #[.complex .f64 0 0, .bool false]) (by kernel_rfl) ⟨[.complex .f64 0 0], [.bool false], rfl, ⟨_, _, rfl, rfl, rfl⟩, rfl⟩
theorem elt65 : ElT Try.prog (Ek.pair (Ek.int .i16) (Ek.int .i16)) 65 4 ((0 : Int), (0 : Int)) := ElT.of (z := .agg #[.int .i16 0, .int .i16 0]) (by kernel_rfl) ⟨[.int .i16 0], [.int .i16 0], rfl, rfl, rfl⟩
theorem pl4 : Plain Try.prog 4 := ⟨⟨_, Try.underlying4, trivial⟩⟩
theorem pl5 : Plain Try.prog 5 := ⟨⟨_, Try.underlying5, trivial⟩⟩
theorem pl22 : Plain Try.prog 22 := ⟨⟨_, Try.underlying22, trivial⟩⟩
theorem pl27 : Plain Try.prog 27 := ⟨⟨_, Try.underlying27, trivial⟩⟩
theorem pl49 : Plain Try.prog 49 := ⟨⟨_, Try.underlying49, trivial⟩⟩
theorem pl61 : Plain Try.prog 61 := ⟨⟨_, Try.underlying61, trivial⟩⟩
theorem pl64 : Plain Try.prog 64 := ⟨⟨_, Try.underlying64, trivial⟩⟩
noncomputable def f_foghornlaw06_fit.s1c (qx0 : (List Int)) (most1 : Int) (out5 : (List Int)) (i6 : Int) : Option (((List Int) × Int) ⊕ (List Int)) := (if ((decide (i6 < (qx0.length : Int))) && (decide (i6 < most1))) = true then (if 0 ≤ i6 ∧ i6 < (qx0.length : Int) then (if (out5.length + ([(((gt qx0 i6)).tmod (4 : Int))]).length) * 1 ≤ 140737488355328 then (some (Sum.inl ((out5 ++ [(((gt qx0 i6)).tmod (4 : Int))]), (IntKind.i64.wrap (i6 + (1 : Int)))))) else none) else none) else (some (Sum.inr out5)))
noncomputable def f_foghornlaw06_fit.s1 (qx0 : (List Int)) (most1 : Int) (s : ((List Int) × Int)) : Option (((List Int) × Int) ⊕ (List Int)) := f_foghornlaw06_fit.s1c qx0 most1 s.1 s.2
noncomputable def f_foghornlaw06_fit (qx0 : (List Int)) (most1 : Int) : Option (List Int) := ((loop (f_foghornlaw06_fit.s1 qx0 most1) ([], (0 : Int))).bind (fun q12 => (some q12)))
theorem f_foghornlaw06_fit_c {S : Nat → Prop} {w0 w : World} {ow : List Res} (hp : Hp S w0 w ow) (vqx0 : Value) (qx0 : (List Int)) (hqx0 : RdS (Ek.int .u8) S w0 vqx0 qx0) (most1 : Int) {r : (List Int)} (h : f_foghornlaw06_fit qx0 most1 = some r) :
    Calls Try.prog 8 #[vqx0, .int .i64 most1] w (fun e w' => ∃ (u0 : Value), e = .returned (u0) ∧ Hp S w0 w' (Res.sl (Ek.int .u8) 5 u0 r :: ow)) := by
  unfold f_foghornlaw06_fit at h
  refine enter (n := 27) (args := [vqx0, .int .i64 most1]) Try.func8 rfl rfl (Nat.le_of_ble_eq_true rfl) fun a hf => ?_
  replace hf : Fr 27 a [(0, vqx0), (1, .int .i64 most1)] := hf
  refine wp_mono (Q := fun e a w => e = .ret ∧ ∃ (u0 : Value), Fr 27 a [(4, u0)] ∧ Hp S w0 w (Res.sl (Ek.int .u8) 5 u0 r :: ow)) ?_ ?_
  rotate_left
  · rintro e a w ⟨rfl, x0, hf, hp⟩
    exact ret1 hf rfl rfl ⟨x0, rfl, hp⟩
  refine wp_seq ?_
  refine wp_reg ?_
  refine st_assign hf rfl rfl (by decide) ?_
  clear hf; intro a ha hf; clear ha
  refine st_nil hf ?_
  refine th_n ?_
  refine wp_seq ?_
  refine wp_reg ?_
  refine st_assign hf rfl rfl (by decide) ?_
  clear hf; intro a ha hf; clear ha
  refine st_nil hf ?_
  refine th_n ?_
  refine wp_seq ?_
  refine wp_seq ?_
  refine wp_reg ?_
  refine st_assign hf rfl rfl (by decide) ?_
  clear hf; intro a ha hf; clear ha
  refine st_nil hf ?_
  refine th_n ?_
  refine wp_block ?_
  obtain ⟨q12, hl, h⟩ := bnd h
  have hp := hp.nil (Ek.int .u8) 5
  refine wp_loop_pure (f := (f_foghornlaw06_fit.s1 qx0 most1)) (s := ([], (0 : Int))) (fun s a w => ∃ (v1 : Value), Fr 27 a [(0, vqx0), (1, .int .i64 most1), (5, v1), (6, .int .i64 s.2)] ∧ Hp S w0 w (Res.sl (Ek.int .u8) 5 v1 s.1 :: ow)) (fun q e a w => e = .exit 0 ∧ ∃ (v3 : Value), Fr 27 a [(5, v3)] ∧ Hp S w0 w (Res.sl (Ek.int .u8) 5 v3 q :: ow)) ?_ hl ⟨_, hf.sub ⟨rfl, rfl, rfl, rfl, trivial⟩, hp⟩ ?_
  · clear hl hf hp
    intro s x a w h hI
    obtain ⟨out5, i6⟩ := s
    obtain ⟨v1, hf, hp⟩ : ∃ (v1 : Value), Fr 27 a [(0, vqx0), (1, .int .i64 most1), (5, v1), (6, .int .i64 i6)] ∧ Hp S w0 w (Res.sl (Ek.int .u8) 5 v1 out5 :: ow) := hI
    replace h : f_foghornlaw06_fit.s1c qx0 most1 out5 i6 = some x := h
    unfold f_foghornlaw06_fit.s1c at h
    refine wp_seq ?_
    refine wp_seq ?_
    refine wp_reg ?_
    refine st_move hf rfl rfl (by decide) ?_
    clear hf; intro a ha hf; clear ha
    refine st_move hf rfl rfl (by decide) ?_
    clear hf; intro a ha hf; clear ha
    refine st_len (E := (Ek.int .u8)) hf (by decide) Try.underlying22 rfl rfl (hqx0.sl hp) ?_
    clear hf; intro a ha hf; clear ha
    refine st_ilss hf (by decide) rfl rfl rfl ?_
    clear hf; intro a ha hf; clear ha
    refine st_move hf rfl rfl (by decide) ?_
    clear hf; intro a ha hf; clear ha
    refine wpList_cut 4 (fun a w => Fr 27 a [(0, vqx0), (1, .int .i64 most1), (5, v1), (6, .int .i64 i6), (15, .bool ((decide (i6 < (qx0.length : Int))) && (decide (i6 < most1))))] ∧ Hp S w0 w (Res.sl (Ek.int .u8) 5 v1 out5 :: ow)) ?_ ?_
    · rcases Bool.eq_false_or_eq_true (decide (i6 < (qx0.length : Int))) with hb6 | hb6
      · skip
        refine st_move hf (wantY hf rfl rfl hb6) rfl (by decide) ?_
        clear hf; intro a ha hf; clear ha
        refine st_move hf (wantY hf rfl rfl hb6) rfl (by decide) ?_
        clear hf; intro a ha hf; clear ha
        refine st_ilss hf (by decide) (wantY hf rfl rfl hb6) rfl rfl ?_
        clear hf; intro a ha hf; clear ha
        refine st_pick (v := .bool (decide (i6 < most1))) hf rfl rfl (fun hb' => ?_) (fun hb' => ?_) (by decide) ?_
        · rfl
        · exact absurd (hb6.symm.trans hb') (by decide)
        clear hf; intro a ha hf; clear ha
        refine st_nil hf (th_n ?_)
        exact ⟨hf.sub ⟨rfl, rfl, rfl, rfl, (by rw [hb6]; rfl), trivial⟩, hp⟩
      refine st_skip hf (wantN hf rfl rfl hb6) rfl (by decide) ?_ rfl
      clear hf; intro a hf
      refine st_skip hf (wantN hf rfl rfl hb6) rfl (by decide) ?_ rfl
      clear hf; intro a hf
      refine st_skip hf (wantN hf rfl rfl hb6) rfl (by decide) ?_ rfl
      clear hf; intro a hf
      refine st_pick (v := .bool false) hf rfl rfl (fun hb' => ?_) (fun hb' => ?_) (by decide) ?_
      · exact absurd (hb6.symm.trans hb') (by decide)
      · rfl
      clear hf; intro a ha hf; clear ha
      refine st_nil hf (th_n ?_)
      exact ⟨hf.sub ⟨rfl, rfl, rfl, rfl, (by rw [hb6]; rfl), trivial⟩, hp⟩
    rintro a w ⟨hf, hp⟩
    refine st_nil hf ?_
    refine th_n ?_
    refine wp_if hf rfl (fun hb => ?_) (fun hb => ?_)
    · replace h := ifT h hb
      refine wp_skip ?_
      refine th_n ?_
      refine wp_seq ?_
      refine wp_block ?_
      refine wp_reg ?_
      refine st_move hf rfl rfl (by decide) ?_
      clear hf; intro a ha hf; clear ha
      refine st_move hf rfl rfl (by decide) ?_
      clear hf; intro a ha hf; clear ha
      refine st_move hf rfl rfl (by decide) ?_
      clear hf; intro a ha hf; clear ha
      obtain ⟨hc7, h⟩ := chk h
      refine st_index (E := (Ek.int .u8)) hf (by decide) Try.underlying22 elt5 rfl rfl rfl (hqx0.sl hp) hc7.1 hc7.2 ?_
      clear hf; intro a ha hf; clear ha
      refine st_ldI hf (by decide) pl5 rfl rfl (hqx0.sl hp) hc7.1 hc7.2 ?_
      clear hf; intro a ha hf; clear ha
      refine st_irem hf (by decide) rfl rfl rfl (by decide) ?_
      clear hf; intro a ha hf; clear ha
      refine st_build (E := (Ek.int .u8)) (xs := [(((gt qx0 i6)).tmod (4 : Int))]) hf (by decide) elt5 Try.underlying22 hp (vals := #[(0, .int .u8 (((gt qx0 i6)).tmod (4 : Int)))]) (cells := #[.int .u8 (((gt qx0 i6)).tmod (4 : Int))]) rfl (by simp [hf.ev (x := (Operand.tmp 23)) rfl]) (by decide) (by decide) (z := .int .u8 0) (by kernel_rfl) (by kernel_rfl) rfl (reps_cons (cs := [.int .u8 (((gt qx0 i6)).tmod (4 : Int))]) rfl (reps_nil _)) ?_
      clear hf; intro a w v8 hf hp0; clear hp; have hp := hp0; clear hp0
      replace hp : Hp _ _ _ (Res.sl (Ek.int .u8) 5 v8 ([(((gt qx0 i6)).tmod (4 : Int))]) :: Res.sl (Ek.int .u8) 5 v1 out5 :: ow) := hp
      obtain ⟨hc10, h⟩ := chk h
      refine st_append (E := (Ek.int .u8)) hf (by decide) elt5 Try.underlying22 (by decide) hp (i := 1) rfl rfl rfl rfl (hp.sl (i := 0) rfl) hc10 ?_
      clear hf; intro a w v11 hf hp0; clear hp; have hp := hp0; clear hp0
      replace hp : Hp _ _ _ (Res.sl (Ek.int .u8) 5 v8 ([(((gt qx0 i6)).tmod (4 : Int))]) :: Res.sl (Ek.int .u8) 5 v11 (out5 ++ [(((gt qx0 i6)).tmod (4 : Int))]) :: ow) := hp
      refine st_assign hf rfl rfl (by decide) ?_
      clear hf; intro a ha hf; clear ha
      refine st_nil hf ?_
      refine ib_n ?_
      refine th_n ?_
      refine wp_reg ?_
      refine st_move hf rfl rfl (by decide) ?_
      clear hf; intro a ha hf; clear ha
      refine st_iadd hf (by decide) rfl rfl rfl ?_
      clear hf; intro a ha hf; clear ha
      refine st_assign hf rfl rfl (by decide) ?_
      clear hf; intro a ha hf; clear ha
      refine st_nil hf ?_
      obtain rfl := Option.some.inj h
      have hp : Hp _ _ _ (Res.sl (Ek.int .u8) 5 v11 (out5 ++ [(((gt qx0 i6)).tmod (4 : Int))]) :: ow) := Hp.sel (pre := [Res.sl (Ek.int .u8) 5 v8 ([(((gt qx0 i6)).tmod (4 : Int))]), Res.sl (Ek.int .u8) 5 v11 (out5 ++ [(((gt qx0 i6)).tmod (4 : Int))])]) (tail := ow) (rs' := [Res.sl (Ek.int .u8) 5 v11 (out5 ++ [(((gt qx0 i6)).tmod (4 : Int))])]) hp [1] (by decide) (by simp) rfl
      exact rnd_l ⟨_, hf.sub ⟨rfl, rfl, rfl, rfl, trivial⟩, hp⟩
    replace h := ifF h hb
    refine wp_exit ?_
    refine th_e ?_
    obtain rfl := Option.some.inj h
    exact rnd_r (by simp) ⟨rfl, _, hf.sub ⟨rfl, trivial⟩, hp⟩
  clear hl hf hp
  intro e a w hne hO
  obtain ⟨rfl, v3, hf, hp⟩ := hO
  refine ib_same ?_
  refine th_n ?_
  refine wp_seq ?_
  refine wp_reg ?_
  refine st_move hf rfl rfl (by decide) ?_
  clear hf; intro a ha hf; clear ha
  refine st_assign hf rfl rfl (by decide) ?_
  clear hf; intro a ha hf; clear ha
  refine st_nil hf ?_
  refine th_n ?_
  refine wp_ret ?_
  obtain rfl := Option.some.inj h
  exact ⟨rfl, ⟨_, hf.sub ⟨rfl, trivial⟩, hp⟩⟩

noncomputable def f_turns_row.s1c (qx0 : (List Int)) (t7 : Int) : Option (Int ⊕ (Unit ⊕ Bool)) := (if (decide (t7 < (qx0.length : Int))) = true then (if 0 ≤ t7 ∧ t7 < (qx0.length : Int) then (if (decide ((3 : Int) < (gt qx0 t7))) = true then (some (Sum.inr (Sum.inr false))) else (some (Sum.inl (IntKind.i64.wrap (t7 + (1 : Int)))))) else none) else (some (Sum.inr (Sum.inl ()))))
noncomputable def f_turns_row.s1 (qx0 : (List Int)) (s : Int) : Option (Int ⊕ (Unit ⊕ Bool)) := f_turns_row.s1c qx0 s
noncomputable def f_turns_row (qx0 : (List Int)) : Option Bool := ((loop (f_turns_row.s1 qx0) (0 : Int)).bind (fun q2 => sm q2 (fun q3 => (some (decide ((qx0.length : Int) ≤ (65536 : Int))))) (fun q4 => (some q4))))
theorem f_turns_row_c {S : Nat → Prop} {w0 w : World} {ow : List Res} (hp : Hp S w0 w ow) (vqx0 : Value) (qx0 : (List Int)) (hqx0 : RdS (Ek.int .u8) S w0 vqx0 qx0) {r : Bool} (h : f_turns_row qx0 = some r) :
    Calls Try.prog 36 #[vqx0] w (fun e w' => e = .returned (.bool r) ∧ Hp S w0 w' (ow)) := by
  unfold f_turns_row at h
  refine enter (n := 17) (args := [vqx0]) Try.func36 rfl rfl (Nat.le_of_ble_eq_true rfl) fun a hf => ?_
  replace hf : Fr 17 a [(0, vqx0)] := hf
  refine wp_mono (Q := fun e a w => e = .ret ∧ Fr 17 a [(2, .bool r)] ∧ Hp S w0 w (ow)) ?_ ?_
  rotate_left
  · rintro e a w ⟨rfl, hf, hp⟩
    exact ret1 hf rfl rfl ⟨rfl, hp⟩
  refine wp_seq ?_
  refine wp_reg ?_
  refine st_assign hf rfl rfl (by decide) ?_
  clear hf; intro a ha hf; clear ha
  refine st_nil hf ?_
  refine th_n ?_
  refine wp_seq ?_
  refine wp_seq ?_
  refine wp_reg ?_
  refine st_move hf rfl rfl (by decide) ?_
  clear hf; intro a ha hf; clear ha
  refine st_len (E := (Ek.int .u8)) hf (by decide) Try.underlying22 rfl rfl (hqx0.sl hp) ?_
  clear hf; intro a ha hf; clear ha
  refine st_move hf rfl rfl (by decide) ?_
  clear hf; intro a ha hf; clear ha
  refine st_nil hf ?_
  refine th_n ?_
  refine wp_block ?_
  obtain ⟨q2, hl, h⟩ := bnd h
  refine wp_loop_pure (f := (f_turns_row.s1 qx0)) (s := (0 : Int)) (fun s a w => Fr 17 a [(0, vqx0), (5, vqx0), (6, .int .i64 (qx0.length : Int)), (7, .int .i64 s)] ∧ Hp S w0 w (ow)) (fun q e a w => match q with | (Sum.inl q) => e = .exit 0 ∧ Fr 17 a [(0, vqx0)] ∧ Hp S w0 w (ow) | (Sum.inr q) => e = .ret ∧ Fr 17 a [(2, .bool q)] ∧ Hp S w0 w (ow)) ?_ hl ⟨hf.sub ⟨rfl, rfl, rfl, rfl, trivial⟩, hp⟩ ?_
  · clear hl hf hp
    intro s x a w h hI
    obtain ⟨t7, hs⟩ : ∃ z, z = s := ⟨s, rfl⟩; subst hs
    obtain ⟨hf, hp⟩ : Fr 17 a [(0, vqx0), (5, vqx0), (6, .int .i64 (qx0.length : Int)), (7, .int .i64 t7)] ∧ Hp S w0 w (ow) := hI
    replace h : f_turns_row.s1c qx0 t7 = some x := h
    unfold f_turns_row.s1c at h
    refine wp_seq ?_
    refine wp_reg ?_
    refine st_ilss hf (by decide) rfl rfl rfl ?_
    clear hf; intro a ha hf; clear ha
    refine st_nil hf ?_
    refine th_n ?_
    refine wp_seq ?_
    refine wp_if hf rfl (fun hb => ?_) (fun hb => ?_)
    · replace h := ifT h hb
      refine wp_skip ?_
      refine th_n ?_
      refine wp_seq ?_
      refine wp_block ?_
      refine wp_seq ?_
      refine wp_reg ?_
      obtain ⟨hc1, h⟩ := chk h
      refine st_index (E := (Ek.int .u8)) hf (by decide) Try.underlying22 elt5 rfl rfl rfl (hqx0.sl hp) hc1.1 hc1.2 ?_
      clear hf; intro a ha hf; clear ha
      refine st_ldI hf (by decide) pl5 rfl rfl (hqx0.sl hp) hc1.1 hc1.2 ?_
      clear hf; intro a ha hf; clear ha
      refine st_assign hf rfl rfl (by decide) ?_
      clear hf; intro a ha hf; clear ha
      refine st_nil hf ?_
      refine th_n ?_
      refine wp_seq ?_
      refine wp_reg ?_
      refine st_move hf rfl rfl (by decide) ?_
      clear hf; intro a ha hf; clear ha
      refine st_igtr hf (by decide) rfl rfl rfl ?_
      clear hf; intro a ha hf; clear ha
      refine st_nil hf ?_
      refine th_n ?_
      refine wp_if hf rfl (fun hb => ?_) (fun hb => ?_)
      · replace h := ifT h hb
        refine wp_seq ?_
        refine wp_reg ?_
        refine st_assign hf rfl rfl (by decide) ?_
        clear hf; intro a ha hf; clear ha
        refine st_nil hf ?_
        refine th_n ?_
        refine wp_ret ?_
        refine ib_r ?_
        refine th_r ?_
        obtain rfl := Option.some.inj h
        exact rnd_r (by simp) ⟨rfl, ⟨hf.sub ⟨rfl, trivial⟩, hp⟩⟩
      replace h := ifF h hb
      refine wp_skip ?_
      refine ib_n ?_
      refine th_n ?_
      refine wp_reg ?_
      refine st_iadd hf (by decide) rfl rfl rfl ?_
      clear hf; intro a ha hf; clear ha
      refine st_move hf rfl rfl (by decide) ?_
      clear hf; intro a ha hf; clear ha
      refine st_nil hf ?_
      obtain rfl := Option.some.inj h
      exact rnd_l ⟨hf.sub ⟨rfl, rfl, rfl, rfl, trivial⟩, hp⟩
    replace h := ifF h hb
    refine wp_exit ?_
    refine th_e ?_
    obtain rfl := Option.some.inj h
    exact rnd_r (by simp) ⟨rfl, hf.sub ⟨rfl, trivial⟩, hp⟩
  clear hl hf hp
  intro e a w hne hO
  rcases q2 with q3 | q4
  · replace h := smL h
    obtain ⟨rfl, hf, hp⟩ := hO
    refine ib_same ?_
    refine th_n ?_
    refine wp_seq ?_
    refine wp_reg ?_
    refine st_move hf rfl rfl (by decide) ?_
    clear hf; intro a ha hf; clear ha
    refine st_len (E := (Ek.int .u8)) hf (by decide) Try.underlying22 rfl rfl (hqx0.sl hp) ?_
    clear hf; intro a ha hf; clear ha
    refine st_ileq hf (by decide) rfl rfl rfl ?_
    clear hf; intro a ha hf; clear ha
    refine st_assign hf rfl rfl (by decide) ?_
    clear hf; intro a ha hf; clear ha
    refine st_nil hf ?_
    refine th_n ?_
    refine wp_ret ?_
    obtain rfl := Option.some.inj h
    exact ⟨rfl, ⟨hf.sub ⟨rfl, trivial⟩, hp⟩⟩
  replace h := smR h
  obtain ⟨rfl, hf, hp⟩ := hO
  refine ib_r ?_
  refine th_r ?_
  obtain rfl := Option.some.inj h
  exact ⟨rfl, ⟨hf.sub ⟨rfl, trivial⟩, hp⟩⟩

noncomputable def f_plane_Turn (zx0 : (Fl × Fl)) (quarters1 : Int) : Option (Fl × Fl) := (if ((iand .i64 quarters1 (3 : Int)) == (1 : Int)) = true then (some ((fneg zx0.2), zx0.1)) else (if ((iand .i64 quarters1 (3 : Int)) == (2 : Int)) = true then (some ((fneg zx0.1), (fneg zx0.2))) else (if ((iand .i64 quarters1 (3 : Int)) == (3 : Int)) = true then (some (zx0.2, (fneg zx0.1))) else (some zx0))))
theorem f_plane_Turn_c {S : Nat → Prop} {w0 w : World} {ow : List Res} (hp : Hp S w0 w ow) (bzx0 czx0 : Nat) (zx0 : Fl × Fl) (hzx0 : zx0.1.rep bzx0) (kzx0 : zx0.2.rep czx0) (quarters1 : Int) {r : (Fl × Fl)} (h : f_plane_Turn zx0 quarters1 = some r) :
    Calls Try.prog 44 #[.complex .f64 bzx0 czx0, .int .i64 quarters1] w (fun e w' => ∃ (b0 : Nat) (b1 : Nat), e = .returned (.complex .f64 b0 b1) ∧ Fl.rep b0 r.1 ∧ Fl.rep b1 r.2 ∧ Hp S w0 w' (ow)) := by
  unfold f_plane_Turn at h
  refine enter (n := 33) (args := [.complex .f64 bzx0 czx0, .int .i64 quarters1]) Try.func44 rfl rfl (Nat.le_of_ble_eq_true rfl) fun a hf => ?_
  replace hf : Fr 33 a [(0, .complex .f64 bzx0 czx0), (1, .int .i64 quarters1)] := hf
  refine wp_mono (Q := fun e a w => e = .ret ∧ ∃ (b0 : Nat) (b1 : Nat), Fr 33 a [(4, .complex .f64 b0 b1)] ∧ Fl.rep b0 r.1 ∧ Fl.rep b1 r.2 ∧ Hp S w0 w (ow)) ?_ ?_
  rotate_left
  · rintro e a w ⟨rfl, x0, x1, hf, y0, y1, hp⟩
    exact ret1 hf rfl rfl ⟨x0, x1, rfl, y0, y1, hp⟩
  refine wp_seq ?_
  refine wp_reg ?_
  refine st_assign hf rfl rfl (by decide) ?_
  clear hf; intro a ha hf; clear ha
  refine st_nil hf ?_
  refine th_n ?_
  refine wp_seq ?_
  refine wp_seq ?_
  refine wp_reg ?_
  refine st_move hf rfl rfl (by decide) ?_
  clear hf; intro a ha hf; clear ha
  refine st_iand hf (by decide) rfl rfl rfl ?_
  clear hf; intro a ha hf; clear ha
  refine st_nil hf ?_
  refine th_n ?_
  refine wp_block ?_
  refine wp_seq ?_
  refine wp_reg ?_
  refine st_ieql hf (by decide) rfl rfl rfl ?_
  clear hf; intro a ha hf; clear ha
  refine st_assign hf rfl rfl (by decide) ?_
  clear hf; intro a ha hf; clear ha
  refine st_nil hf ?_
  refine th_n ?_
  refine wp_if hf rfl (fun hb => ?_) (fun hb => ?_)
  · replace h := ifT h hb
    refine wp_seq ?_
    refine wp_reg ?_
    refine st_move hf rfl rfl (by decide) ?_
    clear hf; intro a ha hf; clear ha
    refine st_imag hf (by decide) rfl rfl ?_
    clear hf; intro a ha hf; clear ha
    refine st_fneg hf (by decide) rfl rfl ?_
    clear hf; intro a ha hf; clear ha
    refine st_move hf rfl rfl (by decide) ?_
    clear hf; intro a ha hf; clear ha
    refine st_real hf (by decide) rfl rfl ?_
    clear hf; intro a ha hf; clear ha
    refine st_complex hf (by decide) rfl rfl rfl ?_
    clear hf; intro a ha hf; clear ha
    refine st_assign hf rfl rfl (by decide) ?_
    clear hf; intro a ha hf; clear ha
    refine st_nil hf ?_
    refine th_n ?_
    refine wp_ret ?_
    refine ib_r ?_
    refine th_r ?_
    obtain rfl := Option.some.inj h
    exact ⟨rfl, ⟨_, _, hf.sub ⟨rfl, trivial⟩, (fneg_rep kzx0), hzx0, hp⟩⟩
  replace h := ifF h hb
  refine wp_seq ?_
  refine wp_reg ?_
  refine st_ieql hf (by decide) rfl rfl rfl ?_
  clear hf; intro a ha hf; clear ha
  refine st_assign hf rfl rfl (by decide) ?_
  clear hf; intro a ha hf; clear ha
  refine st_nil hf ?_
  refine th_n ?_
  refine wp_if hf rfl (fun hb => ?_) (fun hb => ?_)
  · replace h := ifT h hb
    refine wp_seq ?_
    refine wp_reg ?_
    refine st_move hf rfl rfl (by decide) ?_
    clear hf; intro a ha hf; clear ha
    refine st_real hf (by decide) rfl rfl ?_
    clear hf; intro a ha hf; clear ha
    refine st_fneg hf (by decide) rfl rfl ?_
    clear hf; intro a ha hf; clear ha
    refine st_move hf rfl rfl (by decide) ?_
    clear hf; intro a ha hf; clear ha
    refine st_imag hf (by decide) rfl rfl ?_
    clear hf; intro a ha hf; clear ha
    refine st_fneg hf (by decide) rfl rfl ?_
    clear hf; intro a ha hf; clear ha
    refine st_complex hf (by decide) rfl rfl rfl ?_
    clear hf; intro a ha hf; clear ha
    refine st_assign hf rfl rfl (by decide) ?_
    clear hf; intro a ha hf; clear ha
    refine st_nil hf ?_
    refine th_n ?_
    refine wp_ret ?_
    refine ib_r ?_
    refine th_r ?_
    obtain rfl := Option.some.inj h
    exact ⟨rfl, ⟨_, _, hf.sub ⟨rfl, trivial⟩, (fneg_rep hzx0), (fneg_rep kzx0), hp⟩⟩
  replace h := ifF h hb
  refine wp_seq ?_
  refine wp_reg ?_
  refine st_ieql hf (by decide) rfl rfl rfl ?_
  clear hf; intro a ha hf; clear ha
  refine st_assign hf rfl rfl (by decide) ?_
  clear hf; intro a ha hf; clear ha
  refine st_nil hf ?_
  refine th_n ?_
  refine wp_if hf rfl (fun hb => ?_) (fun hb => ?_)
  · replace h := ifT h hb
    refine wp_seq ?_
    refine wp_reg ?_
    refine st_move hf rfl rfl (by decide) ?_
    clear hf; intro a ha hf; clear ha
    refine st_imag hf (by decide) rfl rfl ?_
    clear hf; intro a ha hf; clear ha
    refine st_move hf rfl rfl (by decide) ?_
    clear hf; intro a ha hf; clear ha
    refine st_real hf (by decide) rfl rfl ?_
    clear hf; intro a ha hf; clear ha
    refine st_fneg hf (by decide) rfl rfl ?_
    clear hf; intro a ha hf; clear ha
    refine st_complex hf (by decide) rfl rfl rfl ?_
    clear hf; intro a ha hf; clear ha
    refine st_assign hf rfl rfl (by decide) ?_
    clear hf; intro a ha hf; clear ha
    refine st_nil hf ?_
    refine th_n ?_
    refine wp_ret ?_
    refine ib_r ?_
    refine th_r ?_
    obtain rfl := Option.some.inj h
    exact ⟨rfl, ⟨_, _, hf.sub ⟨rfl, trivial⟩, kzx0, (fneg_rep hzx0), hp⟩⟩
  replace h := ifF h hb
  refine wp_skip ?_
  refine ib_n ?_
  refine th_n ?_
  refine wp_seq ?_
  refine wp_reg ?_
  refine st_move hf rfl rfl (by decide) ?_
  clear hf; intro a ha hf; clear ha
  refine st_assign hf rfl rfl (by decide) ?_
  clear hf; intro a ha hf; clear ha
  refine st_nil hf ?_
  refine th_n ?_
  refine wp_ret ?_
  obtain rfl := Option.some.inj h
  exact ⟨rfl, ⟨_, _, hf.sub ⟨rfl, trivial⟩, hzx0, kzx0, hp⟩⟩

noncomputable def f_turns_Points.s1c (p0 : (List Int)) (size1 : Fl) (l6 : (List (Fl × Fl))) (t26 : Int) : Option (((List (Fl × Fl)) × Int) ⊕ (List (Fl × Fl))) := (if (decide (t26 < (p0.length : Int))) = true then (if 0 ≤ t26 ∧ t26 < (p0.length : Int) then ((f_plane_Turn (size1, (Fl.bits 0)) (IntKind.i64.wrap (gt p0 t26))).bind fun q16 => (if 0 ≤ t26 ∧ t26 < (l6.length : Int) then (some (Sum.inl ((l6.set (t26).toNat q16), (IntKind.i64.wrap (t26 + (1 : Int)))))) else none)) else none) else (some (Sum.inr l6)))
noncomputable def f_turns_Points.s1 (p0 : (List Int)) (size1 : Fl) (s : ((List (Fl × Fl)) × Int)) : Option (((List (Fl × Fl)) × Int) ⊕ (List (Fl × Fl))) := f_turns_Points.s1c p0 size1 s.1 s.2
noncomputable def f_turns_Points (p0 : (List Int)) (size1 : Fl) : Option ((List (Fl × Fl)) × Int) := ((f_turns_row p0).bind fun q1 => (if ((!q1) || (!((fge size1 (Fl.bits 4553139223271571456)) && (fle size1 (Fl.bits 4652218415073722368))))) = true then (some ([], (1 : Int))) else (if 0 ≤ (p0.length : Int) ∧ (p0.length : Int) ≤ (p0.length : Int) ∧ (p0.length : Int) * 16 ≤ 281474976710656 then ((loop (f_turns_Points.s1 p0 size1) ((List.replicate ((p0.length : Int)).toNat (Fl.bits 0, Fl.bits 0)), (0 : Int))).bind (fun q23 => (some (q23, (0 : Int))))) else none)))
theorem f_turns_Points_c {S : Nat → Prop} {w0 w : World} {ow : List Res} (hp : Hp S w0 w ow) (vp0 : Value) (p0 : (List Int)) (hp0 : RdS (Ek.int .u8) S w0 vp0 p0) (bsize1 : Nat) (size1 : Fl) (hsize1 : size1.rep bsize1) {r : ((List (Fl × Fl)) × Int)} (h : f_turns_Points p0 size1 = some r) :
    Calls Try.prog 20 #[vp0, .float .f64 bsize1] w (fun e w' => ∃ (u0 : Value), e = .returned (.tuple #[u0, .int .i64 r.2]) ∧ Hp S w0 w' (Res.sl Ek.c128 49 u0 r.1 :: ow)) := by
  unfold f_turns_Points at h
  refine enter (n := 41) (args := [vp0, .float .f64 bsize1]) Try.func20 rfl rfl (Nat.le_of_ble_eq_true rfl) fun a hf => ?_
  replace hf : Fr 41 a [(0, vp0), (1, .float .f64 bsize1)] := hf
  refine wp_mono (Q := fun e a w => e = .ret ∧ ∃ (u0 : Value), Fr 41 a [(4, u0), (5, .int .i64 r.2)] ∧ Hp S w0 w (Res.sl Ek.c128 49 u0 r.1 :: ow)) ?_ ?_
  rotate_left
  · rintro e a w ⟨rfl, x0, hf, hp⟩
    exact ret2 hf rfl rfl rfl ⟨x0, rfl, hp⟩
  refine wp_seq ?_
  refine wp_reg ?_
  refine st_assign hf rfl rfl (by decide) ?_
  clear hf; intro a ha hf; clear ha
  refine st_assign hf rfl rfl (by decide) ?_
  clear hf; intro a ha hf; clear ha
  refine st_nil hf ?_
  refine th_n ?_
  refine wp_seq ?_
  refine wp_seq ?_
  refine wp_reg ?_
  refine st_move hf rfl rfl (by decide) ?_
  clear hf; intro a ha hf; clear ha
  obtain ⟨q1, hcall2, h⟩ := bnd h
  refine st_call hf (by decide) Try.func36 rfl rfl rfl rfl rfl (f_turns_row_c hp _ _ hp0 hcall2) ?_
  rintro _ w ⟨rfl, hp0⟩
  clear hp; have hp := hp0; clear hp0
  replace hp : Hp _ _ _ (ow) := hp
  refine ⟨_, rfl, ?_⟩
  clear hf; intro a hf
  refine st_not hf (by decide) rfl rfl ?_
  clear hf; intro a ha hf; clear ha
  refine st_move hf rfl rfl (by decide) ?_
  clear hf; intro a ha hf; clear ha
  refine wpList_cut 8 (fun a w => Fr 41 a [(0, vp0), (1, .float .f64 bsize1), (20, .bool ((!q1) || (!((fge size1 (Fl.bits 4553139223271571456)) && (fle size1 (Fl.bits 4652218415073722368))))))] ∧ Hp S w0 w (ow)) ?_ ?_
  · rcases Bool.eq_false_or_eq_true (!q1) with hb4 | hb4
    · skip
      refine st_skip hf (wantN hf rfl rfl hb4) rfl (by decide) ?_ rfl
      clear hf; intro a hf
      refine st_skip hf (wantN hf rfl rfl hb4) rfl (by decide) ?_ rfl
      clear hf; intro a hf
      refine st_skipU hf (wantN hf rfl rfl hb4) rfl (by decide) ?_
      clear hf; intro a hf
      refine st_skip hf (wantU hf rfl rfl) rfl (by decide) ?_ rfl
      clear hf; intro a hf
      refine st_skip hf (wantU hf rfl rfl) rfl (by decide) ?_ rfl
      clear hf; intro a hf
      refine st_skip hf (wantN hf rfl rfl hb4) rfl (by decide) ?_ rfl
      clear hf; intro a hf
      refine st_skip hf (wantN hf rfl rfl hb4) rfl (by decide) ?_ rfl
      clear hf; intro a hf
      refine st_pick (v := .bool true) hf rfl rfl (fun hb' => ?_) (fun hb' => ?_) (by decide) ?_
      · rfl
      · exact absurd (hb4.symm.trans hb') (by decide)
      clear hf; intro a ha hf; clear ha
      refine st_nil hf (th_n ?_)
      exact ⟨hf.sub ⟨rfl, rfl, (by rw [hb4]; rfl), trivial⟩, hp⟩
    refine st_move hf (wantY hf rfl rfl hb4) rfl (by decide) ?_
    clear hf; intro a ha hf; clear ha
    refine st_fcmp (r_fge (fx := size1) (fy := (Fl.bits 4553139223271571456)) hsize1 rfl) hf (by decide) (wantY hf rfl rfl hb4) rfl rfl ?_
    clear hf; intro a ha hf; clear ha
    refine st_move hf (wantY hf rfl rfl hb4) rfl (by decide) ?_
    clear hf; intro a ha hf; clear ha
    refine wpList_cut 3 (fun a w => Fr 41 a [(0, vp0), (1, .float .f64 bsize1), (12, .bool (!q1)), (18, .bool ((fge size1 (Fl.bits 4553139223271571456)) && (fle size1 (Fl.bits 4652218415073722368))))] ∧ Hp S w0 w (ow)) ?_ ?_
    · rcases Bool.eq_false_or_eq_true (fge size1 (Fl.bits 4553139223271571456)) with hb6 | hb6
      · skip
        refine st_move hf (wantY hf rfl rfl hb6) rfl (by decide) ?_
        clear hf; intro a ha hf; clear ha
        refine st_fcmp (r_fle (fx := size1) (fy := (Fl.bits 4652218415073722368)) hsize1 rfl) hf (by decide) (wantY hf rfl rfl hb6) rfl rfl ?_
        clear hf; intro a ha hf; clear ha
        refine st_pick (v := .bool (fle size1 (Fl.bits 4652218415073722368))) hf (wantY hf rfl rfl hb4) rfl (fun hb' => ?_) (fun hb' => ?_) (by decide) ?_
        · rfl
        · exact absurd (hb6.symm.trans hb') (by decide)
        clear hf; intro a ha hf; clear ha
        refine st_nil hf (th_n ?_)
        exact ⟨hf.sub ⟨rfl, rfl, rfl, (by rw [hb6]; rfl), trivial⟩, hp⟩
      refine st_skip hf (wantN hf rfl rfl hb6) rfl (by decide) ?_ rfl
      clear hf; intro a hf
      refine st_skip hf (wantN hf rfl rfl hb6) rfl (by decide) ?_ rfl
      clear hf; intro a hf
      refine st_pick (v := .bool false) hf (wantY hf rfl rfl hb4) rfl (fun hb' => ?_) (fun hb' => ?_) (by decide) ?_
      · exact absurd (hb6.symm.trans hb') (by decide)
      · rfl
      clear hf; intro a ha hf; clear ha
      refine st_nil hf (th_n ?_)
      exact ⟨hf.sub ⟨rfl, rfl, rfl, (by rw [hb6]; rfl), trivial⟩, hp⟩
    rintro a w ⟨hf, hp⟩
    refine st_not hf (by decide) (wantY hf rfl rfl hb4) rfl ?_
    clear hf; intro a ha hf; clear ha
    refine st_pick (v := .bool (!((fge size1 (Fl.bits 4553139223271571456)) && (fle size1 (Fl.bits 4652218415073722368))))) hf rfl rfl (fun hb' => ?_) (fun hb' => ?_) (by decide) ?_
    · exact absurd (hb4.symm.trans hb') (by decide)
    · rfl
    clear hf; intro a ha hf; clear ha
    refine st_nil hf (th_n ?_)
    exact ⟨hf.sub ⟨rfl, rfl, (by rw [hb4]; rfl), trivial⟩, hp⟩
  rintro a w ⟨hf, hp⟩
  refine st_nil hf ?_
  refine th_n ?_
  refine wp_if hf rfl (fun hb => ?_) (fun hb => ?_)
  · replace h := ifT h hb
    refine wp_seq ?_
    refine wp_reg ?_
    refine st_assign hf rfl rfl (by decide) ?_
    clear hf; intro a ha hf; clear ha
    refine st_assign hf rfl rfl (by decide) ?_
    clear hf; intro a ha hf; clear ha
    refine st_nil hf ?_
    refine th_n ?_
    refine wp_ret ?_
    refine th_r ?_
    obtain rfl := Option.some.inj h
    have hp := hp.nil Ek.c128 49
    exact ⟨rfl, ⟨_, hf.sub ⟨rfl, rfl, trivial⟩, hp⟩⟩
  replace h := ifF h hb
  refine wp_skip ?_
  refine th_n ?_
  refine wp_seq ?_
  refine wp_reg ?_
  refine st_move hf rfl rfl (by decide) ?_
  clear hf; intro a ha hf; clear ha
  refine st_len (E := (Ek.int .u8)) hf (by decide) Try.underlying22 rfl rfl (hp0.sl hp) ?_
  clear hf; intro a ha hf; clear ha
  obtain ⟨hc8, h⟩ := chk h
  refine st_make (E := Ek.c128) hf (by decide) elt49 Try.underlying44 (by decide) hp rfl rfl rfl hc8.1 hc8.2.1 hc8.2.2 ?_
  clear hf; intro a w v9 hf hp0; clear hp; have hp := hp0; clear hp0
  replace hp : Hp _ _ _ (Res.sl Ek.c128 49 v9 (List.replicate ((p0.length : Int)).toNat (Fl.bits 0, Fl.bits 0)) :: ow) := hp
  refine st_assign hf rfl rfl (by decide) ?_
  clear hf; intro a ha hf; clear ha
  refine st_nil hf ?_
  refine th_n ?_
  refine wp_seq ?_
  refine wp_seq ?_
  refine wp_reg ?_
  refine st_move hf rfl rfl (by decide) ?_
  clear hf; intro a ha hf; clear ha
  refine st_len (E := (Ek.int .u8)) hf (by decide) Try.underlying22 rfl rfl (hp0.sl hp) ?_
  clear hf; intro a ha hf; clear ha
  refine st_move hf rfl rfl (by decide) ?_
  clear hf; intro a ha hf; clear ha
  refine st_nil hf ?_
  refine th_n ?_
  refine wp_block ?_
  obtain ⟨q23, hl, h⟩ := bnd h
  refine wp_loop_pure (f := (f_turns_Points.s1 p0 size1)) (s := ((List.replicate ((p0.length : Int)).toNat (Fl.bits 0, Fl.bits 0)), (0 : Int))) (fun s a w => ∃ (v11 : Value), Fr 41 a [(1, .float .f64 bsize1), (6, v11), (24, vp0), (25, .int .i64 (p0.length : Int)), (26, .int .i64 s.2)] ∧ Hp S w0 w (Res.sl Ek.c128 49 v11 s.1 :: ow)) (fun q e a w => e = .exit 0 ∧ ∃ (v13 : Value), Fr 41 a [(6, v13)] ∧ Hp S w0 w (Res.sl Ek.c128 49 v13 q :: ow)) ?_ hl ⟨_, hf.sub ⟨rfl, rfl, rfl, rfl, rfl, trivial⟩, hp⟩ ?_
  · clear hl hf hp
    intro s x a w h hI
    obtain ⟨l6, t26⟩ := s
    obtain ⟨v11, hf, hp⟩ : ∃ (v11 : Value), Fr 41 a [(1, .float .f64 bsize1), (6, v11), (24, vp0), (25, .int .i64 (p0.length : Int)), (26, .int .i64 t26)] ∧ Hp S w0 w (Res.sl Ek.c128 49 v11 l6 :: ow) := hI
    replace h : f_turns_Points.s1c p0 size1 l6 t26 = some x := h
    unfold f_turns_Points.s1c at h
    refine wp_seq ?_
    refine wp_reg ?_
    refine st_ilss hf (by decide) rfl rfl rfl ?_
    clear hf; intro a ha hf; clear ha
    refine st_nil hf ?_
    refine th_n ?_
    refine wp_seq ?_
    refine wp_if hf rfl (fun hb => ?_) (fun hb => ?_)
    · replace h := ifT h hb
      refine wp_skip ?_
      refine th_n ?_
      refine wp_seq ?_
      refine wp_block ?_
      refine wp_seq ?_
      refine wp_reg ?_
      refine st_move hf rfl rfl (by decide) ?_
      clear hf; intro a ha hf; clear ha
      obtain ⟨hc15, h⟩ := chk h
      refine st_index (E := (Ek.int .u8)) hf (by decide) Try.underlying22 elt5 rfl rfl rfl (hp0.sl hp) hc15.1 hc15.2 ?_
      clear hf; intro a ha hf; clear ha
      refine st_ldI hf (by decide) pl5 rfl rfl (hp0.sl hp) hc15.1 hc15.2 ?_
      clear hf; intro a ha hf; clear ha
      refine st_assign hf rfl rfl (by decide) ?_
      clear hf; intro a ha hf; clear ha
      refine st_assign hf rfl rfl (by decide) ?_
      clear hf; intro a ha hf; clear ha
      refine st_nil hf ?_
      refine th_n ?_
      refine wp_reg ?_
      refine st_move hf rfl rfl (by decide) ?_
      clear hf; intro a ha hf; clear ha
      refine st_move hf rfl rfl (by decide) ?_
      clear hf; intro a ha hf; clear ha
      refine st_move hf rfl rfl (by decide) ?_
      clear hf; intro a ha hf; clear ha
      refine st_complex hf (by decide) rfl rfl rfl ?_
      clear hf; intro a ha hf; clear ha
      refine st_move hf rfl rfl (by decide) ?_
      clear hf; intro a ha hf; clear ha
      refine st_conv_ii hf (by decide) (by rw [Try.underlying5]; rfl) Try.underlying3 rfl rfl ?_
      clear hf; intro a ha hf; clear ha
      obtain ⟨q16, hcall17, h⟩ := bnd h
      refine st_call hf (by decide) Try.func44 rfl rfl rfl rfl rfl (f_plane_Turn_c hp _ _ _ (show Fl.rep bsize1 ((size1, (Fl.bits 0))).1 from hsize1) (show Fl.rep 0 ((size1, (Fl.bits 0))).2 from rfl) _ hcall17) ?_
      rintro _ w ⟨v18, v19, rfl, y20, y21, hp0⟩
      clear hp; have hp := hp0; clear hp0
      replace hp : Hp _ _ _ (Res.sl Ek.c128 49 v11 l6 :: ow) := hp
      refine ⟨_, rfl, ?_⟩
      clear hf; intro a hf
      obtain ⟨hc22, h⟩ := chk h
      refine st_index (E := Ek.c128) hf (by decide) Try.underlying44 elt49 rfl rfl rfl (hp.sl (i := 0) rfl) hc22.1 hc22.2 ?_
      clear hf; intro a ha hf; clear ha
      refine st_store (E := Ek.c128) hf elt49 hp (i := 0) rfl rfl rfl rfl (show Ek.c128.rep [.complex .f64 v18 v19] q16 from ⟨_, _, rfl, y20, y21⟩) hc22.1 hc22.2 ?_
      clear hf; intro a w hf hp0; clear hp; have hp := hp0; clear hp0
      replace hp : Hp _ _ _ (Res.sl Ek.c128 49 v11 (l6.set (t26).toNat q16) :: ow) := hp
      refine st_nil hf ?_
      refine ib_n ?_
      refine th_n ?_
      refine wp_reg ?_
      refine st_iadd hf (by decide) rfl rfl rfl ?_
      clear hf; intro a ha hf; clear ha
      refine st_move hf rfl rfl (by decide) ?_
      clear hf; intro a ha hf; clear ha
      refine st_nil hf ?_
      obtain rfl := Option.some.inj h
      exact rnd_l ⟨_, hf.sub ⟨rfl, rfl, rfl, rfl, rfl, trivial⟩, hp⟩
    replace h := ifF h hb
    refine wp_exit ?_
    refine th_e ?_
    obtain rfl := Option.some.inj h
    exact rnd_r (by simp) ⟨rfl, _, hf.sub ⟨rfl, trivial⟩, hp⟩
  clear hl hf hp
  intro e a w hne hO
  obtain ⟨rfl, v13, hf, hp⟩ := hO
  refine ib_same ?_
  refine th_n ?_
  refine wp_seq ?_
  refine wp_reg ?_
  refine st_move hf rfl rfl (by decide) ?_
  clear hf; intro a ha hf; clear ha
  refine st_assign hf rfl rfl (by decide) ?_
  clear hf; intro a ha hf; clear ha
  refine st_assign hf rfl rfl (by decide) ?_
  clear hf; intro a ha hf; clear ha
  refine st_nil hf ?_
  refine th_n ?_
  refine wp_ret ?_
  obtain rfl := Option.some.inj h
  exact ⟨rfl, ⟨_, hf.sub ⟨rfl, rfl, trivial⟩, hp⟩⟩

noncomputable def f_turns_Whole.s1c (l0 : (List (Fl × Fl))) (quarters1 : Int) (out6 : (List (Fl × Fl))) (t17 : Int) : Option (((List (Fl × Fl)) × Int) ⊕ (List (Fl × Fl))) := (if (decide (t17 < (l0.length : Int))) = true then (if 0 ≤ t17 ∧ t17 < (l0.length : Int) then ((f_plane_Turn (gt l0 t17) quarters1).bind fun q14 => (if 0 ≤ t17 ∧ t17 < (out6.length : Int) then (some (Sum.inl ((out6.set (t17).toNat q14), (IntKind.i64.wrap (t17 + (1 : Int)))))) else none)) else none) else (some (Sum.inr out6)))
noncomputable def f_turns_Whole.s1 (l0 : (List (Fl × Fl))) (quarters1 : Int) (s : ((List (Fl × Fl)) × Int)) : Option (((List (Fl × Fl)) × Int) ⊕ (List (Fl × Fl))) := f_turns_Whole.s1c l0 quarters1 s.1 s.2
noncomputable def f_turns_Whole (l0 : (List (Fl × Fl))) (quarters1 : Int) : Option ((List (Fl × Fl)) × Int) := (if (decide ((65536 : Int) < (l0.length : Int))) = true then (some ([], (1 : Int))) else (if 0 ≤ (l0.length : Int) ∧ (l0.length : Int) ≤ (l0.length : Int) ∧ (l0.length : Int) * 16 ≤ 281474976710656 then ((loop (f_turns_Whole.s1 l0 quarters1) ((List.replicate ((l0.length : Int)).toNat (Fl.bits 0, Fl.bits 0)), (0 : Int))).bind (fun q21 => (some (q21, (0 : Int))))) else none))
theorem f_turns_Whole_c {S : Nat → Prop} {w0 w : World} {ow : List Res} (hp : Hp S w0 w ow) (vl0 : Value) (l0 : (List (Fl × Fl))) (hl0 : RdS Ek.c128 S w0 vl0 l0) (quarters1 : Int) {r : ((List (Fl × Fl)) × Int)} (h : f_turns_Whole l0 quarters1 = some r) :
    Calls Try.prog 28 #[vl0, .int .i64 quarters1] w (fun e w' => ∃ (u0 : Value), e = .returned (.tuple #[u0, .int .i64 r.2]) ∧ Hp S w0 w' (Res.sl Ek.c128 49 u0 r.1 :: ow)) := by
  unfold f_turns_Whole at h
  refine enter (n := 30) (args := [vl0, .int .i64 quarters1]) Try.func28 rfl rfl (Nat.le_of_ble_eq_true rfl) fun a hf => ?_
  replace hf : Fr 30 a [(0, vl0), (1, .int .i64 quarters1)] := hf
  refine wp_mono (Q := fun e a w => e = .ret ∧ ∃ (u0 : Value), Fr 30 a [(4, u0), (5, .int .i64 r.2)] ∧ Hp S w0 w (Res.sl Ek.c128 49 u0 r.1 :: ow)) ?_ ?_
  rotate_left
  · rintro e a w ⟨rfl, x0, hf, hp⟩
    exact ret2 hf rfl rfl rfl ⟨x0, rfl, hp⟩
  refine wp_seq ?_
  refine wp_reg ?_
  refine st_assign hf rfl rfl (by decide) ?_
  clear hf; intro a ha hf; clear ha
  refine st_assign hf rfl rfl (by decide) ?_
  clear hf; intro a ha hf; clear ha
  refine st_nil hf ?_
  refine th_n ?_
  refine wp_seq ?_
  refine wp_seq ?_
  refine wp_reg ?_
  refine st_move hf rfl rfl (by decide) ?_
  clear hf; intro a ha hf; clear ha
  refine st_len (E := Ek.c128) hf (by decide) Try.underlying44 rfl rfl (hl0.sl hp) ?_
  clear hf; intro a ha hf; clear ha
  refine st_igtr hf (by decide) rfl rfl rfl ?_
  clear hf; intro a ha hf; clear ha
  refine st_nil hf ?_
  refine th_n ?_
  refine wp_if hf rfl (fun hb => ?_) (fun hb => ?_)
  · replace h := ifT h hb
    refine wp_seq ?_
    refine wp_reg ?_
    refine st_assign hf rfl rfl (by decide) ?_
    clear hf; intro a ha hf; clear ha
    refine st_assign hf rfl rfl (by decide) ?_
    clear hf; intro a ha hf; clear ha
    refine st_nil hf ?_
    refine th_n ?_
    refine wp_ret ?_
    refine th_r ?_
    obtain rfl := Option.some.inj h
    have hp := hp.nil Ek.c128 49
    exact ⟨rfl, ⟨_, hf.sub ⟨rfl, rfl, trivial⟩, hp⟩⟩
  replace h := ifF h hb
  refine wp_skip ?_
  refine th_n ?_
  refine wp_seq ?_
  refine wp_reg ?_
  refine st_move hf rfl rfl (by decide) ?_
  clear hf; intro a ha hf; clear ha
  refine st_len (E := Ek.c128) hf (by decide) Try.underlying44 rfl rfl (hl0.sl hp) ?_
  clear hf; intro a ha hf; clear ha
  obtain ⟨hc2, h⟩ := chk h
  refine st_make (E := Ek.c128) hf (by decide) elt49 Try.underlying44 (by decide) hp rfl rfl rfl hc2.1 hc2.2.1 hc2.2.2 ?_
  clear hf; intro a w v3 hf hp0; clear hp; have hp := hp0; clear hp0
  replace hp : Hp _ _ _ (Res.sl Ek.c128 49 v3 (List.replicate ((l0.length : Int)).toNat (Fl.bits 0, Fl.bits 0)) :: ow) := hp
  refine st_assign hf rfl rfl (by decide) ?_
  clear hf; intro a ha hf; clear ha
  refine st_nil hf ?_
  refine th_n ?_
  refine wp_seq ?_
  refine wp_seq ?_
  refine wp_reg ?_
  refine st_move hf rfl rfl (by decide) ?_
  clear hf; intro a ha hf; clear ha
  refine st_len (E := Ek.c128) hf (by decide) Try.underlying44 rfl rfl (hl0.sl hp) ?_
  clear hf; intro a ha hf; clear ha
  refine st_move hf rfl rfl (by decide) ?_
  clear hf; intro a ha hf; clear ha
  refine st_nil hf ?_
  refine th_n ?_
  refine wp_block ?_
  obtain ⟨q21, hl, h⟩ := bnd h
  refine wp_loop_pure (f := (f_turns_Whole.s1 l0 quarters1)) (s := ((List.replicate ((l0.length : Int)).toNat (Fl.bits 0, Fl.bits 0)), (0 : Int))) (fun s a w => ∃ (v5 : Value), Fr 30 a [(1, .int .i64 quarters1), (6, v5), (15, vl0), (16, .int .i64 (l0.length : Int)), (17, .int .i64 s.2)] ∧ Hp S w0 w (Res.sl Ek.c128 49 v5 s.1 :: ow)) (fun q e a w => e = .exit 0 ∧ ∃ (v7 : Value), Fr 30 a [(6, v7)] ∧ Hp S w0 w (Res.sl Ek.c128 49 v7 q :: ow)) ?_ hl ⟨_, hf.sub ⟨rfl, rfl, rfl, rfl, rfl, trivial⟩, hp⟩ ?_
  · clear hl hf hp
    intro s x a w h hI
    obtain ⟨out6, t17⟩ := s
    obtain ⟨v5, hf, hp⟩ : ∃ (v5 : Value), Fr 30 a [(1, .int .i64 quarters1), (6, v5), (15, vl0), (16, .int .i64 (l0.length : Int)), (17, .int .i64 t17)] ∧ Hp S w0 w (Res.sl Ek.c128 49 v5 out6 :: ow) := hI
    replace h : f_turns_Whole.s1c l0 quarters1 out6 t17 = some x := h
    unfold f_turns_Whole.s1c at h
    refine wp_seq ?_
    refine wp_reg ?_
    refine st_ilss hf (by decide) rfl rfl rfl ?_
    clear hf; intro a ha hf; clear ha
    refine st_nil hf ?_
    refine th_n ?_
    refine wp_seq ?_
    refine wp_if hf rfl (fun hb => ?_) (fun hb => ?_)
    · replace h := ifT h hb
      refine wp_skip ?_
      refine th_n ?_
      refine wp_seq ?_
      refine wp_block ?_
      refine wp_seq ?_
      refine wp_reg ?_
      refine st_move hf rfl rfl (by decide) ?_
      clear hf; intro a ha hf; clear ha
      obtain ⟨hc9, h⟩ := chk h
      refine st_index (E := Ek.c128) hf (by decide) Try.underlying44 elt49 rfl rfl rfl (hl0.sl hp) hc9.1 hc9.2 ?_
      clear hf; intro a ha hf; clear ha
      refine st_ldC hf (by decide) pl49 rfl rfl (hl0.sl hp) hc9.1 hc9.2 ?_
      clear hf; intro a bb10 bb11 y12 y13 ha hf; clear ha
      refine st_assign hf rfl rfl (by decide) ?_
      clear hf; intro a ha hf; clear ha
      refine st_assign hf rfl rfl (by decide) ?_
      clear hf; intro a ha hf; clear ha
      refine st_nil hf ?_
      refine th_n ?_
      refine wp_reg ?_
      refine st_move hf rfl rfl (by decide) ?_
      clear hf; intro a ha hf; clear ha
      refine st_move hf rfl rfl (by decide) ?_
      clear hf; intro a ha hf; clear ha
      refine st_move hf rfl rfl (by decide) ?_
      clear hf; intro a ha hf; clear ha
      refine st_move hf rfl rfl (by decide) ?_
      clear hf; intro a ha hf; clear ha
      obtain ⟨q14, hcall15, h⟩ := bnd h
      refine st_call hf (by decide) Try.func44 rfl rfl rfl rfl rfl (f_plane_Turn_c hp _ _ _ (show Fl.rep bb10 ((gt l0 t17)).1 from y12) (show Fl.rep bb11 ((gt l0 t17)).2 from y13) _ hcall15) ?_
      rintro _ w ⟨v16, v17, rfl, y18, y19, hp0⟩
      clear hp; have hp := hp0; clear hp0
      replace hp : Hp _ _ _ (Res.sl Ek.c128 49 v5 out6 :: ow) := hp
      refine ⟨_, rfl, ?_⟩
      clear hf; intro a hf
      obtain ⟨hc20, h⟩ := chk h
      refine st_index (E := Ek.c128) hf (by decide) Try.underlying44 elt49 rfl rfl rfl (hp.sl (i := 0) rfl) hc20.1 hc20.2 ?_
      clear hf; intro a ha hf; clear ha
      refine st_store (E := Ek.c128) hf elt49 hp (i := 0) rfl rfl rfl rfl (show Ek.c128.rep [.complex .f64 v16 v17] q14 from ⟨_, _, rfl, y18, y19⟩) hc20.1 hc20.2 ?_
      clear hf; intro a w hf hp0; clear hp; have hp := hp0; clear hp0
      replace hp : Hp _ _ _ (Res.sl Ek.c128 49 v5 (out6.set (t17).toNat q14) :: ow) := hp
      refine st_nil hf ?_
      refine ib_n ?_
      refine th_n ?_
      refine wp_reg ?_
      refine st_iadd hf (by decide) rfl rfl rfl ?_
      clear hf; intro a ha hf; clear ha
      refine st_move hf rfl rfl (by decide) ?_
      clear hf; intro a ha hf; clear ha
      refine st_nil hf ?_
      obtain rfl := Option.some.inj h
      exact rnd_l ⟨_, hf.sub ⟨rfl, rfl, rfl, rfl, rfl, trivial⟩, hp⟩
    replace h := ifF h hb
    refine wp_exit ?_
    refine th_e ?_
    obtain rfl := Option.some.inj h
    exact rnd_r (by simp) ⟨rfl, _, hf.sub ⟨rfl, trivial⟩, hp⟩
  clear hl hf hp
  intro e a w hne hO
  obtain ⟨rfl, v7, hf, hp⟩ := hO
  refine ib_same ?_
  refine th_n ?_
  refine wp_seq ?_
  refine wp_reg ?_
  refine st_move hf rfl rfl (by decide) ?_
  clear hf; intro a ha hf; clear ha
  refine st_assign hf rfl rfl (by decide) ?_
  clear hf; intro a ha hf; clear ha
  refine st_assign hf rfl rfl (by decide) ?_
  clear hf; intro a ha hf; clear ha
  refine st_nil hf ?_
  refine th_n ?_
  refine wp_ret ?_
  obtain rfl := Option.some.inj h
  exact ⟨rfl, ⟨_, hf.sub ⟨rfl, rfl, trivial⟩, hp⟩⟩

noncomputable def f_turns_Near.s1c (zx0 : (Fl × Fl)) (best4 : Int) (t13 : Int) : Option ((Int × Int) ⊕ Int) := (if (decide (t13 < (4 : Int))) = true then ((f_plane_Turn zx0 (IntKind.i64.wrap (0 - (IntKind.i64.wrap t13)))).bind fun q3 => ((f_plane_Turn zx0 (IntKind.i64.wrap (0 - (IntKind.i64.wrap best4)))).bind fun q9 => (if (fgt q3.1 q9.1) = true then (some (Sum.inl (t13, (IntKind.u8.wrap (t13 + (1 : Int)))))) else (some (Sum.inl (best4, (IntKind.u8.wrap (t13 + (1 : Int))))))))) else (some (Sum.inr best4)))
noncomputable def f_turns_Near.s1 (zx0 : (Fl × Fl)) (s : (Int × Int)) : Option ((Int × Int) ⊕ Int) := f_turns_Near.s1c zx0 s.1 s.2
noncomputable def f_turns_Near (zx0 : (Fl × Fl)) : Option (Int × Bool) := (if ((!ceq zx0 zx0) || (ceq zx0 (Fl.bits 0, Fl.bits 0))) = true then (some ((0 : Int), false)) else ((loop (f_turns_Near.s1 zx0) ((0 : Int), (0 : Int))).bind (fun q15 => (some (q15, true)))))
theorem f_turns_Near_c {S : Nat → Prop} {w0 w : World} {ow : List Res} (hp : Hp S w0 w ow) (bzx0 czx0 : Nat) (zx0 : Fl × Fl) (hzx0 : zx0.1.rep bzx0) (kzx0 : zx0.2.rep czx0) {r : (Int × Bool)} (h : f_turns_Near zx0 = some r) :
    Calls Try.prog 26 #[.complex .f64 bzx0 czx0] w (fun e w' => e = .returned (.tuple #[.int .u8 r.1, .bool r.2]) ∧ Hp S w0 w' (ow)) := by
  unfold f_turns_Near at h
  refine enter (n := 32) (args := [.complex .f64 bzx0 czx0]) Try.func26 rfl rfl (Nat.le_of_ble_eq_true rfl) fun a hf => ?_
  replace hf : Fr 32 a [(0, .complex .f64 bzx0 czx0)] := hf
  refine wp_mono (Q := fun e a w => e = .ret ∧ Fr 32 a [(2, .int .u8 r.1), (3, .bool r.2)] ∧ Hp S w0 w (ow)) ?_ ?_
  rotate_left
  · rintro e a w ⟨rfl, hf, hp⟩
    exact ret2 hf rfl rfl rfl ⟨rfl, hp⟩
  refine wp_seq ?_
  refine wp_reg ?_
  refine st_assign hf rfl rfl (by decide) ?_
  clear hf; intro a ha hf; clear ha
  refine st_assign hf rfl rfl (by decide) ?_
  clear hf; intro a ha hf; clear ha
  refine st_nil hf ?_
  refine th_n ?_
  refine wp_seq ?_
  refine wp_seq ?_
  refine wp_reg ?_
  refine st_move hf rfl rfl (by decide) ?_
  clear hf; intro a ha hf; clear ha
  refine st_move hf rfl rfl (by decide) ?_
  clear hf; intro a ha hf; clear ha
  refine st_ccmp (r_cne (x := zx0) (y := zx0) hzx0 kzx0 hzx0 kzx0) hf (by decide) rfl rfl rfl ?_
  clear hf; intro a ha hf; clear ha
  refine st_move hf rfl rfl (by decide) ?_
  clear hf; intro a ha hf; clear ha
  refine wpList_cut 3 (fun a w => Fr 32 a [(0, .complex .f64 bzx0 czx0), (12, .bool ((!ceq zx0 zx0) || (ceq zx0 (Fl.bits 0, Fl.bits 0))))] ∧ Hp S w0 w (ow)) ?_ ?_
  · rcases Bool.eq_false_or_eq_true (!ceq zx0 zx0) with hb2 | hb2
    · skip
      refine st_skip hf (wantN hf rfl rfl hb2) rfl (by decide) ?_ rfl
      clear hf; intro a hf
      refine st_skip hf (wantN hf rfl rfl hb2) rfl (by decide) ?_ rfl
      clear hf; intro a hf
      refine st_pick (v := .bool true) hf rfl rfl (fun hb' => ?_) (fun hb' => ?_) (by decide) ?_
      · rfl
      · exact absurd (hb2.symm.trans hb') (by decide)
      clear hf; intro a ha hf; clear ha
      refine st_nil hf (th_n ?_)
      exact ⟨hf.sub ⟨rfl, (by rw [hb2]; rfl), trivial⟩, hp⟩
    refine st_move hf (wantY hf rfl rfl hb2) rfl (by decide) ?_
    clear hf; intro a ha hf; clear ha
    refine st_ccmp (r_ceq (x := zx0) (y := (Fl.bits 0, Fl.bits 0)) hzx0 kzx0 rfl rfl) hf (by decide) (wantY hf rfl rfl hb2) rfl rfl ?_
    clear hf; intro a ha hf; clear ha
    refine st_pick (v := .bool (ceq zx0 (Fl.bits 0, Fl.bits 0))) hf rfl rfl (fun hb' => ?_) (fun hb' => ?_) (by decide) ?_
    · exact absurd (hb2.symm.trans hb') (by decide)
    · rfl
    clear hf; intro a ha hf; clear ha
    refine st_nil hf (th_n ?_)
    exact ⟨hf.sub ⟨rfl, (by rw [hb2]; rfl), trivial⟩, hp⟩
  rintro a w ⟨hf, hp⟩
  refine st_nil hf ?_
  refine th_n ?_
  refine wp_if hf rfl (fun hb => ?_) (fun hb => ?_)
  · replace h := ifT h hb
    refine wp_seq ?_
    refine wp_reg ?_
    refine st_assign hf rfl rfl (by decide) ?_
    clear hf; intro a ha hf; clear ha
    refine st_assign hf rfl rfl (by decide) ?_
    clear hf; intro a ha hf; clear ha
    refine st_nil hf ?_
    refine th_n ?_
    refine wp_ret ?_
    refine th_r ?_
    obtain rfl := Option.some.inj h
    exact ⟨rfl, ⟨hf.sub ⟨rfl, rfl, trivial⟩, hp⟩⟩
  replace h := ifF h hb
  refine wp_skip ?_
  refine th_n ?_
  refine wp_seq ?_
  refine wp_reg ?_
  refine st_assign hf rfl rfl (by decide) ?_
  clear hf; intro a ha hf; clear ha
  refine st_nil hf ?_
  refine th_n ?_
  refine wp_seq ?_
  refine wp_seq ?_
  refine wp_reg ?_
  refine st_move hf rfl rfl (by decide) ?_
  clear hf; intro a ha hf; clear ha
  refine st_nil hf ?_
  refine th_n ?_
  refine wp_block ?_
  obtain ⟨q15, hl, h⟩ := bnd h
  refine wp_loop_pure (f := (f_turns_Near.s1 zx0)) (s := ((0 : Int), (0 : Int))) (fun s a w => Fr 32 a [(0, .complex .f64 bzx0 czx0), (4, .int .u8 s.1), (13, .int .u8 s.2)] ∧ Hp S w0 w (ow)) (fun q e a w => e = .exit 0 ∧ Fr 32 a [(4, .int .u8 q)] ∧ Hp S w0 w (ow)) ?_ hl ⟨hf.sub ⟨rfl, rfl, rfl, trivial⟩, hp⟩ ?_
  · clear hl hf hp
    intro s x a w h hI
    obtain ⟨best4, t13⟩ := s
    obtain ⟨hf, hp⟩ : Fr 32 a [(0, .complex .f64 bzx0 czx0), (4, .int .u8 best4), (13, .int .u8 t13)] ∧ Hp S w0 w (ow) := hI
    replace h : f_turns_Near.s1c zx0 best4 t13 = some x := h
    unfold f_turns_Near.s1c at h
    refine wp_seq ?_
    refine wp_reg ?_
    refine st_ilss hf (by decide) rfl rfl rfl ?_
    clear hf; intro a ha hf; clear ha
    refine st_nil hf ?_
    refine th_n ?_
    refine wp_seq ?_
    refine wp_if hf rfl (fun hb => ?_) (fun hb => ?_)
    · replace h := ifT h hb
      refine wp_skip ?_
      refine th_n ?_
      refine wp_seq ?_
      refine wp_block ?_
      refine wp_seq ?_
      refine wp_reg ?_
      refine st_move hf rfl rfl (by decide) ?_
      clear hf; intro a ha hf; clear ha
      refine st_assign hf rfl rfl (by decide) ?_
      clear hf; intro a ha hf; clear ha
      refine st_nil hf ?_
      refine th_n ?_
      refine wp_seq ?_
      refine wp_reg ?_
      refine st_move hf rfl rfl (by decide) ?_
      clear hf; intro a ha hf; clear ha
      refine st_move hf rfl rfl (by decide) ?_
      clear hf; intro a ha hf; clear ha
      refine st_conv_ii hf (by decide) (by rw [Try.underlying5]; rfl) Try.underlying3 rfl rfl ?_
      clear hf; intro a ha hf; clear ha
      refine st_ineg hf (by decide) rfl rfl ?_
      clear hf; intro a ha hf; clear ha
      obtain ⟨q3, hcall4, h⟩ := bnd h
      refine st_call hf (by decide) Try.func44 rfl rfl rfl rfl rfl (f_plane_Turn_c hp _ _ _ (show Fl.rep bzx0 (zx0).1 from hzx0) (show Fl.rep czx0 (zx0).2 from kzx0) _ hcall4) ?_
      rintro _ w ⟨v5, v6, rfl, y7, y8, hp0⟩
      clear hp; have hp := hp0; clear hp0
      replace hp : Hp _ _ _ (ow) := hp
      refine ⟨_, rfl, ?_⟩
      clear hf; intro a hf
      refine st_real hf (by decide) rfl rfl ?_
      clear hf; intro a ha hf; clear ha
      refine st_move hf rfl rfl (by decide) ?_
      clear hf; intro a ha hf; clear ha
      refine st_move hf rfl rfl (by decide) ?_
      clear hf; intro a ha hf; clear ha
      refine st_conv_ii hf (by decide) (by rw [Try.underlying5]; rfl) Try.underlying3 rfl rfl ?_
      clear hf; intro a ha hf; clear ha
      refine st_ineg hf (by decide) rfl rfl ?_
      clear hf; intro a ha hf; clear ha
      obtain ⟨q9, hcall10, h⟩ := bnd h
      refine st_call hf (by decide) Try.func44 rfl rfl rfl rfl rfl (f_plane_Turn_c hp _ _ _ (show Fl.rep bzx0 (zx0).1 from hzx0) (show Fl.rep czx0 (zx0).2 from kzx0) _ hcall10) ?_
      rintro _ w ⟨v11, v12, rfl, y13, y14, hp0⟩
      clear hp; have hp := hp0; clear hp0
      replace hp : Hp _ _ _ (ow) := hp
      refine ⟨_, rfl, ?_⟩
      clear hf; intro a hf
      refine st_real hf (by decide) rfl rfl ?_
      clear hf; intro a ha hf; clear ha
      refine st_fcmp (r_fgt (fx := q3.1) (fy := q9.1) y7 y13) hf (by decide) rfl rfl rfl ?_
      clear hf; intro a ha hf; clear ha
      refine st_nil hf ?_
      refine th_n ?_
      refine wp_if hf rfl (fun hb => ?_) (fun hb => ?_)
      · replace h := ifT h hb
        refine wp_reg ?_
        refine st_move hf rfl rfl (by decide) ?_
        clear hf; intro a ha hf; clear ha
        refine st_assign hf rfl rfl (by decide) ?_
        clear hf; intro a ha hf; clear ha
        refine st_nil hf ?_
        refine ib_n ?_
        refine th_n ?_
        refine wp_reg ?_
        refine st_iadd hf (by decide) rfl rfl rfl ?_
        clear hf; intro a ha hf; clear ha
        refine st_move hf rfl rfl (by decide) ?_
        clear hf; intro a ha hf; clear ha
        refine st_nil hf ?_
        obtain rfl := Option.some.inj h
        exact rnd_l ⟨hf.sub ⟨rfl, rfl, rfl, trivial⟩, hp⟩
      replace h := ifF h hb
      refine wp_skip ?_
      refine ib_n ?_
      refine th_n ?_
      refine wp_reg ?_
      refine st_iadd hf (by decide) rfl rfl rfl ?_
      clear hf; intro a ha hf; clear ha
      refine st_move hf rfl rfl (by decide) ?_
      clear hf; intro a ha hf; clear ha
      refine st_nil hf ?_
      obtain rfl := Option.some.inj h
      exact rnd_l ⟨hf.sub ⟨rfl, rfl, rfl, trivial⟩, hp⟩
    replace h := ifF h hb
    refine wp_exit ?_
    refine th_e ?_
    obtain rfl := Option.some.inj h
    exact rnd_r (by simp) ⟨rfl, hf.sub ⟨rfl, trivial⟩, hp⟩
  clear hl hf hp
  intro e a w hne hO
  obtain ⟨rfl, hf, hp⟩ := hO
  refine ib_same ?_
  refine th_n ?_
  refine wp_seq ?_
  refine wp_reg ?_
  refine st_move hf rfl rfl (by decide) ?_
  clear hf; intro a ha hf; clear ha
  refine st_assign hf rfl rfl (by decide) ?_
  clear hf; intro a ha hf; clear ha
  refine st_assign hf rfl rfl (by decide) ?_
  clear hf; intro a ha hf; clear ha
  refine st_nil hf ?_
  refine th_n ?_
  refine wp_ret ?_
  obtain rfl := Option.some.inj h
  exact ⟨rfl, ⟨hf.sub ⟨rfl, rfl, trivial⟩, hp⟩⟩

noncomputable def f_turns_Row.s1c (l0 : (List ((Fl × Fl) × Bool))) (qx5 : (List Int)) (marks6 : (List Bool)) (t20 : Int) : Option (((List Int) × (List Bool) × Int) ⊕ ((List Int) × (List Bool))) := (if (decide (t20 < (l0.length : Int))) = true then (if 0 ≤ t20 ∧ t20 < (l0.length : Int) then (if (!((gt l0 t20).2)) = true then ((f_turns_Near ((gt l0 t20).1)).bind fun q26 => (if 0 ≤ t20 ∧ t20 < (qx5.length : Int) then (if 0 ≤ t20 ∧ t20 < (marks6.length : Int) then (some (Sum.inl ((qx5.set (t20).toNat q26.1), (marks6.set (t20).toNat q26.2), (IntKind.i64.wrap (t20 + (1 : Int)))))) else none) else none)) else (some (Sum.inl (qx5, marks6, (IntKind.i64.wrap (t20 + (1 : Int))))))) else none) else (some (Sum.inr (qx5, marks6))))
noncomputable def f_turns_Row.s1 (l0 : (List ((Fl × Fl) × Bool))) (s : ((List Int) × (List Bool) × Int)) : Option (((List Int) × (List Bool) × Int) ⊕ ((List Int) × (List Bool))) := f_turns_Row.s1c l0 s.1 s.2.1 s.2.2
noncomputable def f_turns_Row (l0 : (List ((Fl × Fl) × Bool))) : Option ((List Int) × (List Bool) × Int) := (if (decide ((65536 : Int) < (l0.length : Int))) = true then (some ([], [], (1 : Int))) else (if 0 ≤ (l0.length : Int) ∧ (l0.length : Int) ≤ (l0.length : Int) ∧ (l0.length : Int) * 1 ≤ 281474976710656 then (if 0 ≤ (l0.length : Int) ∧ (l0.length : Int) ≤ (l0.length : Int) ∧ (l0.length : Int) * 1 ≤ 281474976710656 then ((loop (f_turns_Row.s1 l0) ((List.replicate ((l0.length : Int)).toNat (0 : Int)), (List.replicate ((l0.length : Int)).toNat false), (0 : Int))).bind (fun q30 => (some (q30.1, q30.2, (0 : Int))))) else none) else none))
theorem f_turns_Row_c {S : Nat → Prop} {w0 w : World} {ow : List Res} (hp : Hp S w0 w ow) (vl0 : Value) (l0 : (List ((Fl × Fl) × Bool))) (hl0 : RdS (Ek.pair Ek.c128 Ek.bool) S w0 vl0 l0) {r : ((List Int) × (List Bool) × Int)} (h : f_turns_Row l0 = some r) :
    Calls Try.prog 23 #[vl0] w (fun e w' => ∃ (u0 : Value) (u1 : Value), e = .returned (.tuple #[u0, u1, .int .i64 r.2.2]) ∧ Hp S w0 w' (Res.sl (Ek.int .u8) 5 u0 r.1 :: Res.sl Ek.bool 4 u1 r.2.1 :: ow)) := by
  unfold f_turns_Row at h
  refine enter (n := 43) (args := [vl0]) Try.func23 rfl rfl (Nat.le_of_ble_eq_true rfl) fun a hf => ?_
  replace hf : Fr 43 a [(0, vl0)] := hf
  refine wp_mono (Q := fun e a w => e = .ret ∧ ∃ (u0 : Value) (u1 : Value), Fr 43 a [(2, u0), (3, u1), (4, .int .i64 r.2.2)] ∧ Hp S w0 w (Res.sl (Ek.int .u8) 5 u0 r.1 :: Res.sl Ek.bool 4 u1 r.2.1 :: ow)) ?_ ?_
  rotate_left
  · rintro e a w ⟨rfl, x0, x1, hf, hp⟩
    exact ret3 hf rfl rfl rfl rfl ⟨x0, x1, rfl, hp⟩
  refine wp_seq ?_
  refine wp_reg ?_
  refine st_assign hf rfl rfl (by decide) ?_
  clear hf; intro a ha hf; clear ha
  refine st_assign hf rfl rfl (by decide) ?_
  clear hf; intro a ha hf; clear ha
  refine st_assign hf rfl rfl (by decide) ?_
  clear hf; intro a ha hf; clear ha
  refine st_nil hf ?_
  refine th_n ?_
  refine wp_seq ?_
  refine wp_seq ?_
  refine wp_reg ?_
  refine st_move hf rfl rfl (by decide) ?_
  clear hf; intro a ha hf; clear ha
  refine st_len (E := (Ek.pair Ek.c128 Ek.bool)) hf (by decide) Try.underlying42 rfl rfl (hl0.sl hp) ?_
  clear hf; intro a ha hf; clear ha
  refine st_igtr hf (by decide) rfl rfl rfl ?_
  clear hf; intro a ha hf; clear ha
  refine st_nil hf ?_
  refine th_n ?_
  refine wp_if hf rfl (fun hb => ?_) (fun hb => ?_)
  · replace h := ifT h hb
    refine wp_seq ?_
    refine wp_reg ?_
    refine st_assign hf rfl rfl (by decide) ?_
    clear hf; intro a ha hf; clear ha
    refine st_assign hf rfl rfl (by decide) ?_
    clear hf; intro a ha hf; clear ha
    refine st_assign hf rfl rfl (by decide) ?_
    clear hf; intro a ha hf; clear ha
    refine st_nil hf ?_
    refine th_n ?_
    refine wp_ret ?_
    refine th_r ?_
    obtain rfl := Option.some.inj h
    have hp := hp.nil (Ek.int .u8) 5
    have hp := hp.nil Ek.bool 4
    have hp : Hp _ _ _ (Res.sl (Ek.int .u8) 5 (.slice none 0 0) ([]) :: Res.sl Ek.bool 4 (.slice none 0 0) ([]) :: ow) := Hp.sel (pre := [Res.sl Ek.bool 4 (.slice none 0 0) ([]), Res.sl (Ek.int .u8) 5 (.slice none 0 0) ([])]) (tail := ow) (rs' := [Res.sl (Ek.int .u8) 5 (.slice none 0 0) ([]), Res.sl Ek.bool 4 (.slice none 0 0) ([])]) hp [1, 0] (by decide) (by simp) rfl
    exact ⟨rfl, ⟨_, _, hf.sub ⟨rfl, rfl, rfl, trivial⟩, hp⟩⟩
  replace h := ifF h hb
  refine wp_skip ?_
  refine th_n ?_
  refine wp_seq ?_
  obtain ⟨hc3, h⟩ := chk h
  obtain ⟨hc6, h⟩ := chk h
  refine wp_cutN (fun a w => ∃ (v4 : Value) (v7 : Value), Fr 43 a [(0, vl0), (5, v4), (6, v7)] ∧ Hp S w0 w (Res.sl Ek.bool 4 v7 (List.replicate ((l0.length : Int)).toNat false) :: Res.sl (Ek.int .u8) 5 v4 (List.replicate ((l0.length : Int)).toNat (0 : Int)) :: ow)) ?_ ?_
  · have hp := hp.same (Same.drew w)
    refine dr_begin' (fun a w => ∃ (v4 : Value) (v7 : Value), Fr 43 a [(0, vl0), (5, v4), (6, v7)] ∧ Hp S w0 w (Res.sl Ek.bool 4 v7 (List.replicate ((l0.length : Int)).toNat false) :: Res.sl (Ek.int .u8) 5 v4 (List.replicate ((l0.length : Int)).toNat (0 : Int)) :: ow)) (fun w' => ∃ l, Hp S w0 w' l) [] (by kernel_rfl) ?_
    refine dr_take 0 (vl0) rfl (by kernel_rfl) (by kernel_rfl) (by kernel_rfl) (by kernel_rfl) rfl rfl hf (by decide) rfl (fun w hp => ?_) ⟨_, hp⟩ ?_
    · obtain ⟨_, hp⟩ := hp
      refine st_move hf rfl rfl (by decide) ?_
      clear hf; intro a ha hf
      exact st_nil hf (th_n ⟨ha, rfl⟩)
    clear hf; intro a hf
    refine dr_take 1 (.int .i64 (l0.length : Int)) rfl (by kernel_rfl) (by kernel_rfl) (by kernel_rfl) (by kernel_rfl) rfl rfl hf (by decide) rfl (fun w hp => ?_) ⟨_, hp⟩ ?_
    · obtain ⟨_, hp⟩ := hp
      refine st_len (E := (Ek.pair Ek.c128 Ek.bool)) hf (by decide) Try.underlying42 rfl rfl (hl0.sl hp) ?_
      clear hf; intro a ha hf
      exact st_nil hf (th_n ⟨ha, rfl⟩)
    clear hf; intro a hf
    refine dr_take 3 (vl0) rfl (by kernel_rfl) (by kernel_rfl) (by kernel_rfl) (by kernel_rfl) rfl rfl hf (by decide) rfl (fun w hp => ?_) ⟨_, hp⟩ ?_
    · obtain ⟨_, hp⟩ := hp
      refine st_move hf rfl rfl (by decide) ?_
      clear hf; intro a ha hf
      exact st_nil hf (th_n ⟨ha, rfl⟩)
    clear hf; intro a hf
    refine dr_take 4 (.int .i64 (l0.length : Int)) rfl (by kernel_rfl) (by kernel_rfl) (by kernel_rfl) (by kernel_rfl) rfl rfl hf (by decide) rfl (fun w hp => ?_) ⟨_, hp⟩ ?_
    · obtain ⟨_, hp⟩ := hp
      refine st_len (E := (Ek.pair Ek.c128 Ek.bool)) hf (by decide) Try.underlying42 rfl rfl (hl0.sl hp) ?_
      clear hf; intro a ha hf
      exact st_nil hf (th_n ⟨ha, rfl⟩)
    clear hf; intro a hf
    refine dr_two 2 5 rfl rfl (by kernel_rfl) ?_ ?_
    · skip
      refine st_make (E := (Ek.int .u8)) hf (by decide) elt5 Try.underlying22 (by decide) hp rfl rfl rfl hc3.1 hc3.2.1 hc3.2.2 ?_
      clear hf; intro a w v4 hf hp0; clear hp; have hp := hp0; clear hp0
      replace hp : Hp _ _ _ (Res.sl (Ek.int .u8) 5 v4 (List.replicate ((l0.length : Int)).toNat (0 : Int)) :: ow) := hp
      refine st_nil hf (th_n ⟨fun _ _ => ⟨_, hp⟩, ?_⟩)
      refine dr_take 6 (v4) rfl (by kernel_rfl) (by kernel_rfl) (by kernel_rfl) (by kernel_rfl) rfl rfl hf (by decide) rfl (fun w hp => ?_) ⟨_, hp⟩ ?_
      · obtain ⟨_, hp⟩ := hp
        refine st_assign hf rfl rfl (by decide) ?_
        clear hf; intro a ha hf
        exact st_nil hf (th_n ⟨ha, rfl⟩)
      clear hf; intro a hf
      refine dr_one 5 rfl (by kernel_rfl) ?_
      refine st_make (E := Ek.bool) hf (by decide) elt4 Try.underlying27 (by decide) hp rfl rfl rfl hc6.1 hc6.2.1 hc6.2.2 ?_
      clear hf; intro a w v7 hf hp0; clear hp; have hp := hp0; clear hp0
      replace hp : Hp _ _ _ (Res.sl Ek.bool 4 v7 (List.replicate ((l0.length : Int)).toNat false) :: Res.sl (Ek.int .u8) 5 v4 (List.replicate ((l0.length : Int)).toNat (0 : Int)) :: ow) := hp
      refine st_nil hf (th_n ⟨fun _ _ => ⟨_, hp⟩, ?_⟩)
      refine dr_take 7 (v7) rfl (by kernel_rfl) (by kernel_rfl) (by kernel_rfl) (by kernel_rfl) rfl rfl hf (by decide) rfl (fun w hp => ?_) ⟨_, hp⟩ ?_
      · obtain ⟨_, hp⟩ := hp
        refine st_assign hf rfl rfl (by decide) ?_
        clear hf; intro a ha hf
        exact st_nil hf (th_n ⟨ha, rfl⟩)
      clear hf; intro a hf
      refine dr_end (by kernel_rfl) ?_ _
      exact ⟨v4, v7, hf.sub ⟨rfl, rfl, rfl, trivial⟩, hp⟩
    · skip
      refine st_make (E := Ek.bool) hf (by decide) elt4 Try.underlying27 (by decide) hp rfl rfl rfl hc6.1 hc6.2.1 hc6.2.2 ?_
      clear hf; intro a w v7 hf hp0; clear hp; have hp := hp0; clear hp0
      replace hp : Hp _ _ _ (Res.sl Ek.bool 4 v7 (List.replicate ((l0.length : Int)).toNat false) :: ow) := hp
      refine st_nil hf (th_n ⟨fun _ _ => ⟨_, hp⟩, ?_⟩)
      refine dr_one 2 rfl (by kernel_rfl) ?_
      refine st_make (E := (Ek.int .u8)) hf (by decide) elt5 Try.underlying22 (by decide) hp rfl rfl rfl hc3.1 hc3.2.1 hc3.2.2 ?_
      clear hf; intro a w v4 hf hp0; clear hp; have hp := hp0; clear hp0
      replace hp : Hp _ _ _ (Res.sl (Ek.int .u8) 5 v4 (List.replicate ((l0.length : Int)).toNat (0 : Int)) :: Res.sl Ek.bool 4 v7 (List.replicate ((l0.length : Int)).toNat false) :: ow) := hp
      refine st_nil hf (th_n ⟨fun _ _ => ⟨_, hp⟩, ?_⟩)
      refine dr_take 6 (v4) rfl (by kernel_rfl) (by kernel_rfl) (by kernel_rfl) (by kernel_rfl) rfl rfl hf (by decide) rfl (fun w hp => ?_) ⟨_, hp⟩ ?_
      · obtain ⟨_, hp⟩ := hp
        refine st_assign hf rfl rfl (by decide) ?_
        clear hf; intro a ha hf
        exact st_nil hf (th_n ⟨ha, rfl⟩)
      clear hf; intro a hf
      refine dr_take 7 (v7) rfl (by kernel_rfl) (by kernel_rfl) (by kernel_rfl) (by kernel_rfl) rfl rfl hf (by decide) rfl (fun w hp => ?_) ⟨_, hp⟩ ?_
      · obtain ⟨_, hp⟩ := hp
        refine st_assign hf rfl rfl (by decide) ?_
        clear hf; intro a ha hf
        exact st_nil hf (th_n ⟨ha, rfl⟩)
      clear hf; intro a hf
      refine dr_end (by kernel_rfl) ?_ _
      have hp : Hp _ _ _ (Res.sl Ek.bool 4 v7 (List.replicate ((l0.length : Int)).toNat false) :: Res.sl (Ek.int .u8) 5 v4 (List.replicate ((l0.length : Int)).toNat (0 : Int)) :: ow) := Hp.sel (pre := [Res.sl (Ek.int .u8) 5 v4 (List.replicate ((l0.length : Int)).toNat (0 : Int)), Res.sl Ek.bool 4 v7 (List.replicate ((l0.length : Int)).toNat false)]) (tail := ow) (rs' := [Res.sl Ek.bool 4 v7 (List.replicate ((l0.length : Int)).toNat false), Res.sl (Ek.int .u8) 5 v4 (List.replicate ((l0.length : Int)).toNat (0 : Int))]) hp [1, 0] (by decide) (by simp) rfl
      exact ⟨v4, v7, hf.sub ⟨rfl, rfl, rfl, trivial⟩, hp⟩
  rintro a w ⟨v4, v7, hf, hp⟩
  refine th_n ?_
  refine wp_seq ?_
  refine wp_seq ?_
  refine wp_reg ?_
  refine st_move hf rfl rfl (by decide) ?_
  clear hf; intro a ha hf; clear ha
  refine st_len (E := (Ek.pair Ek.c128 Ek.bool)) hf (by decide) Try.underlying42 rfl rfl (hl0.sl hp) ?_
  clear hf; intro a ha hf; clear ha
  refine st_move hf rfl rfl (by decide) ?_
  clear hf; intro a ha hf; clear ha
  refine st_nil hf ?_
  refine th_n ?_
  refine wp_block ?_
  obtain ⟨q30, hl, h⟩ := bnd h
  have hp : Hp _ _ _ (Res.sl (Ek.int .u8) 5 v4 (List.replicate ((l0.length : Int)).toNat (0 : Int)) :: Res.sl Ek.bool 4 v7 (List.replicate ((l0.length : Int)).toNat false) :: ow) := Hp.sel (pre := [Res.sl Ek.bool 4 v7 (List.replicate ((l0.length : Int)).toNat false), Res.sl (Ek.int .u8) 5 v4 (List.replicate ((l0.length : Int)).toNat (0 : Int))]) (tail := ow) (rs' := [Res.sl (Ek.int .u8) 5 v4 (List.replicate ((l0.length : Int)).toNat (0 : Int)), Res.sl Ek.bool 4 v7 (List.replicate ((l0.length : Int)).toNat false)]) hp [1, 0] (by decide) (by simp) rfl
  refine wp_loop_pure (f := (f_turns_Row.s1 l0)) (s := ((List.replicate ((l0.length : Int)).toNat (0 : Int)), (List.replicate ((l0.length : Int)).toNat false), (0 : Int))) (fun s a w => ∃ (v9 : Value) (v11 : Value), Fr 43 a [(5, v9), (6, v11), (18, vl0), (19, .int .i64 (l0.length : Int)), (20, .int .i64 s.2.2)] ∧ Hp S w0 w (Res.sl (Ek.int .u8) 5 v9 s.1 :: Res.sl Ek.bool 4 v11 s.2.1 :: ow)) (fun q e a w => e = .exit 0 ∧ ∃ (v13 : Value) (v15 : Value), Fr 43 a [(5, v13), (6, v15)] ∧ Hp S w0 w (Res.sl (Ek.int .u8) 5 v13 q.1 :: Res.sl Ek.bool 4 v15 q.2 :: ow)) ?_ hl ⟨_, _, hf.sub ⟨rfl, rfl, rfl, rfl, rfl, trivial⟩, hp⟩ ?_
  · clear hl hf hp
    intro s x a w h hI
    obtain ⟨qx5, marks6, t20⟩ := s
    obtain ⟨v9, v11, hf, hp⟩ : ∃ (v9 : Value) (v11 : Value), Fr 43 a [(5, v9), (6, v11), (18, vl0), (19, .int .i64 (l0.length : Int)), (20, .int .i64 t20)] ∧ Hp S w0 w (Res.sl (Ek.int .u8) 5 v9 qx5 :: Res.sl Ek.bool 4 v11 marks6 :: ow) := hI
    replace h : f_turns_Row.s1c l0 qx5 marks6 t20 = some x := h
    unfold f_turns_Row.s1c at h
    refine wp_seq ?_
    refine wp_reg ?_
    refine st_ilss hf (by decide) rfl rfl rfl ?_
    clear hf; intro a ha hf; clear ha
    refine st_nil hf ?_
    refine th_n ?_
    refine wp_seq ?_
    refine wp_if hf rfl (fun hb => ?_) (fun hb => ?_)
    · replace h := ifT h hb
      refine wp_skip ?_
      refine th_n ?_
      refine wp_seq ?_
      refine wp_block ?_
      refine wp_seq ?_
      refine wp_reg ?_
      refine st_move hf rfl rfl (by decide) ?_
      clear hf; intro a ha hf; clear ha
      obtain ⟨hc17, h⟩ := chk h
      refine st_index (E := (Ek.pair Ek.c128 Ek.bool)) hf (by decide) Try.underlying42 elt51 rfl rfl rfl (hl0.sl hp) hc17.1 hc17.2 ?_
      clear hf; intro a ha hf; clear ha
      refine st_ldQA (F := (Ek.pair Ek.c128 Ek.bool)) (yv := (gt l0 t20)) (m := 2) hf (by decide) (by kernel_rfl) rfl rfl rfl (Part.whole (hl0.sl hp) hc17.1 hc17.2) ?_
      clear hf; intro a cs18 hr19 ha hf; clear ha
      obtain ⟨_, _, rfl, ⟨bb20, bb21, rfl, y22, y23⟩, rfl⟩ := hr19
      replace hf : Fr _ _ ((24, .agg #[.complex .f64 bb20 bb21, .bool ((gt l0 t20).2)]) :: _) := hf
      refine st_alloc (cs := [.complex .f64 0 0, .bool false]) (zv := .agg #[.complex .f64 0 0, .bool false]) hf (by decide) (by kernel_rfl) rfl hp rfl ?_
      clear hf; intro a w v24 hf hp0; clear hp; have hp := hp0; clear hp0
      replace hp : Hp _ _ _ (Res.obj 51 v24 [.complex .f64 0 0, .bool false] :: Res.sl (Ek.int .u8) 5 v9 qx5 :: Res.sl Ek.bool 4 v11 marks6 :: ow) := hp
      refine st_assign hf rfl rfl (by decide) ?_
      clear hf; intro a ha hf; clear ha
      refine st_stO (us := [.complex .f64 bb20 bb21, .bool ((gt l0 t20).2)]) hf hp (i := 0) rfl rfl rfl rfl rfl (by rfl) (by kernel_rfl) (Nat.le_of_ble_eq_true rfl) ?_
      clear hf; intro a w hf hp0; clear hp; have hp := hp0; clear hp0
      replace hp : Hp _ _ _ (Res.obj 51 v24 [.complex .f64 bb20 bb21, .bool ((gt l0 t20).2)] :: Res.sl (Ek.int .u8) 5 v9 qx5 :: Res.sl Ek.bool 4 v11 marks6 :: ow) := hp
      refine st_nil hf ?_
      refine th_n ?_
      refine wp_seq ?_
      refine wp_reg ?_
      refine st_fa (o' := 1) hf (by decide) (off := 1) (sz := 1) (by kernel_rfl) (by decide) rfl rfl (hp.ob (i := 0) rfl) rfl ?_
      clear hf; intro a ha hf; clear ha
      refine st_ldO (u := .bool ((gt l0 t20).2)) hf (by decide) pl4 rfl rfl (hp.ob (i := 0) rfl) rfl ?_
      clear hf; intro a ha hf; clear ha
      refine st_not hf (by decide) rfl rfl ?_
      clear hf; intro a ha hf; clear ha
      refine st_nil hf ?_
      refine th_n ?_
      refine wp_if hf rfl (fun hb => ?_) (fun hb => ?_)
      · replace h := ifT h hb
        refine wp_reg ?_
        refine st_move hf rfl rfl (by decide) ?_
        clear hf; intro a ha hf; clear ha
        refine st_move hf rfl rfl (by decide) ?_
        clear hf; intro a ha hf; clear ha
        refine st_move hf rfl rfl (by decide) ?_
        clear hf; intro a ha hf; clear ha
        refine st_move hf rfl rfl (by decide) ?_
        clear hf; intro a ha hf; clear ha
        refine st_fa (o' := 0) hf (by decide) (off := 0) (sz := 1) (by kernel_rfl) (by decide) rfl rfl (hp.ob (i := 0) rfl) rfl ?_
        clear hf; intro a ha hf; clear ha
        refine st_ldO (u := .complex .f64 bb20 bb21) hf (by decide) pl49 rfl rfl (hp.ob (i := 0) rfl) rfl ?_
        clear hf; intro a ha hf; clear ha
        obtain ⟨q26, hcall27, h⟩ := bnd h
        refine st_call hf (by decide) Try.func26 rfl rfl rfl rfl rfl (f_turns_Near_c hp _ _ _ (show Fl.rep bb20 ((gt l0 t20).1).1 from y22) (show Fl.rep bb21 ((gt l0 t20).1).2 from y23) hcall27) ?_
        rintro _ w ⟨rfl, hp0⟩
        clear hp; have hp := hp0; clear hp0
        replace hp : Hp _ _ _ (Res.obj 51 v24 [.complex .f64 bb20 bb21, .bool ((gt l0 t20).2)] :: Res.sl (Ek.int .u8) 5 v9 qx5 :: Res.sl Ek.bool 4 v11 marks6 :: ow) := hp
        refine ⟨_, rfl, ?_⟩
        clear hf; intro a hf
        refine st_move hf rfl rfl (by decide) ?_
        clear hf; intro a ha hf; clear ha
        refine st_extract hf (by decide) rfl rfl rfl ?_
        clear hf; intro a ha hf; clear ha
        refine st_extract hf (by decide) rfl rfl rfl ?_
        clear hf; intro a ha hf; clear ha
        obtain ⟨hc28, h⟩ := chk h
        refine st_index (E := (Ek.int .u8)) hf (by decide) Try.underlying22 elt5 rfl rfl rfl (hp.sl (i := 1) rfl) hc28.1 hc28.2 ?_
        clear hf; intro a ha hf; clear ha
        refine st_store (E := (Ek.int .u8)) hf elt5 hp (i := 1) rfl rfl rfl rfl rfl hc28.1 hc28.2 ?_
        clear hf; intro a w hf hp0; clear hp; have hp := hp0; clear hp0
        replace hp : Hp _ _ _ (Res.obj 51 v24 [.complex .f64 bb20 bb21, .bool ((gt l0 t20).2)] :: Res.sl (Ek.int .u8) 5 v9 (qx5.set (t20).toNat q26.1) :: Res.sl Ek.bool 4 v11 marks6 :: ow) := hp
        obtain ⟨hc29, h⟩ := chk h
        refine st_index (E := Ek.bool) hf (by decide) Try.underlying27 elt4 rfl rfl rfl (hp.sl (i := 2) rfl) hc29.1 hc29.2 ?_
        clear hf; intro a ha hf; clear ha
        refine st_store (E := Ek.bool) hf elt4 hp (i := 2) rfl rfl rfl rfl rfl hc29.1 hc29.2 ?_
        clear hf; intro a w hf hp0; clear hp; have hp := hp0; clear hp0
        replace hp : Hp _ _ _ (Res.obj 51 v24 [.complex .f64 bb20 bb21, .bool ((gt l0 t20).2)] :: Res.sl (Ek.int .u8) 5 v9 (qx5.set (t20).toNat q26.1) :: Res.sl Ek.bool 4 v11 (marks6.set (t20).toNat q26.2) :: ow) := hp
        refine st_nil hf ?_
        refine ib_n ?_
        refine th_n ?_
        refine wp_reg ?_
        refine st_iadd hf (by decide) rfl rfl rfl ?_
        clear hf; intro a ha hf; clear ha
        refine st_move hf rfl rfl (by decide) ?_
        clear hf; intro a ha hf; clear ha
        refine st_nil hf ?_
        obtain rfl := Option.some.inj h
        have hp : Hp _ _ _ (Res.sl (Ek.int .u8) 5 v9 (qx5.set (t20).toNat q26.1) :: Res.sl Ek.bool 4 v11 (marks6.set (t20).toNat q26.2) :: ow) := Hp.sel (pre := [Res.obj 51 v24 [.complex .f64 bb20 bb21, .bool ((gt l0 t20).2)], Res.sl (Ek.int .u8) 5 v9 (qx5.set (t20).toNat q26.1), Res.sl Ek.bool 4 v11 (marks6.set (t20).toNat q26.2)]) (tail := ow) (rs' := [Res.sl (Ek.int .u8) 5 v9 (qx5.set (t20).toNat q26.1), Res.sl Ek.bool 4 v11 (marks6.set (t20).toNat q26.2)]) hp [1, 2] (by decide) (by simp) rfl
        exact rnd_l ⟨_, _, hf.sub ⟨rfl, rfl, rfl, rfl, rfl, trivial⟩, hp⟩
      replace h := ifF h hb
      refine wp_skip ?_
      refine ib_n ?_
      refine th_n ?_
      refine wp_reg ?_
      refine st_iadd hf (by decide) rfl rfl rfl ?_
      clear hf; intro a ha hf; clear ha
      refine st_move hf rfl rfl (by decide) ?_
      clear hf; intro a ha hf; clear ha
      refine st_nil hf ?_
      obtain rfl := Option.some.inj h
      have hp : Hp _ _ _ (Res.sl (Ek.int .u8) 5 v9 qx5 :: Res.sl Ek.bool 4 v11 marks6 :: ow) := Hp.sel (pre := [Res.obj 51 v24 [.complex .f64 bb20 bb21, .bool ((gt l0 t20).2)], Res.sl (Ek.int .u8) 5 v9 qx5, Res.sl Ek.bool 4 v11 marks6]) (tail := ow) (rs' := [Res.sl (Ek.int .u8) 5 v9 qx5, Res.sl Ek.bool 4 v11 marks6]) hp [1, 2] (by decide) (by simp) rfl
      exact rnd_l ⟨_, _, hf.sub ⟨rfl, rfl, rfl, rfl, rfl, trivial⟩, hp⟩
    replace h := ifF h hb
    refine wp_exit ?_
    refine th_e ?_
    obtain rfl := Option.some.inj h
    exact rnd_r (by simp) ⟨rfl, _, _, hf.sub ⟨rfl, rfl, trivial⟩, hp⟩
  clear hl hf hp
  intro e a w hne hO
  obtain ⟨rfl, v13, v15, hf, hp⟩ := hO
  refine ib_same ?_
  refine th_n ?_
  refine wp_seq ?_
  refine wp_reg ?_
  refine st_move hf rfl rfl (by decide) ?_
  clear hf; intro a ha hf; clear ha
  refine st_move hf rfl rfl (by decide) ?_
  clear hf; intro a ha hf; clear ha
  refine st_assign hf rfl rfl (by decide) ?_
  clear hf; intro a ha hf; clear ha
  refine st_assign hf rfl rfl (by decide) ?_
  clear hf; intro a ha hf; clear ha
  refine st_assign hf rfl rfl (by decide) ?_
  clear hf; intro a ha hf; clear ha
  refine st_nil hf ?_
  refine th_n ?_
  refine wp_ret ?_
  obtain rfl := Option.some.inj h
  exact ⟨rfl, ⟨_, _, hf.sub ⟨rfl, rfl, rfl, trivial⟩, hp⟩⟩

noncomputable def f_foghornlaw06_truths.s1c (ax0 : (List Bool)) (bx1 : (List Bool)) (i5 : Int) : Option (Int ⊕ (Unit ⊕ Bool)) := (if (decide (i5 < (ax0.length : Int))) = true then (if 0 ≤ i5 ∧ i5 < (ax0.length : Int) then (if 0 ≤ i5 ∧ i5 < (bx1.length : Int) then (if ((gt ax0 i5) != (gt bx1 i5)) = true then (some (Sum.inr (Sum.inr false))) else (some (Sum.inl (IntKind.i64.wrap (i5 + (1 : Int)))))) else none) else none) else (some (Sum.inr (Sum.inl ()))))
noncomputable def f_foghornlaw06_truths.s1 (ax0 : (List Bool)) (bx1 : (List Bool)) (s : Int) : Option (Int ⊕ (Unit ⊕ Bool)) := f_foghornlaw06_truths.s1c ax0 bx1 s
noncomputable def f_foghornlaw06_truths (ax0 : (List Bool)) (bx1 : (List Bool)) : Option Bool := (if ((ax0.length : Int) != (bx1.length : Int)) = true then (some false) else ((loop (f_foghornlaw06_truths.s1 ax0 bx1) (0 : Int)).bind (fun q3 => sm q3 (fun q4 => (some true)) (fun q5 => (some q5)))))
theorem f_foghornlaw06_truths_c {S : Nat → Prop} {w0 w : World} {ow : List Res} (hp : Hp S w0 w ow) (vax0 : Value) (ax0 : (List Bool)) (hax0 : RdS Ek.bool S w0 vax0 ax0) (vbx1 : Value) (bx1 : (List Bool)) (hbx1 : RdS Ek.bool S w0 vbx1 bx1) {r : Bool} (h : f_foghornlaw06_truths ax0 bx1 = some r) :
    Calls Try.prog 16 #[vax0, vbx1] w (fun e w' => e = .returned (.bool r) ∧ Hp S w0 w' (ow)) := by
  unfold f_foghornlaw06_truths at h
  refine enter (n := 26) (args := [vax0, vbx1]) Try.func16 rfl rfl (Nat.le_of_ble_eq_true rfl) fun a hf => ?_
  replace hf : Fr 26 a [(0, vax0), (1, vbx1)] := hf
  refine wp_mono (Q := fun e a w => e = .ret ∧ Fr 26 a [(4, .bool r)] ∧ Hp S w0 w (ow)) ?_ ?_
  rotate_left
  · rintro e a w ⟨rfl, hf, hp⟩
    exact ret1 hf rfl rfl ⟨rfl, hp⟩
  refine wp_seq ?_
  refine wp_reg ?_
  refine st_assign hf rfl rfl (by decide) ?_
  clear hf; intro a ha hf; clear ha
  refine st_nil hf ?_
  refine th_n ?_
  refine wp_seq ?_
  refine wp_seq ?_
  refine wp_reg ?_
  refine st_move hf rfl rfl (by decide) ?_
  clear hf; intro a ha hf; clear ha
  refine st_len (E := Ek.bool) hf (by decide) Try.underlying27 rfl rfl (hax0.sl hp) ?_
  clear hf; intro a ha hf; clear ha
  refine st_move hf rfl rfl (by decide) ?_
  clear hf; intro a ha hf; clear ha
  refine st_len (E := Ek.bool) hf (by decide) Try.underlying27 rfl rfl (hbx1.sl hp) ?_
  clear hf; intro a ha hf; clear ha
  refine st_ineq hf (by decide) rfl rfl rfl ?_
  clear hf; intro a ha hf; clear ha
  refine st_nil hf ?_
  refine th_n ?_
  refine wp_if hf rfl (fun hb => ?_) (fun hb => ?_)
  · replace h := ifT h hb
    refine wp_seq ?_
    refine wp_reg ?_
    refine st_assign hf rfl rfl (by decide) ?_
    clear hf; intro a ha hf; clear ha
    refine st_nil hf ?_
    refine th_n ?_
    refine wp_ret ?_
    refine th_r ?_
    obtain rfl := Option.some.inj h
    exact ⟨rfl, ⟨hf.sub ⟨rfl, trivial⟩, hp⟩⟩
  replace h := ifF h hb
  refine wp_skip ?_
  refine th_n ?_
  refine wp_seq ?_
  refine wp_seq ?_
  refine wp_reg ?_
  refine st_assign hf rfl rfl (by decide) ?_
  clear hf; intro a ha hf; clear ha
  refine st_nil hf ?_
  refine th_n ?_
  refine wp_block ?_
  obtain ⟨q3, hl, h⟩ := bnd h
  refine wp_loop_pure (f := (f_foghornlaw06_truths.s1 ax0 bx1)) (s := (0 : Int)) (fun s a w => Fr 26 a [(0, vax0), (1, vbx1), (5, .int .i64 s)] ∧ Hp S w0 w (ow)) (fun q e a w => match q with | (Sum.inl q) => e = .exit 0 ∧ Fr 26 a [] ∧ Hp S w0 w (ow) | (Sum.inr q) => e = .ret ∧ Fr 26 a [(4, .bool q)] ∧ Hp S w0 w (ow)) ?_ hl ⟨hf.sub ⟨rfl, rfl, rfl, trivial⟩, hp⟩ ?_
  · clear hl hf hp
    intro s x a w h hI
    obtain ⟨i5, hs⟩ : ∃ z, z = s := ⟨s, rfl⟩; subst hs
    obtain ⟨hf, hp⟩ : Fr 26 a [(0, vax0), (1, vbx1), (5, .int .i64 i5)] ∧ Hp S w0 w (ow) := hI
    replace h : f_foghornlaw06_truths.s1c ax0 bx1 i5 = some x := h
    unfold f_foghornlaw06_truths.s1c at h
    refine wp_seq ?_
    refine wp_seq ?_
    refine wp_reg ?_
    refine st_move hf rfl rfl (by decide) ?_
    clear hf; intro a ha hf; clear ha
    refine st_move hf rfl rfl (by decide) ?_
    clear hf; intro a ha hf; clear ha
    refine st_len (E := Ek.bool) hf (by decide) Try.underlying27 rfl rfl (hax0.sl hp) ?_
    clear hf; intro a ha hf; clear ha
    refine st_ilss hf (by decide) rfl rfl rfl ?_
    clear hf; intro a ha hf; clear ha
    refine st_nil hf ?_
    refine th_n ?_
    refine wp_if hf rfl (fun hb => ?_) (fun hb => ?_)
    · replace h := ifT h hb
      refine wp_skip ?_
      refine th_n ?_
      refine wp_seq ?_
      refine wp_block ?_
      refine wp_seq ?_
      obtain ⟨hc1, h⟩ := chk h
      obtain ⟨hc2, h⟩ := chk h
      refine wp_cutN (fun a w => Fr 26 a [(0, vax0), (1, vbx1), (5, .int .i64 i5), (25, .bool ((gt ax0 i5) != (gt bx1 i5)))] ∧ Hp S w0 w (ow)) ?_ ?_
      · have hp := hp.same (Same.drew w)
        refine dr_begin' (fun a w => Fr 26 a [(0, vax0), (1, vbx1), (5, .int .i64 i5), (25, .bool ((gt ax0 i5) != (gt bx1 i5)))] ∧ Hp S w0 w (ow)) (fun w' => ∃ l, Hp S w0 w' l) [] (by kernel_rfl) ?_
        refine dr_take 0 (vax0) rfl (by kernel_rfl) (by kernel_rfl) (by kernel_rfl) (by kernel_rfl) rfl rfl hf (by decide) rfl (fun w hp => ?_) ⟨_, hp⟩ ?_
        · obtain ⟨_, hp⟩ := hp
          refine st_move hf rfl rfl (by decide) ?_
          clear hf; intro a ha hf
          exact st_nil hf (th_n ⟨ha, rfl⟩)
        clear hf; intro a hf
        refine dr_take 1 (.int .i64 i5) rfl (by kernel_rfl) (by kernel_rfl) (by kernel_rfl) (by kernel_rfl) rfl rfl hf (by decide) rfl (fun w hp => ?_) ⟨_, hp⟩ ?_
        · obtain ⟨_, hp⟩ := hp
          refine st_move hf rfl rfl (by decide) ?_
          clear hf; intro a ha hf
          exact st_nil hf (th_n ⟨ha, rfl⟩)
        clear hf; intro a hf
        refine dr_take 2 (eptr vax0 i5 1) rfl (by kernel_rfl) (by kernel_rfl) (by kernel_rfl) (by kernel_rfl) rfl rfl hf (by decide) rfl (fun w hp => ?_) ⟨_, hp⟩ ?_
        · obtain ⟨_, hp⟩ := hp
          refine st_index (E := Ek.bool) hf (by decide) Try.underlying27 elt4 rfl rfl rfl (hax0.sl hp) hc1.1 hc1.2 ?_
          clear hf; intro a ha hf
          exact st_nil hf (th_n ⟨ha, rfl⟩)
        clear hf; intro a hf
        refine dr_take 3 (.bool (gt ax0 i5)) rfl (by kernel_rfl) (by kernel_rfl) (by kernel_rfl) (by kernel_rfl) rfl rfl hf (by decide) rfl (fun w hp => ?_) ⟨_, hp⟩ ?_
        · obtain ⟨_, hp⟩ := hp
          refine st_ldB hf (by decide) pl4 rfl rfl (hax0.sl hp) hc1.1 hc1.2 ?_
          clear hf; intro a ha hf
          exact st_nil hf (th_n ⟨ha, rfl⟩)
        clear hf; intro a hf
        refine dr_take 4 (vbx1) rfl (by kernel_rfl) (by kernel_rfl) (by kernel_rfl) (by kernel_rfl) rfl rfl hf (by decide) rfl (fun w hp => ?_) ⟨_, hp⟩ ?_
        · obtain ⟨_, hp⟩ := hp
          refine st_move hf rfl rfl (by decide) ?_
          clear hf; intro a ha hf
          exact st_nil hf (th_n ⟨ha, rfl⟩)
        clear hf; intro a hf
        refine dr_take 5 (.int .i64 i5) rfl (by kernel_rfl) (by kernel_rfl) (by kernel_rfl) (by kernel_rfl) rfl rfl hf (by decide) rfl (fun w hp => ?_) ⟨_, hp⟩ ?_
        · obtain ⟨_, hp⟩ := hp
          refine st_move hf rfl rfl (by decide) ?_
          clear hf; intro a ha hf
          exact st_nil hf (th_n ⟨ha, rfl⟩)
        clear hf; intro a hf
        refine dr_take 6 (eptr vbx1 i5 1) rfl (by kernel_rfl) (by kernel_rfl) (by kernel_rfl) (by kernel_rfl) rfl rfl hf (by decide) rfl (fun w hp => ?_) ⟨_, hp⟩ ?_
        · obtain ⟨_, hp⟩ := hp
          refine st_index (E := Ek.bool) hf (by decide) Try.underlying27 elt4 rfl rfl rfl (hbx1.sl hp) hc2.1 hc2.2 ?_
          clear hf; intro a ha hf
          exact st_nil hf (th_n ⟨ha, rfl⟩)
        clear hf; intro a hf
        refine dr_take 7 (.bool (gt bx1 i5)) rfl (by kernel_rfl) (by kernel_rfl) (by kernel_rfl) (by kernel_rfl) rfl rfl hf (by decide) rfl (fun w hp => ?_) ⟨_, hp⟩ ?_
        · obtain ⟨_, hp⟩ := hp
          refine st_ldB hf (by decide) pl4 rfl rfl (hbx1.sl hp) hc2.1 hc2.2 ?_
          clear hf; intro a ha hf
          exact st_nil hf (th_n ⟨ha, rfl⟩)
        clear hf; intro a hf
        refine dr_take 8 (.bool ((gt ax0 i5) != (gt bx1 i5))) rfl (by kernel_rfl) (by kernel_rfl) (by kernel_rfl) (by kernel_rfl) rfl rfl hf (by decide) rfl (fun w hp => ?_) ⟨_, hp⟩ ?_
        · obtain ⟨_, hp⟩ := hp
          refine st_bneq hf (by decide) Try.underlying4 rfl rfl rfl ?_
          clear hf; intro a ha hf
          exact st_nil hf (th_n ⟨ha, rfl⟩)
        clear hf; intro a hf
        refine dr_end (by kernel_rfl) ?_ _
        exact ⟨hf.sub ⟨rfl, rfl, rfl, rfl, trivial⟩, hp⟩
      rintro a w ⟨hf, hp⟩
      refine th_n ?_
      refine wp_if hf rfl (fun hb => ?_) (fun hb => ?_)
      · replace h := ifT h hb
        refine wp_seq ?_
        refine wp_reg ?_
        refine st_assign hf rfl rfl (by decide) ?_
        clear hf; intro a ha hf; clear ha
        refine st_nil hf ?_
        refine th_n ?_
        refine wp_ret ?_
        refine ib_r ?_
        refine th_r ?_
        obtain rfl := Option.some.inj h
        exact rnd_r (by simp) ⟨rfl, ⟨hf.sub ⟨rfl, trivial⟩, hp⟩⟩
      replace h := ifF h hb
      refine wp_skip ?_
      refine ib_n ?_
      refine th_n ?_
      refine wp_reg ?_
      refine st_move hf rfl rfl (by decide) ?_
      clear hf; intro a ha hf; clear ha
      refine st_iadd hf (by decide) rfl rfl rfl ?_
      clear hf; intro a ha hf; clear ha
      refine st_assign hf rfl rfl (by decide) ?_
      clear hf; intro a ha hf; clear ha
      refine st_nil hf ?_
      obtain rfl := Option.some.inj h
      exact rnd_l ⟨hf.sub ⟨rfl, rfl, rfl, trivial⟩, hp⟩
    replace h := ifF h hb
    refine wp_exit ?_
    refine th_e ?_
    obtain rfl := Option.some.inj h
    exact rnd_r (by simp) ⟨rfl, hf.sub trivial, hp⟩
  clear hl hf hp
  intro e a w hne hO
  rcases q3 with q4 | q5
  · replace h := smL h
    obtain ⟨rfl, hf, hp⟩ := hO
    refine ib_same ?_
    refine th_n ?_
    refine wp_seq ?_
    refine wp_reg ?_
    refine st_assign hf rfl rfl (by decide) ?_
    clear hf; intro a ha hf; clear ha
    refine st_nil hf ?_
    refine th_n ?_
    refine wp_ret ?_
    obtain rfl := Option.some.inj h
    exact ⟨rfl, ⟨hf.sub ⟨rfl, trivial⟩, hp⟩⟩
  replace h := smR h
  obtain ⟨rfl, hf, hp⟩ := hO
  refine ib_r ?_
  refine th_r ?_
  obtain rfl := Option.some.inj h
  exact ⟨rfl, ⟨hf.sub ⟨rfl, trivial⟩, hp⟩⟩

noncomputable def f_turns_Out_1 (n0 : Int) (t1 : Int) : Option (Int × Int) := (some ((IntKind.u8.wrap (n0 - t1)), n0))
theorem f_turns_Out_1_c {S : Nat → Prop} {w0 w : World} {ow : List Res} (n0 : Int) (t1 : Int) (ot1 : Value) (hp : Hp S w0 w (Res.obj 5 ot1 [.int .u8 t1] :: ow)) {r : (Int × Int)} (h : f_turns_Out_1 n0 t1 = some r) :
    Calls Try.prog 35 #[.int .u8 n0, optr ot1 0] w (fun e w' => e = .returned (.int .u8 r.1) ∧ Hp S w0 w' (Res.obj 5 ot1 [.int .u8 r.2] :: ow)) := by
  unfold f_turns_Out_1 at h
  refine enter (n := 10) (args := [.int .u8 n0, optr ot1 0]) Try.func35 rfl rfl (Nat.le_of_ble_eq_true rfl) fun a hf => ?_
  replace hf : Fr 10 a [(0, .int .u8 n0), (1, optr ot1 0)] := hf
  refine wp_mono (Q := fun e a w => e = .ret ∧ Fr 10 a [(3, .int .u8 r.1)] ∧ Hp S w0 w (Res.obj 5 ot1 [.int .u8 r.2] :: ow)) ?_ ?_
  rotate_left
  · rintro e a w ⟨rfl, hf, hp⟩
    exact ret1 hf rfl rfl ⟨rfl, hp⟩
  refine wp_seq ?_
  refine wp_reg ?_
  refine st_assign hf rfl rfl (by decide) ?_
  clear hf; intro a ha hf; clear ha
  refine st_nil hf ?_
  refine th_n ?_
  refine wp_seq ?_
  refine wp_reg ?_
  refine st_move hf rfl rfl (by decide) ?_
  clear hf; intro a ha hf; clear ha
  refine st_ldO (u := .int .u8 t1) hf (by decide) pl5 rfl rfl (hp.ob (i := 0) rfl) rfl ?_
  clear hf; intro a ha hf; clear ha
  refine st_isub hf (by decide) rfl rfl rfl ?_
  clear hf; intro a ha hf; clear ha
  refine st_assign hf rfl rfl (by decide) ?_
  clear hf; intro a ha hf; clear ha
  refine st_nil hf ?_
  refine th_n ?_
  refine wp_seq ?_
  refine wp_reg ?_
  refine st_move hf rfl rfl (by decide) ?_
  clear hf; intro a ha hf; clear ha
  refine st_stO (us := [.int .u8 n0]) hf hp (i := 0) rfl rfl rfl rfl rfl (by rfl) (by kernel_rfl) (Nat.le_of_ble_eq_true rfl) ?_
  clear hf; intro a w hf hp0; clear hp; have hp := hp0; clear hp0
  replace hp : Hp _ _ _ (Res.obj 5 ot1 [.int .u8 n0] :: ow) := hp
  refine st_nil hf ?_
  refine th_n ?_
  refine wp_seq ?_
  refine wp_reg ?_
  refine st_move hf rfl rfl (by decide) ?_
  clear hf; intro a ha hf; clear ha
  refine st_assign hf rfl rfl (by decide) ?_
  clear hf; intro a ha hf; clear ha
  refine st_nil hf ?_
  refine th_n ?_
  refine wp_ret ?_
  obtain rfl := Option.some.inj h
  exact ⟨rfl, ⟨hf.sub ⟨rfl, trivial⟩, hp⟩⟩

noncomputable def f_turns_each.s1c (qx0 : (List Int)) (f1_0c : Int) (out6 : (List Int)) (t17 : Int) : Option ((Int × (List Int) × Int) ⊕ (Int × (List Int))) := (if (decide (t17 < (qx0.length : Int))) = true then (if 0 ≤ t17 ∧ t17 < (qx0.length : Int) then ((f_turns_Out_1 (gt qx0 t17) f1_0c).bind fun q15 => (if 0 ≤ t17 ∧ t17 < (out6.length : Int) then (some (Sum.inl (q15.2, (out6.set (t17).toNat (iand .u8 q15.1 (3 : Int))), (IntKind.i64.wrap (t17 + (1 : Int)))))) else none)) else none) else (some (Sum.inr (f1_0c, out6))))
noncomputable def f_turns_each.s1 (qx0 : (List Int)) (s : (Int × (List Int) × Int)) : Option ((Int × (List Int) × Int) ⊕ (Int × (List Int))) := f_turns_each.s1c qx0 s.1 s.2.1 s.2.2
noncomputable def f_turns_each (qx0 : (List Int)) (t2000 : Int) : Option ((List Int) × Int × Int) := ((f_turns_row qx0).bind fun q2 => (if (!q2) = true then (some ([], (1 : Int), t2000)) else (if 0 ≤ (qx0.length : Int) ∧ (qx0.length : Int) ≤ (qx0.length : Int) ∧ (qx0.length : Int) * 1 ≤ 281474976710656 then ((loop (f_turns_each.s1 qx0) (t2000, (List.replicate ((qx0.length : Int)).toNat (0 : Int)), (0 : Int))).bind (fun q19 => (some (q19.2, (0 : Int), q19.1)))) else none)))
theorem f_turns_each_c {S : Nat → Prop} {w0 w : World} {ow : List Res} (vqx0 : Value) (qx0 : (List Int)) (hqx0 : RdS (Ek.int .u8) S w0 vqx0 qx0) (t2000 : Int) (ot2000 : Value) (hp : Hp S w0 w (Res.obj 5 ot2000 [.int .u8 t2000] :: ow)) {r : ((List Int) × Int × Int)} (h : f_turns_each qx0 t2000 = some r) :
    Calls Try.prog 33 #[vqx0, .func (.func 35) #[] #[optr ot2000 0]] w (fun e w' => ∃ (u0 : Value), e = .returned (.tuple #[u0, .int .i64 r.2.1]) ∧ Hp S w0 w' (Res.sl (Ek.int .u8) 5 u0 r.1 :: Res.obj 5 ot2000 [.int .u8 r.2.2] :: ow)) := by
  unfold f_turns_each at h
  refine enter (n := 31) (args := [vqx0, .func (.func 35) #[] #[optr ot2000 0]]) Try.func33 rfl rfl (Nat.le_of_ble_eq_true rfl) fun a hf => ?_
  replace hf : Fr 31 a [(0, vqx0), (1, .func (.func 35) #[] #[optr ot2000 0])] := hf
  refine wp_mono (Q := fun e a w => e = .ret ∧ ∃ (u0 : Value), Fr 31 a [(4, u0), (5, .int .i64 r.2.1)] ∧ Hp S w0 w (Res.sl (Ek.int .u8) 5 u0 r.1 :: Res.obj 5 ot2000 [.int .u8 r.2.2] :: ow)) ?_ ?_
  rotate_left
  · rintro e a w ⟨rfl, x0, hf, hp⟩
    exact ret2 hf rfl rfl rfl ⟨x0, rfl, hp⟩
  refine wp_seq ?_
  refine wp_reg ?_
  refine st_assign hf rfl rfl (by decide) ?_
  clear hf; intro a ha hf; clear ha
  refine st_assign hf rfl rfl (by decide) ?_
  clear hf; intro a ha hf; clear ha
  refine st_nil hf ?_
  refine th_n ?_
  refine wp_seq ?_
  refine wp_seq ?_
  refine wp_reg ?_
  refine st_move hf rfl rfl (by decide) ?_
  clear hf; intro a ha hf; clear ha
  obtain ⟨q2, hcall3, h⟩ := bnd h
  refine st_call hf (by decide) Try.func36 rfl rfl rfl rfl rfl (f_turns_row_c hp _ _ hqx0 hcall3) ?_
  rintro _ w ⟨rfl, hp0⟩
  clear hp; have hp := hp0; clear hp0
  replace hp : Hp _ _ _ (Res.obj 5 ot2000 [.int .u8 t2000] :: ow) := hp
  refine ⟨_, rfl, ?_⟩
  clear hf; intro a hf
  refine st_not hf (by decide) rfl rfl ?_
  clear hf; intro a ha hf; clear ha
  refine st_nil hf ?_
  refine th_n ?_
  refine wp_if hf rfl (fun hb => ?_) (fun hb => ?_)
  · replace h := ifT h hb
    refine wp_seq ?_
    refine wp_reg ?_
    refine st_assign hf rfl rfl (by decide) ?_
    clear hf; intro a ha hf; clear ha
    refine st_assign hf rfl rfl (by decide) ?_
    clear hf; intro a ha hf; clear ha
    refine st_nil hf ?_
    refine th_n ?_
    refine wp_ret ?_
    refine th_r ?_
    obtain rfl := Option.some.inj h
    have hp := hp.nil (Ek.int .u8) 5
    exact ⟨rfl, ⟨_, hf.sub ⟨rfl, rfl, trivial⟩, hp⟩⟩
  replace h := ifF h hb
  refine wp_skip ?_
  refine th_n ?_
  refine wp_seq ?_
  refine wp_reg ?_
  refine st_move hf rfl rfl (by decide) ?_
  clear hf; intro a ha hf; clear ha
  refine st_len (E := (Ek.int .u8)) hf (by decide) Try.underlying22 rfl rfl (hqx0.sl hp) ?_
  clear hf; intro a ha hf; clear ha
  obtain ⟨hc5, h⟩ := chk h
  refine st_make (E := (Ek.int .u8)) hf (by decide) elt5 Try.underlying22 (by decide) hp rfl rfl rfl hc5.1 hc5.2.1 hc5.2.2 ?_
  clear hf; intro a w v6 hf hp0; clear hp; have hp := hp0; clear hp0
  replace hp : Hp _ _ _ (Res.sl (Ek.int .u8) 5 v6 (List.replicate ((qx0.length : Int)).toNat (0 : Int)) :: Res.obj 5 ot2000 [.int .u8 t2000] :: ow) := hp
  refine st_assign hf rfl rfl (by decide) ?_
  clear hf; intro a ha hf; clear ha
  refine st_nil hf ?_
  refine th_n ?_
  refine wp_seq ?_
  refine wp_seq ?_
  refine wp_reg ?_
  refine st_move hf rfl rfl (by decide) ?_
  clear hf; intro a ha hf; clear ha
  refine st_len (E := (Ek.int .u8)) hf (by decide) Try.underlying22 rfl rfl (hqx0.sl hp) ?_
  clear hf; intro a ha hf; clear ha
  refine st_move hf rfl rfl (by decide) ?_
  clear hf; intro a ha hf; clear ha
  refine st_nil hf ?_
  refine th_n ?_
  refine wp_block ?_
  obtain ⟨q19, hl, h⟩ := bnd h
  have hp : Hp _ _ _ (Res.obj 5 ot2000 [.int .u8 t2000] :: Res.sl (Ek.int .u8) 5 v6 (List.replicate ((qx0.length : Int)).toNat (0 : Int)) :: ow) := Hp.sel (pre := [Res.sl (Ek.int .u8) 5 v6 (List.replicate ((qx0.length : Int)).toNat (0 : Int)), Res.obj 5 ot2000 [.int .u8 t2000]]) (tail := ow) (rs' := [Res.obj 5 ot2000 [.int .u8 t2000], Res.sl (Ek.int .u8) 5 v6 (List.replicate ((qx0.length : Int)).toNat (0 : Int))]) hp [1, 0] (by decide) (by simp) rfl
  refine wp_loop_pure (f := (f_turns_each.s1 qx0)) (s := (t2000, (List.replicate ((qx0.length : Int)).toNat (0 : Int)), (0 : Int))) (fun s a w => ∃ (v9 : Value), Fr 31 a [(1, .func (.func 35) #[] #[optr ot2000 0]), (6, v9), (15, vqx0), (16, .int .i64 (qx0.length : Int)), (17, .int .i64 s.2.2)] ∧ Hp S w0 w (Res.obj 5 ot2000 [.int .u8 s.1] :: Res.sl (Ek.int .u8) 5 v9 s.2.1 :: ow)) (fun q e a w => e = .exit 0 ∧ ∃ (v12 : Value), Fr 31 a [(1, .func (.func 35) #[] #[optr ot2000 0]), (6, v12)] ∧ Hp S w0 w (Res.obj 5 ot2000 [.int .u8 q.1] :: Res.sl (Ek.int .u8) 5 v12 q.2 :: ow)) ?_ hl ⟨_, hf.sub ⟨rfl, rfl, rfl, rfl, rfl, trivial⟩, hp⟩ ?_
  · clear hl hf hp
    intro s x a w h hI
    obtain ⟨f1_0c, out6, t17⟩ := s
    obtain ⟨v9, hf, hp⟩ : ∃ (v9 : Value), Fr 31 a [(1, .func (.func 35) #[] #[optr ot2000 0]), (6, v9), (15, vqx0), (16, .int .i64 (qx0.length : Int)), (17, .int .i64 t17)] ∧ Hp S w0 w (Res.obj 5 ot2000 [.int .u8 f1_0c] :: Res.sl (Ek.int .u8) 5 v9 out6 :: ow) := hI
    replace h : f_turns_each.s1c qx0 f1_0c out6 t17 = some x := h
    unfold f_turns_each.s1c at h
    refine wp_seq ?_
    refine wp_reg ?_
    refine st_ilss hf (by decide) rfl rfl rfl ?_
    clear hf; intro a ha hf; clear ha
    refine st_nil hf ?_
    refine th_n ?_
    refine wp_seq ?_
    refine wp_if hf rfl (fun hb => ?_) (fun hb => ?_)
    · replace h := ifT h hb
      refine wp_skip ?_
      refine th_n ?_
      refine wp_seq ?_
      refine wp_block ?_
      refine wp_seq ?_
      refine wp_reg ?_
      refine st_move hf rfl rfl (by decide) ?_
      clear hf; intro a ha hf; clear ha
      obtain ⟨hc14, h⟩ := chk h
      refine st_index (E := (Ek.int .u8)) hf (by decide) Try.underlying22 elt5 rfl rfl rfl (hqx0.sl hp) hc14.1 hc14.2 ?_
      clear hf; intro a ha hf; clear ha
      refine st_ldI hf (by decide) pl5 rfl rfl (hqx0.sl hp) hc14.1 hc14.2 ?_
      clear hf; intro a ha hf; clear ha
      refine st_assign hf rfl rfl (by decide) ?_
      clear hf; intro a ha hf; clear ha
      refine st_assign hf rfl rfl (by decide) ?_
      clear hf; intro a ha hf; clear ha
      refine st_nil hf ?_
      refine th_n ?_
      refine wp_reg ?_
      refine st_move hf rfl rfl (by decide) ?_
      clear hf; intro a ha hf; clear ha
      refine st_move hf rfl rfl (by decide) ?_
      clear hf; intro a ha hf; clear ha
      refine st_move hf rfl rfl (by decide) ?_
      clear hf; intro a ha hf; clear ha
      refine st_move hf rfl rfl (by decide) ?_
      clear hf; intro a ha hf; clear ha
      obtain ⟨q15, hcall16, h⟩ := bnd h
      have hp17 : Hp _ _ _ (Res.obj 5 ot2000 [.int .u8 f1_0c] :: Res.sl (Ek.int .u8) 5 v9 out6 :: ow) := Hp.sel (pre := [Res.obj 5 ot2000 [.int .u8 f1_0c], Res.sl (Ek.int .u8) 5 v9 out6]) (tail := ow) (rs' := [Res.obj 5 ot2000 [.int .u8 f1_0c], Res.sl (Ek.int .u8) 5 v9 out6]) hp [0, 1] (by decide) (by simp) rfl
      refine st_call hf (by decide) Try.func35 rfl rfl rfl rfl rfl (f_turns_Out_1_c _ _ _ hp17 hcall16) ?_
      rintro _ w ⟨rfl, hp0⟩
      clear hp; have hp := hp0; clear hp0
      replace hp : Hp _ _ _ (Res.obj 5 ot2000 [.int .u8 q15.2] :: Res.sl (Ek.int .u8) 5 v9 out6 :: ow) := hp
      refine ⟨_, rfl, ?_⟩
      clear hf; intro a hf
      refine st_iand hf (by decide) rfl rfl rfl ?_
      clear hf; intro a ha hf; clear ha
      obtain ⟨hc18, h⟩ := chk h
      refine st_index (E := (Ek.int .u8)) hf (by decide) Try.underlying22 elt5 rfl rfl rfl (hp.sl (i := 1) rfl) hc18.1 hc18.2 ?_
      clear hf; intro a ha hf; clear ha
      refine st_store (E := (Ek.int .u8)) hf elt5 hp (i := 1) rfl rfl rfl rfl rfl hc18.1 hc18.2 ?_
      clear hf; intro a w hf hp0; clear hp; have hp := hp0; clear hp0
      replace hp : Hp _ _ _ (Res.obj 5 ot2000 [.int .u8 q15.2] :: Res.sl (Ek.int .u8) 5 v9 (out6.set (t17).toNat (iand .u8 q15.1 (3 : Int))) :: ow) := hp
      refine st_nil hf ?_
      refine ib_n ?_
      refine th_n ?_
      refine wp_reg ?_
      refine st_iadd hf (by decide) rfl rfl rfl ?_
      clear hf; intro a ha hf; clear ha
      refine st_move hf rfl rfl (by decide) ?_
      clear hf; intro a ha hf; clear ha
      refine st_nil hf ?_
      obtain rfl := Option.some.inj h
      exact rnd_l ⟨_, hf.sub ⟨rfl, rfl, rfl, rfl, rfl, trivial⟩, hp⟩
    replace h := ifF h hb
    refine wp_exit ?_
    refine th_e ?_
    obtain rfl := Option.some.inj h
    exact rnd_r (by simp) ⟨rfl, _, hf.sub ⟨rfl, rfl, trivial⟩, hp⟩
  clear hl hf hp
  intro e a w hne hO
  obtain ⟨rfl, v12, hf, hp⟩ := hO
  refine ib_same ?_
  refine th_n ?_
  refine wp_seq ?_
  refine wp_reg ?_
  refine st_move hf rfl rfl (by decide) ?_
  clear hf; intro a ha hf; clear ha
  refine st_assign hf rfl rfl (by decide) ?_
  clear hf; intro a ha hf; clear ha
  refine st_assign hf rfl rfl (by decide) ?_
  clear hf; intro a ha hf; clear ha
  refine st_nil hf ?_
  refine th_n ?_
  refine wp_ret ?_
  obtain rfl := Option.some.inj h
  have hp : Hp _ _ _ (Res.sl (Ek.int .u8) 5 v12 q19.2 :: Res.obj 5 ot2000 [.int .u8 q19.1] :: ow) := Hp.sel (pre := [Res.obj 5 ot2000 [.int .u8 q19.1], Res.sl (Ek.int .u8) 5 v12 q19.2]) (tail := ow) (rs' := [Res.sl (Ek.int .u8) 5 v12 q19.2, Res.obj 5 ot2000 [.int .u8 q19.1]]) hp [1, 0] (by decide) (by simp) rfl
  exact ⟨rfl, ⟨_, hf.sub ⟨rfl, rfl, trivial⟩, hp⟩⟩

noncomputable def f_turns_Out (p0 : (List Int)) : Option ((List Int) × Int) := ((f_turns_each p0 (0 : Int)).bind fun q3 => (some (q3.1, q3.2.1)))
theorem f_turns_Out_c {S : Nat → Prop} {w0 w : World} {ow : List Res} (hp : Hp S w0 w ow) (vp0 : Value) (p0 : (List Int)) (hp0 : RdS (Ek.int .u8) S w0 vp0 p0) {r : ((List Int) × Int)} (h : f_turns_Out p0 = some r) :
    Calls Try.prog 10 #[vp0] w (fun e w' => ∃ (u0 : Value), e = .returned (.tuple #[u0, .int .i64 r.2]) ∧ Hp S w0 w' (Res.sl (Ek.int .u8) 5 u0 r.1 :: ow)) := by
  unfold f_turns_Out at h
  refine enter (n := 10) (args := [vp0]) Try.func10 rfl rfl (Nat.le_of_ble_eq_true rfl) fun a hf => ?_
  replace hf : Fr 10 a [(0, vp0)] := hf
  refine wp_mono (Q := fun e a w => e = .ret ∧ ∃ (u0 : Value), Fr 10 a [(2, u0), (3, .int .i64 r.2)] ∧ Hp S w0 w (Res.sl (Ek.int .u8) 5 u0 r.1 :: ow)) ?_ ?_
  rotate_left
  · rintro e a w ⟨rfl, x0, hf, hp⟩
    exact ret2 hf rfl rfl rfl ⟨x0, rfl, hp⟩
  refine wp_seq ?_
  refine wp_reg ?_
  refine st_assign hf rfl rfl (by decide) ?_
  clear hf; intro a ha hf; clear ha
  refine st_assign hf rfl rfl (by decide) ?_
  clear hf; intro a ha hf; clear ha
  refine st_nil hf ?_
  refine th_n ?_
  refine wp_seq ?_
  refine wp_reg ?_
  refine st_alloc (cs := [.int .u8 (0 : Int)]) (zv := .int .u8 (0 : Int)) hf (by decide) (by kernel_rfl) rfl hp rfl ?_
  clear hf; intro a w v1 hf hp0; clear hp; have hp := hp0; clear hp0
  replace hp : Hp _ _ _ (Res.obj 5 v1 [.int .u8 (0 : Int)] :: ow) := hp
  refine st_stO (us := [.int .u8 (0 : Int)]) hf hp (i := 0) rfl rfl rfl rfl rfl (by rfl) (by kernel_rfl) (Nat.le_of_ble_eq_true rfl) ?_
  clear hf; intro a w hf hp0; clear hp; have hp := hp0; clear hp0
  replace hp : Hp _ _ _ (Res.obj 5 v1 [.int .u8 (0 : Int)] :: ow) := hp
  refine st_nil hf ?_
  refine th_n ?_
  refine wp_seq ?_
  refine wp_reg ?_
  refine st_move hf rfl rfl (by decide) ?_
  clear hf; intro a ha hf; clear ha
  refine st_makeFunc1 hf (by decide) rfl rfl ?_
  clear hf; intro a ha hf; clear ha
  obtain ⟨q3, hcall4, h⟩ := bnd h
  have hp5 : Hp _ _ _ (Res.obj 5 v1 [.int .u8 (0 : Int)] :: ow) := Hp.sel (pre := [Res.obj 5 v1 [.int .u8 (0 : Int)]]) (tail := ow) (rs' := [Res.obj 5 v1 [.int .u8 (0 : Int)]]) hp [0] (by decide) (by simp) rfl
  refine st_call hf (by decide) Try.func33 rfl rfl rfl rfl rfl (f_turns_each_c _ _ hp0 _ _ hp5 hcall4) ?_
  rintro _ w ⟨v6, rfl, hp0⟩
  clear hp; have hp := hp0; clear hp0
  replace hp : Hp _ _ _ (Res.sl (Ek.int .u8) 5 v6 q3.1 :: Res.obj 5 v1 [.int .u8 q3.2.2] :: ow) := hp
  refine ⟨_, rfl, ?_⟩
  clear hf; intro a hf
  refine st_extract hf (by decide) rfl rfl rfl ?_
  clear hf; intro a ha hf; clear ha
  refine st_extract hf (by decide) rfl rfl rfl ?_
  clear hf; intro a ha hf; clear ha
  refine st_assign hf rfl rfl (by decide) ?_
  clear hf; intro a ha hf; clear ha
  refine st_assign hf rfl rfl (by decide) ?_
  clear hf; intro a ha hf; clear ha
  refine st_nil hf ?_
  refine th_n ?_
  refine wp_ret ?_
  obtain rfl := Option.some.inj h
  have hp : Hp _ _ _ (Res.sl (Ek.int .u8) 5 v6 q3.1 :: ow) := Hp.sel (pre := [Res.sl (Ek.int .u8) 5 v6 q3.1, Res.obj 5 v1 [.int .u8 q3.2.2]]) (tail := ow) (rs' := [Res.sl (Ek.int .u8) 5 v6 q3.1]) hp [0] (by decide) (by simp) rfl
  exact ⟨rfl, ⟨_, hf.sub ⟨rfl, rfl, trivial⟩, hp⟩⟩

noncomputable def f_turns_Marked.s1c (there1 : (List Bool)) (qx7 : (List Int)) (marks9 : (List Bool)) (last10 : Bool) (t32 : Int) : Option (((List Int) × (List Bool) × Bool × Int) ⊕ ((List Int) × (List Bool))) := (if (decide (t32 < (there1.length : Int))) = true then (if 0 ≤ t32 ∧ t32 < (there1.length : Int) then (if 0 ≤ t32 ∧ t32 < (marks9.length : Int) then (if 0 ≤ t32 ∧ t32 < ((marks9.set (t32).toNat ((gt there1 t32) && last10)).length : Int) then (if (!(gt (marks9.set (t32).toNat ((gt there1 t32) && last10)) t32)) = true then (if 0 ≤ t32 ∧ t32 < (qx7.length : Int) then (some (Sum.inl ((qx7.set (t32).toNat (0 : Int)), (marks9.set (t32).toNat ((gt there1 t32) && last10)), (gt there1 t32), (IntKind.i64.wrap (t32 + (1 : Int)))))) else none) else (some (Sum.inl (qx7, (marks9.set (t32).toNat ((gt there1 t32) && last10)), (gt there1 t32), (IntKind.i64.wrap (t32 + (1 : Int))))))) else none) else none) else none) else (some (Sum.inr (qx7, marks9))))
noncomputable def f_turns_Marked.s1 (there1 : (List Bool)) (s : ((List Int) × (List Bool) × Bool × Int)) : Option (((List Int) × (List Bool) × Bool × Int) ⊕ ((List Int) × (List Bool))) := f_turns_Marked.s1c there1 s.1 s.2.1 s.2.2.1 s.2.2.2
noncomputable def f_turns_Marked (p0 : (List Int)) (there1 : (List Bool)) : Option ((List Int) × (List Bool) × Int) := ((f_turns_Out p0).bind fun q1 => (if ((q1.2 != (0 : Int)) || ((there1.length : Int) != (p0.length : Int))) = true then (some ([], [], (1 : Int))) else (if 0 ≤ (p0.length : Int) ∧ (p0.length : Int) ≤ (p0.length : Int) ∧ (p0.length : Int) * 1 ≤ 281474976710656 then ((loop (f_turns_Marked.s1 there1) (q1.1, (List.replicate ((p0.length : Int)).toNat false), true, (0 : Int))).bind (fun q26 => (some (q26.1, q26.2, (0 : Int))))) else none)))
theorem f_turns_Marked_c {S : Nat → Prop} {w0 w : World} {ow : List Res} (hp : Hp S w0 w ow) (vp0 : Value) (p0 : (List Int)) (hp0 : RdS (Ek.int .u8) S w0 vp0 p0) (vthere1 : Value) (there1 : (List Bool)) (hthere1 : RdS Ek.bool S w0 vthere1 there1) {r : ((List Int) × (List Bool) × Int)} (h : f_turns_Marked p0 there1 = some r) :
    Calls Try.prog 32 #[vp0, vthere1] w (fun e w' => ∃ (u0 : Value) (u1 : Value), e = .returned (.tuple #[u0, u1, .int .i64 r.2.2]) ∧ Hp S w0 w' (Res.sl (Ek.int .u8) 5 u0 r.1 :: Res.sl Ek.bool 4 u1 r.2.1 :: ow)) := by
  unfold f_turns_Marked at h
  refine enter (n := 56) (args := [vp0, vthere1]) Try.func32 rfl rfl (Nat.le_of_ble_eq_true rfl) fun a hf => ?_
  replace hf : Fr 56 a [(0, vp0), (1, vthere1)] := hf
  refine wp_mono (Q := fun e a w => e = .ret ∧ ∃ (u0 : Value) (u1 : Value), Fr 56 a [(4, u0), (5, u1), (6, .int .i64 r.2.2)] ∧ Hp S w0 w (Res.sl (Ek.int .u8) 5 u0 r.1 :: Res.sl Ek.bool 4 u1 r.2.1 :: ow)) ?_ ?_
  rotate_left
  · rintro e a w ⟨rfl, x0, x1, hf, hp⟩
    exact ret3 hf rfl rfl rfl rfl ⟨x0, x1, rfl, hp⟩
  refine wp_seq ?_
  refine wp_reg ?_
  refine st_assign hf rfl rfl (by decide) ?_
  clear hf; intro a ha hf; clear ha
  refine st_assign hf rfl rfl (by decide) ?_
  clear hf; intro a ha hf; clear ha
  refine st_assign hf rfl rfl (by decide) ?_
  clear hf; intro a ha hf; clear ha
  refine st_nil hf ?_
  refine th_n ?_
  refine wp_seq ?_
  refine wp_reg ?_
  refine st_move hf rfl rfl (by decide) ?_
  clear hf; intro a ha hf; clear ha
  obtain ⟨q1, hcall2, h⟩ := bnd h
  refine st_call hf (by decide) Try.func10 rfl rfl rfl rfl rfl (f_turns_Out_c hp _ _ hp0 hcall2) ?_
  rintro _ w ⟨v3, rfl, hp0⟩
  clear hp; have hp := hp0; clear hp0
  replace hp : Hp _ _ _ (Res.sl (Ek.int .u8) 5 v3 q1.1 :: ow) := hp
  refine ⟨_, rfl, ?_⟩
  clear hf; intro a hf
  refine st_move hf rfl rfl (by decide) ?_
  clear hf; intro a ha hf; clear ha
  refine st_extract hf (by decide) rfl rfl rfl ?_
  clear hf; intro a ha hf; clear ha
  refine st_extract hf (by decide) rfl rfl rfl ?_
  clear hf; intro a ha hf; clear ha
  refine st_assign hf rfl rfl (by decide) ?_
  clear hf; intro a ha hf; clear ha
  refine st_assign hf rfl rfl (by decide) ?_
  clear hf; intro a ha hf; clear ha
  refine st_nil hf ?_
  refine th_n ?_
  refine wp_seq ?_
  refine wp_seq ?_
  refine wp_reg ?_
  refine st_move hf rfl rfl (by decide) ?_
  clear hf; intro a ha hf; clear ha
  refine st_ineq hf (by decide) rfl rfl rfl ?_
  clear hf; intro a ha hf; clear ha
  refine st_move hf rfl rfl (by decide) ?_
  clear hf; intro a ha hf; clear ha
  refine wpList_cut 6 (fun a w => Fr 56 a [(0, vp0), (1, vthere1), (7, v3), (26, .bool ((q1.2 != (0 : Int)) || ((there1.length : Int) != (p0.length : Int))))] ∧ Hp S w0 w (Res.sl (Ek.int .u8) 5 v3 q1.1 :: ow)) ?_ ?_
  · rcases Bool.eq_false_or_eq_true (q1.2 != (0 : Int)) with hb6 | hb6
    · skip
      refine st_skip hf (wantN hf rfl rfl hb6) rfl (by decide) ?_ rfl
      clear hf; intro a hf
      refine st_skip hf (wantN hf rfl rfl hb6) rfl (by decide) ?_ rfl
      clear hf; intro a hf
      refine st_skip hf (wantN hf rfl rfl hb6) rfl (by decide) ?_ rfl
      clear hf; intro a hf
      refine st_skip hf (wantN hf rfl rfl hb6) rfl (by decide) ?_ rfl
      clear hf; intro a hf
      refine st_skip hf (wantN hf rfl rfl hb6) rfl (by decide) ?_ rfl
      clear hf; intro a hf
      refine st_pick (v := .bool true) hf rfl rfl (fun hb' => ?_) (fun hb' => ?_) (by decide) ?_
      · rfl
      · exact absurd (hb6.symm.trans hb') (by decide)
      clear hf; intro a ha hf; clear ha
      refine st_nil hf (th_n ?_)
      exact ⟨hf.sub ⟨rfl, rfl, rfl, (by rw [hb6]; rfl), trivial⟩, hp⟩
    refine st_move hf (wantY hf rfl rfl hb6) rfl (by decide) ?_
    clear hf; intro a ha hf; clear ha
    refine st_len (E := Ek.bool) hf (by decide) Try.underlying27 (wantY hf rfl rfl hb6) rfl (hthere1.sl hp) ?_
    clear hf; intro a ha hf; clear ha
    refine st_move hf (wantY hf rfl rfl hb6) rfl (by decide) ?_
    clear hf; intro a ha hf; clear ha
    refine st_len (E := (Ek.int .u8)) hf (by decide) Try.underlying22 (wantY hf rfl rfl hb6) rfl (hp0.sl hp) ?_
    clear hf; intro a ha hf; clear ha
    refine st_ineq hf (by decide) (wantY hf rfl rfl hb6) rfl rfl ?_
    clear hf; intro a ha hf; clear ha
    refine st_pick (v := .bool ((there1.length : Int) != (p0.length : Int))) hf rfl rfl (fun hb' => ?_) (fun hb' => ?_) (by decide) ?_
    · exact absurd (hb6.symm.trans hb') (by decide)
    · rfl
    clear hf; intro a ha hf; clear ha
    refine st_nil hf (th_n ?_)
    exact ⟨hf.sub ⟨rfl, rfl, rfl, (by rw [hb6]; rfl), trivial⟩, hp⟩
  rintro a w ⟨hf, hp⟩
  refine st_nil hf ?_
  refine th_n ?_
  refine wp_if hf rfl (fun hb => ?_) (fun hb => ?_)
  · replace h := ifT h hb
    refine wp_seq ?_
    refine wp_reg ?_
    refine st_assign hf rfl rfl (by decide) ?_
    clear hf; intro a ha hf; clear ha
    refine st_assign hf rfl rfl (by decide) ?_
    clear hf; intro a ha hf; clear ha
    refine st_assign hf rfl rfl (by decide) ?_
    clear hf; intro a ha hf; clear ha
    refine st_nil hf ?_
    refine th_n ?_
    refine wp_ret ?_
    refine th_r ?_
    obtain rfl := Option.some.inj h
    have hp := hp.nil (Ek.int .u8) 5
    have hp := hp.nil Ek.bool 4
    have hp : Hp _ _ _ (Res.sl (Ek.int .u8) 5 (.slice none 0 0) ([]) :: Res.sl Ek.bool 4 (.slice none 0 0) ([]) :: ow) := Hp.sel (pre := [Res.sl Ek.bool 4 (.slice none 0 0) ([]), Res.sl (Ek.int .u8) 5 (.slice none 0 0) ([]), Res.sl (Ek.int .u8) 5 v3 q1.1]) (tail := ow) (rs' := [Res.sl (Ek.int .u8) 5 (.slice none 0 0) ([]), Res.sl Ek.bool 4 (.slice none 0 0) ([])]) hp [1, 0] (by decide) (by simp) rfl
    exact ⟨rfl, ⟨_, _, hf.sub ⟨rfl, rfl, rfl, trivial⟩, hp⟩⟩
  replace h := ifF h hb
  refine wp_skip ?_
  refine th_n ?_
  refine wp_seq ?_
  refine wp_reg ?_
  refine st_move hf rfl rfl (by decide) ?_
  clear hf; intro a ha hf; clear ha
  refine st_len (E := (Ek.int .u8)) hf (by decide) Try.underlying22 rfl rfl (hp0.sl hp) ?_
  clear hf; intro a ha hf; clear ha
  obtain ⟨hc9, h⟩ := chk h
  refine st_make (E := Ek.bool) hf (by decide) elt4 Try.underlying27 (by decide) hp rfl rfl rfl hc9.1 hc9.2.1 hc9.2.2 ?_
  clear hf; intro a w v10 hf hp0; clear hp; have hp := hp0; clear hp0
  replace hp : Hp _ _ _ (Res.sl Ek.bool 4 v10 (List.replicate ((p0.length : Int)).toNat false) :: Res.sl (Ek.int .u8) 5 v3 q1.1 :: ow) := hp
  refine st_assign hf rfl rfl (by decide) ?_
  clear hf; intro a ha hf; clear ha
  refine st_nil hf ?_
  refine th_n ?_
  refine wp_seq ?_
  refine wp_reg ?_
  refine st_assign hf rfl rfl (by decide) ?_
  clear hf; intro a ha hf; clear ha
  refine st_nil hf ?_
  refine th_n ?_
  refine wp_seq ?_
  refine wp_seq ?_
  refine wp_reg ?_
  refine st_move hf rfl rfl (by decide) ?_
  clear hf; intro a ha hf; clear ha
  refine st_len (E := Ek.bool) hf (by decide) Try.underlying27 rfl rfl (hthere1.sl hp) ?_
  clear hf; intro a ha hf; clear ha
  refine st_move hf rfl rfl (by decide) ?_
  clear hf; intro a ha hf; clear ha
  refine st_nil hf ?_
  refine th_n ?_
  refine wp_block ?_
  obtain ⟨q26, hl, h⟩ := bnd h
  have hp : Hp _ _ _ (Res.sl (Ek.int .u8) 5 v3 q1.1 :: Res.sl Ek.bool 4 v10 (List.replicate ((p0.length : Int)).toNat false) :: ow) := Hp.sel (pre := [Res.sl Ek.bool 4 v10 (List.replicate ((p0.length : Int)).toNat false), Res.sl (Ek.int .u8) 5 v3 q1.1]) (tail := ow) (rs' := [Res.sl (Ek.int .u8) 5 v3 q1.1, Res.sl Ek.bool 4 v10 (List.replicate ((p0.length : Int)).toNat false)]) hp [1, 0] (by decide) (by simp) rfl
  refine wp_loop_pure (f := (f_turns_Marked.s1 there1)) (s := (q1.1, (List.replicate ((p0.length : Int)).toNat false), true, (0 : Int))) (fun s a w => ∃ (v12 : Value) (v14 : Value), Fr 56 a [(7, v12), (9, v14), (10, .bool s.2.2.1), (30, vthere1), (31, .int .i64 (there1.length : Int)), (32, .int .i64 s.2.2.2)] ∧ Hp S w0 w (Res.sl (Ek.int .u8) 5 v12 s.1 :: Res.sl Ek.bool 4 v14 s.2.1 :: ow)) (fun q e a w => e = .exit 0 ∧ ∃ (v16 : Value) (v18 : Value), Fr 56 a [(7, v16), (9, v18)] ∧ Hp S w0 w (Res.sl (Ek.int .u8) 5 v16 q.1 :: Res.sl Ek.bool 4 v18 q.2 :: ow)) ?_ hl ⟨_, _, hf.sub ⟨rfl, rfl, rfl, rfl, rfl, rfl, trivial⟩, hp⟩ ?_
  · clear hl hf hp
    intro s x a w h hI
    obtain ⟨qx7, marks9, last10, t32⟩ := s
    obtain ⟨v12, v14, hf, hp⟩ : ∃ (v12 : Value) (v14 : Value), Fr 56 a [(7, v12), (9, v14), (10, .bool last10), (30, vthere1), (31, .int .i64 (there1.length : Int)), (32, .int .i64 t32)] ∧ Hp S w0 w (Res.sl (Ek.int .u8) 5 v12 qx7 :: Res.sl Ek.bool 4 v14 marks9 :: ow) := hI
    replace h : f_turns_Marked.s1c there1 qx7 marks9 last10 t32 = some x := h
    unfold f_turns_Marked.s1c at h
    refine wp_seq ?_
    refine wp_reg ?_
    refine st_ilss hf (by decide) rfl rfl rfl ?_
    clear hf; intro a ha hf; clear ha
    refine st_nil hf ?_
    refine th_n ?_
    refine wp_seq ?_
    refine wp_if hf rfl (fun hb => ?_) (fun hb => ?_)
    · replace h := ifT h hb
      refine wp_skip ?_
      refine th_n ?_
      refine wp_seq ?_
      refine wp_block ?_
      refine wp_seq ?_
      refine wp_reg ?_
      refine st_move hf rfl rfl (by decide) ?_
      clear hf; intro a ha hf; clear ha
      obtain ⟨hc20, h⟩ := chk h
      refine st_index (E := Ek.bool) hf (by decide) Try.underlying27 elt4 rfl rfl rfl (hthere1.sl hp) hc20.1 hc20.2 ?_
      clear hf; intro a ha hf; clear ha
      refine st_ldB hf (by decide) pl4 rfl rfl (hthere1.sl hp) hc20.1 hc20.2 ?_
      clear hf; intro a ha hf; clear ha
      refine st_assign hf rfl rfl (by decide) ?_
      clear hf; intro a ha hf; clear ha
      refine st_assign hf rfl rfl (by decide) ?_
      clear hf; intro a ha hf; clear ha
      refine st_nil hf ?_
      refine th_n ?_
      refine wp_seq ?_
      refine wp_reg ?_
      refine st_move hf rfl rfl (by decide) ?_
      clear hf; intro a ha hf; clear ha
      refine st_move hf rfl rfl (by decide) ?_
      clear hf; intro a ha hf; clear ha
      refine st_move hf rfl rfl (by decide) ?_
      clear hf; intro a ha hf; clear ha
      refine st_move hf rfl rfl (by decide) ?_
      clear hf; intro a ha hf; clear ha
      refine wpList_cut 2 (fun a w => Fr 56 a [(7, v12), (9, v14), (11, .int .i64 t32), (12, .bool (gt there1 t32)), (30, vthere1), (31, .int .i64 (there1.length : Int)), (32, .int .i64 t32), (37, v14), (38, .int .i64 t32), (42, .bool ((gt there1 t32) && last10))] ∧ Hp S w0 w (Res.sl (Ek.int .u8) 5 v12 qx7 :: Res.sl Ek.bool 4 v14 marks9 :: ow)) ?_ ?_
      · rcases Bool.eq_false_or_eq_true (gt there1 t32) with hb22 | hb22
        · skip
          refine st_move hf (wantY hf rfl rfl hb22) rfl (by decide) ?_
          clear hf; intro a ha hf; clear ha
          refine st_pick (v := .bool last10) hf rfl rfl (fun hb' => ?_) (fun hb' => ?_) (by decide) ?_
          · rfl
          · exact absurd (hb22.symm.trans hb') (by decide)
          clear hf; intro a ha hf; clear ha
          refine st_nil hf (th_n ?_)
          exact ⟨hf.sub ⟨rfl, rfl, rfl, rfl, rfl, rfl, rfl, rfl, rfl, (by rw [hb22]; rfl), trivial⟩, hp⟩
        refine st_skip hf (wantN hf rfl rfl hb22) rfl (by decide) ?_ rfl
        clear hf; intro a hf
        refine st_pick (v := .bool false) hf rfl rfl (fun hb' => ?_) (fun hb' => ?_) (by decide) ?_
        · exact absurd (hb22.symm.trans hb') (by decide)
        · rfl
        clear hf; intro a ha hf; clear ha
        refine st_nil hf (th_n ?_)
        exact ⟨hf.sub ⟨rfl, rfl, rfl, rfl, rfl, rfl, rfl, rfl, rfl, (by rw [hb22]; rfl), trivial⟩, hp⟩
      rintro a w ⟨hf, hp⟩
      obtain ⟨hc23, h⟩ := chk h
      refine st_index (E := Ek.bool) hf (by decide) Try.underlying27 elt4 rfl rfl rfl (hp.sl (i := 1) rfl) hc23.1 hc23.2 ?_
      clear hf; intro a ha hf; clear ha
      refine st_store (E := Ek.bool) hf elt4 hp (i := 1) rfl rfl rfl rfl rfl hc23.1 hc23.2 ?_
      clear hf; intro a w hf hp0; clear hp; have hp := hp0; clear hp0
      replace hp : Hp _ _ _ (Res.sl (Ek.int .u8) 5 v12 qx7 :: Res.sl Ek.bool 4 v14 (marks9.set (t32).toNat ((gt there1 t32) && last10)) :: ow) := hp
      refine st_nil hf ?_
      refine th_n ?_
      refine wp_seq ?_
      refine wp_reg ?_
      refine st_move hf rfl rfl (by decide) ?_
      clear hf; intro a ha hf; clear ha
      refine st_assign hf rfl rfl (by decide) ?_
      clear hf; intro a ha hf; clear ha
      refine st_nil hf ?_
      refine th_n ?_
      refine wp_seq ?_
      refine wp_reg ?_
      refine st_move hf rfl rfl (by decide) ?_
      clear hf; intro a ha hf; clear ha
      refine st_move hf rfl rfl (by decide) ?_
      clear hf; intro a ha hf; clear ha
      obtain ⟨hc24, h⟩ := chk h
      refine st_index (E := Ek.bool) hf (by decide) Try.underlying27 elt4 rfl rfl rfl (hp.sl (i := 1) rfl) hc24.1 hc24.2 ?_
      clear hf; intro a ha hf; clear ha
      refine st_ldB hf (by decide) pl4 rfl rfl (hp.sl (i := 1) rfl) hc24.1 hc24.2 ?_
      clear hf; intro a ha hf; clear ha
      refine st_not hf (by decide) rfl rfl ?_
      clear hf; intro a ha hf; clear ha
      refine st_nil hf ?_
      refine th_n ?_
      refine wp_if hf rfl (fun hb => ?_) (fun hb => ?_)
      · replace h := ifT h hb
        refine wp_reg ?_
        refine st_move hf rfl rfl (by decide) ?_
        clear hf; intro a ha hf; clear ha
        refine st_move hf rfl rfl (by decide) ?_
        clear hf; intro a ha hf; clear ha
        obtain ⟨hc25, h⟩ := chk h
        refine st_index (E := (Ek.int .u8)) hf (by decide) Try.underlying22 elt5 rfl rfl rfl (hp.sl (i := 0) rfl) hc25.1 hc25.2 ?_
        clear hf; intro a ha hf; clear ha
        refine st_store (E := (Ek.int .u8)) hf elt5 hp (i := 0) rfl rfl rfl rfl rfl hc25.1 hc25.2 ?_
        clear hf; intro a w hf hp0; clear hp; have hp := hp0; clear hp0
        replace hp : Hp _ _ _ (Res.sl (Ek.int .u8) 5 v12 (qx7.set (t32).toNat (0 : Int)) :: Res.sl Ek.bool 4 v14 (marks9.set (t32).toNat ((gt there1 t32) && last10)) :: ow) := hp
        refine st_nil hf ?_
        refine ib_n ?_
        refine th_n ?_
        refine wp_reg ?_
        refine st_iadd hf (by decide) rfl rfl rfl ?_
        clear hf; intro a ha hf; clear ha
        refine st_move hf rfl rfl (by decide) ?_
        clear hf; intro a ha hf; clear ha
        refine st_nil hf ?_
        obtain rfl := Option.some.inj h
        exact rnd_l ⟨_, _, hf.sub ⟨rfl, rfl, rfl, rfl, rfl, rfl, trivial⟩, hp⟩
      replace h := ifF h hb
      refine wp_skip ?_
      refine ib_n ?_
      refine th_n ?_
      refine wp_reg ?_
      refine st_iadd hf (by decide) rfl rfl rfl ?_
      clear hf; intro a ha hf; clear ha
      refine st_move hf rfl rfl (by decide) ?_
      clear hf; intro a ha hf; clear ha
      refine st_nil hf ?_
      obtain rfl := Option.some.inj h
      exact rnd_l ⟨_, _, hf.sub ⟨rfl, rfl, rfl, rfl, rfl, rfl, trivial⟩, hp⟩
    replace h := ifF h hb
    refine wp_exit ?_
    refine th_e ?_
    obtain rfl := Option.some.inj h
    exact rnd_r (by simp) ⟨rfl, _, _, hf.sub ⟨rfl, rfl, trivial⟩, hp⟩
  clear hl hf hp
  intro e a w hne hO
  obtain ⟨rfl, v16, v18, hf, hp⟩ := hO
  refine ib_same ?_
  refine th_n ?_
  refine wp_seq ?_
  refine wp_reg ?_
  refine st_move hf rfl rfl (by decide) ?_
  clear hf; intro a ha hf; clear ha
  refine st_move hf rfl rfl (by decide) ?_
  clear hf; intro a ha hf; clear ha
  refine st_assign hf rfl rfl (by decide) ?_
  clear hf; intro a ha hf; clear ha
  refine st_assign hf rfl rfl (by decide) ?_
  clear hf; intro a ha hf; clear ha
  refine st_assign hf rfl rfl (by decide) ?_
  clear hf; intro a ha hf; clear ha
  refine st_nil hf ?_
  refine th_n ?_
  refine wp_ret ?_
  obtain rfl := Option.some.inj h
  exact ⟨rfl, ⟨_, _, hf.sub ⟨rfl, rfl, rfl, trivial⟩, hp⟩⟩

noncomputable def f_turns_Found.s2c (ax0 : (List (Fl × Fl))) (bx1 : (List (Fl × Fl))) (t19 : Int) (t24 : Int) : Option (Int ⊕ (Unit ⊕ Unit)) := (if (decide (t24 < (ax0.length : Int))) = true then (if 0 ≤ t24 ∧ t24 < (ax0.length : Int) then ((f_plane_Turn (gt ax0 t24) t19).bind fun q8 => (if 0 ≤ t24 ∧ t24 < (bx1.length : Int) then (if (!ceq q8 (gt bx1 t24)) = true then (some (Sum.inr (Sum.inr ()))) else (some (Sum.inl (IntKind.i64.wrap (t24 + (1 : Int)))))) else none)) else none) else (some (Sum.inr (Sum.inl ()))))
noncomputable def f_turns_Found.s2 (ax0 : (List (Fl × Fl))) (bx1 : (List (Fl × Fl))) (t19 : Int) (s : Int) : Option (Int ⊕ (Unit ⊕ Unit)) := f_turns_Found.s2c ax0 bx1 t19 s
noncomputable def f_turns_Found.s1c (ax0 : (List (Fl × Fl))) (bx1 : (List (Fl × Fl))) (t19 : Int) : Option (Int ⊕ (Unit ⊕ (Int × Int))) := (if (decide (t19 < (4 : Int))) = true then ((loop (f_turns_Found.s2 ax0 bx1 t19) (0 : Int)).bind (fun q20 => sm q20 (fun q21 => (some (Sum.inr (Sum.inr (t19, (0 : Int)))))) (fun q22 => (some (Sum.inl (IntKind.i64.wrap (t19 + (1 : Int)))))))) else (some (Sum.inr (Sum.inl ()))))
noncomputable def f_turns_Found.s1 (ax0 : (List (Fl × Fl))) (bx1 : (List (Fl × Fl))) (s : Int) : Option (Int ⊕ (Unit ⊕ (Int × Int))) := f_turns_Found.s1c ax0 bx1 s
noncomputable def f_turns_Found (ax0 : (List (Fl × Fl))) (bx1 : (List (Fl × Fl))) : Option (Int × Int) := (if ((decide ((65536 : Int) < (ax0.length : Int))) || ((bx1.length : Int) != (ax0.length : Int))) = true then (some ((0 : Int), (1 : Int))) else ((loop (f_turns_Found.s1 ax0 bx1) (0 : Int)).bind (fun q23 => sm q23 (fun q24 => (some ((0 : Int), (6 : Int)))) (fun q25 => (some (q25.1, q25.2))))))
theorem f_turns_Found_c {S : Nat → Prop} {w0 w : World} {ow : List Res} (hp : Hp S w0 w ow) (vax0 : Value) (ax0 : (List (Fl × Fl))) (hax0 : RdS Ek.c128 S w0 vax0 ax0) (vbx1 : Value) (bx1 : (List (Fl × Fl))) (hbx1 : RdS Ek.c128 S w0 vbx1 bx1) {r : (Int × Int)} (h : f_turns_Found ax0 bx1 = some r) :
    Calls Try.prog 30 #[vax0, vbx1] w (fun e w' => e = .returned (.tuple #[.int .i64 r.1, .int .i64 r.2]) ∧ Hp S w0 w' (ow)) := by
  unfold f_turns_Found at h
  refine enter (n := 40) (args := [vax0, vbx1]) Try.func30 rfl rfl (Nat.le_of_ble_eq_true rfl) fun a hf => ?_
  replace hf : Fr 40 a [(0, vax0), (1, vbx1)] := hf
  refine wp_mono (Q := fun e a w => e = .ret ∧ Fr 40 a [(4, .int .i64 r.1), (5, .int .i64 r.2)] ∧ Hp S w0 w (ow)) ?_ ?_
  rotate_left
  · rintro e a w ⟨rfl, hf, hp⟩
    exact ret2 hf rfl rfl rfl ⟨rfl, hp⟩
  refine wp_seq ?_
  refine wp_reg ?_
  refine st_assign hf rfl rfl (by decide) ?_
  clear hf; intro a ha hf; clear ha
  refine st_assign hf rfl rfl (by decide) ?_
  clear hf; intro a ha hf; clear ha
  refine st_nil hf ?_
  refine th_n ?_
  refine wp_scope_straight ?_
  refine wp_seq ?_
  refine wp_seq ?_
  refine wp_reg ?_
  refine st_move hf rfl rfl (by decide) ?_
  clear hf; intro a ha hf; clear ha
  refine st_len (E := Ek.c128) hf (by decide) Try.underlying44 rfl rfl (hax0.sl hp) ?_
  clear hf; intro a ha hf; clear ha
  refine st_igtr hf (by decide) rfl rfl rfl ?_
  clear hf; intro a ha hf; clear ha
  refine st_move hf rfl rfl (by decide) ?_
  clear hf; intro a ha hf; clear ha
  refine wpList_cut 6 (fun a w => Fr 40 a [(0, vax0), (1, vbx1), (18, .bool ((decide ((65536 : Int) < (ax0.length : Int))) || ((bx1.length : Int) != (ax0.length : Int))))] ∧ Hp S w0 w (ow)) ?_ ?_
  · rcases Bool.eq_false_or_eq_true (decide ((65536 : Int) < (ax0.length : Int))) with hb2 | hb2
    · skip
      refine st_skip hf (wantN hf rfl rfl hb2) rfl (by decide) ?_ rfl
      clear hf; intro a hf
      refine st_skip hf (wantN hf rfl rfl hb2) rfl (by decide) ?_ rfl
      clear hf; intro a hf
      refine st_skip hf (wantN hf rfl rfl hb2) rfl (by decide) ?_ rfl
      clear hf; intro a hf
      refine st_skip hf (wantN hf rfl rfl hb2) rfl (by decide) ?_ rfl
      clear hf; intro a hf
      refine st_skip hf (wantN hf rfl rfl hb2) rfl (by decide) ?_ rfl
      clear hf; intro a hf
      refine st_pick (v := .bool true) hf rfl rfl (fun hb' => ?_) (fun hb' => ?_) (by decide) ?_
      · rfl
      · exact absurd (hb2.symm.trans hb') (by decide)
      clear hf; intro a ha hf; clear ha
      refine st_nil hf (th_n ?_)
      exact ⟨hf.sub ⟨rfl, rfl, (by rw [hb2]; rfl), trivial⟩, hp⟩
    refine st_move hf (wantY hf rfl rfl hb2) rfl (by decide) ?_
    clear hf; intro a ha hf; clear ha
    refine st_len (E := Ek.c128) hf (by decide) Try.underlying44 (wantY hf rfl rfl hb2) rfl (hbx1.sl hp) ?_
    clear hf; intro a ha hf; clear ha
    refine st_move hf (wantY hf rfl rfl hb2) rfl (by decide) ?_
    clear hf; intro a ha hf; clear ha
    refine st_len (E := Ek.c128) hf (by decide) Try.underlying44 (wantY hf rfl rfl hb2) rfl (hax0.sl hp) ?_
    clear hf; intro a ha hf; clear ha
    refine st_ineq hf (by decide) (wantY hf rfl rfl hb2) rfl rfl ?_
    clear hf; intro a ha hf; clear ha
    refine st_pick (v := .bool ((bx1.length : Int) != (ax0.length : Int))) hf rfl rfl (fun hb' => ?_) (fun hb' => ?_) (by decide) ?_
    · exact absurd (hb2.symm.trans hb') (by decide)
    · rfl
    clear hf; intro a ha hf; clear ha
    refine st_nil hf (th_n ?_)
    exact ⟨hf.sub ⟨rfl, rfl, (by rw [hb2]; rfl), trivial⟩, hp⟩
  rintro a w ⟨hf, hp⟩
  refine st_nil hf ?_
  refine th_n ?_
  refine wp_if hf rfl (fun hb => ?_) (fun hb => ?_)
  · replace h := ifT h hb
    refine wp_seq ?_
    refine wp_reg ?_
    refine st_assign hf rfl rfl (by decide) ?_
    clear hf; intro a ha hf; clear ha
    refine st_assign hf rfl rfl (by decide) ?_
    clear hf; intro a ha hf; clear ha
    refine st_nil hf ?_
    refine th_n ?_
    refine wp_ret ?_
    refine th_r ?_
    refine ng_r ?_
    obtain rfl := Option.some.inj h
    exact ⟨rfl, ⟨hf.sub ⟨rfl, rfl, trivial⟩, hp⟩⟩
  replace h := ifF h hb
  refine wp_skip ?_
  refine th_n ?_
  refine wp_seq ?_
  refine wp_label ?_
  refine th_n ?_
  refine wp_seq ?_
  refine wp_seq ?_
  refine wp_reg ?_
  refine st_move hf rfl rfl (by decide) ?_
  clear hf; intro a ha hf; clear ha
  refine st_nil hf ?_
  refine th_n ?_
  refine wp_block ?_
  obtain ⟨q23, hl, h⟩ := bnd h
  refine wp_loop_pure (f := (f_turns_Found.s1 ax0 bx1)) (s := (0 : Int)) (fun s a w => Fr 40 a [(0, vax0), (1, vbx1), (19, .int .i64 s)] ∧ Hp S w0 w (ow)) (fun q e a w => match q with | (Sum.inl q) => e = .exit 0 ∧ Fr 40 a [] ∧ Hp S w0 w (ow) | (Sum.inr q) => e = .ret ∧ Fr 40 a [(4, .int .i64 q.1), (5, .int .i64 q.2)] ∧ Hp S w0 w (ow)) ?_ hl ⟨hf.sub ⟨rfl, rfl, rfl, trivial⟩, hp⟩ ?_
  · clear hl hf hp
    intro s x a w h hI
    obtain ⟨t19, hs⟩ : ∃ z, z = s := ⟨s, rfl⟩; subst hs
    obtain ⟨hf, hp⟩ : Fr 40 a [(0, vax0), (1, vbx1), (19, .int .i64 t19)] ∧ Hp S w0 w (ow) := hI
    replace h : f_turns_Found.s1c ax0 bx1 t19 = some x := h
    unfold f_turns_Found.s1c at h
    refine wp_seq ?_
    refine wp_reg ?_
    refine st_ilss hf (by decide) rfl rfl rfl ?_
    clear hf; intro a ha hf; clear ha
    refine st_nil hf ?_
    refine th_n ?_
    refine wp_seq ?_
    refine wp_if hf rfl (fun hb => ?_) (fun hb => ?_)
    · replace h := ifT h hb
      refine wp_skip ?_
      refine th_n ?_
      refine wp_seq ?_
      refine wp_block ?_
      refine wp_seq ?_
      refine wp_reg ?_
      refine st_move hf rfl rfl (by decide) ?_
      clear hf; intro a ha hf; clear ha
      refine st_assign hf rfl rfl (by decide) ?_
      clear hf; intro a ha hf; clear ha
      refine st_nil hf ?_
      refine th_n ?_
      refine wp_seq ?_
      refine wp_seq ?_
      refine wp_reg ?_
      refine st_move hf rfl rfl (by decide) ?_
      clear hf; intro a ha hf; clear ha
      refine st_len (E := Ek.c128) hf (by decide) Try.underlying44 rfl rfl (hax0.sl hp) ?_
      clear hf; intro a ha hf; clear ha
      refine st_move hf rfl rfl (by decide) ?_
      clear hf; intro a ha hf; clear ha
      refine st_nil hf ?_
      refine th_n ?_
      refine wp_block ?_
      obtain ⟨q20, hl, h⟩ := bnd h
      refine wp_loop_pure (f := (f_turns_Found.s2 ax0 bx1 t19)) (s := (0 : Int)) (fun s a w => Fr 40 a [(0, vax0), (1, vbx1), (6, .int .i64 t19), (19, .int .i64 t19), (22, vax0), (23, .int .i64 (ax0.length : Int)), (24, .int .i64 s)] ∧ Hp S w0 w (ow)) (fun q e a w => match q with | (Sum.inl q) => e = .exit 2 ∧ Fr 40 a [(6, .int .i64 t19)] ∧ Hp S w0 w (ow) | (Sum.inr q) => e = .exit 1 ∧ Fr 40 a [(0, vax0), (1, vbx1), (19, .int .i64 t19)] ∧ Hp S w0 w (ow)) ?_ hl ⟨hf.sub ⟨rfl, rfl, rfl, rfl, rfl, rfl, rfl, trivial⟩, hp⟩ ?_
      · clear hl hf hp
        intro s x a w h hI
        obtain ⟨t24, hs⟩ : ∃ z, z = s := ⟨s, rfl⟩; subst hs
        obtain ⟨hf, hp⟩ : Fr 40 a [(0, vax0), (1, vbx1), (6, .int .i64 t19), (19, .int .i64 t19), (22, vax0), (23, .int .i64 (ax0.length : Int)), (24, .int .i64 t24)] ∧ Hp S w0 w (ow) := hI
        replace h : f_turns_Found.s2c ax0 bx1 t19 t24 = some x := h
        unfold f_turns_Found.s2c at h
        refine wp_seq ?_
        refine wp_reg ?_
        refine st_ilss hf (by decide) rfl rfl rfl ?_
        clear hf; intro a ha hf; clear ha
        refine st_nil hf ?_
        refine th_n ?_
        refine wp_seq ?_
        refine wp_if hf rfl (fun hb => ?_) (fun hb => ?_)
        · replace h := ifT h hb
          refine wp_skip ?_
          refine th_n ?_
          refine wp_seq ?_
          refine wp_block ?_
          refine wp_seq ?_
          refine wp_reg ?_
          refine st_move hf rfl rfl (by decide) ?_
          clear hf; intro a ha hf; clear ha
          obtain ⟨hc3, h⟩ := chk h
          refine st_index (E := Ek.c128) hf (by decide) Try.underlying44 elt49 rfl rfl rfl (hax0.sl hp) hc3.1 hc3.2 ?_
          clear hf; intro a ha hf; clear ha
          refine st_ldC hf (by decide) pl49 rfl rfl (hax0.sl hp) hc3.1 hc3.2 ?_
          clear hf; intro a bb4 bb5 y6 y7 ha hf; clear ha
          refine st_assign hf rfl rfl (by decide) ?_
          clear hf; intro a ha hf; clear ha
          refine st_assign hf rfl rfl (by decide) ?_
          clear hf; intro a ha hf; clear ha
          refine st_nil hf ?_
          refine th_n ?_
          refine wp_seq ?_
          obtain ⟨q8, hcall9, h⟩ := bnd h
          obtain ⟨hc14, h⟩ := chk h
          obtain ⟨bb16, bb17, y18, y19, hl15⟩ := RdS.pinC (p := t24) hbx1 hc14.1 hc14.2
          refine wp_cutN (fun a w => Fr 40 a [(0, vax0), (1, vbx1), (6, .int .i64 t19), (19, .int .i64 t19), (22, vax0), (23, .int .i64 (ax0.length : Int)), (24, .int .i64 t24), (36, .bool (!ceq q8 (gt bx1 t24)))] ∧ Hp S w0 w (ow)) ?_ ?_
          · have hp := hp.same (Same.drew w)
            refine dr_begin' (fun a w => Fr 40 a [(0, vax0), (1, vbx1), (6, .int .i64 t19), (19, .int .i64 t19), (22, vax0), (23, .int .i64 (ax0.length : Int)), (24, .int .i64 t24), (36, .bool (!ceq q8 (gt bx1 t24)))] ∧ Hp S w0 w (ow)) (fun w' => ∃ l, Hp S w0 w' l) [] (by kernel_rfl) ?_
            refine dr_take 0 (.complex .f64 bb4 bb5) rfl (by kernel_rfl) (by kernel_rfl) (by kernel_rfl) (by kernel_rfl) rfl rfl hf (by decide) rfl (fun w hp => ?_) ⟨_, hp⟩ ?_
            · obtain ⟨_, hp⟩ := hp
              refine st_move hf rfl rfl (by decide) ?_
              clear hf; intro a ha hf
              exact st_nil hf (th_n ⟨ha, rfl⟩)
            clear hf; intro a hf
            refine dr_take 1 (.int .i64 t19) rfl (by kernel_rfl) (by kernel_rfl) (by kernel_rfl) (by kernel_rfl) rfl rfl hf (by decide) rfl (fun w hp => ?_) ⟨_, hp⟩ ?_
            · obtain ⟨_, hp⟩ := hp
              refine st_move hf rfl rfl (by decide) ?_
              clear hf; intro a ha hf
              exact st_nil hf (th_n ⟨ha, rfl⟩)
            clear hf; intro a hf
            refine dr_take 3 (vbx1) rfl (by kernel_rfl) (by kernel_rfl) (by kernel_rfl) (by kernel_rfl) rfl rfl hf (by decide) rfl (fun w hp => ?_) ⟨_, hp⟩ ?_
            · obtain ⟨_, hp⟩ := hp
              refine st_move hf rfl rfl (by decide) ?_
              clear hf; intro a ha hf
              exact st_nil hf (th_n ⟨ha, rfl⟩)
            clear hf; intro a hf
            refine dr_take 4 (.int .i64 t24) rfl (by kernel_rfl) (by kernel_rfl) (by kernel_rfl) (by kernel_rfl) rfl rfl hf (by decide) rfl (fun w hp => ?_) ⟨_, hp⟩ ?_
            · obtain ⟨_, hp⟩ := hp
              refine st_move hf rfl rfl (by decide) ?_
              clear hf; intro a ha hf
              exact st_nil hf (th_n ⟨ha, rfl⟩)
            clear hf; intro a hf
            refine dr_take 5 (eptr vbx1 t24 1) rfl (by kernel_rfl) (by kernel_rfl) (by kernel_rfl) (by kernel_rfl) rfl rfl hf (by decide) rfl (fun w hp => ?_) ⟨_, hp⟩ ?_
            · obtain ⟨_, hp⟩ := hp
              refine st_index (E := Ek.c128) hf (by decide) Try.underlying44 elt49 rfl rfl rfl (hbx1.sl hp) hc14.1 hc14.2 ?_
              clear hf; intro a ha hf
              exact st_nil hf (th_n ⟨ha, rfl⟩)
            clear hf; intro a hf
            refine dr_take 6 (.complex .f64 bb16 bb17) rfl (by kernel_rfl) (by kernel_rfl) (by kernel_rfl) (by kernel_rfl) rfl rfl hf (by decide) rfl (fun w hp => ?_) ⟨_, hp⟩ ?_
            · obtain ⟨_, hp⟩ := hp
              refine st_ldP hf (by decide) pl49 rfl rfl (hl15 _ _ hp) ?_
              clear hf; intro a ha hf
              exact st_nil hf (th_n ⟨ha, rfl⟩)
            clear hf; intro a hf
            refine dr_one 2 rfl (by kernel_rfl) ?_
            refine st_call hf (by decide) Try.func44 rfl rfl rfl rfl rfl (f_plane_Turn_c hp _ _ _ (show Fl.rep bb4 ((gt ax0 t24)).1 from y6) (show Fl.rep bb5 ((gt ax0 t24)).2 from y7) _ hcall9) ?_
            rintro _ w ⟨v10, v11, rfl, y12, y13, hp0⟩
            clear hp; have hp := hp0; clear hp0
            replace hp : Hp _ _ _ (ow) := hp
            refine ⟨_, rfl, ?_⟩
            clear hf; intro a hf
            refine st_nil hf (th_n ⟨fun _ _ => ⟨_, hp⟩, ?_⟩)
            refine dr_take 7 (.bool (!ceq q8 (gt bx1 t24))) rfl (by kernel_rfl) (by kernel_rfl) (by kernel_rfl) (by kernel_rfl) rfl rfl hf (by decide) rfl (fun w hp => ?_) ⟨_, hp⟩ ?_
            · obtain ⟨_, hp⟩ := hp
              refine st_ccmp (r_cne (x := q8) (y := (gt bx1 t24)) y12 y13 y18 y19) hf (by decide) rfl rfl rfl ?_
              clear hf; intro a ha hf
              exact st_nil hf (th_n ⟨ha, rfl⟩)
            clear hf; intro a hf
            refine dr_end (by kernel_rfl) ?_ _
            exact ⟨hf.sub ⟨rfl, rfl, rfl, rfl, rfl, rfl, rfl, rfl, trivial⟩, hp⟩
          rintro a w ⟨hf, hp⟩
          refine th_n ?_
          refine wp_if hf rfl (fun hb => ?_) (fun hb => ?_)
          · replace h := ifT h hb
            refine wp_exit ?_
            refine ib_ne rfl ?_
            refine th_e ?_
            obtain rfl := Option.some.inj h
            exact rnd_r (by simp) ⟨rfl, hf.sub ⟨rfl, rfl, rfl, trivial⟩, hp⟩
          replace h := ifF h hb
          refine wp_skip ?_
          refine ib_n ?_
          refine th_n ?_
          refine wp_reg ?_
          refine st_iadd hf (by decide) rfl rfl rfl ?_
          clear hf; intro a ha hf; clear ha
          refine st_move hf rfl rfl (by decide) ?_
          clear hf; intro a ha hf; clear ha
          refine st_nil hf ?_
          obtain rfl := Option.some.inj h
          exact rnd_l ⟨hf.sub ⟨rfl, rfl, rfl, rfl, rfl, rfl, rfl, trivial⟩, hp⟩
        replace h := ifF h hb
        refine wp_exit ?_
        refine th_e ?_
        obtain rfl := Option.some.inj h
        exact rnd_r (by simp) ⟨rfl, hf.sub ⟨rfl, trivial⟩, hp⟩
      clear hl hf hp
      intro e a w hne hO
      rcases q20 with q21 | q22
      · replace h := smL h
        obtain ⟨rfl, hf, hp⟩ := hO
        refine ib_same ?_
        refine th_n ?_
        refine wp_seq ?_
        refine wp_reg ?_
        refine st_move hf rfl rfl (by decide) ?_
        clear hf; intro a ha hf; clear ha
        refine st_assign hf rfl rfl (by decide) ?_
        clear hf; intro a ha hf; clear ha
        refine st_assign hf rfl rfl (by decide) ?_
        clear hf; intro a ha hf; clear ha
        refine st_nil hf ?_
        refine th_n ?_
        refine wp_ret ?_
        refine ib_r ?_
        refine th_r ?_
        obtain rfl := Option.some.inj h
        exact rnd_r (by simp) ⟨rfl, ⟨hf.sub ⟨rfl, rfl, trivial⟩, hp⟩⟩
      replace h := smR h
      obtain ⟨rfl, hf, hp⟩ := hO
      refine ib_ne rfl ?_
      refine th_e ?_
      refine ib_same ?_
      refine th_n ?_
      refine wp_reg ?_
      refine st_iadd hf (by decide) rfl rfl rfl ?_
      clear hf; intro a ha hf; clear ha
      refine st_move hf rfl rfl (by decide) ?_
      clear hf; intro a ha hf; clear ha
      refine st_nil hf ?_
      obtain rfl := Option.some.inj h
      exact rnd_l ⟨hf.sub ⟨rfl, rfl, rfl, trivial⟩, hp⟩
    replace h := ifF h hb
    refine wp_exit ?_
    refine th_e ?_
    obtain rfl := Option.some.inj h
    exact rnd_r (by simp) ⟨rfl, hf.sub trivial, hp⟩
  clear hl hf hp
  intro e a w hne hO
  rcases q23 with q24 | q25
  · replace h := smL h
    obtain ⟨rfl, hf, hp⟩ := hO
    refine ib_same ?_
    refine th_n ?_
    refine wp_seq ?_
    refine wp_reg ?_
    refine st_assign hf rfl rfl (by decide) ?_
    clear hf; intro a ha hf; clear ha
    refine st_assign hf rfl rfl (by decide) ?_
    clear hf; intro a ha hf; clear ha
    refine st_nil hf ?_
    refine th_n ?_
    refine wp_ret ?_
    refine ng_r ?_
    obtain rfl := Option.some.inj h
    exact ⟨rfl, ⟨hf.sub ⟨rfl, rfl, trivial⟩, hp⟩⟩
  replace h := smR h
  obtain ⟨rfl, hf, hp⟩ := hO
  refine ib_r ?_
  refine th_r ?_
  refine ng_r ?_
  obtain rfl := Option.some.inj h
  exact ⟨rfl, ⟨hf.sub ⟨rfl, rfl, trivial⟩, hp⟩⟩

noncomputable def f_turns_Into_1 (n0 : Int) (t1 : Int) : Option (Int × Int) := (some ((IntKind.u8.wrap (t1 + n0)), (IntKind.u8.wrap (t1 + n0))))
theorem f_turns_Into_1_c {S : Nat → Prop} {w0 w : World} {ow : List Res} (n0 : Int) (t1 : Int) (ot1 : Value) (hp : Hp S w0 w (Res.obj 5 ot1 [.int .u8 t1] :: ow)) {r : (Int × Int)} (h : f_turns_Into_1 n0 t1 = some r) :
    Calls Try.prog 34 #[.int .u8 n0, optr ot1 0] w (fun e w' => e = .returned (.int .u8 r.1) ∧ Hp S w0 w' (Res.obj 5 ot1 [.int .u8 r.2] :: ow)) := by
  unfold f_turns_Into_1 at h
  refine enter (n := 8) (args := [.int .u8 n0, optr ot1 0]) Try.func34 rfl rfl (Nat.le_of_ble_eq_true rfl) fun a hf => ?_
  replace hf : Fr 8 a [(0, .int .u8 n0), (1, optr ot1 0)] := hf
  refine wp_mono (Q := fun e a w => e = .ret ∧ Fr 8 a [(3, .int .u8 r.1)] ∧ Hp S w0 w (Res.obj 5 ot1 [.int .u8 r.2] :: ow)) ?_ ?_
  rotate_left
  · rintro e a w ⟨rfl, hf, hp⟩
    exact ret1 hf rfl rfl ⟨rfl, hp⟩
  refine wp_seq ?_
  refine wp_reg ?_
  refine st_assign hf rfl rfl (by decide) ?_
  clear hf; intro a ha hf; clear ha
  refine st_nil hf ?_
  refine th_n ?_
  refine wp_seq ?_
  refine wp_reg ?_
  refine st_ldO (u := .int .u8 t1) hf (by decide) pl5 rfl rfl (hp.ob (i := 0) rfl) rfl ?_
  clear hf; intro a ha hf; clear ha
  refine st_move hf rfl rfl (by decide) ?_
  clear hf; intro a ha hf; clear ha
  refine st_iadd hf (by decide) rfl rfl rfl ?_
  clear hf; intro a ha hf; clear ha
  refine st_stO (us := [.int .u8 (IntKind.u8.wrap (t1 + n0))]) hf hp (i := 0) rfl rfl rfl rfl rfl (by rfl) (by kernel_rfl) (Nat.le_of_ble_eq_true rfl) ?_
  clear hf; intro a w hf hp0; clear hp; have hp := hp0; clear hp0
  replace hp : Hp _ _ _ (Res.obj 5 ot1 [.int .u8 (IntKind.u8.wrap (t1 + n0))] :: ow) := hp
  refine st_nil hf ?_
  refine th_n ?_
  refine wp_seq ?_
  refine wp_reg ?_
  refine st_ldO (u := .int .u8 (IntKind.u8.wrap (t1 + n0))) hf (by decide) pl5 rfl rfl (hp.ob (i := 0) rfl) rfl ?_
  clear hf; intro a ha hf; clear ha
  refine st_assign hf rfl rfl (by decide) ?_
  clear hf; intro a ha hf; clear ha
  refine st_nil hf ?_
  refine th_n ?_
  refine wp_ret ?_
  obtain rfl := Option.some.inj h
  exact ⟨rfl, ⟨hf.sub ⟨rfl, trivial⟩, hp⟩⟩

noncomputable def f_turns_each_33.s1c (qx0 : (List Int)) (f1_0c : Int) (out6 : (List Int)) (t17 : Int) : Option ((Int × (List Int) × Int) ⊕ (Int × (List Int))) := (if (decide (t17 < (qx0.length : Int))) = true then (if 0 ≤ t17 ∧ t17 < (qx0.length : Int) then ((f_turns_Into_1 (gt qx0 t17) f1_0c).bind fun q15 => (if 0 ≤ t17 ∧ t17 < (out6.length : Int) then (some (Sum.inl (q15.2, (out6.set (t17).toNat (iand .u8 q15.1 (3 : Int))), (IntKind.i64.wrap (t17 + (1 : Int)))))) else none)) else none) else (some (Sum.inr (f1_0c, out6))))
noncomputable def f_turns_each_33.s1 (qx0 : (List Int)) (s : (Int × (List Int) × Int)) : Option ((Int × (List Int) × Int) ⊕ (Int × (List Int))) := f_turns_each_33.s1c qx0 s.1 s.2.1 s.2.2
noncomputable def f_turns_each_33 (qx0 : (List Int)) (t2000 : Int) : Option ((List Int) × Int × Int) := ((f_turns_row qx0).bind fun q2 => (if (!q2) = true then (some ([], (1 : Int), t2000)) else (if 0 ≤ (qx0.length : Int) ∧ (qx0.length : Int) ≤ (qx0.length : Int) ∧ (qx0.length : Int) * 1 ≤ 281474976710656 then ((loop (f_turns_each_33.s1 qx0) (t2000, (List.replicate ((qx0.length : Int)).toNat (0 : Int)), (0 : Int))).bind (fun q19 => (some (q19.2, (0 : Int), q19.1)))) else none)))
theorem f_turns_each_33_c {S : Nat → Prop} {w0 w : World} {ow : List Res} (vqx0 : Value) (qx0 : (List Int)) (hqx0 : RdS (Ek.int .u8) S w0 vqx0 qx0) (t2000 : Int) (ot2000 : Value) (hp : Hp S w0 w (Res.obj 5 ot2000 [.int .u8 t2000] :: ow)) {r : ((List Int) × Int × Int)} (h : f_turns_each_33 qx0 t2000 = some r) :
    Calls Try.prog 33 #[vqx0, .func (.func 34) #[] #[optr ot2000 0]] w (fun e w' => ∃ (u0 : Value), e = .returned (.tuple #[u0, .int .i64 r.2.1]) ∧ Hp S w0 w' (Res.sl (Ek.int .u8) 5 u0 r.1 :: Res.obj 5 ot2000 [.int .u8 r.2.2] :: ow)) := by
  unfold f_turns_each_33 at h
  refine enter (n := 31) (args := [vqx0, .func (.func 34) #[] #[optr ot2000 0]]) Try.func33 rfl rfl (Nat.le_of_ble_eq_true rfl) fun a hf => ?_
  replace hf : Fr 31 a [(0, vqx0), (1, .func (.func 34) #[] #[optr ot2000 0])] := hf
  refine wp_mono (Q := fun e a w => e = .ret ∧ ∃ (u0 : Value), Fr 31 a [(4, u0), (5, .int .i64 r.2.1)] ∧ Hp S w0 w (Res.sl (Ek.int .u8) 5 u0 r.1 :: Res.obj 5 ot2000 [.int .u8 r.2.2] :: ow)) ?_ ?_
  rotate_left
  · rintro e a w ⟨rfl, x0, hf, hp⟩
    exact ret2 hf rfl rfl rfl ⟨x0, rfl, hp⟩
  refine wp_seq ?_
  refine wp_reg ?_
  refine st_assign hf rfl rfl (by decide) ?_
  clear hf; intro a ha hf; clear ha
  refine st_assign hf rfl rfl (by decide) ?_
  clear hf; intro a ha hf; clear ha
  refine st_nil hf ?_
  refine th_n ?_
  refine wp_seq ?_
  refine wp_seq ?_
  refine wp_reg ?_
  refine st_move hf rfl rfl (by decide) ?_
  clear hf; intro a ha hf; clear ha
  obtain ⟨q2, hcall3, h⟩ := bnd h
  refine st_call hf (by decide) Try.func36 rfl rfl rfl rfl rfl (f_turns_row_c hp _ _ hqx0 hcall3) ?_
  rintro _ w ⟨rfl, hp0⟩
  clear hp; have hp := hp0; clear hp0
  replace hp : Hp _ _ _ (Res.obj 5 ot2000 [.int .u8 t2000] :: ow) := hp
  refine ⟨_, rfl, ?_⟩
  clear hf; intro a hf
  refine st_not hf (by decide) rfl rfl ?_
  clear hf; intro a ha hf; clear ha
  refine st_nil hf ?_
  refine th_n ?_
  refine wp_if hf rfl (fun hb => ?_) (fun hb => ?_)
  · replace h := ifT h hb
    refine wp_seq ?_
    refine wp_reg ?_
    refine st_assign hf rfl rfl (by decide) ?_
    clear hf; intro a ha hf; clear ha
    refine st_assign hf rfl rfl (by decide) ?_
    clear hf; intro a ha hf; clear ha
    refine st_nil hf ?_
    refine th_n ?_
    refine wp_ret ?_
    refine th_r ?_
    obtain rfl := Option.some.inj h
    have hp := hp.nil (Ek.int .u8) 5
    exact ⟨rfl, ⟨_, hf.sub ⟨rfl, rfl, trivial⟩, hp⟩⟩
  replace h := ifF h hb
  refine wp_skip ?_
  refine th_n ?_
  refine wp_seq ?_
  refine wp_reg ?_
  refine st_move hf rfl rfl (by decide) ?_
  clear hf; intro a ha hf; clear ha
  refine st_len (E := (Ek.int .u8)) hf (by decide) Try.underlying22 rfl rfl (hqx0.sl hp) ?_
  clear hf; intro a ha hf; clear ha
  obtain ⟨hc5, h⟩ := chk h
  refine st_make (E := (Ek.int .u8)) hf (by decide) elt5 Try.underlying22 (by decide) hp rfl rfl rfl hc5.1 hc5.2.1 hc5.2.2 ?_
  clear hf; intro a w v6 hf hp0; clear hp; have hp := hp0; clear hp0
  replace hp : Hp _ _ _ (Res.sl (Ek.int .u8) 5 v6 (List.replicate ((qx0.length : Int)).toNat (0 : Int)) :: Res.obj 5 ot2000 [.int .u8 t2000] :: ow) := hp
  refine st_assign hf rfl rfl (by decide) ?_
  clear hf; intro a ha hf; clear ha
  refine st_nil hf ?_
  refine th_n ?_
  refine wp_seq ?_
  refine wp_seq ?_
  refine wp_reg ?_
  refine st_move hf rfl rfl (by decide) ?_
  clear hf; intro a ha hf; clear ha
  refine st_len (E := (Ek.int .u8)) hf (by decide) Try.underlying22 rfl rfl (hqx0.sl hp) ?_
  clear hf; intro a ha hf; clear ha
  refine st_move hf rfl rfl (by decide) ?_
  clear hf; intro a ha hf; clear ha
  refine st_nil hf ?_
  refine th_n ?_
  refine wp_block ?_
  obtain ⟨q19, hl, h⟩ := bnd h
  have hp : Hp _ _ _ (Res.obj 5 ot2000 [.int .u8 t2000] :: Res.sl (Ek.int .u8) 5 v6 (List.replicate ((qx0.length : Int)).toNat (0 : Int)) :: ow) := Hp.sel (pre := [Res.sl (Ek.int .u8) 5 v6 (List.replicate ((qx0.length : Int)).toNat (0 : Int)), Res.obj 5 ot2000 [.int .u8 t2000]]) (tail := ow) (rs' := [Res.obj 5 ot2000 [.int .u8 t2000], Res.sl (Ek.int .u8) 5 v6 (List.replicate ((qx0.length : Int)).toNat (0 : Int))]) hp [1, 0] (by decide) (by simp) rfl
  refine wp_loop_pure (f := (f_turns_each_33.s1 qx0)) (s := (t2000, (List.replicate ((qx0.length : Int)).toNat (0 : Int)), (0 : Int))) (fun s a w => ∃ (v9 : Value), Fr 31 a [(1, .func (.func 34) #[] #[optr ot2000 0]), (6, v9), (15, vqx0), (16, .int .i64 (qx0.length : Int)), (17, .int .i64 s.2.2)] ∧ Hp S w0 w (Res.obj 5 ot2000 [.int .u8 s.1] :: Res.sl (Ek.int .u8) 5 v9 s.2.1 :: ow)) (fun q e a w => e = .exit 0 ∧ ∃ (v12 : Value), Fr 31 a [(1, .func (.func 34) #[] #[optr ot2000 0]), (6, v12)] ∧ Hp S w0 w (Res.obj 5 ot2000 [.int .u8 q.1] :: Res.sl (Ek.int .u8) 5 v12 q.2 :: ow)) ?_ hl ⟨_, hf.sub ⟨rfl, rfl, rfl, rfl, rfl, trivial⟩, hp⟩ ?_
  · clear hl hf hp
    intro s x a w h hI
    obtain ⟨f1_0c, out6, t17⟩ := s
    obtain ⟨v9, hf, hp⟩ : ∃ (v9 : Value), Fr 31 a [(1, .func (.func 34) #[] #[optr ot2000 0]), (6, v9), (15, vqx0), (16, .int .i64 (qx0.length : Int)), (17, .int .i64 t17)] ∧ Hp S w0 w (Res.obj 5 ot2000 [.int .u8 f1_0c] :: Res.sl (Ek.int .u8) 5 v9 out6 :: ow) := hI
    replace h : f_turns_each_33.s1c qx0 f1_0c out6 t17 = some x := h
    unfold f_turns_each_33.s1c at h
    refine wp_seq ?_
    refine wp_reg ?_
    refine st_ilss hf (by decide) rfl rfl rfl ?_
    clear hf; intro a ha hf; clear ha
    refine st_nil hf ?_
    refine th_n ?_
    refine wp_seq ?_
    refine wp_if hf rfl (fun hb => ?_) (fun hb => ?_)
    · replace h := ifT h hb
      refine wp_skip ?_
      refine th_n ?_
      refine wp_seq ?_
      refine wp_block ?_
      refine wp_seq ?_
      refine wp_reg ?_
      refine st_move hf rfl rfl (by decide) ?_
      clear hf; intro a ha hf; clear ha
      obtain ⟨hc14, h⟩ := chk h
      refine st_index (E := (Ek.int .u8)) hf (by decide) Try.underlying22 elt5 rfl rfl rfl (hqx0.sl hp) hc14.1 hc14.2 ?_
      clear hf; intro a ha hf; clear ha
      refine st_ldI hf (by decide) pl5 rfl rfl (hqx0.sl hp) hc14.1 hc14.2 ?_
      clear hf; intro a ha hf; clear ha
      refine st_assign hf rfl rfl (by decide) ?_
      clear hf; intro a ha hf; clear ha
      refine st_assign hf rfl rfl (by decide) ?_
      clear hf; intro a ha hf; clear ha
      refine st_nil hf ?_
      refine th_n ?_
      refine wp_reg ?_
      refine st_move hf rfl rfl (by decide) ?_
      clear hf; intro a ha hf; clear ha
      refine st_move hf rfl rfl (by decide) ?_
      clear hf; intro a ha hf; clear ha
      refine st_move hf rfl rfl (by decide) ?_
      clear hf; intro a ha hf; clear ha
      refine st_move hf rfl rfl (by decide) ?_
      clear hf; intro a ha hf; clear ha
      obtain ⟨q15, hcall16, h⟩ := bnd h
      have hp17 : Hp _ _ _ (Res.obj 5 ot2000 [.int .u8 f1_0c] :: Res.sl (Ek.int .u8) 5 v9 out6 :: ow) := Hp.sel (pre := [Res.obj 5 ot2000 [.int .u8 f1_0c], Res.sl (Ek.int .u8) 5 v9 out6]) (tail := ow) (rs' := [Res.obj 5 ot2000 [.int .u8 f1_0c], Res.sl (Ek.int .u8) 5 v9 out6]) hp [0, 1] (by decide) (by simp) rfl
      refine st_call hf (by decide) Try.func34 rfl rfl rfl rfl rfl (f_turns_Into_1_c _ _ _ hp17 hcall16) ?_
      rintro _ w ⟨rfl, hp0⟩
      clear hp; have hp := hp0; clear hp0
      replace hp : Hp _ _ _ (Res.obj 5 ot2000 [.int .u8 q15.2] :: Res.sl (Ek.int .u8) 5 v9 out6 :: ow) := hp
      refine ⟨_, rfl, ?_⟩
      clear hf; intro a hf
      refine st_iand hf (by decide) rfl rfl rfl ?_
      clear hf; intro a ha hf; clear ha
      obtain ⟨hc18, h⟩ := chk h
      refine st_index (E := (Ek.int .u8)) hf (by decide) Try.underlying22 elt5 rfl rfl rfl (hp.sl (i := 1) rfl) hc18.1 hc18.2 ?_
      clear hf; intro a ha hf; clear ha
      refine st_store (E := (Ek.int .u8)) hf elt5 hp (i := 1) rfl rfl rfl rfl rfl hc18.1 hc18.2 ?_
      clear hf; intro a w hf hp0; clear hp; have hp := hp0; clear hp0
      replace hp : Hp _ _ _ (Res.obj 5 ot2000 [.int .u8 q15.2] :: Res.sl (Ek.int .u8) 5 v9 (out6.set (t17).toNat (iand .u8 q15.1 (3 : Int))) :: ow) := hp
      refine st_nil hf ?_
      refine ib_n ?_
      refine th_n ?_
      refine wp_reg ?_
      refine st_iadd hf (by decide) rfl rfl rfl ?_
      clear hf; intro a ha hf; clear ha
      refine st_move hf rfl rfl (by decide) ?_
      clear hf; intro a ha hf; clear ha
      refine st_nil hf ?_
      obtain rfl := Option.some.inj h
      exact rnd_l ⟨_, hf.sub ⟨rfl, rfl, rfl, rfl, rfl, trivial⟩, hp⟩
    replace h := ifF h hb
    refine wp_exit ?_
    refine th_e ?_
    obtain rfl := Option.some.inj h
    exact rnd_r (by simp) ⟨rfl, _, hf.sub ⟨rfl, rfl, trivial⟩, hp⟩
  clear hl hf hp
  intro e a w hne hO
  obtain ⟨rfl, v12, hf, hp⟩ := hO
  refine ib_same ?_
  refine th_n ?_
  refine wp_seq ?_
  refine wp_reg ?_
  refine st_move hf rfl rfl (by decide) ?_
  clear hf; intro a ha hf; clear ha
  refine st_assign hf rfl rfl (by decide) ?_
  clear hf; intro a ha hf; clear ha
  refine st_assign hf rfl rfl (by decide) ?_
  clear hf; intro a ha hf; clear ha
  refine st_nil hf ?_
  refine th_n ?_
  refine wp_ret ?_
  obtain rfl := Option.some.inj h
  have hp : Hp _ _ _ (Res.sl (Ek.int .u8) 5 v12 q19.2 :: Res.obj 5 ot2000 [.int .u8 q19.1] :: ow) := Hp.sel (pre := [Res.obj 5 ot2000 [.int .u8 q19.1], Res.sl (Ek.int .u8) 5 v12 q19.2]) (tail := ow) (rs' := [Res.sl (Ek.int .u8) 5 v12 q19.2, Res.obj 5 ot2000 [.int .u8 q19.1]]) hp [1, 0] (by decide) (by simp) rfl
  exact ⟨rfl, ⟨_, hf.sub ⟨rfl, rfl, trivial⟩, hp⟩⟩

noncomputable def f_turns_Into (qx0 : (List Int)) : Option ((List Int) × Int) := ((f_turns_each_33 qx0 (0 : Int)).bind fun q3 => (some (q3.1, q3.2.1)))
theorem f_turns_Into_c {S : Nat → Prop} {w0 w : World} {ow : List Res} (hp : Hp S w0 w ow) (vqx0 : Value) (qx0 : (List Int)) (hqx0 : RdS (Ek.int .u8) S w0 vqx0 qx0) {r : ((List Int) × Int)} (h : f_turns_Into qx0 = some r) :
    Calls Try.prog 9 #[vqx0] w (fun e w' => ∃ (u0 : Value), e = .returned (.tuple #[u0, .int .i64 r.2]) ∧ Hp S w0 w' (Res.sl (Ek.int .u8) 5 u0 r.1 :: ow)) := by
  unfold f_turns_Into at h
  refine enter (n := 10) (args := [vqx0]) Try.func9 rfl rfl (Nat.le_of_ble_eq_true rfl) fun a hf => ?_
  replace hf : Fr 10 a [(0, vqx0)] := hf
  refine wp_mono (Q := fun e a w => e = .ret ∧ ∃ (u0 : Value), Fr 10 a [(2, u0), (3, .int .i64 r.2)] ∧ Hp S w0 w (Res.sl (Ek.int .u8) 5 u0 r.1 :: ow)) ?_ ?_
  rotate_left
  · rintro e a w ⟨rfl, x0, hf, hp⟩
    exact ret2 hf rfl rfl rfl ⟨x0, rfl, hp⟩
  refine wp_seq ?_
  refine wp_reg ?_
  refine st_assign hf rfl rfl (by decide) ?_
  clear hf; intro a ha hf; clear ha
  refine st_assign hf rfl rfl (by decide) ?_
  clear hf; intro a ha hf; clear ha
  refine st_nil hf ?_
  refine th_n ?_
  refine wp_seq ?_
  refine wp_reg ?_
  refine st_alloc (cs := [.int .u8 (0 : Int)]) (zv := .int .u8 (0 : Int)) hf (by decide) (by kernel_rfl) rfl hp rfl ?_
  clear hf; intro a w v1 hf hp0; clear hp; have hp := hp0; clear hp0
  replace hp : Hp _ _ _ (Res.obj 5 v1 [.int .u8 (0 : Int)] :: ow) := hp
  refine st_stO (us := [.int .u8 (0 : Int)]) hf hp (i := 0) rfl rfl rfl rfl rfl (by rfl) (by kernel_rfl) (Nat.le_of_ble_eq_true rfl) ?_
  clear hf; intro a w hf hp0; clear hp; have hp := hp0; clear hp0
  replace hp : Hp _ _ _ (Res.obj 5 v1 [.int .u8 (0 : Int)] :: ow) := hp
  refine st_nil hf ?_
  refine th_n ?_
  refine wp_seq ?_
  refine wp_reg ?_
  refine st_move hf rfl rfl (by decide) ?_
  clear hf; intro a ha hf; clear ha
  refine st_makeFunc1 hf (by decide) rfl rfl ?_
  clear hf; intro a ha hf; clear ha
  obtain ⟨q3, hcall4, h⟩ := bnd h
  have hp5 : Hp _ _ _ (Res.obj 5 v1 [.int .u8 (0 : Int)] :: ow) := Hp.sel (pre := [Res.obj 5 v1 [.int .u8 (0 : Int)]]) (tail := ow) (rs' := [Res.obj 5 v1 [.int .u8 (0 : Int)]]) hp [0] (by decide) (by simp) rfl
  refine st_call hf (by decide) Try.func33 rfl rfl rfl rfl rfl (f_turns_each_33_c _ _ hqx0 _ _ hp5 hcall4) ?_
  rintro _ w ⟨v6, rfl, hp0⟩
  clear hp; have hp := hp0; clear hp0
  replace hp : Hp _ _ _ (Res.sl (Ek.int .u8) 5 v6 q3.1 :: Res.obj 5 v1 [.int .u8 q3.2.2] :: ow) := hp
  refine ⟨_, rfl, ?_⟩
  clear hf; intro a hf
  refine st_extract hf (by decide) rfl rfl rfl ?_
  clear hf; intro a ha hf; clear ha
  refine st_extract hf (by decide) rfl rfl rfl ?_
  clear hf; intro a ha hf; clear ha
  refine st_assign hf rfl rfl (by decide) ?_
  clear hf; intro a ha hf; clear ha
  refine st_assign hf rfl rfl (by decide) ?_
  clear hf; intro a ha hf; clear ha
  refine st_nil hf ?_
  refine th_n ?_
  refine wp_ret ?_
  obtain rfl := Option.some.inj h
  have hp : Hp _ _ _ (Res.sl (Ek.int .u8) 5 v6 q3.1 :: ow) := Hp.sel (pre := [Res.sl (Ek.int .u8) 5 v6 q3.1, Res.obj 5 v1 [.int .u8 q3.2.2]]) (tail := ow) (rs' := [Res.sl (Ek.int .u8) 5 v6 q3.1]) hp [0] (by decide) (by simp) rfl
  exact ⟨rfl, ⟨_, hf.sub ⟨rfl, rfl, trivial⟩, hp⟩⟩

noncomputable def f_foghornlaw06_quarters.s1c (ax0 : (List Int)) (bx1 : (List Int)) (i5 : Int) : Option (Int ⊕ (Unit ⊕ Bool)) := (if (decide (i5 < (ax0.length : Int))) = true then (if 0 ≤ i5 ∧ i5 < (ax0.length : Int) then (if 0 ≤ i5 ∧ i5 < (bx1.length : Int) then (if ((gt ax0 i5) != (gt bx1 i5)) = true then (some (Sum.inr (Sum.inr false))) else (some (Sum.inl (IntKind.i64.wrap (i5 + (1 : Int)))))) else none) else none) else (some (Sum.inr (Sum.inl ()))))
noncomputable def f_foghornlaw06_quarters.s1 (ax0 : (List Int)) (bx1 : (List Int)) (s : Int) : Option (Int ⊕ (Unit ⊕ Bool)) := f_foghornlaw06_quarters.s1c ax0 bx1 s
noncomputable def f_foghornlaw06_quarters (ax0 : (List Int)) (bx1 : (List Int)) : Option Bool := (if ((ax0.length : Int) != (bx1.length : Int)) = true then (some false) else ((loop (f_foghornlaw06_quarters.s1 ax0 bx1) (0 : Int)).bind (fun q3 => sm q3 (fun q4 => (some true)) (fun q5 => (some q5)))))
theorem f_foghornlaw06_quarters_c {S : Nat → Prop} {w0 w : World} {ow : List Res} (hp : Hp S w0 w ow) (vax0 : Value) (ax0 : (List Int)) (hax0 : RdS (Ek.int .u8) S w0 vax0 ax0) (vbx1 : Value) (bx1 : (List Int)) (hbx1 : RdS (Ek.int .u8) S w0 vbx1 bx1) {r : Bool} (h : f_foghornlaw06_quarters ax0 bx1 = some r) :
    Calls Try.prog 13 #[vax0, vbx1] w (fun e w' => e = .returned (.bool r) ∧ Hp S w0 w' (ow)) := by
  unfold f_foghornlaw06_quarters at h
  refine enter (n := 26) (args := [vax0, vbx1]) Try.func13 rfl rfl (Nat.le_of_ble_eq_true rfl) fun a hf => ?_
  replace hf : Fr 26 a [(0, vax0), (1, vbx1)] := hf
  refine wp_mono (Q := fun e a w => e = .ret ∧ Fr 26 a [(4, .bool r)] ∧ Hp S w0 w (ow)) ?_ ?_
  rotate_left
  · rintro e a w ⟨rfl, hf, hp⟩
    exact ret1 hf rfl rfl ⟨rfl, hp⟩
  refine wp_seq ?_
  refine wp_reg ?_
  refine st_assign hf rfl rfl (by decide) ?_
  clear hf; intro a ha hf; clear ha
  refine st_nil hf ?_
  refine th_n ?_
  refine wp_seq ?_
  refine wp_seq ?_
  refine wp_reg ?_
  refine st_move hf rfl rfl (by decide) ?_
  clear hf; intro a ha hf; clear ha
  refine st_len (E := (Ek.int .u8)) hf (by decide) Try.underlying22 rfl rfl (hax0.sl hp) ?_
  clear hf; intro a ha hf; clear ha
  refine st_move hf rfl rfl (by decide) ?_
  clear hf; intro a ha hf; clear ha
  refine st_len (E := (Ek.int .u8)) hf (by decide) Try.underlying22 rfl rfl (hbx1.sl hp) ?_
  clear hf; intro a ha hf; clear ha
  refine st_ineq hf (by decide) rfl rfl rfl ?_
  clear hf; intro a ha hf; clear ha
  refine st_nil hf ?_
  refine th_n ?_
  refine wp_if hf rfl (fun hb => ?_) (fun hb => ?_)
  · replace h := ifT h hb
    refine wp_seq ?_
    refine wp_reg ?_
    refine st_assign hf rfl rfl (by decide) ?_
    clear hf; intro a ha hf; clear ha
    refine st_nil hf ?_
    refine th_n ?_
    refine wp_ret ?_
    refine th_r ?_
    obtain rfl := Option.some.inj h
    exact ⟨rfl, ⟨hf.sub ⟨rfl, trivial⟩, hp⟩⟩
  replace h := ifF h hb
  refine wp_skip ?_
  refine th_n ?_
  refine wp_seq ?_
  refine wp_seq ?_
  refine wp_reg ?_
  refine st_assign hf rfl rfl (by decide) ?_
  clear hf; intro a ha hf; clear ha
  refine st_nil hf ?_
  refine th_n ?_
  refine wp_block ?_
  obtain ⟨q3, hl, h⟩ := bnd h
  refine wp_loop_pure (f := (f_foghornlaw06_quarters.s1 ax0 bx1)) (s := (0 : Int)) (fun s a w => Fr 26 a [(0, vax0), (1, vbx1), (5, .int .i64 s)] ∧ Hp S w0 w (ow)) (fun q e a w => match q with | (Sum.inl q) => e = .exit 0 ∧ Fr 26 a [] ∧ Hp S w0 w (ow) | (Sum.inr q) => e = .ret ∧ Fr 26 a [(4, .bool q)] ∧ Hp S w0 w (ow)) ?_ hl ⟨hf.sub ⟨rfl, rfl, rfl, trivial⟩, hp⟩ ?_
  · clear hl hf hp
    intro s x a w h hI
    obtain ⟨i5, hs⟩ : ∃ z, z = s := ⟨s, rfl⟩; subst hs
    obtain ⟨hf, hp⟩ : Fr 26 a [(0, vax0), (1, vbx1), (5, .int .i64 i5)] ∧ Hp S w0 w (ow) := hI
    replace h : f_foghornlaw06_quarters.s1c ax0 bx1 i5 = some x := h
    unfold f_foghornlaw06_quarters.s1c at h
    refine wp_seq ?_
    refine wp_seq ?_
    refine wp_reg ?_
    refine st_move hf rfl rfl (by decide) ?_
    clear hf; intro a ha hf; clear ha
    refine st_move hf rfl rfl (by decide) ?_
    clear hf; intro a ha hf; clear ha
    refine st_len (E := (Ek.int .u8)) hf (by decide) Try.underlying22 rfl rfl (hax0.sl hp) ?_
    clear hf; intro a ha hf; clear ha
    refine st_ilss hf (by decide) rfl rfl rfl ?_
    clear hf; intro a ha hf; clear ha
    refine st_nil hf ?_
    refine th_n ?_
    refine wp_if hf rfl (fun hb => ?_) (fun hb => ?_)
    · replace h := ifT h hb
      refine wp_skip ?_
      refine th_n ?_
      refine wp_seq ?_
      refine wp_block ?_
      refine wp_seq ?_
      obtain ⟨hc1, h⟩ := chk h
      obtain ⟨hc2, h⟩ := chk h
      refine wp_cutN (fun a w => Fr 26 a [(0, vax0), (1, vbx1), (5, .int .i64 i5), (25, .bool ((gt ax0 i5) != (gt bx1 i5)))] ∧ Hp S w0 w (ow)) ?_ ?_
      · have hp := hp.same (Same.drew w)
        refine dr_begin' (fun a w => Fr 26 a [(0, vax0), (1, vbx1), (5, .int .i64 i5), (25, .bool ((gt ax0 i5) != (gt bx1 i5)))] ∧ Hp S w0 w (ow)) (fun w' => ∃ l, Hp S w0 w' l) [] (by kernel_rfl) ?_
        refine dr_take 0 (vax0) rfl (by kernel_rfl) (by kernel_rfl) (by kernel_rfl) (by kernel_rfl) rfl rfl hf (by decide) rfl (fun w hp => ?_) ⟨_, hp⟩ ?_
        · obtain ⟨_, hp⟩ := hp
          refine st_move hf rfl rfl (by decide) ?_
          clear hf; intro a ha hf
          exact st_nil hf (th_n ⟨ha, rfl⟩)
        clear hf; intro a hf
        refine dr_take 1 (.int .i64 i5) rfl (by kernel_rfl) (by kernel_rfl) (by kernel_rfl) (by kernel_rfl) rfl rfl hf (by decide) rfl (fun w hp => ?_) ⟨_, hp⟩ ?_
        · obtain ⟨_, hp⟩ := hp
          refine st_move hf rfl rfl (by decide) ?_
          clear hf; intro a ha hf
          exact st_nil hf (th_n ⟨ha, rfl⟩)
        clear hf; intro a hf
        refine dr_take 2 (eptr vax0 i5 1) rfl (by kernel_rfl) (by kernel_rfl) (by kernel_rfl) (by kernel_rfl) rfl rfl hf (by decide) rfl (fun w hp => ?_) ⟨_, hp⟩ ?_
        · obtain ⟨_, hp⟩ := hp
          refine st_index (E := (Ek.int .u8)) hf (by decide) Try.underlying22 elt5 rfl rfl rfl (hax0.sl hp) hc1.1 hc1.2 ?_
          clear hf; intro a ha hf
          exact st_nil hf (th_n ⟨ha, rfl⟩)
        clear hf; intro a hf
        refine dr_take 3 (.int .u8 (gt ax0 i5)) rfl (by kernel_rfl) (by kernel_rfl) (by kernel_rfl) (by kernel_rfl) rfl rfl hf (by decide) rfl (fun w hp => ?_) ⟨_, hp⟩ ?_
        · obtain ⟨_, hp⟩ := hp
          refine st_ldI hf (by decide) pl5 rfl rfl (hax0.sl hp) hc1.1 hc1.2 ?_
          clear hf; intro a ha hf
          exact st_nil hf (th_n ⟨ha, rfl⟩)
        clear hf; intro a hf
        refine dr_take 4 (vbx1) rfl (by kernel_rfl) (by kernel_rfl) (by kernel_rfl) (by kernel_rfl) rfl rfl hf (by decide) rfl (fun w hp => ?_) ⟨_, hp⟩ ?_
        · obtain ⟨_, hp⟩ := hp
          refine st_move hf rfl rfl (by decide) ?_
          clear hf; intro a ha hf
          exact st_nil hf (th_n ⟨ha, rfl⟩)
        clear hf; intro a hf
        refine dr_take 5 (.int .i64 i5) rfl (by kernel_rfl) (by kernel_rfl) (by kernel_rfl) (by kernel_rfl) rfl rfl hf (by decide) rfl (fun w hp => ?_) ⟨_, hp⟩ ?_
        · obtain ⟨_, hp⟩ := hp
          refine st_move hf rfl rfl (by decide) ?_
          clear hf; intro a ha hf
          exact st_nil hf (th_n ⟨ha, rfl⟩)
        clear hf; intro a hf
        refine dr_take 6 (eptr vbx1 i5 1) rfl (by kernel_rfl) (by kernel_rfl) (by kernel_rfl) (by kernel_rfl) rfl rfl hf (by decide) rfl (fun w hp => ?_) ⟨_, hp⟩ ?_
        · obtain ⟨_, hp⟩ := hp
          refine st_index (E := (Ek.int .u8)) hf (by decide) Try.underlying22 elt5 rfl rfl rfl (hbx1.sl hp) hc2.1 hc2.2 ?_
          clear hf; intro a ha hf
          exact st_nil hf (th_n ⟨ha, rfl⟩)
        clear hf; intro a hf
        refine dr_take 7 (.int .u8 (gt bx1 i5)) rfl (by kernel_rfl) (by kernel_rfl) (by kernel_rfl) (by kernel_rfl) rfl rfl hf (by decide) rfl (fun w hp => ?_) ⟨_, hp⟩ ?_
        · obtain ⟨_, hp⟩ := hp
          refine st_ldI hf (by decide) pl5 rfl rfl (hbx1.sl hp) hc2.1 hc2.2 ?_
          clear hf; intro a ha hf
          exact st_nil hf (th_n ⟨ha, rfl⟩)
        clear hf; intro a hf
        refine dr_take 8 (.bool ((gt ax0 i5) != (gt bx1 i5))) rfl (by kernel_rfl) (by kernel_rfl) (by kernel_rfl) (by kernel_rfl) rfl rfl hf (by decide) rfl (fun w hp => ?_) ⟨_, hp⟩ ?_
        · obtain ⟨_, hp⟩ := hp
          refine st_ineq hf (by decide) rfl rfl rfl ?_
          clear hf; intro a ha hf
          exact st_nil hf (th_n ⟨ha, rfl⟩)
        clear hf; intro a hf
        refine dr_end (by kernel_rfl) ?_ _
        exact ⟨hf.sub ⟨rfl, rfl, rfl, rfl, trivial⟩, hp⟩
      rintro a w ⟨hf, hp⟩
      refine th_n ?_
      refine wp_if hf rfl (fun hb => ?_) (fun hb => ?_)
      · replace h := ifT h hb
        refine wp_seq ?_
        refine wp_reg ?_
        refine st_assign hf rfl rfl (by decide) ?_
        clear hf; intro a ha hf; clear ha
        refine st_nil hf ?_
        refine th_n ?_
        refine wp_ret ?_
        refine ib_r ?_
        refine th_r ?_
        obtain rfl := Option.some.inj h
        exact rnd_r (by simp) ⟨rfl, ⟨hf.sub ⟨rfl, trivial⟩, hp⟩⟩
      replace h := ifF h hb
      refine wp_skip ?_
      refine ib_n ?_
      refine th_n ?_
      refine wp_reg ?_
      refine st_move hf rfl rfl (by decide) ?_
      clear hf; intro a ha hf; clear ha
      refine st_iadd hf (by decide) rfl rfl rfl ?_
      clear hf; intro a ha hf; clear ha
      refine st_assign hf rfl rfl (by decide) ?_
      clear hf; intro a ha hf; clear ha
      refine st_nil hf ?_
      obtain rfl := Option.some.inj h
      exact rnd_l ⟨hf.sub ⟨rfl, rfl, rfl, trivial⟩, hp⟩
    replace h := ifF h hb
    refine wp_exit ?_
    refine th_e ?_
    obtain rfl := Option.some.inj h
    exact rnd_r (by simp) ⟨rfl, hf.sub trivial, hp⟩
  clear hl hf hp
  intro e a w hne hO
  rcases q3 with q4 | q5
  · replace h := smL h
    obtain ⟨rfl, hf, hp⟩ := hO
    refine ib_same ?_
    refine th_n ?_
    refine wp_seq ?_
    refine wp_reg ?_
    refine st_assign hf rfl rfl (by decide) ?_
    clear hf; intro a ha hf; clear ha
    refine st_nil hf ?_
    refine th_n ?_
    refine wp_ret ?_
    obtain rfl := Option.some.inj h
    exact ⟨rfl, ⟨hf.sub ⟨rfl, trivial⟩, hp⟩⟩
  replace h := smR h
  obtain ⟨rfl, hf, hp⟩ := hO
  refine ib_r ?_
  refine th_r ?_
  obtain rfl := Option.some.inj h
  exact ⟨rfl, ⟨hf.sub ⟨rfl, trivial⟩, hp⟩⟩

noncomputable def f_foghornlaw06_awake  : Option Bool := ((f_turns_Into ([(1 : Int), (1 : Int), (3 : Int), (2 : Int)])).bind fun q3 => ((f_turns_Out ([(1 : Int), (2 : Int), (1 : Int), (3 : Int)])).bind fun q14 => ((if ((q3.2 == (0 : Int)) && (q14.2 == (0 : Int))) = true then ((f_foghornlaw06_quarters q3.1 ([(1 : Int), (2 : Int), (1 : Int), (3 : Int)])).bind fun q30 => (some q30)) else (some false)).bind fun z27 => ((if z27 = true then ((f_foghornlaw06_quarters q14.1 ([(1 : Int), (1 : Int), (3 : Int), (2 : Int)])).bind fun q47 => (some q47)) else (some false)).bind fun z44 => (some z44)))))
theorem f_foghornlaw06_awake_c {S : Nat → Prop} {w0 w : World} {ow : List Res} (hp : Hp S w0 w ow) {r : Bool} (h : f_foghornlaw06_awake = some r) :
    Calls Try.prog 14 #[] w (fun e w' => e = .returned (.bool r) ∧ Hp S w0 w' (ow)) := by
  unfold f_foghornlaw06_awake at h
  refine enter (n := 31) (args := []) Try.func14 rfl rfl (Nat.le_of_ble_eq_true rfl) fun a hf => ?_
  replace hf : Fr 31 a [] := hf
  refine wp_mono (Q := fun e a w => e = .ret ∧ Fr 31 a [(0, .bool r)] ∧ Hp S w0 w (ow)) ?_ ?_
  rotate_left
  · rintro e a w ⟨rfl, hf, hp⟩
    exact ret1 hf rfl rfl ⟨rfl, hp⟩
  refine wp_seq ?_
  refine wp_reg ?_
  refine st_assign hf rfl rfl (by decide) ?_
  clear hf; intro a ha hf; clear ha
  refine st_nil hf ?_
  refine th_n ?_
  refine wp_seq ?_
  refine wp_reg ?_
  refine st_build (E := (Ek.int .u8)) (xs := [(1 : Int), (1 : Int), (3 : Int), (2 : Int)]) hf (by decide) elt5 Try.underlying22 hp (vals := #[(0, .int .u8 (1 : Int)), (1, .int .u8 (1 : Int)), (2, .int .u8 (3 : Int)), (3, .int .u8 (2 : Int))]) (cells := #[.int .u8 (1 : Int), .int .u8 (1 : Int), .int .u8 (3 : Int), .int .u8 (2 : Int)]) rfl (by simp [hf.ev (x := (Operand.const (.int .u8 (1 : Int)))) rfl, hf.ev (x := (Operand.const (.int .u8 (1 : Int)))) rfl, hf.ev (x := (Operand.const (.int .u8 (3 : Int)))) rfl, hf.ev (x := (Operand.const (.int .u8 (2 : Int)))) rfl]) (by decide) (by decide) (z := .int .u8 0) (by kernel_rfl) (by kernel_rfl) rfl (reps_cons (cs := [.int .u8 (1 : Int)]) rfl (reps_cons (cs := [.int .u8 (1 : Int)]) rfl (reps_cons (cs := [.int .u8 (3 : Int)]) rfl (reps_cons (cs := [.int .u8 (2 : Int)]) rfl (reps_nil _))))) ?_
  clear hf; intro a w v1 hf hp0; clear hp; have hp := hp0; clear hp0
  replace hp : Hp _ _ _ (Res.sl (Ek.int .u8) 5 v1 ([(1 : Int), (1 : Int), (3 : Int), (2 : Int)]) :: ow) := hp
  obtain ⟨q3, hcall4, h⟩ := bnd h
  obtain ⟨S5, hp6, rd7, up8, bk9⟩ := Hp.lendS hp (i := 0) rfl
  refine st_call hf (by decide) Try.func9 rfl rfl rfl rfl rfl (f_turns_Into_c hp6 _ _ rd7 hcall4) ?_
  rintro _ w ⟨v10, rfl, hp0⟩
  have hp0 := bk9 _ _ hp0
  clear hp; have hp := hp0; clear hp0
  replace hp : Hp _ _ _ (Res.sl (Ek.int .u8) 5 v1 ([(1 : Int), (1 : Int), (3 : Int), (2 : Int)]) :: Res.sl (Ek.int .u8) 5 v10 q3.1 :: ow) := hp
  refine ⟨_, rfl, ?_⟩
  clear hf; intro a hf
  refine st_move hf rfl rfl (by decide) ?_
  clear hf; intro a ha hf; clear ha
  refine st_extract hf (by decide) rfl rfl rfl ?_
  clear hf; intro a ha hf; clear ha
  refine st_extract hf (by decide) rfl rfl rfl ?_
  clear hf; intro a ha hf; clear ha
  refine st_assign hf rfl rfl (by decide) ?_
  clear hf; intro a ha hf; clear ha
  refine st_assign hf rfl rfl (by decide) ?_
  clear hf; intro a ha hf; clear ha
  refine st_nil hf ?_
  refine th_n ?_
  refine wp_seq ?_
  refine wp_reg ?_
  refine st_build (E := (Ek.int .u8)) (xs := [(1 : Int), (2 : Int), (1 : Int), (3 : Int)]) hf (by decide) elt5 Try.underlying22 hp (vals := #[(0, .int .u8 (1 : Int)), (1, .int .u8 (2 : Int)), (2, .int .u8 (1 : Int)), (3, .int .u8 (3 : Int))]) (cells := #[.int .u8 (1 : Int), .int .u8 (2 : Int), .int .u8 (1 : Int), .int .u8 (3 : Int)]) rfl (by simp [hf.ev (x := (Operand.const (.int .u8 (1 : Int)))) rfl, hf.ev (x := (Operand.const (.int .u8 (2 : Int)))) rfl, hf.ev (x := (Operand.const (.int .u8 (1 : Int)))) rfl, hf.ev (x := (Operand.const (.int .u8 (3 : Int)))) rfl]) (by decide) (by decide) (z := .int .u8 0) (by kernel_rfl) (by kernel_rfl) rfl (reps_cons (cs := [.int .u8 (1 : Int)]) rfl (reps_cons (cs := [.int .u8 (2 : Int)]) rfl (reps_cons (cs := [.int .u8 (1 : Int)]) rfl (reps_cons (cs := [.int .u8 (3 : Int)]) rfl (reps_nil _))))) ?_
  clear hf; intro a w v12 hf hp0; clear hp; have hp := hp0; clear hp0
  replace hp : Hp _ _ _ (Res.sl (Ek.int .u8) 5 v12 ([(1 : Int), (2 : Int), (1 : Int), (3 : Int)]) :: Res.sl (Ek.int .u8) 5 v1 ([(1 : Int), (1 : Int), (3 : Int), (2 : Int)]) :: Res.sl (Ek.int .u8) 5 v10 q3.1 :: ow) := hp
  obtain ⟨q14, hcall15, h⟩ := bnd h
  obtain ⟨S16, hp17, rd18, up19, bk20⟩ := Hp.lendS hp (i := 0) rfl
  refine st_call hf (by decide) Try.func10 rfl rfl rfl rfl rfl (f_turns_Out_c hp17 _ _ rd18 hcall15) ?_
  rintro _ w ⟨v21, rfl, hp0⟩
  have hp0 := bk20 _ _ hp0
  clear hp; have hp := hp0; clear hp0
  replace hp : Hp _ _ _ (Res.sl (Ek.int .u8) 5 v12 ([(1 : Int), (2 : Int), (1 : Int), (3 : Int)]) :: Res.sl (Ek.int .u8) 5 v21 q14.1 :: Res.sl (Ek.int .u8) 5 v1 ([(1 : Int), (1 : Int), (3 : Int), (2 : Int)]) :: Res.sl (Ek.int .u8) 5 v10 q3.1 :: ow) := hp
  refine ⟨_, rfl, ?_⟩
  clear hf; intro a hf
  refine st_move hf rfl rfl (by decide) ?_
  clear hf; intro a ha hf; clear ha
  refine st_extract hf (by decide) rfl rfl rfl ?_
  clear hf; intro a ha hf; clear ha
  refine st_extract hf (by decide) rfl rfl rfl ?_
  clear hf; intro a ha hf; clear ha
  refine st_assign hf rfl rfl (by decide) ?_
  clear hf; intro a ha hf; clear ha
  refine st_assign hf rfl rfl (by decide) ?_
  clear hf; intro a ha hf; clear ha
  refine st_nil hf ?_
  refine th_n ?_
  refine wp_seq ?_
  refine wp_reg ?_
  refine st_move hf rfl rfl (by decide) ?_
  clear hf; intro a ha hf; clear ha
  refine st_ieql hf (by decide) rfl rfl rfl ?_
  clear hf; intro a ha hf; clear ha
  refine st_move hf rfl rfl (by decide) ?_
  clear hf; intro a ha hf; clear ha
  refine wpList_cut 3 (fun a w => Fr 31 a [(1, v10), (3, v21), (20, .bool ((q3.2 == (0 : Int)) && (q14.2 == (0 : Int))))] ∧ Hp S w0 w (Res.sl (Ek.int .u8) 5 v12 ([(1 : Int), (2 : Int), (1 : Int), (3 : Int)]) :: Res.sl (Ek.int .u8) 5 v21 q14.1 :: Res.sl (Ek.int .u8) 5 v1 ([(1 : Int), (1 : Int), (3 : Int), (2 : Int)]) :: Res.sl (Ek.int .u8) 5 v10 q3.1 :: ow)) ?_ ?_
  · rcases Bool.eq_false_or_eq_true (q3.2 == (0 : Int)) with hb24 | hb24
    · skip
      refine st_move hf (wantY hf rfl rfl hb24) rfl (by decide) ?_
      clear hf; intro a ha hf; clear ha
      refine st_ieql hf (by decide) (wantY hf rfl rfl hb24) rfl rfl ?_
      clear hf; intro a ha hf; clear ha
      refine st_pick (v := .bool (q14.2 == (0 : Int))) hf rfl rfl (fun hb' => ?_) (fun hb' => ?_) (by decide) ?_
      · rfl
      · exact absurd (hb24.symm.trans hb') (by decide)
      clear hf; intro a ha hf; clear ha
      refine st_nil hf (th_n ?_)
      exact ⟨hf.sub ⟨rfl, rfl, (by rw [hb24]; rfl), trivial⟩, hp⟩
    refine st_skip hf (wantN hf rfl rfl hb24) rfl (by decide) ?_ rfl
    clear hf; intro a hf
    refine st_skip hf (wantN hf rfl rfl hb24) rfl (by decide) ?_ rfl
    clear hf; intro a hf
    refine st_pick (v := .bool false) hf rfl rfl (fun hb' => ?_) (fun hb' => ?_) (by decide) ?_
    · exact absurd (hb24.symm.trans hb') (by decide)
    · rfl
    clear hf; intro a ha hf; clear ha
    refine st_nil hf (th_n ?_)
    exact ⟨hf.sub ⟨rfl, rfl, (by rw [hb24]; rfl), trivial⟩, hp⟩
  rintro a w ⟨hf, hp⟩
  refine st_move hf rfl rfl (by decide) ?_
  clear hf; intro a ha hf; clear ha
  obtain ⟨z27, hz25, h⟩ := bnd h
  refine wpList_cut 4 (fun a w => Fr 31 a [(3, v21), (25, .bool z27)] ∧ Hp S w0 w (Res.sl (Ek.int .u8) 5 v12 ([(1 : Int), (2 : Int), (1 : Int), (3 : Int)]) :: Res.sl (Ek.int .u8) 5 v21 q14.1 :: Res.sl (Ek.int .u8) 5 v1 ([(1 : Int), (1 : Int), (3 : Int), (2 : Int)]) :: Res.sl (Ek.int .u8) 5 v10 q3.1 :: ow)) ?_ ?_
  · rcases Bool.eq_false_or_eq_true ((q3.2 == (0 : Int)) && (q14.2 == (0 : Int))) with hb26 | hb26
    · skip
      replace hz25 := ifT hz25 hb26
      refine st_move hf (wantY hf rfl rfl hb26) rfl (by decide) ?_
      clear hf; intro a ha hf; clear ha
      refine st_build (E := (Ek.int .u8)) (xs := [(1 : Int), (2 : Int), (1 : Int), (3 : Int)]) hf (by decide) elt5 Try.underlying22 hp (vals := #[(0, .int .u8 (1 : Int)), (1, .int .u8 (2 : Int)), (2, .int .u8 (1 : Int)), (3, .int .u8 (3 : Int))]) (cells := #[.int .u8 (1 : Int), .int .u8 (2 : Int), .int .u8 (1 : Int), .int .u8 (3 : Int)]) (wantY hf rfl rfl hb26) (by simp [hf.ev (x := (Operand.const (.int .u8 (1 : Int)))) rfl, hf.ev (x := (Operand.const (.int .u8 (2 : Int)))) rfl, hf.ev (x := (Operand.const (.int .u8 (1 : Int)))) rfl, hf.ev (x := (Operand.const (.int .u8 (3 : Int)))) rfl]) (by decide) (by decide) (z := .int .u8 0) (by kernel_rfl) (by kernel_rfl) rfl (reps_cons (cs := [.int .u8 (1 : Int)]) rfl (reps_cons (cs := [.int .u8 (2 : Int)]) rfl (reps_cons (cs := [.int .u8 (1 : Int)]) rfl (reps_cons (cs := [.int .u8 (3 : Int)]) rfl (reps_nil _))))) ?_
      clear hf; intro a w v28 hf hp0; clear hp; have hp := hp0; clear hp0
      replace hp : Hp _ _ _ (Res.sl (Ek.int .u8) 5 v28 ([(1 : Int), (2 : Int), (1 : Int), (3 : Int)]) :: Res.sl (Ek.int .u8) 5 v12 ([(1 : Int), (2 : Int), (1 : Int), (3 : Int)]) :: Res.sl (Ek.int .u8) 5 v21 q14.1 :: Res.sl (Ek.int .u8) 5 v1 ([(1 : Int), (1 : Int), (3 : Int), (2 : Int)]) :: Res.sl (Ek.int .u8) 5 v10 q3.1 :: ow) := hp
      obtain ⟨q30, hcall31, hz25⟩ := bnd hz25
      obtain ⟨S32, hp33, rd34, up35, bk36⟩ := Hp.lendS hp (i := 4) rfl
      obtain ⟨S37, hp38, rd39, up40, bk41⟩ := Hp.lendS hp33 (i := 0) rfl
      refine st_call hf (by decide) Try.func13 rfl rfl (wantY hf rfl rfl hb26) rfl rfl (f_foghornlaw06_quarters_c hp38 _ _ ((rd34.now hp33).mono up40) _ _ rd39 hcall31) ?_
      rintro _ w ⟨rfl, hp0⟩
      have hp0 := bk41 _ _ hp0
      have hp0 := bk36 _ _ hp0
      clear hp; have hp := hp0; clear hp0
      replace hp : Hp _ _ _ (Res.sl (Ek.int .u8) 5 v10 q3.1 :: Res.sl (Ek.int .u8) 5 v28 ([(1 : Int), (2 : Int), (1 : Int), (3 : Int)]) :: Res.sl (Ek.int .u8) 5 v12 ([(1 : Int), (2 : Int), (1 : Int), (3 : Int)]) :: Res.sl (Ek.int .u8) 5 v21 q14.1 :: Res.sl (Ek.int .u8) 5 v1 ([(1 : Int), (1 : Int), (3 : Int), (2 : Int)]) :: ow) := hp
      refine ⟨_, rfl, ?_⟩
      clear hf; intro a hf
      obtain rfl := Option.some.inj hz25
      refine st_pick (v := .bool q30) hf rfl rfl (fun hb' => ?_) (fun hb' => ?_) (by decide) ?_
      · rfl
      · exact absurd (hb26.symm.trans hb') (by decide)
      clear hf; intro a ha hf; clear ha
      refine st_nil hf (th_n ?_)
      have hp : Hp _ _ _ (Res.sl (Ek.int .u8) 5 v12 ([(1 : Int), (2 : Int), (1 : Int), (3 : Int)]) :: Res.sl (Ek.int .u8) 5 v21 q14.1 :: Res.sl (Ek.int .u8) 5 v1 ([(1 : Int), (1 : Int), (3 : Int), (2 : Int)]) :: Res.sl (Ek.int .u8) 5 v10 q3.1 :: ow) := Hp.sel (pre := [Res.sl (Ek.int .u8) 5 v10 q3.1, Res.sl (Ek.int .u8) 5 v28 ([(1 : Int), (2 : Int), (1 : Int), (3 : Int)]), Res.sl (Ek.int .u8) 5 v12 ([(1 : Int), (2 : Int), (1 : Int), (3 : Int)]), Res.sl (Ek.int .u8) 5 v21 q14.1, Res.sl (Ek.int .u8) 5 v1 ([(1 : Int), (1 : Int), (3 : Int), (2 : Int)])]) (tail := ow) (rs' := [Res.sl (Ek.int .u8) 5 v12 ([(1 : Int), (2 : Int), (1 : Int), (3 : Int)]), Res.sl (Ek.int .u8) 5 v21 q14.1, Res.sl (Ek.int .u8) 5 v1 ([(1 : Int), (1 : Int), (3 : Int), (2 : Int)]), Res.sl (Ek.int .u8) 5 v10 q3.1]) hp [2, 3, 4, 0] (by decide) (by simp) rfl
      exact ⟨hf.sub ⟨rfl, rfl, trivial⟩, hp⟩
    replace hz25 := ifF hz25 hb26
    refine st_skip hf (wantN hf rfl rfl hb26) rfl (by decide) ?_ rfl
    clear hf; intro a hf
    refine st_skip hf (wantN hf rfl rfl hb26) rfl (by decide) ?_ rfl
    clear hf; intro a hf
    refine st_skip hf (wantN hf rfl rfl hb26) rfl (by decide) ?_ rfl
    clear hf; intro a hf
    obtain rfl := Option.some.inj hz25
    refine st_pick (v := .bool false) hf rfl rfl (fun hb' => ?_) (fun hb' => ?_) (by decide) ?_
    · exact absurd (hb26.symm.trans hb') (by decide)
    · rfl
    clear hf; intro a ha hf; clear ha
    refine st_nil hf (th_n ?_)
    exact ⟨hf.sub ⟨rfl, rfl, trivial⟩, hp⟩
  rintro a w ⟨hf, hp⟩
  refine st_move hf rfl rfl (by decide) ?_
  clear hf; intro a ha hf; clear ha
  obtain ⟨z44, hz42, h⟩ := bnd h
  refine wpList_cut 4 (fun a w => Fr 31 a [(30, .bool z44)] ∧ Hp S w0 w (Res.sl (Ek.int .u8) 5 v12 ([(1 : Int), (2 : Int), (1 : Int), (3 : Int)]) :: Res.sl (Ek.int .u8) 5 v21 q14.1 :: Res.sl (Ek.int .u8) 5 v1 ([(1 : Int), (1 : Int), (3 : Int), (2 : Int)]) :: Res.sl (Ek.int .u8) 5 v10 q3.1 :: ow)) ?_ ?_
  · rcases Bool.eq_false_or_eq_true z27 with hb43 | hb43
    · skip
      replace hz42 := ifT hz42 hb43
      refine st_move hf (wantY hf rfl rfl hb43) rfl (by decide) ?_
      clear hf; intro a ha hf; clear ha
      refine st_build (E := (Ek.int .u8)) (xs := [(1 : Int), (1 : Int), (3 : Int), (2 : Int)]) hf (by decide) elt5 Try.underlying22 hp (vals := #[(0, .int .u8 (1 : Int)), (1, .int .u8 (1 : Int)), (2, .int .u8 (3 : Int)), (3, .int .u8 (2 : Int))]) (cells := #[.int .u8 (1 : Int), .int .u8 (1 : Int), .int .u8 (3 : Int), .int .u8 (2 : Int)]) (wantY hf rfl rfl hb43) (by simp [hf.ev (x := (Operand.const (.int .u8 (1 : Int)))) rfl, hf.ev (x := (Operand.const (.int .u8 (1 : Int)))) rfl, hf.ev (x := (Operand.const (.int .u8 (3 : Int)))) rfl, hf.ev (x := (Operand.const (.int .u8 (2 : Int)))) rfl]) (by decide) (by decide) (z := .int .u8 0) (by kernel_rfl) (by kernel_rfl) rfl (reps_cons (cs := [.int .u8 (1 : Int)]) rfl (reps_cons (cs := [.int .u8 (1 : Int)]) rfl (reps_cons (cs := [.int .u8 (3 : Int)]) rfl (reps_cons (cs := [.int .u8 (2 : Int)]) rfl (reps_nil _))))) ?_
      clear hf; intro a w v45 hf hp0; clear hp; have hp := hp0; clear hp0
      replace hp : Hp _ _ _ (Res.sl (Ek.int .u8) 5 v45 ([(1 : Int), (1 : Int), (3 : Int), (2 : Int)]) :: Res.sl (Ek.int .u8) 5 v12 ([(1 : Int), (2 : Int), (1 : Int), (3 : Int)]) :: Res.sl (Ek.int .u8) 5 v21 q14.1 :: Res.sl (Ek.int .u8) 5 v1 ([(1 : Int), (1 : Int), (3 : Int), (2 : Int)]) :: Res.sl (Ek.int .u8) 5 v10 q3.1 :: ow) := hp
      obtain ⟨q47, hcall48, hz42⟩ := bnd hz42
      obtain ⟨S49, hp50, rd51, up52, bk53⟩ := Hp.lendS hp (i := 2) rfl
      obtain ⟨S54, hp55, rd56, up57, bk58⟩ := Hp.lendS hp50 (i := 0) rfl
      refine st_call hf (by decide) Try.func13 rfl rfl (wantY hf rfl rfl hb43) rfl rfl (f_foghornlaw06_quarters_c hp55 _ _ ((rd51.now hp50).mono up57) _ _ rd56 hcall48) ?_
      rintro _ w ⟨rfl, hp0⟩
      have hp0 := bk58 _ _ hp0
      have hp0 := bk53 _ _ hp0
      clear hp; have hp := hp0; clear hp0
      replace hp : Hp _ _ _ (Res.sl (Ek.int .u8) 5 v21 q14.1 :: Res.sl (Ek.int .u8) 5 v45 ([(1 : Int), (1 : Int), (3 : Int), (2 : Int)]) :: Res.sl (Ek.int .u8) 5 v12 ([(1 : Int), (2 : Int), (1 : Int), (3 : Int)]) :: Res.sl (Ek.int .u8) 5 v1 ([(1 : Int), (1 : Int), (3 : Int), (2 : Int)]) :: Res.sl (Ek.int .u8) 5 v10 q3.1 :: ow) := hp
      refine ⟨_, rfl, ?_⟩
      clear hf; intro a hf
      obtain rfl := Option.some.inj hz42
      refine st_pick (v := .bool q47) hf rfl rfl (fun hb' => ?_) (fun hb' => ?_) (by decide) ?_
      · rfl
      · exact absurd (hb43.symm.trans hb') (by decide)
      clear hf; intro a ha hf; clear ha
      refine st_nil hf (th_n ?_)
      have hp : Hp _ _ _ (Res.sl (Ek.int .u8) 5 v12 ([(1 : Int), (2 : Int), (1 : Int), (3 : Int)]) :: Res.sl (Ek.int .u8) 5 v21 q14.1 :: Res.sl (Ek.int .u8) 5 v1 ([(1 : Int), (1 : Int), (3 : Int), (2 : Int)]) :: Res.sl (Ek.int .u8) 5 v10 q3.1 :: ow) := Hp.sel (pre := [Res.sl (Ek.int .u8) 5 v21 q14.1, Res.sl (Ek.int .u8) 5 v45 ([(1 : Int), (1 : Int), (3 : Int), (2 : Int)]), Res.sl (Ek.int .u8) 5 v12 ([(1 : Int), (2 : Int), (1 : Int), (3 : Int)]), Res.sl (Ek.int .u8) 5 v1 ([(1 : Int), (1 : Int), (3 : Int), (2 : Int)]), Res.sl (Ek.int .u8) 5 v10 q3.1]) (tail := ow) (rs' := [Res.sl (Ek.int .u8) 5 v12 ([(1 : Int), (2 : Int), (1 : Int), (3 : Int)]), Res.sl (Ek.int .u8) 5 v21 q14.1, Res.sl (Ek.int .u8) 5 v1 ([(1 : Int), (1 : Int), (3 : Int), (2 : Int)]), Res.sl (Ek.int .u8) 5 v10 q3.1]) hp [2, 0, 3, 4] (by decide) (by simp) rfl
      exact ⟨hf.sub ⟨rfl, trivial⟩, hp⟩
    replace hz42 := ifF hz42 hb43
    refine st_skip hf (wantN hf rfl rfl hb43) rfl (by decide) ?_ rfl
    clear hf; intro a hf
    refine st_skip hf (wantN hf rfl rfl hb43) rfl (by decide) ?_ rfl
    clear hf; intro a hf
    refine st_skip hf (wantN hf rfl rfl hb43) rfl (by decide) ?_ rfl
    clear hf; intro a hf
    obtain rfl := Option.some.inj hz42
    refine st_pick (v := .bool false) hf rfl rfl (fun hb' => ?_) (fun hb' => ?_) (by decide) ?_
    · exact absurd (hb43.symm.trans hb') (by decide)
    · rfl
    clear hf; intro a ha hf; clear ha
    refine st_nil hf (th_n ?_)
    exact ⟨hf.sub ⟨rfl, trivial⟩, hp⟩
  rintro a w ⟨hf, hp⟩
  refine st_assign hf rfl rfl (by decide) ?_
  clear hf; intro a ha hf; clear ha
  refine st_nil hf ?_
  refine th_n ?_
  refine wp_ret ?_
  obtain rfl := Option.some.inj h
  have hp : Hp _ _ _ (ow) := Hp.sel (pre := [Res.sl (Ek.int .u8) 5 v12 ([(1 : Int), (2 : Int), (1 : Int), (3 : Int)]), Res.sl (Ek.int .u8) 5 v21 q14.1, Res.sl (Ek.int .u8) 5 v1 ([(1 : Int), (1 : Int), (3 : Int), (2 : Int)]), Res.sl (Ek.int .u8) 5 v10 q3.1]) (tail := ow) (rs' := []) hp [] (by decide) (by simp) rfl
  exact ⟨rfl, ⟨hf.sub ⟨rfl, trivial⟩, hp⟩⟩

end Go.Proofs.Ytienojgmpjpcjaa
