/- The functions foghorn foghornlaw09.TonesApart: what each answers, as a plain function, and that its call answers it; printed by gen.py. -/
import Derived.Test.YthmobhgjojgipaaProg
import Derived.Test.YthmobhgjojgipaaGlU
import Derived.KernelRfl
set_option linter.unusedVariables false
set_option linter.unusedSimpArgs false
set_option maxRecDepth 100000
set_option maxHeartbeats 4000000
namespace Go.Proofs.Ythmobhgjojgipaa
open GL
theorem elt28 : ElT Try.prog Ek.c128 28 16 (Fl.bits 0, Fl.bits 0) := ElT.of (z := .complex .f64 0 0) (by kernel_rfl) ⟨_, _, rfl, rfl, rfl⟩
theorem pl3 : Plain Try.prog 3 := ⟨⟨_, Try.underlying3, trivial⟩⟩
theorem pl28 : Plain Try.prog 28 := ⟨⟨_, Try.underlying28, trivial⟩⟩
theorem pl29 : Plain Try.prog 29 := ⟨⟨_, Try.underlying29, trivial⟩⟩
noncomputable def f_foghornlaw09_power (n0 : Int) : Option Int := (some (IntKind.i64.wrap ((((IntKind.i64.wrap (((n0).tmod (3 : Int)) + (3 : Int)))).tmod (3 : Int)) + (1 : Int))))
theorem f_foghornlaw09_power_c {S : Nat → Prop} {w0 w : World} {ow : List Res} (hp : Hp S w0 w ow) (n0 : Int) {r : Int} (h : f_foghornlaw09_power n0 = some r) :
    Calls Try.prog 6 #[.int .i64 n0] w (fun e w' => e = .returned (.int .i64 r) ∧ Hp S w0 w' (ow)) := by
  unfold f_foghornlaw09_power at h
  refine enter (n := 8) (args := [.int .i64 n0]) Try.func6 rfl rfl (Nat.le_of_ble_eq_true rfl) fun a hf => ?_
  replace hf : Fr 8 a [(0, .int .i64 n0)] := hf
  refine wp_mono (Q := fun e a w => e = .ret ∧ Fr 8 a [(2, .int .i64 r)] ∧ Hp S w0 w (ow)) ?_ ?_
  rotate_left
  · rintro e a w ⟨rfl, hf, hp⟩
    exact ret1 hf rfl rfl ⟨rfl, hp⟩
  refine wp_seq ?_
  refine wp_reg ?_
  refine st_assign hf rfl rfl (by decide) ?_
  clear hf; intro a ha hf; clear ha
  refine st_nil hf ?_
  refine th_n ?_
  refine wp_seq ?_
  refine wp_reg ?_
  refine st_move hf rfl rfl (by decide) ?_
  clear hf; intro a ha hf; clear ha
  refine st_irem hf (by decide) rfl rfl rfl (by decide) ?_
  clear hf; intro a ha hf; clear ha
  refine st_iadd hf (by decide) rfl rfl rfl ?_
  clear hf; intro a ha hf; clear ha
  refine st_irem hf (by decide) rfl rfl rfl (by decide) ?_
  clear hf; intro a ha hf; clear ha
  refine st_iadd hf (by decide) rfl rfl rfl ?_
  clear hf; intro a ha hf; clear ha
  refine st_assign hf rfl rfl (by decide) ?_
  clear hf; intro a ha hf; clear ha
  refine st_nil hf ?_
  refine th_n ?_
  refine wp_ret ?_
  obtain rfl := Option.some.inj h
  exact ⟨rfl, ⟨hf.sub ⟨rfl, trivial⟩, hp⟩⟩

noncomputable def f_tones_there  : Option Unit := (some ())
theorem f_tones_there_c {S : Nat → Prop} {w0 w : World} {ow : List Res} (hp : Hp S w0 w ow) {r : Unit} (h : f_tones_there = some r) :
    Calls Try.prog 20 #[] w (fun e w' => e = .returned (.agg #[.func (.func 8) #[] #[]]) ∧ Hp S w0 w' (ow)) := by
  unfold f_tones_there at h
  refine enter (n := 2) (args := []) Try.func20 rfl rfl (Nat.le_of_ble_eq_true rfl) fun a hf => ?_
  replace hf : Fr 2 a [] := hf
  refine wp_mono (Q := fun e a w => e = .ret ∧ ∃ (c0 : Value), Fr 2 a [(0, optr c0 0)] ∧ Hp S w0 w (Res.obj 55 c0 [.func (.func 8) #[] #[]] :: ow)) ?_ ?_
  rotate_left
  · rintro e a w ⟨rfl, c0, hf, hp⟩
    exact retG1 hf rfl ⟨_, _, rfl, hp.ob (i := 0) rfl, .inr ⟨by kernel_rfl, rfl⟩⟩ ⟨rfl, hp.drop⟩
  refine wp_seq ?_
  refine wp_reg ?_
  refine st_alloc (cs := [.nilFunc]) (zv := .agg #[.nilFunc]) hf (by decide) (by kernel_rfl) rfl hp rfl ?_
  clear hf; intro a w v1 hf hp0; clear hp; have hp := hp0; clear hp0
  replace hp : Hp _ _ _ (Res.obj 55 v1 [.nilFunc] :: ow) := hp
  refine st_nil hf ?_
  refine th_n ?_
  refine wp_seq ?_
  refine wp_reg ?_
  refine st_buildA (vals := [(0, .func (.func 8) #[] #[])]) (cells := [.func (.func 8) #[] #[]]) hf (by decide) rfl (by simp [hf.ev (x := (Operand.func 8)) rfl]) (fun w => by kernel_rfl) ?_
  clear hf; intro a ha hf; clear ha
  refine st_stO (us := [.func (.func 8) #[] #[]]) hf hp (i := 0) rfl rfl rfl rfl rfl (by rfl) (by kernel_rfl) (Nat.le_of_ble_eq_true rfl) ?_
  clear hf; intro a w hf hp0; clear hp; have hp := hp0; clear hp0
  replace hp : Hp _ _ _ (Res.obj 55 v1 [.func (.func 8) #[] #[]] :: ow) := hp
  refine st_nil hf ?_
  refine th_n ?_
  refine wp_ret ?_
  obtain rfl := Option.some.inj h
  exact ⟨rfl, ⟨_, hf.sub ⟨rfl, trivial⟩, hp⟩⟩

noncomputable def f_tones_tones (power0 : Int) : Option Int := (if ((decide (power0 < (1 : Int))) || (decide ((3 : Int) < power0))) = true then (some (0 : Int)) else (if 0 ≤ (IntKind.i64.wrap ((2 : Int) * power0)) then (some (ishl .i64 (1 : Int) (IntKind.i64.wrap ((2 : Int) * power0)))) else none))
theorem f_tones_tones_c {S : Nat → Prop} {w0 w : World} {ow : List Res} (hp : Hp S w0 w ow) (power0 : Int) {r : Int} (h : f_tones_tones power0 = some r) :
    Calls Try.prog 25 #[.int .i64 power0] w (fun e w' => e = .returned (.int .i64 r) ∧ Hp S w0 w' (ow)) := by
  unfold f_tones_tones at h
  refine enter (n := 12) (args := [.int .i64 power0]) Try.func25 rfl rfl (Nat.le_of_ble_eq_true rfl) fun a hf => ?_
  replace hf : Fr 12 a [(0, .int .i64 power0)] := hf
  refine wp_mono (Q := fun e a w => e = .ret ∧ Fr 12 a [(2, .int .i64 r)] ∧ Hp S w0 w (ow)) ?_ ?_
  rotate_left
  · rintro e a w ⟨rfl, hf, hp⟩
    exact ret1 hf rfl rfl ⟨rfl, hp⟩
  refine wp_seq ?_
  refine wp_reg ?_
  refine st_assign hf rfl rfl (by decide) ?_
  clear hf; intro a ha hf; clear ha
  refine st_nil hf ?_
  refine th_n ?_
  refine wp_seq ?_
  refine wp_seq ?_
  refine wp_reg ?_
  refine st_move hf rfl rfl (by decide) ?_
  clear hf; intro a ha hf; clear ha
  refine st_ilss hf (by decide) rfl rfl rfl ?_
  clear hf; intro a ha hf; clear ha
  refine st_move hf rfl rfl (by decide) ?_
  clear hf; intro a ha hf; clear ha
  refine wpList_cut 3 (fun a w => Fr 12 a [(0, .int .i64 power0), (8, .bool ((decide (power0 < (1 : Int))) || (decide ((3 : Int) < power0))))] ∧ Hp S w0 w (ow)) ?_ ?_
  · rcases Bool.eq_false_or_eq_true (decide (power0 < (1 : Int))) with hb2 | hb2
    · skip
      refine st_skip hf (wantN hf rfl rfl hb2) rfl (by decide) ?_ rfl
      clear hf; intro a hf
      refine st_skip hf (wantN hf rfl rfl hb2) rfl (by decide) ?_ rfl
      clear hf; intro a hf
      refine st_pick (v := .bool true) hf rfl rfl (fun hb' => ?_) (fun hb' => ?_) (by decide) ?_
      · rfl
      · exact absurd (hb2.symm.trans hb') (by decide)
      clear hf; intro a ha hf; clear ha
      refine st_nil hf (th_n ?_)
      exact ⟨hf.sub ⟨rfl, (by rw [hb2]; rfl), trivial⟩, hp⟩
    refine st_move hf (wantY hf rfl rfl hb2) rfl (by decide) ?_
    clear hf; intro a ha hf; clear ha
    refine st_igtr hf (by decide) (wantY hf rfl rfl hb2) rfl rfl ?_
    clear hf; intro a ha hf; clear ha
    refine st_pick (v := .bool (decide ((3 : Int) < power0))) hf rfl rfl (fun hb' => ?_) (fun hb' => ?_) (by decide) ?_
    · exact absurd (hb2.symm.trans hb') (by decide)
    · rfl
    clear hf; intro a ha hf; clear ha
    refine st_nil hf (th_n ?_)
    exact ⟨hf.sub ⟨rfl, (by rw [hb2]; rfl), trivial⟩, hp⟩
  rintro a w ⟨hf, hp⟩
  refine st_nil hf ?_
  refine th_n ?_
  refine wp_if hf rfl (fun hb => ?_) (fun hb => ?_)
  · replace h := ifT h hb
    refine wp_seq ?_
    refine wp_reg ?_
    refine st_assign hf rfl rfl (by decide) ?_
    clear hf; intro a ha hf; clear ha
    refine st_nil hf ?_
    refine th_n ?_
    refine wp_ret ?_
    refine th_r ?_
    obtain rfl := Option.some.inj h
    exact ⟨rfl, ⟨hf.sub ⟨rfl, trivial⟩, hp⟩⟩
  replace h := ifF h hb
  refine wp_skip ?_
  refine th_n ?_
  refine wp_seq ?_
  refine wp_reg ?_
  refine st_move hf rfl rfl (by decide) ?_
  clear hf; intro a ha hf; clear ha
  refine st_imul hf (by decide) rfl rfl rfl ?_
  clear hf; intro a ha hf; clear ha
  obtain ⟨hc3, h⟩ := chk h
  refine st_ishl hf (by decide) rfl rfl rfl hc3 ?_
  clear hf; intro a ha hf; clear ha
  refine st_assign hf rfl rfl (by decide) ?_
  clear hf; intro a ha hf; clear ha
  refine st_nil hf ?_
  refine th_n ?_
  refine wp_ret ?_
  obtain rfl := Option.some.inj h
  exact ⟨rfl, ⟨hf.sub ⟨rfl, trivial⟩, hp⟩⟩

noncomputable def f_tones_entry.s1c (place0 : Int) (tone1 : Int) (n5 : Int) : Option ((Int × Int × Int) ⊕ Int) := (if ((decide ((0 : Int) < place0)) && (decide ((0 : Int) < tone1))) = true then (some (Sum.inl ((ishr .i64 place0 (2 : Int)), (ishr .i64 tone1 (2 : Int)), (IntKind.i64.wrap (n5 + (IntKind.i64.wrap ((iand .i64 place0 (3 : Int)) * (iand .i64 tone1 (3 : Int))))))))) else (some (Sum.inr n5)))
noncomputable def f_tones_entry.s1  (s : (Int × Int × Int)) : Option ((Int × Int × Int) ⊕ Int) := f_tones_entry.s1c s.1 s.2.1 s.2.2
noncomputable def f_tones_entry (place0 : Int) (tone1 : Int) : Option Int := ((loop f_tones_entry.s1 (place0, tone1, (0 : Int))).bind (fun q3 => (some (iand .i64 q3 (3 : Int)))))
theorem f_tones_entry_c {S : Nat → Prop} {w0 w : World} {ow : List Res} (hp : Hp S w0 w ow) (place0 : Int) (tone1 : Int) {r : Int} (h : f_tones_entry place0 tone1 = some r) :
    Calls Try.prog 26 #[.int .i64 place0, .int .i64 tone1] w (fun e w' => e = .returned (.int .i64 r) ∧ Hp S w0 w' (ow)) := by
  unfold f_tones_entry at h
  refine enter (n := 25) (args := [.int .i64 place0, .int .i64 tone1]) Try.func26 rfl rfl (Nat.le_of_ble_eq_true rfl) fun a hf => ?_
  replace hf : Fr 25 a [(0, .int .i64 place0), (1, .int .i64 tone1)] := hf
  refine wp_mono (Q := fun e a w => e = .ret ∧ Fr 25 a [(4, .int .i64 r)] ∧ Hp S w0 w (ow)) ?_ ?_
  rotate_left
  · rintro e a w ⟨rfl, hf, hp⟩
    exact ret1 hf rfl rfl ⟨rfl, hp⟩
  refine wp_seq ?_
  refine wp_reg ?_
  refine st_assign hf rfl rfl (by decide) ?_
  clear hf; intro a ha hf; clear ha
  refine st_nil hf ?_
  refine th_n ?_
  refine wp_seq ?_
  refine wp_reg ?_
  refine st_assign hf rfl rfl (by decide) ?_
  clear hf; intro a ha hf; clear ha
  refine st_nil hf ?_
  refine th_n ?_
  refine wp_seq ?_
  refine wp_block ?_
  obtain ⟨q3, hl, h⟩ := bnd h
  refine wp_loop_pure (f := f_tones_entry.s1) (s := (place0, tone1, (0 : Int))) (fun s a w => Fr 25 a [(0, .int .i64 s.1), (1, .int .i64 s.2.1), (5, .int .i64 s.2.2)] ∧ Hp S w0 w (ow)) (fun q e a w => e = .exit 0 ∧ Fr 25 a [(5, .int .i64 q)] ∧ Hp S w0 w (ow)) ?_ hl ⟨hf.sub ⟨rfl, rfl, rfl, trivial⟩, hp⟩ ?_
  · clear hl hf hp
    intro s x a w h hI
    obtain ⟨place0, tone1, n5⟩ := s
    obtain ⟨hf, hp⟩ : Fr 25 a [(0, .int .i64 place0), (1, .int .i64 tone1), (5, .int .i64 n5)] ∧ Hp S w0 w (ow) := hI
    replace h : f_tones_entry.s1c place0 tone1 n5 = some x := h
    unfold f_tones_entry.s1c at h
    refine wp_seq ?_
    refine wp_seq ?_
    refine wp_reg ?_
    refine st_move hf rfl rfl (by decide) ?_
    clear hf; intro a ha hf; clear ha
    refine st_igtr hf (by decide) rfl rfl rfl ?_
    clear hf; intro a ha hf; clear ha
    refine st_move hf rfl rfl (by decide) ?_
    clear hf; intro a ha hf; clear ha
    refine wpList_cut 3 (fun a w => Fr 25 a [(0, .int .i64 place0), (1, .int .i64 tone1), (5, .int .i64 n5), (11, .bool ((decide ((0 : Int) < place0)) && (decide ((0 : Int) < tone1))))] ∧ Hp S w0 w (ow)) ?_ ?_
    · rcases Bool.eq_false_or_eq_true (decide ((0 : Int) < place0)) with hb2 | hb2
      · skip
        refine st_move hf (wantY hf rfl rfl hb2) rfl (by decide) ?_
        clear hf; intro a ha hf; clear ha
        refine st_igtr hf (by decide) (wantY hf rfl rfl hb2) rfl rfl ?_
        clear hf; intro a ha hf; clear ha
        refine st_pick (v := .bool (decide ((0 : Int) < tone1))) hf rfl rfl (fun hb' => ?_) (fun hb' => ?_) (by decide) ?_
        · rfl
        · exact absurd (hb2.symm.trans hb') (by decide)
        clear hf; intro a ha hf; clear ha
        refine st_nil hf (th_n ?_)
        exact ⟨hf.sub ⟨rfl, rfl, rfl, (by rw [hb2]; rfl), trivial⟩, hp⟩
      refine st_skip hf (wantN hf rfl rfl hb2) rfl (by decide) ?_ rfl
      clear hf; intro a hf
      refine st_skip hf (wantN hf rfl rfl hb2) rfl (by decide) ?_ rfl
      clear hf; intro a hf
      refine st_pick (v := .bool false) hf rfl rfl (fun hb' => ?_) (fun hb' => ?_) (by decide) ?_
      · exact absurd (hb2.symm.trans hb') (by decide)
      · rfl
      clear hf; intro a ha hf; clear ha
      refine st_nil hf (th_n ?_)
      exact ⟨hf.sub ⟨rfl, rfl, rfl, (by rw [hb2]; rfl), trivial⟩, hp⟩
    rintro a w ⟨hf, hp⟩
    refine st_nil hf ?_
    refine th_n ?_
    refine wp_if hf rfl (fun hb => ?_) (fun hb => ?_)
    · replace h := ifT h hb
      refine wp_skip ?_
      refine th_n ?_
      refine wp_seq ?_
      refine wp_block ?_
      refine wp_reg ?_
      refine st_move hf rfl rfl (by decide) ?_
      clear hf; intro a ha hf; clear ha
      refine st_move hf rfl rfl (by decide) ?_
      clear hf; intro a ha hf; clear ha
      refine st_iand hf (by decide) rfl rfl rfl ?_
      clear hf; intro a ha hf; clear ha
      refine st_move hf rfl rfl (by decide) ?_
      clear hf; intro a ha hf; clear ha
      refine st_iand hf (by decide) rfl rfl rfl ?_
      clear hf; intro a ha hf; clear ha
      refine st_imul hf (by decide) rfl rfl rfl ?_
      clear hf; intro a ha hf; clear ha
      refine st_iadd hf (by decide) rfl rfl rfl ?_
      clear hf; intro a ha hf; clear ha
      refine st_assign hf rfl rfl (by decide) ?_
      clear hf; intro a ha hf; clear ha
      refine st_nil hf ?_
      refine ib_n ?_
      refine th_n ?_
      refine wp_reg ?_
      refine st_move hf rfl rfl (by decide) ?_
      clear hf; intro a ha hf; clear ha
      refine st_ishr hf (by decide) rfl rfl rfl (by decide) ?_
      clear hf; intro a ha hf; clear ha
      refine st_move hf rfl rfl (by decide) ?_
      clear hf; intro a ha hf; clear ha
      refine st_ishr hf (by decide) rfl rfl rfl (by decide) ?_
      clear hf; intro a ha hf; clear ha
      refine st_assign hf rfl rfl (by decide) ?_
      clear hf; intro a ha hf; clear ha
      refine st_assign hf rfl rfl (by decide) ?_
      clear hf; intro a ha hf; clear ha
      refine st_nil hf ?_
      obtain rfl := Option.some.inj h
      exact rnd_l ⟨hf.sub ⟨rfl, rfl, rfl, trivial⟩, hp⟩
    replace h := ifF h hb
    refine wp_exit ?_
    refine th_e ?_
    obtain rfl := Option.some.inj h
    exact rnd_r (by simp) ⟨rfl, hf.sub ⟨rfl, trivial⟩, hp⟩
  clear hl hf hp
  intro e a w hne hO
  obtain ⟨rfl, hf, hp⟩ := hO
  refine ib_same ?_
  refine th_n ?_
  refine wp_seq ?_
  refine wp_reg ?_
  refine st_move hf rfl rfl (by decide) ?_
  clear hf; intro a ha hf; clear ha
  refine st_iand hf (by decide) rfl rfl rfl ?_
  clear hf; intro a ha hf; clear ha
  refine st_assign hf rfl rfl (by decide) ?_
  clear hf; intro a ha hf; clear ha
  refine st_nil hf ?_
  refine th_n ?_
  refine wp_ret ?_
  obtain rfl := Option.some.inj h
  exact ⟨rfl, ⟨hf.sub ⟨rfl, trivial⟩, hp⟩⟩

noncomputable def f_plane_Turn (zx0 : (Fl × Fl)) (quarters1 : Int) : Option (Fl × Fl) := (if ((iand .i64 quarters1 (3 : Int)) == (1 : Int)) = true then (some ((fneg zx0.2), zx0.1)) else (if ((iand .i64 quarters1 (3 : Int)) == (2 : Int)) = true then (some ((fneg zx0.1), (fneg zx0.2))) else (if ((iand .i64 quarters1 (3 : Int)) == (3 : Int)) = true then (some (zx0.2, (fneg zx0.1))) else (some zx0))))
theorem f_plane_Turn_c {S : Nat → Prop} {w0 w : World} {ow : List Res} (hp : Hp S w0 w ow) (bzx0 czx0 : Nat) (zx0 : Fl × Fl) (hzx0 : zx0.1.rep bzx0) (kzx0 : zx0.2.rep czx0) (quarters1 : Int) {r : (Fl × Fl)} (h : f_plane_Turn zx0 quarters1 = some r) :
    Calls Try.prog 8 #[.complex .f64 bzx0 czx0, .int .i64 quarters1] w (fun e w' => ∃ (b0 : Nat) (b1 : Nat), e = .returned (.complex .f64 b0 b1) ∧ Fl.rep b0 r.1 ∧ Fl.rep b1 r.2 ∧ Hp S w0 w' (ow)) := by
  unfold f_plane_Turn at h
  refine enter (n := 33) (args := [.complex .f64 bzx0 czx0, .int .i64 quarters1]) Try.func8 rfl rfl (Nat.le_of_ble_eq_true rfl) fun a hf => ?_
  replace hf : Fr 33 a [(0, .complex .f64 bzx0 czx0), (1, .int .i64 quarters1)] := hf
  refine wp_mono (Q := fun e a w => e = .ret ∧ ∃ (b0 : Nat) (b1 : Nat), Fr 33 a [(4, .complex .f64 b0 b1)] ∧ Fl.rep b0 r.1 ∧ Fl.rep b1 r.2 ∧ Hp S w0 w (ow)) ?_ ?_
  rotate_left
  · rintro e a w ⟨rfl, x0, x1, hf, y0, y1, hp⟩
    exact ret1 hf rfl rfl ⟨x0, x1, rfl, y0, y1, hp⟩
  refine wp_seq ?_
  refine wp_reg ?_
  refine st_assign hf rfl rfl (by decide) ?_
  clear hf; intro a ha hf; clear ha
  refine st_nil hf ?_
  refine th_n ?_
  refine wp_seq ?_
  refine wp_seq ?_
  refine wp_reg ?_
  refine st_move hf rfl rfl (by decide) ?_
  clear hf; intro a ha hf; clear ha
  refine st_iand hf (by decide) rfl rfl rfl ?_
  clear hf; intro a ha hf; clear ha
  refine st_nil hf ?_
  refine th_n ?_
  refine wp_block ?_
  refine wp_seq ?_
  refine wp_reg ?_
  refine st_ieql hf (by decide) rfl rfl rfl ?_
  clear hf; intro a ha hf; clear ha
  refine st_assign hf rfl rfl (by decide) ?_
  clear hf; intro a ha hf; clear ha
  refine st_nil hf ?_
  refine th_n ?_
  refine wp_if hf rfl (fun hb => ?_) (fun hb => ?_)
  · replace h := ifT h hb
    refine wp_seq ?_
    refine wp_reg ?_
    refine st_move hf rfl rfl (by decide) ?_
    clear hf; intro a ha hf; clear ha
    refine st_imag hf (by decide) rfl rfl ?_
    clear hf; intro a ha hf; clear ha
    refine st_fneg hf (by decide) rfl rfl ?_
    clear hf; intro a ha hf; clear ha
    refine st_move hf rfl rfl (by decide) ?_
    clear hf; intro a ha hf; clear ha
    refine st_real hf (by decide) rfl rfl ?_
    clear hf; intro a ha hf; clear ha
    refine st_complex hf (by decide) rfl rfl rfl ?_
    clear hf; intro a ha hf; clear ha
    refine st_assign hf rfl rfl (by decide) ?_
    clear hf; intro a ha hf; clear ha
    refine st_nil hf ?_
    refine th_n ?_
    refine wp_ret ?_
    refine ib_r ?_
    refine th_r ?_
    obtain rfl := Option.some.inj h
    exact ⟨rfl, ⟨_, _, hf.sub ⟨rfl, trivial⟩, (fneg_rep kzx0), hzx0, hp⟩⟩
  replace h := ifF h hb
  refine wp_seq ?_
  refine wp_reg ?_
  refine st_ieql hf (by decide) rfl rfl rfl ?_
  clear hf; intro a ha hf; clear ha
  refine st_assign hf rfl rfl (by decide) ?_
  clear hf; intro a ha hf; clear ha
  refine st_nil hf ?_
  refine th_n ?_
  refine wp_if hf rfl (fun hb => ?_) (fun hb => ?_)
  · replace h := ifT h hb
    refine wp_seq ?_
    refine wp_reg ?_
    refine st_move hf rfl rfl (by decide) ?_
    clear hf; intro a ha hf; clear ha
    refine st_real hf (by decide) rfl rfl ?_
    clear hf; intro a ha hf; clear ha
    refine st_fneg hf (by decide) rfl rfl ?_
    clear hf; intro a ha hf; clear ha
    refine st_move hf rfl rfl (by decide) ?_
    clear hf; intro a ha hf; clear ha
    refine st_imag hf (by decide) rfl rfl ?_
    clear hf; intro a ha hf; clear ha
    refine st_fneg hf (by decide) rfl rfl ?_
    clear hf; intro a ha hf; clear ha
    refine st_complex hf (by decide) rfl rfl rfl ?_
    clear hf; intro a ha hf; clear ha
    refine st_assign hf rfl rfl (by decide) ?_
    clear hf; intro a ha hf; clear ha
    refine st_nil hf ?_
    refine th_n ?_
    refine wp_ret ?_
    refine ib_r ?_
    refine th_r ?_
    obtain rfl := Option.some.inj h
    exact ⟨rfl, ⟨_, _, hf.sub ⟨rfl, trivial⟩, (fneg_rep hzx0), (fneg_rep kzx0), hp⟩⟩
  replace h := ifF h hb
  refine wp_seq ?_
  refine wp_reg ?_
  refine st_ieql hf (by decide) rfl rfl rfl ?_
  clear hf; intro a ha hf; clear ha
  refine st_assign hf rfl rfl (by decide) ?_
  clear hf; intro a ha hf; clear ha
  refine st_nil hf ?_
  refine th_n ?_
  refine wp_if hf rfl (fun hb => ?_) (fun hb => ?_)
  · replace h := ifT h hb
    refine wp_seq ?_
    refine wp_reg ?_
    refine st_move hf rfl rfl (by decide) ?_
    clear hf; intro a ha hf; clear ha
    refine st_imag hf (by decide) rfl rfl ?_
    clear hf; intro a ha hf; clear ha
    refine st_move hf rfl rfl (by decide) ?_
    clear hf; intro a ha hf; clear ha
    refine st_real hf (by decide) rfl rfl ?_
    clear hf; intro a ha hf; clear ha
    refine st_fneg hf (by decide) rfl rfl ?_
    clear hf; intro a ha hf; clear ha
    refine st_complex hf (by decide) rfl rfl rfl ?_
    clear hf; intro a ha hf; clear ha
    refine st_assign hf rfl rfl (by decide) ?_
    clear hf; intro a ha hf; clear ha
    refine st_nil hf ?_
    refine th_n ?_
    refine wp_ret ?_
    refine ib_r ?_
    refine th_r ?_
    obtain rfl := Option.some.inj h
    exact ⟨rfl, ⟨_, _, hf.sub ⟨rfl, trivial⟩, kzx0, (fneg_rep hzx0), hp⟩⟩
  replace h := ifF h hb
  refine wp_skip ?_
  refine ib_n ?_
  refine th_n ?_
  refine wp_seq ?_
  refine wp_reg ?_
  refine st_move hf rfl rfl (by decide) ?_
  clear hf; intro a ha hf; clear ha
  refine st_assign hf rfl rfl (by decide) ?_
  clear hf; intro a ha hf; clear ha
  refine st_nil hf ?_
  refine th_n ?_
  refine wp_ret ?_
  obtain rfl := Option.some.inj h
  exact ⟨rfl, ⟨_, _, hf.sub ⟨rfl, trivial⟩, hzx0, kzx0, hp⟩⟩

noncomputable def f_tones_way_rows.s3c (l2 : (List (Fl × Fl))) (q3 : Int) (from11 : Int) (t47 : Int) (sx13 : (Fl × Fl)) (t57 : Int) : Option (((Fl × Fl) × Int) ⊕ (Fl × Fl)) := (if (decide (t57 < (((l2.drop ((from11).toNat)).take (((IntKind.i64.wrap (from11 + q3))).toNat - (from11).toNat)).length : Int))) = true then (if 0 ≤ t57 ∧ t57 < (((l2.drop ((from11).toNat)).take (((IntKind.i64.wrap (from11 + q3))).toNat - (from11).toNat)).length : Int) then ((f_tones_entry t47 t57).bind fun q50 => ((f_plane_Turn (gt ((l2.drop ((from11).toNat)).take (((IntKind.i64.wrap (from11 + q3))).toNat - (from11).toNat)) t57) q50).bind fun q52 => (some (Sum.inl ((cadd sx13 q52), (IntKind.i64.wrap (t57 + (1 : Int)))))))) else none) else (some (Sum.inr sx13)))
noncomputable def f_tones_way_rows.s3 (l2 : (List (Fl × Fl))) (q3 : Int) (from11 : Int) (t47 : Int) (s : ((Fl × Fl) × Int)) : Option (((Fl × Fl) × Int) ⊕ (Fl × Fl)) := f_tones_way_rows.s3c l2 q3 from11 t47 s.1 s.2
noncomputable def f_tones_way_rows.s2c (power1 : Int) (l2 : (List (Fl × Fl))) (q3 : Int) (from11 : Int) (out10 : (List (Fl × Fl))) (t47 : Int) : Option (((List (Fl × Fl)) × Int) ⊕ (List (Fl × Fl))) := (if (decide (t47 < q3)) = true then (if 0 ≤ from11 ∧ from11 ≤ (IntKind.i64.wrap (from11 + q3)) ∧ (IntKind.i64.wrap (from11 + q3)) ≤ (l2.length : Int) then ((loop (f_tones_way_rows.s3 l2 q3 from11 t47) ((Fl.bits 0, Fl.bits 0), (0 : Int))).bind (fun q62 => (if 0 ≤ (IntKind.i64.wrap (from11 + t47)) ∧ (IntKind.i64.wrap (from11 + t47)) < (out10.length : Int) then (some (Sum.inl ((out10.set ((IntKind.i64.wrap (from11 + t47))).toNat ((fmul q62.1 (fquo (Fl.bits 4607182418800017408) (fofi (ishl .i64 (1 : Int) power1)))), (fmul q62.2 (fquo (Fl.bits 4607182418800017408) (fofi (ishl .i64 (1 : Int) power1)))))), (IntKind.i64.wrap (t47 + (1 : Int)))))) else none))) else none) else (some (Sum.inr out10)))
noncomputable def f_tones_way_rows.s2 (power1 : Int) (l2 : (List (Fl × Fl))) (q3 : Int) (from11 : Int) (s : ((List (Fl × Fl)) × Int)) : Option (((List (Fl × Fl)) × Int) ⊕ (List (Fl × Fl))) := f_tones_way_rows.s2c power1 l2 q3 from11 s.1 s.2
noncomputable def f_tones_way_rows.s1c (power1 : Int) (l2 : (List (Fl × Fl))) (q3 : Int) (out10 : (List (Fl × Fl))) (from11 : Int) : Option (((List (Fl × Fl)) × Int) ⊕ (List (Fl × Fl))) := (if (decide (from11 < (l2.length : Int))) = true then ((loop (f_tones_way_rows.s2 power1 l2 q3 from11) (out10, (0 : Int))).bind (fun q68 => (some (Sum.inl (q68, (IntKind.i64.wrap (from11 + q3))))))) else (some (Sum.inr out10)))
noncomputable def f_tones_way_rows.s1 (power1 : Int) (l2 : (List (Fl × Fl))) (q3 : Int) (s : ((List (Fl × Fl)) × Int)) : Option (((List (Fl × Fl)) × Int) ⊕ (List (Fl × Fl))) := f_tones_way_rows.s1c power1 l2 q3 s.1 s.2
noncomputable def f_tones_way_rows (power1 : Int) (l2 : (List (Fl × Fl))) : Option ((List (Fl × Fl)) × Int) := ((f_tones_tones power1).bind fun q3 => ((if ((q3 == (0 : Int)) || (decide ((65536 : Int) < (l2.length : Int)))) = true then (some true) else (if q3 ≠ 0 then (some (decide ((0 : Int) < (((l2.length : Int)).tmod q3)))) else none)).bind fun z9 => (if z9 = true then (some ([], (1 : Int))) else (if 0 ≤ power1 then (if 0 ≤ (l2.length : Int) ∧ (l2.length : Int) ≤ (l2.length : Int) ∧ (l2.length : Int) * 16 ≤ 281474976710656 then ((loop (f_tones_way_rows.s1 power1 l2 q3) ((List.replicate ((l2.length : Int)).toNat (Fl.bits 0, Fl.bits 0)), (0 : Int))).bind (fun q69 => (some (q69, (0 : Int))))) else none) else none))))
theorem f_tones_way_rows_c {S : Nat → Prop} {w0 w : World} {ow : List Res} (hp : Hp S w0 w ow) (power1 : Int) (vl2 : Value) (l2 : (List (Fl × Fl))) (hl2 : RdS Ek.c128 S w0 vl2 l2) {r : ((List (Fl × Fl)) × Int)} (h : f_tones_way_rows power1 l2 = some r) :
    Calls Try.prog 21 #[.agg #[.func (.func 8) #[] #[]], .int .i64 power1, vl2] w (fun e w' => ∃ (u0 : Value), e = .returned (.tuple #[u0, .int .i64 r.2]) ∧ Hp S w0 w' (Res.sl Ek.c128 28 u0 r.1 :: ow)) := by
  unfold f_tones_way_rows at h
  refine enter (n := 88) (args := [.agg #[.func (.func 8) #[] #[]], .int .i64 power1, vl2]) Try.func21 rfl rfl (Nat.le_of_ble_eq_true rfl) fun a hf => ?_
  replace hf : Fr 88 a [(0, .agg #[.func (.func 8) #[] #[]]), (1, .int .i64 power1), (2, vl2)] := hf
  refine wp_mono (Q := fun e a w => e = .ret ∧ ∃ (u0 : Value), Fr 88 a [(6, u0), (7, .int .i64 r.2)] ∧ Hp S w0 w (Res.sl Ek.c128 28 u0 r.1 :: ow)) ?_ ?_
  rotate_left
  · rintro e a w ⟨rfl, x0, hf, hp⟩
    exact ret2 hf rfl rfl rfl ⟨x0, rfl, hp⟩
  refine wp_seq ?_
  refine wp_reg ?_
  refine st_boxO (cs := [.func (.func 8) #[] #[]]) hf (by decide) hp rfl rfl rfl ?_
  clear hf; intro a w v1 hf hp0; clear hp; have hp := hp0; clear hp0
  replace hp : Hp _ _ _ (Res.obj 55 v1 [.func (.func 8) #[] #[]] :: ow) := hp
  refine st_assign hf rfl rfl (by decide) ?_
  clear hf; intro a ha hf; clear ha
  refine st_assign hf rfl rfl (by decide) ?_
  clear hf; intro a ha hf; clear ha
  refine st_nil hf ?_
  refine th_n ?_
  refine wp_seq ?_
  refine wp_reg ?_
  refine st_move hf rfl rfl (by decide) ?_
  clear hf; intro a ha hf; clear ha
  obtain ⟨q3, hcall4, h⟩ := bnd h
  refine st_call hf (by decide) Try.func25 rfl rfl rfl rfl rfl (f_tones_tones_c hp _ hcall4) ?_
  rintro _ w ⟨rfl, hp0⟩
  clear hp; have hp := hp0; clear hp0
  replace hp : Hp _ _ _ (Res.obj 55 v1 [.func (.func 8) #[] #[]] :: ow) := hp
  refine ⟨_, rfl, ?_⟩
  clear hf; intro a hf
  refine st_assign hf rfl rfl (by decide) ?_
  clear hf; intro a ha hf; clear ha
  refine st_nil hf ?_
  refine th_n ?_
  refine wp_seq ?_
  refine wp_seq ?_
  refine wp_reg ?_
  refine st_move hf rfl rfl (by decide) ?_
  clear hf; intro a ha hf; clear ha
  refine st_ieql hf (by decide) rfl rfl rfl ?_
  clear hf; intro a ha hf; clear ha
  refine st_move hf rfl rfl (by decide) ?_
  clear hf; intro a ha hf; clear ha
  refine wpList_cut 4 (fun a w => Fr 88 a [(1, .int .i64 power1), (2, vl2), (3, optr v1 0), (8, .int .i64 q3), (24, .bool ((q3 == (0 : Int)) || (decide ((65536 : Int) < (l2.length : Int)))))] ∧ Hp S w0 w (Res.obj 55 v1 [.func (.func 8) #[] #[]] :: ow)) ?_ ?_
  · rcases Bool.eq_false_or_eq_true (q3 == (0 : Int)) with hb6 | hb6
    · skip
      refine st_skip hf (wantN hf rfl rfl hb6) rfl (by decide) ?_ rfl
      clear hf; intro a hf
      refine st_skip hf (wantN hf rfl rfl hb6) rfl (by decide) ?_ rfl
      clear hf; intro a hf
      refine st_skip hf (wantN hf rfl rfl hb6) rfl (by decide) ?_ rfl
      clear hf; intro a hf
      refine st_pick (v := .bool true) hf rfl rfl (fun hb' => ?_) (fun hb' => ?_) (by decide) ?_
      · rfl
      · exact absurd (hb6.symm.trans hb') (by decide)
      clear hf; intro a ha hf; clear ha
      refine st_nil hf (th_n ?_)
      exact ⟨hf.sub ⟨rfl, rfl, rfl, rfl, (by rw [hb6]; rfl), trivial⟩, hp⟩
    refine st_move hf (wantY hf rfl rfl hb6) rfl (by decide) ?_
    clear hf; intro a ha hf; clear ha
    refine st_len (E := Ek.c128) hf (by decide) Try.underlying26 (wantY hf rfl rfl hb6) rfl (hl2.sl hp) ?_
    clear hf; intro a ha hf; clear ha
    refine st_igtr hf (by decide) (wantY hf rfl rfl hb6) rfl rfl ?_
    clear hf; intro a ha hf; clear ha
    refine st_pick (v := .bool (decide ((65536 : Int) < (l2.length : Int)))) hf rfl rfl (fun hb' => ?_) (fun hb' => ?_) (by decide) ?_
    · exact absurd (hb6.symm.trans hb') (by decide)
    · rfl
    clear hf; intro a ha hf; clear ha
    refine st_nil hf (th_n ?_)
    exact ⟨hf.sub ⟨rfl, rfl, rfl, rfl, (by rw [hb6]; rfl), trivial⟩, hp⟩
  rintro a w ⟨hf, hp⟩
  refine st_move hf rfl rfl (by decide) ?_
  clear hf; intro a ha hf; clear ha
  obtain ⟨z9, hz7, h⟩ := bnd h
  refine wpList_cut 6 (fun a w => Fr 88 a [(1, .int .i64 power1), (2, vl2), (3, optr v1 0), (8, .int .i64 q3), (31, .bool z9)] ∧ Hp S w0 w (Res.obj 55 v1 [.func (.func 8) #[] #[]] :: ow)) ?_ ?_
  · rcases Bool.eq_false_or_eq_true ((q3 == (0 : Int)) || (decide ((65536 : Int) < (l2.length : Int)))) with hb8 | hb8
    · skip
      replace hz7 := ifT hz7 hb8
      refine st_skip hf (wantN hf rfl rfl hb8) rfl (by decide) ?_ rfl
      clear hf; intro a hf
      refine st_skip hf (wantN hf rfl rfl hb8) rfl (by decide) ?_ rfl
      clear hf; intro a hf
      refine st_skip hf (wantN hf rfl rfl hb8) rfl (by decide) ?_ rfl
      clear hf; intro a hf
      refine st_skip hf (wantN hf rfl rfl hb8) rfl (by decide) ?_ rfl
      clear hf; intro a hf
      refine st_skip hf (wantN hf rfl rfl hb8) rfl (by decide) ?_ rfl
      clear hf; intro a hf
      obtain rfl := Option.some.inj hz7
      refine st_pick (v := .bool true) hf rfl rfl (fun hb' => ?_) (fun hb' => ?_) (by decide) ?_
      · rfl
      · exact absurd (hb8.symm.trans hb') (by decide)
      clear hf; intro a ha hf; clear ha
      refine st_nil hf (th_n ?_)
      exact ⟨hf.sub ⟨rfl, rfl, rfl, rfl, rfl, trivial⟩, hp⟩
    replace hz7 := ifF hz7 hb8
    refine st_move hf (wantY hf rfl rfl hb8) rfl (by decide) ?_
    clear hf; intro a ha hf; clear ha
    refine st_len (E := Ek.c128) hf (by decide) Try.underlying26 (wantY hf rfl rfl hb8) rfl (hl2.sl hp) ?_
    clear hf; intro a ha hf; clear ha
    refine st_move hf (wantY hf rfl rfl hb8) rfl (by decide) ?_
    clear hf; intro a ha hf; clear ha
    obtain ⟨hc10, hz7⟩ := chk hz7
    refine st_irem hf (by decide) (wantY hf rfl rfl hb8) rfl rfl hc10 ?_
    clear hf; intro a ha hf; clear ha
    refine st_igtr hf (by decide) (wantY hf rfl rfl hb8) rfl rfl ?_
    clear hf; intro a ha hf; clear ha
    obtain rfl := Option.some.inj hz7
    refine st_pick (v := .bool (decide ((0 : Int) < (((l2.length : Int)).tmod q3)))) hf rfl rfl (fun hb' => ?_) (fun hb' => ?_) (by decide) ?_
    · exact absurd (hb8.symm.trans hb') (by decide)
    · rfl
    clear hf; intro a ha hf; clear ha
    refine st_nil hf (th_n ?_)
    exact ⟨hf.sub ⟨rfl, rfl, rfl, rfl, rfl, trivial⟩, hp⟩
  rintro a w ⟨hf, hp⟩
  refine st_nil hf ?_
  refine th_n ?_
  refine wp_if hf rfl (fun hb => ?_) (fun hb => ?_)
  · replace h := ifT h hb
    refine wp_seq ?_
    refine wp_reg ?_
    refine st_assign hf rfl rfl (by decide) ?_
    clear hf; intro a ha hf; clear ha
    refine st_assign hf rfl rfl (by decide) ?_
    clear hf; intro a ha hf; clear ha
    refine st_nil hf ?_
    refine th_n ?_
    refine wp_ret ?_
    refine th_r ?_
    obtain rfl := Option.some.inj h
    have hp := hp.nil Ek.c128 28
    have hp : Hp _ _ _ (Res.sl Ek.c128 28 (.slice none 0 0) ([]) :: ow) := Hp.sel (pre := [Res.sl Ek.c128 28 (.slice none 0 0) ([]), Res.obj 55 v1 [.func (.func 8) #[] #[]]]) (tail := ow) (rs' := [Res.sl Ek.c128 28 (.slice none 0 0) ([])]) hp [0] (by decide) (by simp) rfl
    exact ⟨rfl, ⟨_, hf.sub ⟨rfl, rfl, trivial⟩, hp⟩⟩
  replace h := ifF h hb
  refine wp_skip ?_
  refine th_n ?_
  refine wp_seq ?_
  refine wp_reg ?_
  refine st_move hf rfl rfl (by decide) ?_
  clear hf; intro a ha hf; clear ha
  obtain ⟨hc12, h⟩ := chk h
  refine st_ishl hf (by decide) rfl rfl rfl hc12 ?_
  clear hf; intro a ha hf; clear ha
  refine st_conv_if Try.underlying3 Try.underlying34 hf (by decide) rfl rfl ?_
  clear hf; intro a ha hf; clear ha
  refine st_farith (op := .quo) rfl hf (by decide) hp rfl rfl rfl (show Fl.rep 4607182418800017408 (Fl.bits 4607182418800017408) from rfl) (show Fl.rep (FloatKind.f64.nearest (ishl .i64 (1 : Int) power1)) (fofi (ishl .i64 (1 : Int) power1)) from rfl) ?_
  clear hf; intro a w bb13 y14 hf hp0; clear hp; have hp := hp0; clear hp0
  replace hp : Hp _ _ _ (Res.obj 55 v1 [.func (.func 8) #[] #[]] :: ow) := hp
  refine st_assign hf rfl rfl (by decide) ?_
  clear hf; intro a ha hf; clear ha
  refine st_nil hf ?_
  refine th_n ?_
  refine wp_seq ?_
  refine wp_reg ?_
  refine st_move hf rfl rfl (by decide) ?_
  clear hf; intro a ha hf; clear ha
  refine st_len (E := Ek.c128) hf (by decide) Try.underlying26 rfl rfl (hl2.sl hp) ?_
  clear hf; intro a ha hf; clear ha
  obtain ⟨hc15, h⟩ := chk h
  refine st_make (E := Ek.c128) hf (by decide) elt28 Try.underlying26 (by decide) hp rfl rfl rfl hc15.1 hc15.2.1 hc15.2.2 ?_
  clear hf; intro a w v16 hf hp0; clear hp; have hp := hp0; clear hp0
  replace hp : Hp _ _ _ (Res.sl Ek.c128 28 v16 (List.replicate ((l2.length : Int)).toNat (Fl.bits 0, Fl.bits 0)) :: Res.obj 55 v1 [.func (.func 8) #[] #[]] :: ow) := hp
  refine st_assign hf rfl rfl (by decide) ?_
  clear hf; intro a ha hf; clear ha
  refine st_nil hf ?_
  refine th_n ?_
  refine wp_seq ?_
  refine wp_seq ?_
  refine wp_reg ?_
  refine st_assign hf rfl rfl (by decide) ?_
  clear hf; intro a ha hf; clear ha
  refine st_nil hf ?_
  refine th_n ?_
  refine wp_block ?_
  obtain ⟨q69, hl, h⟩ := bnd h
  refine wp_loop_pure (f := (f_tones_way_rows.s1 power1 l2 q3)) (s := ((List.replicate ((l2.length : Int)).toNat (Fl.bits 0, Fl.bits 0)), (0 : Int))) (fun s a w => ∃ (v18 : Value), Fr 88 a [(2, vl2), (3, optr v1 0), (8, .int .i64 q3), (9, .float .f64 bb13), (10, v18), (11, .int .i64 s.2)] ∧ Hp S w0 w (Res.sl Ek.c128 28 v18 s.1 :: Res.obj 55 v1 [.func (.func 8) #[] #[]] :: ow)) (fun q e a w => e = .exit 0 ∧ ∃ (v20 : Value), Fr 88 a [(10, v20)] ∧ Hp S w0 w (Res.sl Ek.c128 28 v20 q :: ow)) ?_ hl ⟨_, hf.sub ⟨rfl, rfl, rfl, rfl, rfl, rfl, trivial⟩, hp⟩ ?_
  · clear hl hf hp
    intro s x a w h hI
    obtain ⟨out10, from11⟩ := s
    obtain ⟨v18, hf, hp⟩ : ∃ (v18 : Value), Fr 88 a [(2, vl2), (3, optr v1 0), (8, .int .i64 q3), (9, .float .f64 bb13), (10, v18), (11, .int .i64 from11)] ∧ Hp S w0 w (Res.sl Ek.c128 28 v18 out10 :: Res.obj 55 v1 [.func (.func 8) #[] #[]] :: ow) := hI
    replace h : f_tones_way_rows.s1c power1 l2 q3 out10 from11 = some x := h
    unfold f_tones_way_rows.s1c at h
    refine wp_seq ?_
    refine wp_seq ?_
    refine wp_reg ?_
    refine st_move hf rfl rfl (by decide) ?_
    clear hf; intro a ha hf; clear ha
    refine st_move hf rfl rfl (by decide) ?_
    clear hf; intro a ha hf; clear ha
    refine st_len (E := Ek.c128) hf (by decide) Try.underlying26 rfl rfl (hl2.sl hp) ?_
    clear hf; intro a ha hf; clear ha
    refine st_ilss hf (by decide) rfl rfl rfl ?_
    clear hf; intro a ha hf; clear ha
    refine st_nil hf ?_
    refine th_n ?_
    refine wp_if hf rfl (fun hb => ?_) (fun hb => ?_)
    · replace h := ifT h hb
      refine wp_skip ?_
      refine th_n ?_
      refine wp_seq ?_
      refine wp_block ?_
      refine wp_seq ?_
      refine wp_reg ?_
      refine st_move hf rfl rfl (by decide) ?_
      clear hf; intro a ha hf; clear ha
      refine st_move hf rfl rfl (by decide) ?_
      clear hf; intro a ha hf; clear ha
      refine st_nil hf ?_
      refine th_n ?_
      refine wp_block ?_
      obtain ⟨q68, hl, h⟩ := bnd h
      refine wp_loop_pure (f := (f_tones_way_rows.s2 power1 l2 q3 from11)) (s := (out10, (0 : Int))) (fun s a w => ∃ (v22 : Value), Fr 88 a [(2, vl2), (3, optr v1 0), (8, .int .i64 q3), (9, .float .f64 bb13), (10, v22), (11, .int .i64 from11), (46, .int .i64 q3), (47, .int .i64 s.2)] ∧ Hp S w0 w (Res.sl Ek.c128 28 v22 s.1 :: Res.obj 55 v1 [.func (.func 8) #[] #[]] :: ow)) (fun q e a w => e = .exit 2 ∧ ∃ (v24 : Value), Fr 88 a [(2, vl2), (3, optr v1 0), (8, .int .i64 q3), (9, .float .f64 bb13), (10, v24), (11, .int .i64 from11)] ∧ Hp S w0 w (Res.sl Ek.c128 28 v24 q :: Res.obj 55 v1 [.func (.func 8) #[] #[]] :: ow)) ?_ hl ⟨_, hf.sub ⟨rfl, rfl, rfl, rfl, rfl, rfl, rfl, rfl, trivial⟩, hp⟩ ?_
      · clear hl hf hp
        intro s x a w h hI
        obtain ⟨out10, t47⟩ := s
        obtain ⟨v22, hf, hp⟩ : ∃ (v22 : Value), Fr 88 a [(2, vl2), (3, optr v1 0), (8, .int .i64 q3), (9, .float .f64 bb13), (10, v22), (11, .int .i64 from11), (46, .int .i64 q3), (47, .int .i64 t47)] ∧ Hp S w0 w (Res.sl Ek.c128 28 v22 out10 :: Res.obj 55 v1 [.func (.func 8) #[] #[]] :: ow) := hI
        replace h : f_tones_way_rows.s2c power1 l2 q3 from11 out10 t47 = some x := h
        unfold f_tones_way_rows.s2c at h
        refine wp_seq ?_
        refine wp_reg ?_
        refine st_ilss hf (by decide) rfl rfl rfl ?_
        clear hf; intro a ha hf; clear ha
        refine st_nil hf ?_
        refine th_n ?_
        refine wp_seq ?_
        refine wp_if hf rfl (fun hb => ?_) (fun hb => ?_)
        · replace h := ifT h hb
          refine wp_skip ?_
          refine th_n ?_
          refine wp_seq ?_
          refine wp_block ?_
          refine wp_seq ?_
          refine wp_reg ?_
          refine st_move hf rfl rfl (by decide) ?_
          clear hf; intro a ha hf; clear ha
          refine st_assign hf rfl rfl (by decide) ?_
          clear hf; intro a ha hf; clear ha
          refine st_nil hf ?_
          refine th_n ?_
          refine wp_seq ?_
          refine wp_reg ?_
          refine st_assign hf rfl rfl (by decide) ?_
          clear hf; intro a ha hf; clear ha
          refine st_nil hf ?_
          refine th_n ?_
          refine wp_seq ?_
          refine wp_seq ?_
          refine wp_reg ?_
          refine st_move hf rfl rfl (by decide) ?_
          clear hf; intro a ha hf; clear ha
          refine st_move hf rfl rfl (by decide) ?_
          clear hf; intro a ha hf; clear ha
          refine st_move hf rfl rfl (by decide) ?_
          clear hf; intro a ha hf; clear ha
          refine st_move hf rfl rfl (by decide) ?_
          clear hf; intro a ha hf; clear ha
          refine st_iadd hf (by decide) rfl rfl rfl ?_
          clear hf; intro a ha hf; clear ha
          obtain ⟨hc26, h⟩ := chk h
          have hc27 : (from11).toNat ≤ ((IntKind.i64.wrap (from11 + q3))).toNat := by omega
          have hc28 : ((IntKind.i64.wrap (from11 + q3))).toNat ≤ l2.length := by omega
          refine st_cutS (E := Ek.c128) hf (by decide) Try.underlying26 elt28 rfl rfl (hl2.sl hp) (.inr ⟨_, _, rfl, evI rfl hc26.1⟩) (.inr ⟨_, _, rfl, evI rfl (by omega)⟩) hc27 hc28 ?_
          clear hf; intro a ha hf; clear ha
          refine st_len (E := Ek.c128) hf (by decide) Try.underlying26 rfl rfl ((RdS.cut hl2 hc27 hc28).sl hp) ?_
          clear hf; intro a ha hf; clear ha
          refine st_move hf rfl rfl (by decide) ?_
          clear hf; intro a ha hf; clear ha
          refine st_nil hf ?_
          refine th_n ?_
          refine wp_block ?_
          obtain ⟨q62, hl, h⟩ := bnd h
          have hp : Hp _ _ _ (Res.obj 55 v1 [.func (.func 8) #[] #[]] :: Res.sl Ek.c128 28 v22 out10 :: ow) := Hp.sel (pre := [Res.sl Ek.c128 28 v22 out10, Res.obj 55 v1 [.func (.func 8) #[] #[]]]) (tail := ow) (rs' := [Res.obj 55 v1 [.func (.func 8) #[] #[]], Res.sl Ek.c128 28 v22 out10]) hp [1, 0] (by decide) (by simp) rfl
          refine wp_loop_pure (f := (f_tones_way_rows.s3 l2 q3 from11 t47)) (s := ((Fl.bits 0, Fl.bits 0), (0 : Int))) (fun s a w => ∃ (bb29 : Nat) (bb30 : Nat), Fr 88 a [(2, vl2), (3, optr v1 0), (8, .int .i64 q3), (9, .float .f64 bb13), (10, v22), (11, .int .i64 from11), (12, .int .i64 t47), (13, .complex .f64 bb29 bb30), (46, .int .i64 q3), (47, .int .i64 t47), (55, (GL.cut vl2 (from11).toNat (((IntKind.i64.wrap (from11 + q3))).toNat) 1)), (56, .int .i64 (((l2.drop ((from11).toNat)).take (((IntKind.i64.wrap (from11 + q3))).toNat - (from11).toNat)).length : Int)), (57, .int .i64 s.2)] ∧ Fl.rep bb29 s.1.1 ∧ Fl.rep bb30 s.1.2 ∧ Hp S w0 w (Res.obj 55 v1 [.func (.func 8) #[] #[]] :: Res.sl Ek.c128 28 v22 out10 :: ow)) (fun q e a w => e = .exit 4 ∧ ∃ (bb33 : Nat) (bb34 : Nat), Fr 88 a [(2, vl2), (3, optr v1 0), (8, .int .i64 q3), (9, .float .f64 bb13), (10, v22), (11, .int .i64 from11), (12, .int .i64 t47), (13, .complex .f64 bb33 bb34), (46, .int .i64 q3), (47, .int .i64 t47)] ∧ Fl.rep bb33 q.1 ∧ Fl.rep bb34 q.2 ∧ Hp S w0 w (Res.obj 55 v1 [.func (.func 8) #[] #[]] :: Res.sl Ek.c128 28 v22 out10 :: ow)) ?_ hl ⟨_, _, hf.sub ⟨rfl, rfl, rfl, rfl, rfl, rfl, rfl, rfl, rfl, rfl, rfl, rfl, rfl, trivial⟩, rfl, rfl, hp⟩ ?_
          · clear hl hf hp
            intro s x a w h hI
            obtain ⟨sx13, t57⟩ := s
            obtain ⟨bb29, bb30, hf, y31, y32, hp⟩ : ∃ (bb29 : Nat) (bb30 : Nat), Fr 88 a [(2, vl2), (3, optr v1 0), (8, .int .i64 q3), (9, .float .f64 bb13), (10, v22), (11, .int .i64 from11), (12, .int .i64 t47), (13, .complex .f64 bb29 bb30), (46, .int .i64 q3), (47, .int .i64 t47), (55, (GL.cut vl2 (from11).toNat (((IntKind.i64.wrap (from11 + q3))).toNat) 1)), (56, .int .i64 (((l2.drop ((from11).toNat)).take (((IntKind.i64.wrap (from11 + q3))).toNat - (from11).toNat)).length : Int)), (57, .int .i64 t57)] ∧ Fl.rep bb29 sx13.1 ∧ Fl.rep bb30 sx13.2 ∧ Hp S w0 w (Res.obj 55 v1 [.func (.func 8) #[] #[]] :: Res.sl Ek.c128 28 v22 out10 :: ow) := hI
            replace h : f_tones_way_rows.s3c l2 q3 from11 t47 sx13 t57 = some x := h
            unfold f_tones_way_rows.s3c at h
            refine wp_seq ?_
            refine wp_reg ?_
            refine st_ilss hf (by decide) rfl rfl rfl ?_
            clear hf; intro a ha hf; clear ha
            refine st_nil hf ?_
            refine th_n ?_
            refine wp_seq ?_
            refine wp_if hf rfl (fun hb => ?_) (fun hb => ?_)
            · replace h := ifT h hb
              refine wp_skip ?_
              refine th_n ?_
              refine wp_seq ?_
              refine wp_block ?_
              refine wp_seq ?_
              refine wp_reg ?_
              refine st_move hf rfl rfl (by decide) ?_
              clear hf; intro a ha hf; clear ha
              obtain ⟨hc37, h⟩ := chk h
              refine st_index (E := Ek.c128) hf (by decide) Try.underlying26 elt28 rfl rfl rfl ((RdS.cut hl2 hc27 hc28).sl hp) hc37.1 hc37.2 ?_
              clear hf; intro a ha hf; clear ha
              refine st_ldC hf (by decide) pl28 rfl rfl ((RdS.cut hl2 hc27 hc28).sl hp) hc37.1 hc37.2 ?_
              clear hf; intro a bb38 bb39 y40 y41 ha hf; clear ha
              refine st_assign hf rfl rfl (by decide) ?_
              clear hf; intro a ha hf; clear ha
              refine st_assign hf rfl rfl (by decide) ?_
              clear hf; intro a ha hf; clear ha
              refine st_nil hf ?_
              refine th_n ?_
              obtain ⟨S42, hp43, rd44, up45, bk46⟩ := Hp.lendO hp (i := 0) rfl
              have rl47 := ((hl2.now hp).mono up45)
              have rl48 := rd44
              have rl49 := (((RdS.cut hl2 hc27 hc28).now hp).mono up45)
              obtain ⟨q50, hcall51, h⟩ := bnd h
              obtain ⟨q52, hcall53, h⟩ := bnd h
              refine wp_cutN (fun a w => ∃ (bb58 : Nat) (bb59 : Nat), Fl.rep bb58 (cadd sx13 q52).1 ∧ Fl.rep bb59 (cadd sx13 q52).2 ∧ Fr 88 a [(2, vl2), (3, optr v1 0), (8, .int .i64 q3), (9, .float .f64 bb13), (10, v22), (11, .int .i64 from11), (12, .int .i64 t47), (13, .complex .f64 bb58 bb59), (46, .int .i64 q3), (47, .int .i64 t47), (55, (GL.cut vl2 (from11).toNat (((IntKind.i64.wrap (from11 + q3))).toNat) 1)), (56, .int .i64 (((l2.drop ((from11).toNat)).take (((IntKind.i64.wrap (from11 + q3))).toNat - (from11).toNat)).length : Int)), (57, .int .i64 t57)] ∧ Hp S w0 w (Res.obj 55 v1 [.func (.func 8) #[] #[]] :: Res.sl Ek.c128 28 v22 out10 :: ow)) ?_ ?_
              · have hp := hp43.same (Same.drew w)
                refine dr_begin' (fun a w => ∃ (bb58 : Nat) (bb59 : Nat), Fl.rep bb58 (cadd sx13 q52).1 ∧ Fl.rep bb59 (cadd sx13 q52).2 ∧ Fr 88 a [(2, vl2), (3, optr v1 0), (8, .int .i64 q3), (9, .float .f64 bb13), (10, v22), (11, .int .i64 from11), (12, .int .i64 t47), (13, .complex .f64 bb58 bb59), (46, .int .i64 q3), (47, .int .i64 t47), (55, (GL.cut vl2 (from11).toNat (((IntKind.i64.wrap (from11 + q3))).toNat) 1)), (56, .int .i64 (((l2.drop ((from11).toNat)).take (((IntKind.i64.wrap (from11 + q3))).toNat - (from11).toNat)).length : Int)), (57, .int .i64 t57)] ∧ Hp S w0 w (Res.obj 55 v1 [.func (.func 8) #[] #[]] :: Res.sl Ek.c128 28 v22 out10 :: ow)) (fun w' => ∃ l, Hp S42 w w' l) [] (by kernel_rfl) ?_
                refine dr_take 0 (.complex .f64 bb29 bb30) rfl (by kernel_rfl) (by kernel_rfl) (by kernel_rfl) (by kernel_rfl) rfl rfl hf (by decide) rfl (fun w hp => ?_) ⟨_, hp⟩ ?_
                · obtain ⟨_, hp⟩ := hp
                  refine st_move hf rfl rfl (by decide) ?_
                  clear hf; intro a ha hf
                  exact st_nil hf (th_n ⟨ha, rfl⟩)
                clear hf; intro a hf
                refine dr_take 1 (optr v1 0) rfl (by kernel_rfl) (by kernel_rfl) (by kernel_rfl) (by kernel_rfl) rfl rfl hf (by decide) rfl (fun w hp => ?_) ⟨_, hp⟩ ?_
                · obtain ⟨_, hp⟩ := hp
                  refine st_fa (o' := 0) hf (by decide) (off := 0) (sz := 1) (by kernel_rfl) (by decide) rfl rfl (rl48.ob hp) rfl ?_
                  clear hf; intro a ha hf
                  exact st_nil hf (th_n ⟨ha, rfl⟩)
                clear hf; intro a hf
                refine dr_take 2 (.func (.func 8) #[] #[]) rfl (by kernel_rfl) (by kernel_rfl) (by kernel_rfl) (by kernel_rfl) rfl rfl hf (by decide) rfl (fun w hp => ?_) ⟨_, hp⟩ ?_
                · obtain ⟨_, hp⟩ := hp
                  refine st_ldO (u := .func (.func 8) #[] #[]) hf (by decide) pl29 rfl rfl (rl48.ob hp) rfl ?_
                  clear hf; intro a ha hf
                  exact st_nil hf (th_n ⟨ha, rfl⟩)
                clear hf; intro a hf
                refine dr_take 3 (.complex .f64 bb38 bb39) rfl (by kernel_rfl) (by kernel_rfl) (by kernel_rfl) (by kernel_rfl) rfl rfl hf (by decide) rfl (fun w hp => ?_) ⟨_, hp⟩ ?_
                · obtain ⟨_, hp⟩ := hp
                  refine st_move hf rfl rfl (by decide) ?_
                  clear hf; intro a ha hf
                  exact st_nil hf (th_n ⟨ha, rfl⟩)
                clear hf; intro a hf
                refine dr_take 4 (.int .i64 t47) rfl (by kernel_rfl) (by kernel_rfl) (by kernel_rfl) (by kernel_rfl) rfl rfl hf (by decide) rfl (fun w hp => ?_) ⟨_, hp⟩ ?_
                · obtain ⟨_, hp⟩ := hp
                  refine st_move hf rfl rfl (by decide) ?_
                  clear hf; intro a ha hf
                  exact st_nil hf (th_n ⟨ha, rfl⟩)
                clear hf; intro a hf
                refine dr_take 5 (.int .i64 t57) rfl (by kernel_rfl) (by kernel_rfl) (by kernel_rfl) (by kernel_rfl) rfl rfl hf (by decide) rfl (fun w hp => ?_) ⟨_, hp⟩ ?_
                · obtain ⟨_, hp⟩ := hp
                  refine st_move hf rfl rfl (by decide) ?_
                  clear hf; intro a ha hf
                  exact st_nil hf (th_n ⟨ha, rfl⟩)
                clear hf; intro a hf
                refine dr_one 6 rfl (by kernel_rfl) ?_
                refine st_call hf (by decide) Try.func26 rfl rfl rfl rfl rfl (f_tones_entry_c hp _ _ hcall51) ?_
                rintro _ w ⟨rfl, hp0⟩
                clear hp; have hp := hp0; clear hp0
                replace hp : Hp _ _ _ (Res.sl Ek.c128 28 v22 out10 :: ow) := hp
                refine ⟨_, rfl, ?_⟩
                clear hf; intro a hf
                refine st_nil hf (th_n ⟨fun _ _ => ⟨_, hp⟩, ?_⟩)
                refine dr_one 7 rfl (by kernel_rfl) ?_
                refine st_call hf (by decide) Try.func8 rfl rfl rfl rfl rfl (f_plane_Turn_c hp _ _ _ (show Fl.rep bb38 ((gt ((l2.drop ((from11).toNat)).take (((IntKind.i64.wrap (from11 + q3))).toNat - (from11).toNat)) t57)).1 from y40) (show Fl.rep bb39 ((gt ((l2.drop ((from11).toNat)).take (((IntKind.i64.wrap (from11 + q3))).toNat - (from11).toNat)) t57)).2 from y41) _ hcall53) ?_
                rintro _ w ⟨v54, v55, rfl, y56, y57, hp0⟩
                clear hp; have hp := hp0; clear hp0
                replace hp : Hp _ _ _ (Res.sl Ek.c128 28 v22 out10 :: ow) := hp
                refine ⟨_, rfl, ?_⟩
                clear hf; intro a hf
                refine st_nil hf (th_n ⟨fun _ _ => ⟨_, hp⟩, ?_⟩)
                refine dr_one 8 rfl (by kernel_rfl) ?_
                refine st_carith (op := .add) (zx := sx13) (zy := q52) rfl hf (by decide) hp rfl rfl rfl y31 y32 y56 y57 ?_
                clear hf; intro a w bb58 bb59 y60 y61 hf hp0; clear hp; have hp := hp0; clear hp0
                replace hp : Hp _ _ _ (Res.sl Ek.c128 28 v22 out10 :: ow) := hp
                refine st_nil hf (th_n ⟨fun _ _ => ⟨_, hp⟩, ?_⟩)
                refine dr_take 9 (.complex .f64 bb58 bb59) rfl (by kernel_rfl) (by kernel_rfl) (by kernel_rfl) (by kernel_rfl) rfl rfl hf (by decide) rfl (fun w hp => ?_) ⟨_, hp⟩ ?_
                · obtain ⟨_, hp⟩ := hp
                  refine st_assign hf rfl rfl (by decide) ?_
                  clear hf; intro a ha hf
                  exact st_nil hf (th_n ⟨ha, rfl⟩)
                clear hf; intro a hf
                refine dr_end (by kernel_rfl) ?_ _
                have hp := bk46 _ _ hp
                exact ⟨bb58, bb59, y60, y61, hf.sub ⟨rfl, rfl, rfl, rfl, rfl, rfl, rfl, rfl, rfl, rfl, rfl, rfl, rfl, trivial⟩, hp⟩
              rintro a w ⟨bb58, bb59, y60, y61, hf, hp⟩
              refine ib_n ?_
              refine th_n ?_
              refine wp_reg ?_
              refine st_iadd hf (by decide) rfl rfl rfl ?_
              clear hf; intro a ha hf; clear ha
              refine st_move hf rfl rfl (by decide) ?_
              clear hf; intro a ha hf; clear ha
              refine st_nil hf ?_
              obtain rfl := Option.some.inj h
              exact rnd_l ⟨_, _, hf.sub ⟨rfl, rfl, rfl, rfl, rfl, rfl, rfl, rfl, rfl, rfl, rfl, rfl, rfl, trivial⟩, y60, y61, hp⟩
            replace h := ifF h hb
            refine wp_exit ?_
            refine th_e ?_
            obtain rfl := Option.some.inj h
            exact rnd_r (by simp) ⟨rfl, _, _, hf.sub ⟨rfl, rfl, rfl, rfl, rfl, rfl, rfl, rfl, rfl, rfl, trivial⟩, y31, y32, hp⟩
          clear hl hf hp
          intro e a w hne hO
          obtain ⟨rfl, bb33, bb34, hf, y35, y36, hp⟩ := hO
          refine ib_same ?_
          refine th_n ?_
          refine wp_reg ?_
          refine st_move hf rfl rfl (by decide) ?_
          clear hf; intro a ha hf; clear ha
          refine st_move hf rfl rfl (by decide) ?_
          clear hf; intro a ha hf; clear ha
          refine st_move hf rfl rfl (by decide) ?_
          clear hf; intro a ha hf; clear ha
          refine st_iadd hf (by decide) rfl rfl rfl ?_
          clear hf; intro a ha hf; clear ha
          refine st_move hf rfl rfl (by decide) ?_
          clear hf; intro a ha hf; clear ha
          refine st_real hf (by decide) rfl rfl ?_
          clear hf; intro a ha hf; clear ha
          refine st_move hf rfl rfl (by decide) ?_
          clear hf; intro a ha hf; clear ha
          refine st_farith (op := .mul) rfl hf (by decide) hp rfl rfl rfl (show Fl.rep bb33 q62.1 from y35) (show Fl.rep bb13 (fquo (Fl.bits 4607182418800017408) (fofi (ishl .i64 (1 : Int) power1))) from y14) ?_
          clear hf; intro a w bb63 y64 hf hp0; clear hp; have hp := hp0; clear hp0
          replace hp : Hp _ _ _ (Res.obj 55 v1 [.func (.func 8) #[] #[]] :: Res.sl Ek.c128 28 v22 out10 :: ow) := hp
          refine st_move hf rfl rfl (by decide) ?_
          clear hf; intro a ha hf; clear ha
          refine st_imag hf (by decide) rfl rfl ?_
          clear hf; intro a ha hf; clear ha
          refine st_move hf rfl rfl (by decide) ?_
          clear hf; intro a ha hf; clear ha
          refine st_farith (op := .mul) rfl hf (by decide) hp rfl rfl rfl (show Fl.rep bb34 q62.2 from y36) (show Fl.rep bb13 (fquo (Fl.bits 4607182418800017408) (fofi (ishl .i64 (1 : Int) power1))) from y14) ?_
          clear hf; intro a w bb65 y66 hf hp0; clear hp; have hp := hp0; clear hp0
          replace hp : Hp _ _ _ (Res.obj 55 v1 [.func (.func 8) #[] #[]] :: Res.sl Ek.c128 28 v22 out10 :: ow) := hp
          refine st_complex hf (by decide) rfl rfl rfl ?_
          clear hf; intro a ha hf; clear ha
          obtain ⟨hc67, h⟩ := chk h
          refine st_index (E := Ek.c128) hf (by decide) Try.underlying26 elt28 rfl rfl rfl (hp.sl (i := 1) rfl) hc67.1 hc67.2 ?_
          clear hf; intro a ha hf; clear ha
          refine st_store (E := Ek.c128) hf elt28 hp (i := 1) rfl rfl rfl rfl (show Ek.c128.rep [.complex .f64 bb63 bb65] ((fmul q62.1 (fquo (Fl.bits 4607182418800017408) (fofi (ishl .i64 (1 : Int) power1)))), (fmul q62.2 (fquo (Fl.bits 4607182418800017408) (fofi (ishl .i64 (1 : Int) power1))))) from ⟨_, _, rfl, y64, y66⟩) hc67.1 hc67.2 ?_
          clear hf; intro a w hf hp0; clear hp; have hp := hp0; clear hp0
          replace hp : Hp _ _ _ (Res.obj 55 v1 [.func (.func 8) #[] #[]] :: Res.sl Ek.c128 28 v22 (out10.set ((IntKind.i64.wrap (from11 + t47))).toNat ((fmul q62.1 (fquo (Fl.bits 4607182418800017408) (fofi (ishl .i64 (1 : Int) power1)))), (fmul q62.2 (fquo (Fl.bits 4607182418800017408) (fofi (ishl .i64 (1 : Int) power1)))))) :: ow) := hp
          refine st_nil hf ?_
          refine ib_n ?_
          refine th_n ?_
          refine wp_reg ?_
          refine st_iadd hf (by decide) rfl rfl rfl ?_
          clear hf; intro a ha hf; clear ha
          refine st_move hf rfl rfl (by decide) ?_
          clear hf; intro a ha hf; clear ha
          refine st_nil hf ?_
          obtain rfl := Option.some.inj h
          have hp : Hp _ _ _ (Res.sl Ek.c128 28 v22 (out10.set ((IntKind.i64.wrap (from11 + t47))).toNat ((fmul q62.1 (fquo (Fl.bits 4607182418800017408) (fofi (ishl .i64 (1 : Int) power1)))), (fmul q62.2 (fquo (Fl.bits 4607182418800017408) (fofi (ishl .i64 (1 : Int) power1)))))) :: Res.obj 55 v1 [.func (.func 8) #[] #[]] :: ow) := Hp.sel (pre := [Res.obj 55 v1 [.func (.func 8) #[] #[]], Res.sl Ek.c128 28 v22 (out10.set ((IntKind.i64.wrap (from11 + t47))).toNat ((fmul q62.1 (fquo (Fl.bits 4607182418800017408) (fofi (ishl .i64 (1 : Int) power1)))), (fmul q62.2 (fquo (Fl.bits 4607182418800017408) (fofi (ishl .i64 (1 : Int) power1))))))]) (tail := ow) (rs' := [Res.sl Ek.c128 28 v22 (out10.set ((IntKind.i64.wrap (from11 + t47))).toNat ((fmul q62.1 (fquo (Fl.bits 4607182418800017408) (fofi (ishl .i64 (1 : Int) power1)))), (fmul q62.2 (fquo (Fl.bits 4607182418800017408) (fofi (ishl .i64 (1 : Int) power1)))))), Res.obj 55 v1 [.func (.func 8) #[] #[]]]) hp [1, 0] (by decide) (by simp) rfl
          exact rnd_l ⟨_, hf.sub ⟨rfl, rfl, rfl, rfl, rfl, rfl, rfl, rfl, trivial⟩, hp⟩
        replace h := ifF h hb
        refine wp_exit ?_
        refine th_e ?_
        obtain rfl := Option.some.inj h
        exact rnd_r (by simp) ⟨rfl, _, hf.sub ⟨rfl, rfl, rfl, rfl, rfl, rfl, trivial⟩, hp⟩
      clear hl hf hp
      intro e a w hne hO
      obtain ⟨rfl, v24, hf, hp⟩ := hO
      refine ib_same ?_
      refine ib_n ?_
      refine th_n ?_
      refine wp_reg ?_
      refine st_move hf rfl rfl (by decide) ?_
      clear hf; intro a ha hf; clear ha
      refine st_move hf rfl rfl (by decide) ?_
      clear hf; intro a ha hf; clear ha
      refine st_iadd hf (by decide) rfl rfl rfl ?_
      clear hf; intro a ha hf; clear ha
      refine st_assign hf rfl rfl (by decide) ?_
      clear hf; intro a ha hf; clear ha
      refine st_nil hf ?_
      obtain rfl := Option.some.inj h
      exact rnd_l ⟨_, hf.sub ⟨rfl, rfl, rfl, rfl, rfl, rfl, trivial⟩, hp⟩
    replace h := ifF h hb
    refine wp_exit ?_
    refine th_e ?_
    obtain rfl := Option.some.inj h
    have hp : Hp _ _ _ (Res.sl Ek.c128 28 v18 out10 :: ow) := Hp.sel (pre := [Res.sl Ek.c128 28 v18 out10, Res.obj 55 v1 [.func (.func 8) #[] #[]]]) (tail := ow) (rs' := [Res.sl Ek.c128 28 v18 out10]) hp [0] (by decide) (by simp) rfl
    exact rnd_r (by simp) ⟨rfl, _, hf.sub ⟨rfl, trivial⟩, hp⟩
  clear hl hf hp
  intro e a w hne hO
  obtain ⟨rfl, v20, hf, hp⟩ := hO
  refine ib_same ?_
  refine th_n ?_
  refine wp_seq ?_
  refine wp_reg ?_
  refine st_move hf rfl rfl (by decide) ?_
  clear hf; intro a ha hf; clear ha
  refine st_assign hf rfl rfl (by decide) ?_
  clear hf; intro a ha hf; clear ha
  refine st_assign hf rfl rfl (by decide) ?_
  clear hf; intro a ha hf; clear ha
  refine st_nil hf ?_
  refine th_n ?_
  refine wp_ret ?_
  obtain rfl := Option.some.inj h
  exact ⟨rfl, ⟨_, hf.sub ⟨rfl, rfl, trivial⟩, hp⟩⟩

noncomputable def f_tones_Send (power0 : Int) (l1 : (List (Fl × Fl))) : Option ((List (Fl × Fl)) × Int) := ((f_tones_there).bind fun q1 => ((f_tones_way_rows power0 l1).bind fun q3 => (some (q3.1, q3.2))))
theorem f_tones_Send_c {S : Nat → Prop} {w0 w : World} {ow : List Res} (hp : Hp S w0 w ow) (power0 : Int) (vl1 : Value) (l1 : (List (Fl × Fl))) (hl1 : RdS Ek.c128 S w0 vl1 l1) {r : ((List (Fl × Fl)) × Int)} (h : f_tones_Send power0 l1 = some r) :
    Calls Try.prog 9 #[.int .i64 power0, vl1] w (fun e w' => ∃ (u0 : Value), e = .returned (.tuple #[u0, .int .i64 r.2]) ∧ Hp S w0 w' (Res.sl Ek.c128 28 u0 r.1 :: ow)) := by
  unfold f_tones_Send at h
  refine enter (n := 12) (args := [.int .i64 power0, vl1]) Try.func9 rfl rfl (Nat.le_of_ble_eq_true rfl) fun a hf => ?_
  replace hf : Fr 12 a [(0, .int .i64 power0), (1, vl1)] := hf
  refine wp_mono (Q := fun e a w => e = .ret ∧ ∃ (u0 : Value), Fr 12 a [(4, u0), (5, .int .i64 r.2)] ∧ Hp S w0 w (Res.sl Ek.c128 28 u0 r.1 :: ow)) ?_ ?_
  rotate_left
  · rintro e a w ⟨rfl, x0, hf, hp⟩
    exact ret2 hf rfl rfl rfl ⟨x0, rfl, hp⟩
  refine wp_seq ?_
  refine wp_reg ?_
  refine st_assign hf rfl rfl (by decide) ?_
  clear hf; intro a ha hf; clear ha
  refine st_assign hf rfl rfl (by decide) ?_
  clear hf; intro a ha hf; clear ha
  refine st_nil hf ?_
  refine th_n ?_
  refine wp_seq ?_
  refine wp_reg ?_
  obtain ⟨q1, hcall2, h⟩ := bnd h
  refine st_call hf (by decide) Try.func20 rfl rfl rfl rfl rfl (f_tones_there_c hp  hcall2) ?_
  rintro _ w ⟨rfl, hp0⟩
  clear hp; have hp := hp0; clear hp0
  replace hp : Hp _ _ _ (ow) := hp
  refine ⟨_, rfl, ?_⟩
  clear hf; intro a hf
  refine st_move hf rfl rfl (by decide) ?_
  clear hf; intro a ha hf; clear ha
  refine st_move hf rfl rfl (by decide) ?_
  clear hf; intro a ha hf; clear ha
  obtain ⟨q3, hcall4, h⟩ := bnd h
  refine st_call hf (by decide) Try.func21 rfl rfl rfl rfl rfl (f_tones_way_rows_c hp _ _ _ hl1 hcall4) ?_
  rintro _ w ⟨v5, rfl, hp0⟩
  clear hp; have hp := hp0; clear hp0
  replace hp : Hp _ _ _ (Res.sl Ek.c128 28 v5 q3.1 :: ow) := hp
  refine ⟨_, rfl, ?_⟩
  clear hf; intro a hf
  refine st_extract hf (by decide) rfl rfl rfl ?_
  clear hf; intro a ha hf; clear ha
  refine st_extract hf (by decide) rfl rfl rfl ?_
  clear hf; intro a ha hf; clear ha
  refine st_assign hf rfl rfl (by decide) ?_
  clear hf; intro a ha hf; clear ha
  refine st_assign hf rfl rfl (by decide) ?_
  clear hf; intro a ha hf; clear ha
  refine st_nil hf ?_
  refine th_n ?_
  refine wp_ret ?_
  obtain rfl := Option.some.inj h
  exact ⟨rfl, ⟨_, hf.sub ⟨rfl, rfl, trivial⟩, hp⟩⟩

noncomputable def f_tones_Pure (power0 : Int) (tone1 : Int) : Option ((List (Fl × Fl)) × Int) := ((f_tones_tones power0).bind fun q1 => (if ((decide (tone1 < (0 : Int))) || (decide (q1 ≤ tone1))) = true then (some ([], (1 : Int))) else (if 0 ≤ q1 ∧ q1 ≤ q1 ∧ q1 * 16 ≤ 281474976710656 then (if 0 ≤ tone1 ∧ tone1 < ((List.replicate (q1).toNat (Fl.bits 0, Fl.bits 0)).length : Int) then ((f_tones_Send power0 ((List.replicate (q1).toNat (Fl.bits 0, Fl.bits 0)).set (tone1).toNat (Fl.bits 4607182418800017408, Fl.bits 0))).bind fun q10 => (some (q10.1, q10.2))) else none) else none)))
theorem f_tones_Pure_c {S : Nat → Prop} {w0 w : World} {ow : List Res} (hp : Hp S w0 w ow) (power0 : Int) (tone1 : Int) {r : ((List (Fl × Fl)) × Int)} (h : f_tones_Pure power0 tone1 = some r) :
    Calls Try.prog 14 #[.int .i64 power0, .int .i64 tone1] w (fun e w' => ∃ (u0 : Value), e = .returned (.tuple #[u0, .int .i64 r.2]) ∧ Hp S w0 w' (Res.sl Ek.c128 28 u0 r.1 :: ow)) := by
  unfold f_tones_Pure at h
  refine enter (n := 27) (args := [.int .i64 power0, .int .i64 tone1]) Try.func14 rfl rfl (Nat.le_of_ble_eq_true rfl) fun a hf => ?_
  replace hf : Fr 27 a [(0, .int .i64 power0), (1, .int .i64 tone1)] := hf
  refine wp_mono (Q := fun e a w => e = .ret ∧ ∃ (u0 : Value), Fr 27 a [(4, u0), (5, .int .i64 r.2)] ∧ Hp S w0 w (Res.sl Ek.c128 28 u0 r.1 :: ow)) ?_ ?_
  rotate_left
  · rintro e a w ⟨rfl, x0, hf, hp⟩
    exact ret2 hf rfl rfl rfl ⟨x0, rfl, hp⟩
  refine wp_seq ?_
  refine wp_reg ?_
  refine st_assign hf rfl rfl (by decide) ?_
  clear hf; intro a ha hf; clear ha
  refine st_assign hf rfl rfl (by decide) ?_
  clear hf; intro a ha hf; clear ha
  refine st_nil hf ?_
  refine th_n ?_
  refine wp_seq ?_
  refine wp_reg ?_
  refine st_move hf rfl rfl (by decide) ?_
  clear hf; intro a ha hf; clear ha
  obtain ⟨q1, hcall2, h⟩ := bnd h
  refine st_call hf (by decide) Try.func25 rfl rfl rfl rfl rfl (f_tones_tones_c hp _ hcall2) ?_
  rintro _ w ⟨rfl, hp0⟩
  clear hp; have hp := hp0; clear hp0
  replace hp : Hp _ _ _ (ow) := hp
  refine ⟨_, rfl, ?_⟩
  clear hf; intro a hf
  refine st_assign hf rfl rfl (by decide) ?_
  clear hf; intro a ha hf; clear ha
  refine st_nil hf ?_
  refine th_n ?_
  refine wp_seq ?_
  refine wp_seq ?_
  refine wp_reg ?_
  refine st_move hf rfl rfl (by decide) ?_
  clear hf; intro a ha hf; clear ha
  refine st_ilss hf (by decide) rfl rfl rfl ?_
  clear hf; intro a ha hf; clear ha
  refine st_move hf rfl rfl (by decide) ?_
  clear hf; intro a ha hf; clear ha
  refine wpList_cut 4 (fun a w => Fr 27 a [(0, .int .i64 power0), (1, .int .i64 tone1), (6, .int .i64 q1), (16, .bool ((decide (tone1 < (0 : Int))) || (decide (q1 ≤ tone1))))] ∧ Hp S w0 w (ow)) ?_ ?_
  · rcases Bool.eq_false_or_eq_true (decide (tone1 < (0 : Int))) with hb4 | hb4
    · skip
      refine st_skip hf (wantN hf rfl rfl hb4) rfl (by decide) ?_ rfl
      clear hf; intro a hf
      refine st_skip hf (wantN hf rfl rfl hb4) rfl (by decide) ?_ rfl
      clear hf; intro a hf
      refine st_skip hf (wantN hf rfl rfl hb4) rfl (by decide) ?_ rfl
      clear hf; intro a hf
      refine st_pick (v := .bool true) hf rfl rfl (fun hb' => ?_) (fun hb' => ?_) (by decide) ?_
      · rfl
      · exact absurd (hb4.symm.trans hb') (by decide)
      clear hf; intro a ha hf; clear ha
      refine st_nil hf (th_n ?_)
      exact ⟨hf.sub ⟨rfl, rfl, rfl, (by rw [hb4]; rfl), trivial⟩, hp⟩
    refine st_move hf (wantY hf rfl rfl hb4) rfl (by decide) ?_
    clear hf; intro a ha hf; clear ha
    refine st_move hf (wantY hf rfl rfl hb4) rfl (by decide) ?_
    clear hf; intro a ha hf; clear ha
    refine st_igeq hf (by decide) (wantY hf rfl rfl hb4) rfl rfl ?_
    clear hf; intro a ha hf; clear ha
    refine st_pick (v := .bool (decide (q1 ≤ tone1))) hf rfl rfl (fun hb' => ?_) (fun hb' => ?_) (by decide) ?_
    · exact absurd (hb4.symm.trans hb') (by decide)
    · rfl
    clear hf; intro a ha hf; clear ha
    refine st_nil hf (th_n ?_)
    exact ⟨hf.sub ⟨rfl, rfl, rfl, (by rw [hb4]; rfl), trivial⟩, hp⟩
  rintro a w ⟨hf, hp⟩
  refine st_nil hf ?_
  refine th_n ?_
  refine wp_if hf rfl (fun hb => ?_) (fun hb => ?_)
  · replace h := ifT h hb
    refine wp_seq ?_
    refine wp_reg ?_
    refine st_assign hf rfl rfl (by decide) ?_
    clear hf; intro a ha hf; clear ha
    refine st_assign hf rfl rfl (by decide) ?_
    clear hf; intro a ha hf; clear ha
    refine st_nil hf ?_
    refine th_n ?_
    refine wp_ret ?_
    refine th_r ?_
    obtain rfl := Option.some.inj h
    have hp := hp.nil Ek.c128 28
    exact ⟨rfl, ⟨_, hf.sub ⟨rfl, rfl, trivial⟩, hp⟩⟩
  replace h := ifF h hb
  refine wp_skip ?_
  refine th_n ?_
  refine wp_seq ?_
  refine wp_reg ?_
  refine st_move hf rfl rfl (by decide) ?_
  clear hf; intro a ha hf; clear ha
  obtain ⟨hc6, h⟩ := chk h
  refine st_make (E := Ek.c128) hf (by decide) elt28 Try.underlying26 (by decide) hp rfl rfl rfl hc6.1 hc6.2.1 hc6.2.2 ?_
  clear hf; intro a w v7 hf hp0; clear hp; have hp := hp0; clear hp0
  replace hp : Hp _ _ _ (Res.sl Ek.c128 28 v7 (List.replicate (q1).toNat (Fl.bits 0, Fl.bits 0)) :: ow) := hp
  refine st_assign hf rfl rfl (by decide) ?_
  clear hf; intro a ha hf; clear ha
  refine st_nil hf ?_
  refine th_n ?_
  refine wp_seq ?_
  refine wp_reg ?_
  refine st_move hf rfl rfl (by decide) ?_
  clear hf; intro a ha hf; clear ha
  refine st_move hf rfl rfl (by decide) ?_
  clear hf; intro a ha hf; clear ha
  obtain ⟨hc9, h⟩ := chk h
  refine st_index (E := Ek.c128) hf (by decide) Try.underlying26 elt28 rfl rfl rfl (hp.sl (i := 0) rfl) hc9.1 hc9.2 ?_
  clear hf; intro a ha hf; clear ha
  refine st_store (E := Ek.c128) hf elt28 hp (i := 0) rfl rfl rfl rfl (show Ek.c128.rep [.complex .f64 4607182418800017408 0] (Fl.bits 4607182418800017408, Fl.bits 0) from ⟨_, _, rfl, rfl, rfl⟩) hc9.1 hc9.2 ?_
  clear hf; intro a w hf hp0; clear hp; have hp := hp0; clear hp0
  replace hp : Hp _ _ _ (Res.sl Ek.c128 28 v7 ((List.replicate (q1).toNat (Fl.bits 0, Fl.bits 0)).set (tone1).toNat (Fl.bits 4607182418800017408, Fl.bits 0)) :: ow) := hp
  refine st_nil hf ?_
  refine th_n ?_
  refine wp_seq ?_
  refine wp_reg ?_
  refine st_move hf rfl rfl (by decide) ?_
  clear hf; intro a ha hf; clear ha
  refine st_move hf rfl rfl (by decide) ?_
  clear hf; intro a ha hf; clear ha
  obtain ⟨q10, hcall11, h⟩ := bnd h
  obtain ⟨S12, hp13, rd14, up15, bk16⟩ := Hp.lendS hp (i := 0) rfl
  refine st_call hf (by decide) Try.func9 rfl rfl rfl rfl rfl (f_tones_Send_c hp13 _ _ _ rd14 hcall11) ?_
  rintro _ w ⟨v17, rfl, hp0⟩
  have hp0 := bk16 _ _ hp0
  clear hp; have hp := hp0; clear hp0
  replace hp : Hp _ _ _ (Res.sl Ek.c128 28 v7 ((List.replicate (q1).toNat (Fl.bits 0, Fl.bits 0)).set (tone1).toNat (Fl.bits 4607182418800017408, Fl.bits 0)) :: Res.sl Ek.c128 28 v17 q10.1 :: ow) := hp
  refine ⟨_, rfl, ?_⟩
  clear hf; intro a hf
  refine st_extract hf (by decide) rfl rfl rfl ?_
  clear hf; intro a ha hf; clear ha
  refine st_extract hf (by decide) rfl rfl rfl ?_
  clear hf; intro a ha hf; clear ha
  refine st_assign hf rfl rfl (by decide) ?_
  clear hf; intro a ha hf; clear ha
  refine st_assign hf rfl rfl (by decide) ?_
  clear hf; intro a ha hf; clear ha
  refine st_nil hf ?_
  refine th_n ?_
  refine wp_ret ?_
  obtain rfl := Option.some.inj h
  have hp : Hp _ _ _ (Res.sl Ek.c128 28 v17 q10.1 :: ow) := Hp.sel (pre := [Res.sl Ek.c128 28 v7 ((List.replicate (q1).toNat (Fl.bits 0, Fl.bits 0)).set (tone1).toNat (Fl.bits 4607182418800017408, Fl.bits 0)), Res.sl Ek.c128 28 v17 q10.1]) (tail := ow) (rs' := [Res.sl Ek.c128 28 v17 q10.1]) hp [1] (by decide) (by simp) rfl
  exact ⟨rfl, ⟨_, hf.sub ⟨rfl, rfl, trivial⟩, hp⟩⟩

noncomputable def f_tones_back  : Option Unit := (some ())
theorem f_tones_back_c {S : Nat → Prop} {w0 w : World} {ow : List Res} (hp : Hp S w0 w ow) {r : Unit} (h : f_tones_back = some r) :
    Calls Try.prog 22 #[] w (fun e w' => e = .returned (.agg #[.func (.func 27) #[] #[]]) ∧ Hp S w0 w' (ow)) := by
  unfold f_tones_back at h
  refine enter (n := 2) (args := []) Try.func22 rfl rfl (Nat.le_of_ble_eq_true rfl) fun a hf => ?_
  replace hf : Fr 2 a [] := hf
  refine wp_mono (Q := fun e a w => e = .ret ∧ ∃ (c0 : Value), Fr 2 a [(0, optr c0 0)] ∧ Hp S w0 w (Res.obj 55 c0 [.func (.func 27) #[] #[]] :: ow)) ?_ ?_
  rotate_left
  · rintro e a w ⟨rfl, c0, hf, hp⟩
    exact retG1 hf rfl ⟨_, _, rfl, hp.ob (i := 0) rfl, .inr ⟨by kernel_rfl, rfl⟩⟩ ⟨rfl, hp.drop⟩
  refine wp_seq ?_
  refine wp_reg ?_
  refine st_alloc (cs := [.nilFunc]) (zv := .agg #[.nilFunc]) hf (by decide) (by kernel_rfl) rfl hp rfl ?_
  clear hf; intro a w v1 hf hp0; clear hp; have hp := hp0; clear hp0
  replace hp : Hp _ _ _ (Res.obj 55 v1 [.nilFunc] :: ow) := hp
  refine st_nil hf ?_
  refine th_n ?_
  refine wp_seq ?_
  refine wp_reg ?_
  refine st_buildA (vals := [(0, .func (.func 27) #[] #[])]) (cells := [.func (.func 27) #[] #[]]) hf (by decide) rfl (by simp [hf.ev (x := (Operand.func 27)) rfl]) (fun w => by kernel_rfl) ?_
  clear hf; intro a ha hf; clear ha
  refine st_stO (us := [.func (.func 27) #[] #[]]) hf hp (i := 0) rfl rfl rfl rfl rfl (by rfl) (by kernel_rfl) (Nat.le_of_ble_eq_true rfl) ?_
  clear hf; intro a w hf hp0; clear hp; have hp := hp0; clear hp0
  replace hp : Hp _ _ _ (Res.obj 55 v1 [.func (.func 27) #[] #[]] :: ow) := hp
  refine st_nil hf ?_
  refine th_n ?_
  refine wp_ret ?_
  obtain rfl := Option.some.inj h
  exact ⟨rfl, ⟨_, hf.sub ⟨rfl, trivial⟩, hp⟩⟩

noncomputable def f_tones_back_1 (zx0 : (Fl × Fl)) (entry1 : Int) : Option (Fl × Fl) := ((f_plane_Turn zx0 (IntKind.i64.wrap (0 - entry1))).bind fun q1 => (some q1))
theorem f_tones_back_1_c {S : Nat → Prop} {w0 w : World} {ow : List Res} (hp : Hp S w0 w ow) (bzx0 czx0 : Nat) (zx0 : Fl × Fl) (hzx0 : zx0.1.rep bzx0) (kzx0 : zx0.2.rep czx0) (entry1 : Int) {r : (Fl × Fl)} (h : f_tones_back_1 zx0 entry1 = some r) :
    Calls Try.prog 27 #[.complex .f64 bzx0 czx0, .int .i64 entry1] w (fun e w' => ∃ (b0 : Nat) (b1 : Nat), e = .returned (.complex .f64 b0 b1) ∧ Fl.rep b0 r.1 ∧ Fl.rep b1 r.2 ∧ Hp S w0 w' (ow)) := by
  unfold f_tones_back_1 at h
  refine enter (n := 9) (args := [.complex .f64 bzx0 czx0, .int .i64 entry1]) Try.func27 rfl rfl (Nat.le_of_ble_eq_true rfl) fun a hf => ?_
  replace hf : Fr 9 a [(0, .complex .f64 bzx0 czx0), (1, .int .i64 entry1)] := hf
  refine wp_mono (Q := fun e a w => e = .ret ∧ ∃ (b0 : Nat) (b1 : Nat), Fr 9 a [(4, .complex .f64 b0 b1)] ∧ Fl.rep b0 r.1 ∧ Fl.rep b1 r.2 ∧ Hp S w0 w (ow)) ?_ ?_
  rotate_left
  · rintro e a w ⟨rfl, x0, x1, hf, y0, y1, hp⟩
    exact ret1 hf rfl rfl ⟨x0, x1, rfl, y0, y1, hp⟩
  refine wp_seq ?_
  refine wp_reg ?_
  refine st_assign hf rfl rfl (by decide) ?_
  clear hf; intro a ha hf; clear ha
  refine st_nil hf ?_
  refine th_n ?_
  refine wp_seq ?_
  refine wp_reg ?_
  refine st_move hf rfl rfl (by decide) ?_
  clear hf; intro a ha hf; clear ha
  refine st_move hf rfl rfl (by decide) ?_
  clear hf; intro a ha hf; clear ha
  refine st_ineg hf (by decide) rfl rfl ?_
  clear hf; intro a ha hf; clear ha
  obtain ⟨q1, hcall2, h⟩ := bnd h
  refine st_call hf (by decide) Try.func8 rfl rfl rfl rfl rfl (f_plane_Turn_c hp _ _ _ (show Fl.rep bzx0 (zx0).1 from hzx0) (show Fl.rep czx0 (zx0).2 from kzx0) _ hcall2) ?_
  rintro _ w ⟨v3, v4, rfl, y5, y6, hp0⟩
  clear hp; have hp := hp0; clear hp0
  replace hp : Hp _ _ _ (ow) := hp
  refine ⟨_, rfl, ?_⟩
  clear hf; intro a hf
  refine st_assign hf rfl rfl (by decide) ?_
  clear hf; intro a ha hf; clear ha
  refine st_nil hf ?_
  refine th_n ?_
  refine wp_ret ?_
  obtain rfl := Option.some.inj h
  exact ⟨rfl, ⟨_, _, hf.sub ⟨rfl, trivial⟩, y5, y6, hp⟩⟩

noncomputable def f_tones_way_rows_21.s3c (l2 : (List (Fl × Fl))) (q3 : Int) (from11 : Int) (t47 : Int) (sx13 : (Fl × Fl)) (t57 : Int) : Option (((Fl × Fl) × Int) ⊕ (Fl × Fl)) := (if (decide (t57 < (((l2.drop ((from11).toNat)).take (((IntKind.i64.wrap (from11 + q3))).toNat - (from11).toNat)).length : Int))) = true then (if 0 ≤ t57 ∧ t57 < (((l2.drop ((from11).toNat)).take (((IntKind.i64.wrap (from11 + q3))).toNat - (from11).toNat)).length : Int) then ((f_tones_entry t47 t57).bind fun q50 => ((f_tones_back_1 (gt ((l2.drop ((from11).toNat)).take (((IntKind.i64.wrap (from11 + q3))).toNat - (from11).toNat)) t57) q50).bind fun q52 => (some (Sum.inl ((cadd sx13 q52), (IntKind.i64.wrap (t57 + (1 : Int)))))))) else none) else (some (Sum.inr sx13)))
noncomputable def f_tones_way_rows_21.s3 (l2 : (List (Fl × Fl))) (q3 : Int) (from11 : Int) (t47 : Int) (s : ((Fl × Fl) × Int)) : Option (((Fl × Fl) × Int) ⊕ (Fl × Fl)) := f_tones_way_rows_21.s3c l2 q3 from11 t47 s.1 s.2
noncomputable def f_tones_way_rows_21.s2c (power1 : Int) (l2 : (List (Fl × Fl))) (q3 : Int) (from11 : Int) (out10 : (List (Fl × Fl))) (t47 : Int) : Option (((List (Fl × Fl)) × Int) ⊕ (List (Fl × Fl))) := (if (decide (t47 < q3)) = true then (if 0 ≤ from11 ∧ from11 ≤ (IntKind.i64.wrap (from11 + q3)) ∧ (IntKind.i64.wrap (from11 + q3)) ≤ (l2.length : Int) then ((loop (f_tones_way_rows_21.s3 l2 q3 from11 t47) ((Fl.bits 0, Fl.bits 0), (0 : Int))).bind (fun q62 => (if 0 ≤ (IntKind.i64.wrap (from11 + t47)) ∧ (IntKind.i64.wrap (from11 + t47)) < (out10.length : Int) then (some (Sum.inl ((out10.set ((IntKind.i64.wrap (from11 + t47))).toNat ((fmul q62.1 (fquo (Fl.bits 4607182418800017408) (fofi (ishl .i64 (1 : Int) power1)))), (fmul q62.2 (fquo (Fl.bits 4607182418800017408) (fofi (ishl .i64 (1 : Int) power1)))))), (IntKind.i64.wrap (t47 + (1 : Int)))))) else none))) else none) else (some (Sum.inr out10)))
noncomputable def f_tones_way_rows_21.s2 (power1 : Int) (l2 : (List (Fl × Fl))) (q3 : Int) (from11 : Int) (s : ((List (Fl × Fl)) × Int)) : Option (((List (Fl × Fl)) × Int) ⊕ (List (Fl × Fl))) := f_tones_way_rows_21.s2c power1 l2 q3 from11 s.1 s.2
noncomputable def f_tones_way_rows_21.s1c (power1 : Int) (l2 : (List (Fl × Fl))) (q3 : Int) (out10 : (List (Fl × Fl))) (from11 : Int) : Option (((List (Fl × Fl)) × Int) ⊕ (List (Fl × Fl))) := (if (decide (from11 < (l2.length : Int))) = true then ((loop (f_tones_way_rows_21.s2 power1 l2 q3 from11) (out10, (0 : Int))).bind (fun q68 => (some (Sum.inl (q68, (IntKind.i64.wrap (from11 + q3))))))) else (some (Sum.inr out10)))
noncomputable def f_tones_way_rows_21.s1 (power1 : Int) (l2 : (List (Fl × Fl))) (q3 : Int) (s : ((List (Fl × Fl)) × Int)) : Option (((List (Fl × Fl)) × Int) ⊕ (List (Fl × Fl))) := f_tones_way_rows_21.s1c power1 l2 q3 s.1 s.2
noncomputable def f_tones_way_rows_21 (power1 : Int) (l2 : (List (Fl × Fl))) : Option ((List (Fl × Fl)) × Int) := ((f_tones_tones power1).bind fun q3 => ((if ((q3 == (0 : Int)) || (decide ((65536 : Int) < (l2.length : Int)))) = true then (some true) else (if q3 ≠ 0 then (some (decide ((0 : Int) < (((l2.length : Int)).tmod q3)))) else none)).bind fun z9 => (if z9 = true then (some ([], (1 : Int))) else (if 0 ≤ power1 then (if 0 ≤ (l2.length : Int) ∧ (l2.length : Int) ≤ (l2.length : Int) ∧ (l2.length : Int) * 16 ≤ 281474976710656 then ((loop (f_tones_way_rows_21.s1 power1 l2 q3) ((List.replicate ((l2.length : Int)).toNat (Fl.bits 0, Fl.bits 0)), (0 : Int))).bind (fun q69 => (some (q69, (0 : Int))))) else none) else none))))
theorem f_tones_way_rows_21_c {S : Nat → Prop} {w0 w : World} {ow : List Res} (hp : Hp S w0 w ow) (power1 : Int) (vl2 : Value) (l2 : (List (Fl × Fl))) (hl2 : RdS Ek.c128 S w0 vl2 l2) {r : ((List (Fl × Fl)) × Int)} (h : f_tones_way_rows_21 power1 l2 = some r) :
    Calls Try.prog 21 #[.agg #[.func (.func 27) #[] #[]], .int .i64 power1, vl2] w (fun e w' => ∃ (u0 : Value), e = .returned (.tuple #[u0, .int .i64 r.2]) ∧ Hp S w0 w' (Res.sl Ek.c128 28 u0 r.1 :: ow)) := by
  unfold f_tones_way_rows_21 at h
  refine enter (n := 88) (args := [.agg #[.func (.func 27) #[] #[]], .int .i64 power1, vl2]) Try.func21 rfl rfl (Nat.le_of_ble_eq_true rfl) fun a hf => ?_
  replace hf : Fr 88 a [(0, .agg #[.func (.func 27) #[] #[]]), (1, .int .i64 power1), (2, vl2)] := hf
  refine wp_mono (Q := fun e a w => e = .ret ∧ ∃ (u0 : Value), Fr 88 a [(6, u0), (7, .int .i64 r.2)] ∧ Hp S w0 w (Res.sl Ek.c128 28 u0 r.1 :: ow)) ?_ ?_
  rotate_left
  · rintro e a w ⟨rfl, x0, hf, hp⟩
    exact ret2 hf rfl rfl rfl ⟨x0, rfl, hp⟩
  refine wp_seq ?_
  refine wp_reg ?_
  refine st_boxO (cs := [.func (.func 27) #[] #[]]) hf (by decide) hp rfl rfl rfl ?_
  clear hf; intro a w v1 hf hp0; clear hp; have hp := hp0; clear hp0
  replace hp : Hp _ _ _ (Res.obj 55 v1 [.func (.func 27) #[] #[]] :: ow) := hp
  refine st_assign hf rfl rfl (by decide) ?_
  clear hf; intro a ha hf; clear ha
  refine st_assign hf rfl rfl (by decide) ?_
  clear hf; intro a ha hf; clear ha
  refine st_nil hf ?_
  refine th_n ?_
  refine wp_seq ?_
  refine wp_reg ?_
  refine st_move hf rfl rfl (by decide) ?_
  clear hf; intro a ha hf; clear ha
  obtain ⟨q3, hcall4, h⟩ := bnd h
  refine st_call hf (by decide) Try.func25 rfl rfl rfl rfl rfl (f_tones_tones_c hp _ hcall4) ?_
  rintro _ w ⟨rfl, hp0⟩
  clear hp; have hp := hp0; clear hp0
  replace hp : Hp _ _ _ (Res.obj 55 v1 [.func (.func 27) #[] #[]] :: ow) := hp
  refine ⟨_, rfl, ?_⟩
  clear hf; intro a hf
  refine st_assign hf rfl rfl (by decide) ?_
  clear hf; intro a ha hf; clear ha
  refine st_nil hf ?_
  refine th_n ?_
  refine wp_seq ?_
  refine wp_seq ?_
  refine wp_reg ?_
  refine st_move hf rfl rfl (by decide) ?_
  clear hf; intro a ha hf; clear ha
  refine st_ieql hf (by decide) rfl rfl rfl ?_
  clear hf; intro a ha hf; clear ha
  refine st_move hf rfl rfl (by decide) ?_
  clear hf; intro a ha hf; clear ha
  refine wpList_cut 4 (fun a w => Fr 88 a [(1, .int .i64 power1), (2, vl2), (3, optr v1 0), (8, .int .i64 q3), (24, .bool ((q3 == (0 : Int)) || (decide ((65536 : Int) < (l2.length : Int)))))] ∧ Hp S w0 w (Res.obj 55 v1 [.func (.func 27) #[] #[]] :: ow)) ?_ ?_
  · rcases Bool.eq_false_or_eq_true (q3 == (0 : Int)) with hb6 | hb6
    · skip
      refine st_skip hf (wantN hf rfl rfl hb6) rfl (by decide) ?_ rfl
      clear hf; intro a hf
      refine st_skip hf (wantN hf rfl rfl hb6) rfl (by decide) ?_ rfl
      clear hf; intro a hf
      refine st_skip hf (wantN hf rfl rfl hb6) rfl (by decide) ?_ rfl
      clear hf; intro a hf
      refine st_pick (v := .bool true) hf rfl rfl (fun hb' => ?_) (fun hb' => ?_) (by decide) ?_
      · rfl
      · exact absurd (hb6.symm.trans hb') (by decide)
      clear hf; intro a ha hf; clear ha
      refine st_nil hf (th_n ?_)
      exact ⟨hf.sub ⟨rfl, rfl, rfl, rfl, (by rw [hb6]; rfl), trivial⟩, hp⟩
    refine st_move hf (wantY hf rfl rfl hb6) rfl (by decide) ?_
    clear hf; intro a ha hf; clear ha
    refine st_len (E := Ek.c128) hf (by decide) Try.underlying26 (wantY hf rfl rfl hb6) rfl (hl2.sl hp) ?_
    clear hf; intro a ha hf; clear ha
    refine st_igtr hf (by decide) (wantY hf rfl rfl hb6) rfl rfl ?_
    clear hf; intro a ha hf; clear ha
    refine st_pick (v := .bool (decide ((65536 : Int) < (l2.length : Int)))) hf rfl rfl (fun hb' => ?_) (fun hb' => ?_) (by decide) ?_
    · exact absurd (hb6.symm.trans hb') (by decide)
    · rfl
    clear hf; intro a ha hf; clear ha
    refine st_nil hf (th_n ?_)
    exact ⟨hf.sub ⟨rfl, rfl, rfl, rfl, (by rw [hb6]; rfl), trivial⟩, hp⟩
  rintro a w ⟨hf, hp⟩
  refine st_move hf rfl rfl (by decide) ?_
  clear hf; intro a ha hf; clear ha
  obtain ⟨z9, hz7, h⟩ := bnd h
  refine wpList_cut 6 (fun a w => Fr 88 a [(1, .int .i64 power1), (2, vl2), (3, optr v1 0), (8, .int .i64 q3), (31, .bool z9)] ∧ Hp S w0 w (Res.obj 55 v1 [.func (.func 27) #[] #[]] :: ow)) ?_ ?_
  · rcases Bool.eq_false_or_eq_true ((q3 == (0 : Int)) || (decide ((65536 : Int) < (l2.length : Int)))) with hb8 | hb8
    · skip
      replace hz7 := ifT hz7 hb8
      refine st_skip hf (wantN hf rfl rfl hb8) rfl (by decide) ?_ rfl
      clear hf; intro a hf
      refine st_skip hf (wantN hf rfl rfl hb8) rfl (by decide) ?_ rfl
      clear hf; intro a hf
      refine st_skip hf (wantN hf rfl rfl hb8) rfl (by decide) ?_ rfl
      clear hf; intro a hf
      refine st_skip hf (wantN hf rfl rfl hb8) rfl (by decide) ?_ rfl
      clear hf; intro a hf
      refine st_skip hf (wantN hf rfl rfl hb8) rfl (by decide) ?_ rfl
      clear hf; intro a hf
      obtain rfl := Option.some.inj hz7
      refine st_pick (v := .bool true) hf rfl rfl (fun hb' => ?_) (fun hb' => ?_) (by decide) ?_
      · rfl
      · exact absurd (hb8.symm.trans hb') (by decide)
      clear hf; intro a ha hf; clear ha
      refine st_nil hf (th_n ?_)
      exact ⟨hf.sub ⟨rfl, rfl, rfl, rfl, rfl, trivial⟩, hp⟩
    replace hz7 := ifF hz7 hb8
    refine st_move hf (wantY hf rfl rfl hb8) rfl (by decide) ?_
    clear hf; intro a ha hf; clear ha
    refine st_len (E := Ek.c128) hf (by decide) Try.underlying26 (wantY hf rfl rfl hb8) rfl (hl2.sl hp) ?_
    clear hf; intro a ha hf; clear ha
    refine st_move hf (wantY hf rfl rfl hb8) rfl (by decide) ?_
    clear hf; intro a ha hf; clear ha
    obtain ⟨hc10, hz7⟩ := chk hz7
    refine st_irem hf (by decide) (wantY hf rfl rfl hb8) rfl rfl hc10 ?_
    clear hf; intro a ha hf; clear ha
    refine st_igtr hf (by decide) (wantY hf rfl rfl hb8) rfl rfl ?_
    clear hf; intro a ha hf; clear ha
    obtain rfl := Option.some.inj hz7
    refine st_pick (v := .bool (decide ((0 : Int) < (((l2.length : Int)).tmod q3)))) hf rfl rfl (fun hb' => ?_) (fun hb' => ?_) (by decide) ?_
    · exact absurd (hb8.symm.trans hb') (by decide)
    · rfl
    clear hf; intro a ha hf; clear ha
    refine st_nil hf (th_n ?_)
    exact ⟨hf.sub ⟨rfl, rfl, rfl, rfl, rfl, trivial⟩, hp⟩
  rintro a w ⟨hf, hp⟩
  refine st_nil hf ?_
  refine th_n ?_
  refine wp_if hf rfl (fun hb => ?_) (fun hb => ?_)
  · replace h := ifT h hb
    refine wp_seq ?_
    refine wp_reg ?_
    refine st_assign hf rfl rfl (by decide) ?_
    clear hf; intro a ha hf; clear ha
    refine st_assign hf rfl rfl (by decide) ?_
    clear hf; intro a ha hf; clear ha
    refine st_nil hf ?_
    refine th_n ?_
    refine wp_ret ?_
    refine th_r ?_
    obtain rfl := Option.some.inj h
    have hp := hp.nil Ek.c128 28
    have hp : Hp _ _ _ (Res.sl Ek.c128 28 (.slice none 0 0) ([]) :: ow) := Hp.sel (pre := [Res.sl Ek.c128 28 (.slice none 0 0) ([]), Res.obj 55 v1 [.func (.func 27) #[] #[]]]) (tail := ow) (rs' := [Res.sl Ek.c128 28 (.slice none 0 0) ([])]) hp [0] (by decide) (by simp) rfl
    exact ⟨rfl, ⟨_, hf.sub ⟨rfl, rfl, trivial⟩, hp⟩⟩
  replace h := ifF h hb
  refine wp_skip ?_
  refine th_n ?_
  refine wp_seq ?_
  refine wp_reg ?_
  refine st_move hf rfl rfl (by decide) ?_
  clear hf; intro a ha hf; clear ha
  obtain ⟨hc12, h⟩ := chk h
  refine st_ishl hf (by decide) rfl rfl rfl hc12 ?_
  clear hf; intro a ha hf; clear ha
  refine st_conv_if Try.underlying3 Try.underlying34 hf (by decide) rfl rfl ?_
  clear hf; intro a ha hf; clear ha
  refine st_farith (op := .quo) rfl hf (by decide) hp rfl rfl rfl (show Fl.rep 4607182418800017408 (Fl.bits 4607182418800017408) from rfl) (show Fl.rep (FloatKind.f64.nearest (ishl .i64 (1 : Int) power1)) (fofi (ishl .i64 (1 : Int) power1)) from rfl) ?_
  clear hf; intro a w bb13 y14 hf hp0; clear hp; have hp := hp0; clear hp0
  replace hp : Hp _ _ _ (Res.obj 55 v1 [.func (.func 27) #[] #[]] :: ow) := hp
  refine st_assign hf rfl rfl (by decide) ?_
  clear hf; intro a ha hf; clear ha
  refine st_nil hf ?_
  refine th_n ?_
  refine wp_seq ?_
  refine wp_reg ?_
  refine st_move hf rfl rfl (by decide) ?_
  clear hf; intro a ha hf; clear ha
  refine st_len (E := Ek.c128) hf (by decide) Try.underlying26 rfl rfl (hl2.sl hp) ?_
  clear hf; intro a ha hf; clear ha
  obtain ⟨hc15, h⟩ := chk h
  refine st_make (E := Ek.c128) hf (by decide) elt28 Try.underlying26 (by decide) hp rfl rfl rfl hc15.1 hc15.2.1 hc15.2.2 ?_
  clear hf; intro a w v16 hf hp0; clear hp; have hp := hp0; clear hp0
  replace hp : Hp _ _ _ (Res.sl Ek.c128 28 v16 (List.replicate ((l2.length : Int)).toNat (Fl.bits 0, Fl.bits 0)) :: Res.obj 55 v1 [.func (.func 27) #[] #[]] :: ow) := hp
  refine st_assign hf rfl rfl (by decide) ?_
  clear hf; intro a ha hf; clear ha
  refine st_nil hf ?_
  refine th_n ?_
  refine wp_seq ?_
  refine wp_seq ?_
  refine wp_reg ?_
  refine st_assign hf rfl rfl (by decide) ?_
  clear hf; intro a ha hf; clear ha
  refine st_nil hf ?_
  refine th_n ?_
  refine wp_block ?_
  obtain ⟨q69, hl, h⟩ := bnd h
  refine wp_loop_pure (f := (f_tones_way_rows_21.s1 power1 l2 q3)) (s := ((List.replicate ((l2.length : Int)).toNat (Fl.bits 0, Fl.bits 0)), (0 : Int))) (fun s a w => ∃ (v18 : Value), Fr 88 a [(2, vl2), (3, optr v1 0), (8, .int .i64 q3), (9, .float .f64 bb13), (10, v18), (11, .int .i64 s.2)] ∧ Hp S w0 w (Res.sl Ek.c128 28 v18 s.1 :: Res.obj 55 v1 [.func (.func 27) #[] #[]] :: ow)) (fun q e a w => e = .exit 0 ∧ ∃ (v20 : Value), Fr 88 a [(10, v20)] ∧ Hp S w0 w (Res.sl Ek.c128 28 v20 q :: ow)) ?_ hl ⟨_, hf.sub ⟨rfl, rfl, rfl, rfl, rfl, rfl, trivial⟩, hp⟩ ?_
  · clear hl hf hp
    intro s x a w h hI
    obtain ⟨out10, from11⟩ := s
    obtain ⟨v18, hf, hp⟩ : ∃ (v18 : Value), Fr 88 a [(2, vl2), (3, optr v1 0), (8, .int .i64 q3), (9, .float .f64 bb13), (10, v18), (11, .int .i64 from11)] ∧ Hp S w0 w (Res.sl Ek.c128 28 v18 out10 :: Res.obj 55 v1 [.func (.func 27) #[] #[]] :: ow) := hI
    replace h : f_tones_way_rows_21.s1c power1 l2 q3 out10 from11 = some x := h
    unfold f_tones_way_rows_21.s1c at h
    refine wp_seq ?_
    refine wp_seq ?_
    refine wp_reg ?_
    refine st_move hf rfl rfl (by decide) ?_
    clear hf; intro a ha hf; clear ha
    refine st_move hf rfl rfl (by decide) ?_
    clear hf; intro a ha hf; clear ha
    refine st_len (E := Ek.c128) hf (by decide) Try.underlying26 rfl rfl (hl2.sl hp) ?_
    clear hf; intro a ha hf; clear ha
    refine st_ilss hf (by decide) rfl rfl rfl ?_
    clear hf; intro a ha hf; clear ha
    refine st_nil hf ?_
    refine th_n ?_
    refine wp_if hf rfl (fun hb => ?_) (fun hb => ?_)
    · replace h := ifT h hb
      refine wp_skip ?_
      refine th_n ?_
      refine wp_seq ?_
      refine wp_block ?_
      refine wp_seq ?_
      refine wp_reg ?_
      refine st_move hf rfl rfl (by decide) ?_
      clear hf; intro a ha hf; clear ha
      refine st_move hf rfl rfl (by decide) ?_
      clear hf; intro a ha hf; clear ha
      refine st_nil hf ?_
      refine th_n ?_
      refine wp_block ?_
      obtain ⟨q68, hl, h⟩ := bnd h
      refine wp_loop_pure (f := (f_tones_way_rows_21.s2 power1 l2 q3 from11)) (s := (out10, (0 : Int))) (fun s a w => ∃ (v22 : Value), Fr 88 a [(2, vl2), (3, optr v1 0), (8, .int .i64 q3), (9, .float .f64 bb13), (10, v22), (11, .int .i64 from11), (46, .int .i64 q3), (47, .int .i64 s.2)] ∧ Hp S w0 w (Res.sl Ek.c128 28 v22 s.1 :: Res.obj 55 v1 [.func (.func 27) #[] #[]] :: ow)) (fun q e a w => e = .exit 2 ∧ ∃ (v24 : Value), Fr 88 a [(2, vl2), (3, optr v1 0), (8, .int .i64 q3), (9, .float .f64 bb13), (10, v24), (11, .int .i64 from11)] ∧ Hp S w0 w (Res.sl Ek.c128 28 v24 q :: Res.obj 55 v1 [.func (.func 27) #[] #[]] :: ow)) ?_ hl ⟨_, hf.sub ⟨rfl, rfl, rfl, rfl, rfl, rfl, rfl, rfl, trivial⟩, hp⟩ ?_
      · clear hl hf hp
        intro s x a w h hI
        obtain ⟨out10, t47⟩ := s
        obtain ⟨v22, hf, hp⟩ : ∃ (v22 : Value), Fr 88 a [(2, vl2), (3, optr v1 0), (8, .int .i64 q3), (9, .float .f64 bb13), (10, v22), (11, .int .i64 from11), (46, .int .i64 q3), (47, .int .i64 t47)] ∧ Hp S w0 w (Res.sl Ek.c128 28 v22 out10 :: Res.obj 55 v1 [.func (.func 27) #[] #[]] :: ow) := hI
        replace h : f_tones_way_rows_21.s2c power1 l2 q3 from11 out10 t47 = some x := h
        unfold f_tones_way_rows_21.s2c at h
        refine wp_seq ?_
        refine wp_reg ?_
        refine st_ilss hf (by decide) rfl rfl rfl ?_
        clear hf; intro a ha hf; clear ha
        refine st_nil hf ?_
        refine th_n ?_
        refine wp_seq ?_
        refine wp_if hf rfl (fun hb => ?_) (fun hb => ?_)
        · replace h := ifT h hb
          refine wp_skip ?_
          refine th_n ?_
          refine wp_seq ?_
          refine wp_block ?_
          refine wp_seq ?_
          refine wp_reg ?_
          refine st_move hf rfl rfl (by decide) ?_
          clear hf; intro a ha hf; clear ha
          refine st_assign hf rfl rfl (by decide) ?_
          clear hf; intro a ha hf; clear ha
          refine st_nil hf ?_
          refine th_n ?_
          refine wp_seq ?_
          refine wp_reg ?_
          refine st_assign hf rfl rfl (by decide) ?_
          clear hf; intro a ha hf; clear ha
          refine st_nil hf ?_
          refine th_n ?_
          refine wp_seq ?_
          refine wp_seq ?_
          refine wp_reg ?_
          refine st_move hf rfl rfl (by decide) ?_
          clear hf; intro a ha hf; clear ha
          refine st_move hf rfl rfl (by decide) ?_
          clear hf; intro a ha hf; clear ha
          refine st_move hf rfl rfl (by decide) ?_
          clear hf; intro a ha hf; clear ha
          refine st_move hf rfl rfl (by decide) ?_
          clear hf; intro a ha hf; clear ha
          refine st_iadd hf (by decide) rfl rfl rfl ?_
          clear hf; intro a ha hf; clear ha
          obtain ⟨hc26, h⟩ := chk h
          have hc27 : (from11).toNat ≤ ((IntKind.i64.wrap (from11 + q3))).toNat := by omega
          have hc28 : ((IntKind.i64.wrap (from11 + q3))).toNat ≤ l2.length := by omega
          refine st_cutS (E := Ek.c128) hf (by decide) Try.underlying26 elt28 rfl rfl (hl2.sl hp) (.inr ⟨_, _, rfl, evI rfl hc26.1⟩) (.inr ⟨_, _, rfl, evI rfl (by omega)⟩) hc27 hc28 ?_
          clear hf; intro a ha hf; clear ha
          refine st_len (E := Ek.c128) hf (by decide) Try.underlying26 rfl rfl ((RdS.cut hl2 hc27 hc28).sl hp) ?_
          clear hf; intro a ha hf; clear ha
          refine st_move hf rfl rfl (by decide) ?_
          clear hf; intro a ha hf; clear ha
          refine st_nil hf ?_
          refine th_n ?_
          refine wp_block ?_
          obtain ⟨q62, hl, h⟩ := bnd h
          have hp : Hp _ _ _ (Res.obj 55 v1 [.func (.func 27) #[] #[]] :: Res.sl Ek.c128 28 v22 out10 :: ow) := Hp.sel (pre := [Res.sl Ek.c128 28 v22 out10, Res.obj 55 v1 [.func (.func 27) #[] #[]]]) (tail := ow) (rs' := [Res.obj 55 v1 [.func (.func 27) #[] #[]], Res.sl Ek.c128 28 v22 out10]) hp [1, 0] (by decide) (by simp) rfl
          refine wp_loop_pure (f := (f_tones_way_rows_21.s3 l2 q3 from11 t47)) (s := ((Fl.bits 0, Fl.bits 0), (0 : Int))) (fun s a w => ∃ (bb29 : Nat) (bb30 : Nat), Fr 88 a [(2, vl2), (3, optr v1 0), (8, .int .i64 q3), (9, .float .f64 bb13), (10, v22), (11, .int .i64 from11), (12, .int .i64 t47), (13, .complex .f64 bb29 bb30), (46, .int .i64 q3), (47, .int .i64 t47), (55, (GL.cut vl2 (from11).toNat (((IntKind.i64.wrap (from11 + q3))).toNat) 1)), (56, .int .i64 (((l2.drop ((from11).toNat)).take (((IntKind.i64.wrap (from11 + q3))).toNat - (from11).toNat)).length : Int)), (57, .int .i64 s.2)] ∧ Fl.rep bb29 s.1.1 ∧ Fl.rep bb30 s.1.2 ∧ Hp S w0 w (Res.obj 55 v1 [.func (.func 27) #[] #[]] :: Res.sl Ek.c128 28 v22 out10 :: ow)) (fun q e a w => e = .exit 4 ∧ ∃ (bb33 : Nat) (bb34 : Nat), Fr 88 a [(2, vl2), (3, optr v1 0), (8, .int .i64 q3), (9, .float .f64 bb13), (10, v22), (11, .int .i64 from11), (12, .int .i64 t47), (13, .complex .f64 bb33 bb34), (46, .int .i64 q3), (47, .int .i64 t47)] ∧ Fl.rep bb33 q.1 ∧ Fl.rep bb34 q.2 ∧ Hp S w0 w (Res.obj 55 v1 [.func (.func 27) #[] #[]] :: Res.sl Ek.c128 28 v22 out10 :: ow)) ?_ hl ⟨_, _, hf.sub ⟨rfl, rfl, rfl, rfl, rfl, rfl, rfl, rfl, rfl, rfl, rfl, rfl, rfl, trivial⟩, rfl, rfl, hp⟩ ?_
          · clear hl hf hp
            intro s x a w h hI
            obtain ⟨sx13, t57⟩ := s
            obtain ⟨bb29, bb30, hf, y31, y32, hp⟩ : ∃ (bb29 : Nat) (bb30 : Nat), Fr 88 a [(2, vl2), (3, optr v1 0), (8, .int .i64 q3), (9, .float .f64 bb13), (10, v22), (11, .int .i64 from11), (12, .int .i64 t47), (13, .complex .f64 bb29 bb30), (46, .int .i64 q3), (47, .int .i64 t47), (55, (GL.cut vl2 (from11).toNat (((IntKind.i64.wrap (from11 + q3))).toNat) 1)), (56, .int .i64 (((l2.drop ((from11).toNat)).take (((IntKind.i64.wrap (from11 + q3))).toNat - (from11).toNat)).length : Int)), (57, .int .i64 t57)] ∧ Fl.rep bb29 sx13.1 ∧ Fl.rep bb30 sx13.2 ∧ Hp S w0 w (Res.obj 55 v1 [.func (.func 27) #[] #[]] :: Res.sl Ek.c128 28 v22 out10 :: ow) := hI
            replace h : f_tones_way_rows_21.s3c l2 q3 from11 t47 sx13 t57 = some x := h
            unfold f_tones_way_rows_21.s3c at h
            refine wp_seq ?_
            refine wp_reg ?_
            refine st_ilss hf (by decide) rfl rfl rfl ?_
            clear hf; intro a ha hf; clear ha
            refine st_nil hf ?_
            refine th_n ?_
            refine wp_seq ?_
            refine wp_if hf rfl (fun hb => ?_) (fun hb => ?_)
            · replace h := ifT h hb
              refine wp_skip ?_
              refine th_n ?_
              refine wp_seq ?_
              refine wp_block ?_
              refine wp_seq ?_
              refine wp_reg ?_
              refine st_move hf rfl rfl (by decide) ?_
              clear hf; intro a ha hf; clear ha
              obtain ⟨hc37, h⟩ := chk h
              refine st_index (E := Ek.c128) hf (by decide) Try.underlying26 elt28 rfl rfl rfl ((RdS.cut hl2 hc27 hc28).sl hp) hc37.1 hc37.2 ?_
              clear hf; intro a ha hf; clear ha
              refine st_ldC hf (by decide) pl28 rfl rfl ((RdS.cut hl2 hc27 hc28).sl hp) hc37.1 hc37.2 ?_
              clear hf; intro a bb38 bb39 y40 y41 ha hf; clear ha
              refine st_assign hf rfl rfl (by decide) ?_
              clear hf; intro a ha hf; clear ha
              refine st_assign hf rfl rfl (by decide) ?_
              clear hf; intro a ha hf; clear ha
              refine st_nil hf ?_
              refine th_n ?_
              obtain ⟨S42, hp43, rd44, up45, bk46⟩ := Hp.lendO hp (i := 0) rfl
              have rl47 := ((hl2.now hp).mono up45)
              have rl48 := rd44
              have rl49 := (((RdS.cut hl2 hc27 hc28).now hp).mono up45)
              obtain ⟨q50, hcall51, h⟩ := bnd h
              obtain ⟨q52, hcall53, h⟩ := bnd h
              refine wp_cutN (fun a w => ∃ (bb58 : Nat) (bb59 : Nat), Fl.rep bb58 (cadd sx13 q52).1 ∧ Fl.rep bb59 (cadd sx13 q52).2 ∧ Fr 88 a [(2, vl2), (3, optr v1 0), (8, .int .i64 q3), (9, .float .f64 bb13), (10, v22), (11, .int .i64 from11), (12, .int .i64 t47), (13, .complex .f64 bb58 bb59), (46, .int .i64 q3), (47, .int .i64 t47), (55, (GL.cut vl2 (from11).toNat (((IntKind.i64.wrap (from11 + q3))).toNat) 1)), (56, .int .i64 (((l2.drop ((from11).toNat)).take (((IntKind.i64.wrap (from11 + q3))).toNat - (from11).toNat)).length : Int)), (57, .int .i64 t57)] ∧ Hp S w0 w (Res.obj 55 v1 [.func (.func 27) #[] #[]] :: Res.sl Ek.c128 28 v22 out10 :: ow)) ?_ ?_
              · have hp := hp43.same (Same.drew w)
                refine dr_begin' (fun a w => ∃ (bb58 : Nat) (bb59 : Nat), Fl.rep bb58 (cadd sx13 q52).1 ∧ Fl.rep bb59 (cadd sx13 q52).2 ∧ Fr 88 a [(2, vl2), (3, optr v1 0), (8, .int .i64 q3), (9, .float .f64 bb13), (10, v22), (11, .int .i64 from11), (12, .int .i64 t47), (13, .complex .f64 bb58 bb59), (46, .int .i64 q3), (47, .int .i64 t47), (55, (GL.cut vl2 (from11).toNat (((IntKind.i64.wrap (from11 + q3))).toNat) 1)), (56, .int .i64 (((l2.drop ((from11).toNat)).take (((IntKind.i64.wrap (from11 + q3))).toNat - (from11).toNat)).length : Int)), (57, .int .i64 t57)] ∧ Hp S w0 w (Res.obj 55 v1 [.func (.func 27) #[] #[]] :: Res.sl Ek.c128 28 v22 out10 :: ow)) (fun w' => ∃ l, Hp S42 w w' l) [] (by kernel_rfl) ?_
                refine dr_take 0 (.complex .f64 bb29 bb30) rfl (by kernel_rfl) (by kernel_rfl) (by kernel_rfl) (by kernel_rfl) rfl rfl hf (by decide) rfl (fun w hp => ?_) ⟨_, hp⟩ ?_
                · obtain ⟨_, hp⟩ := hp
                  refine st_move hf rfl rfl (by decide) ?_
                  clear hf; intro a ha hf
                  exact st_nil hf (th_n ⟨ha, rfl⟩)
                clear hf; intro a hf
                refine dr_take 1 (optr v1 0) rfl (by kernel_rfl) (by kernel_rfl) (by kernel_rfl) (by kernel_rfl) rfl rfl hf (by decide) rfl (fun w hp => ?_) ⟨_, hp⟩ ?_
                · obtain ⟨_, hp⟩ := hp
                  refine st_fa (o' := 0) hf (by decide) (off := 0) (sz := 1) (by kernel_rfl) (by decide) rfl rfl (rl48.ob hp) rfl ?_
                  clear hf; intro a ha hf
                  exact st_nil hf (th_n ⟨ha, rfl⟩)
                clear hf; intro a hf
                refine dr_take 2 (.func (.func 27) #[] #[]) rfl (by kernel_rfl) (by kernel_rfl) (by kernel_rfl) (by kernel_rfl) rfl rfl hf (by decide) rfl (fun w hp => ?_) ⟨_, hp⟩ ?_
                · obtain ⟨_, hp⟩ := hp
                  refine st_ldO (u := .func (.func 27) #[] #[]) hf (by decide) pl29 rfl rfl (rl48.ob hp) rfl ?_
                  clear hf; intro a ha hf
                  exact st_nil hf (th_n ⟨ha, rfl⟩)
                clear hf; intro a hf
                refine dr_take 3 (.complex .f64 bb38 bb39) rfl (by kernel_rfl) (by kernel_rfl) (by kernel_rfl) (by kernel_rfl) rfl rfl hf (by decide) rfl (fun w hp => ?_) ⟨_, hp⟩ ?_
                · obtain ⟨_, hp⟩ := hp
                  refine st_move hf rfl rfl (by decide) ?_
                  clear hf; intro a ha hf
                  exact st_nil hf (th_n ⟨ha, rfl⟩)
                clear hf; intro a hf
                refine dr_take 4 (.int .i64 t47) rfl (by kernel_rfl) (by kernel_rfl) (by kernel_rfl) (by kernel_rfl) rfl rfl hf (by decide) rfl (fun w hp => ?_) ⟨_, hp⟩ ?_
                · obtain ⟨_, hp⟩ := hp
                  refine st_move hf rfl rfl (by decide) ?_
                  clear hf; intro a ha hf
                  exact st_nil hf (th_n ⟨ha, rfl⟩)
                clear hf; intro a hf
                refine dr_take 5 (.int .i64 t57) rfl (by kernel_rfl) (by kernel_rfl) (by kernel_rfl) (by kernel_rfl) rfl rfl hf (by decide) rfl (fun w hp => ?_) ⟨_, hp⟩ ?_
                · obtain ⟨_, hp⟩ := hp
                  refine st_move hf rfl rfl (by decide) ?_
                  clear hf; intro a ha hf
                  exact st_nil hf (th_n ⟨ha, rfl⟩)
                clear hf; intro a hf
                refine dr_one 6 rfl (by kernel_rfl) ?_
                refine st_call hf (by decide) Try.func26 rfl rfl rfl rfl rfl (f_tones_entry_c hp _ _ hcall51) ?_
                rintro _ w ⟨rfl, hp0⟩
                clear hp; have hp := hp0; clear hp0
                replace hp : Hp _ _ _ (Res.sl Ek.c128 28 v22 out10 :: ow) := hp
                refine ⟨_, rfl, ?_⟩
                clear hf; intro a hf
                refine st_nil hf (th_n ⟨fun _ _ => ⟨_, hp⟩, ?_⟩)
                refine dr_one 7 rfl (by kernel_rfl) ?_
                refine st_call hf (by decide) Try.func27 rfl rfl rfl rfl rfl (f_tones_back_1_c hp _ _ _ (show Fl.rep bb38 ((gt ((l2.drop ((from11).toNat)).take (((IntKind.i64.wrap (from11 + q3))).toNat - (from11).toNat)) t57)).1 from y40) (show Fl.rep bb39 ((gt ((l2.drop ((from11).toNat)).take (((IntKind.i64.wrap (from11 + q3))).toNat - (from11).toNat)) t57)).2 from y41) _ hcall53) ?_
                rintro _ w ⟨v54, v55, rfl, y56, y57, hp0⟩
                clear hp; have hp := hp0; clear hp0
                replace hp : Hp _ _ _ (Res.sl Ek.c128 28 v22 out10 :: ow) := hp
                refine ⟨_, rfl, ?_⟩
                clear hf; intro a hf
                refine st_nil hf (th_n ⟨fun _ _ => ⟨_, hp⟩, ?_⟩)
                refine dr_one 8 rfl (by kernel_rfl) ?_
                refine st_carith (op := .add) (zx := sx13) (zy := q52) rfl hf (by decide) hp rfl rfl rfl y31 y32 y56 y57 ?_
                clear hf; intro a w bb58 bb59 y60 y61 hf hp0; clear hp; have hp := hp0; clear hp0
                replace hp : Hp _ _ _ (Res.sl Ek.c128 28 v22 out10 :: ow) := hp
                refine st_nil hf (th_n ⟨fun _ _ => ⟨_, hp⟩, ?_⟩)
                refine dr_take 9 (.complex .f64 bb58 bb59) rfl (by kernel_rfl) (by kernel_rfl) (by kernel_rfl) (by kernel_rfl) rfl rfl hf (by decide) rfl (fun w hp => ?_) ⟨_, hp⟩ ?_
                · obtain ⟨_, hp⟩ := hp
                  refine st_assign hf rfl rfl (by decide) ?_
                  clear hf; intro a ha hf
                  exact st_nil hf (th_n ⟨ha, rfl⟩)
                clear hf; intro a hf
                refine dr_end (by kernel_rfl) ?_ _
                have hp := bk46 _ _ hp
                exact ⟨bb58, bb59, y60, y61, hf.sub ⟨rfl, rfl, rfl, rfl, rfl, rfl, rfl, rfl, rfl, rfl, rfl, rfl, rfl, trivial⟩, hp⟩
              rintro a w ⟨bb58, bb59, y60, y61, hf, hp⟩
              refine ib_n ?_
              refine th_n ?_
              refine wp_reg ?_
              refine st_iadd hf (by decide) rfl rfl rfl ?_
              clear hf; intro a ha hf; clear ha
              refine st_move hf rfl rfl (by decide) ?_
              clear hf; intro a ha hf; clear ha
              refine st_nil hf ?_
              obtain rfl := Option.some.inj h
              exact rnd_l ⟨_, _, hf.sub ⟨rfl, rfl, rfl, rfl, rfl, rfl, rfl, rfl, rfl, rfl, rfl, rfl, rfl, trivial⟩, y60, y61, hp⟩
            replace h := ifF h hb
            refine wp_exit ?_
            refine th_e ?_
            obtain rfl := Option.some.inj h
            exact rnd_r (by simp) ⟨rfl, _, _, hf.sub ⟨rfl, rfl, rfl, rfl, rfl, rfl, rfl, rfl, rfl, rfl, trivial⟩, y31, y32, hp⟩
          clear hl hf hp
          intro e a w hne hO
          obtain ⟨rfl, bb33, bb34, hf, y35, y36, hp⟩ := hO
          refine ib_same ?_
          refine th_n ?_
          refine wp_reg ?_
          refine st_move hf rfl rfl (by decide) ?_
          clear hf; intro a ha hf; clear ha
          refine st_move hf rfl rfl (by decide) ?_
          clear hf; intro a ha hf; clear ha
          refine st_move hf rfl rfl (by decide) ?_
          clear hf; intro a ha hf; clear ha
          refine st_iadd hf (by decide) rfl rfl rfl ?_
          clear hf; intro a ha hf; clear ha
          refine st_move hf rfl rfl (by decide) ?_
          clear hf; intro a ha hf; clear ha
          refine st_real hf (by decide) rfl rfl ?_
          clear hf; intro a ha hf; clear ha
          refine st_move hf rfl rfl (by decide) ?_
          clear hf; intro a ha hf; clear ha
          refine st_farith (op := .mul) rfl hf (by decide) hp rfl rfl rfl (show Fl.rep bb33 q62.1 from y35) (show Fl.rep bb13 (fquo (Fl.bits 4607182418800017408) (fofi (ishl .i64 (1 : Int) power1))) from y14) ?_
          clear hf; intro a w bb63 y64 hf hp0; clear hp; have hp := hp0; clear hp0
          replace hp : Hp _ _ _ (Res.obj 55 v1 [.func (.func 27) #[] #[]] :: Res.sl Ek.c128 28 v22 out10 :: ow) := hp
          refine st_move hf rfl rfl (by decide) ?_
          clear hf; intro a ha hf; clear ha
          refine st_imag hf (by decide) rfl rfl ?_
          clear hf; intro a ha hf; clear ha
          refine st_move hf rfl rfl (by decide) ?_
          clear hf; intro a ha hf; clear ha
          refine st_farith (op := .mul) rfl hf (by decide) hp rfl rfl rfl (show Fl.rep bb34 q62.2 from y36) (show Fl.rep bb13 (fquo (Fl.bits 4607182418800017408) (fofi (ishl .i64 (1 : Int) power1))) from y14) ?_
          clear hf; intro a w bb65 y66 hf hp0; clear hp; have hp := hp0; clear hp0
          replace hp : Hp _ _ _ (Res.obj 55 v1 [.func (.func 27) #[] #[]] :: Res.sl Ek.c128 28 v22 out10 :: ow) := hp
          refine st_complex hf (by decide) rfl rfl rfl ?_
          clear hf; intro a ha hf; clear ha
          obtain ⟨hc67, h⟩ := chk h
          refine st_index (E := Ek.c128) hf (by decide) Try.underlying26 elt28 rfl rfl rfl (hp.sl (i := 1) rfl) hc67.1 hc67.2 ?_
          clear hf; intro a ha hf; clear ha
          refine st_store (E := Ek.c128) hf elt28 hp (i := 1) rfl rfl rfl rfl (show Ek.c128.rep [.complex .f64 bb63 bb65] ((fmul q62.1 (fquo (Fl.bits 4607182418800017408) (fofi (ishl .i64 (1 : Int) power1)))), (fmul q62.2 (fquo (Fl.bits 4607182418800017408) (fofi (ishl .i64 (1 : Int) power1))))) from ⟨_, _, rfl, y64, y66⟩) hc67.1 hc67.2 ?_
          clear hf; intro a w hf hp0; clear hp; have hp := hp0; clear hp0
          replace hp : Hp _ _ _ (Res.obj 55 v1 [.func (.func 27) #[] #[]] :: Res.sl Ek.c128 28 v22 (out10.set ((IntKind.i64.wrap (from11 + t47))).toNat ((fmul q62.1 (fquo (Fl.bits 4607182418800017408) (fofi (ishl .i64 (1 : Int) power1)))), (fmul q62.2 (fquo (Fl.bits 4607182418800017408) (fofi (ishl .i64 (1 : Int) power1)))))) :: ow) := hp
          refine st_nil hf ?_
          refine ib_n ?_
          refine th_n ?_
          refine wp_reg ?_
          refine st_iadd hf (by decide) rfl rfl rfl ?_
          clear hf; intro a ha hf; clear ha
          refine st_move hf rfl rfl (by decide) ?_
          clear hf; intro a ha hf; clear ha
          refine st_nil hf ?_
          obtain rfl := Option.some.inj h
          have hp : Hp _ _ _ (Res.sl Ek.c128 28 v22 (out10.set ((IntKind.i64.wrap (from11 + t47))).toNat ((fmul q62.1 (fquo (Fl.bits 4607182418800017408) (fofi (ishl .i64 (1 : Int) power1)))), (fmul q62.2 (fquo (Fl.bits 4607182418800017408) (fofi (ishl .i64 (1 : Int) power1)))))) :: Res.obj 55 v1 [.func (.func 27) #[] #[]] :: ow) := Hp.sel (pre := [Res.obj 55 v1 [.func (.func 27) #[] #[]], Res.sl Ek.c128 28 v22 (out10.set ((IntKind.i64.wrap (from11 + t47))).toNat ((fmul q62.1 (fquo (Fl.bits 4607182418800017408) (fofi (ishl .i64 (1 : Int) power1)))), (fmul q62.2 (fquo (Fl.bits 4607182418800017408) (fofi (ishl .i64 (1 : Int) power1))))))]) (tail := ow) (rs' := [Res.sl Ek.c128 28 v22 (out10.set ((IntKind.i64.wrap (from11 + t47))).toNat ((fmul q62.1 (fquo (Fl.bits 4607182418800017408) (fofi (ishl .i64 (1 : Int) power1)))), (fmul q62.2 (fquo (Fl.bits 4607182418800017408) (fofi (ishl .i64 (1 : Int) power1)))))), Res.obj 55 v1 [.func (.func 27) #[] #[]]]) hp [1, 0] (by decide) (by simp) rfl
          exact rnd_l ⟨_, hf.sub ⟨rfl, rfl, rfl, rfl, rfl, rfl, rfl, rfl, trivial⟩, hp⟩
        replace h := ifF h hb
        refine wp_exit ?_
        refine th_e ?_
        obtain rfl := Option.some.inj h
        exact rnd_r (by simp) ⟨rfl, _, hf.sub ⟨rfl, rfl, rfl, rfl, rfl, rfl, trivial⟩, hp⟩
      clear hl hf hp
      intro e a w hne hO
      obtain ⟨rfl, v24, hf, hp⟩ := hO
      refine ib_same ?_
      refine ib_n ?_
      refine th_n ?_
      refine wp_reg ?_
      refine st_move hf rfl rfl (by decide) ?_
      clear hf; intro a ha hf; clear ha
      refine st_move hf rfl rfl (by decide) ?_
      clear hf; intro a ha hf; clear ha
      refine st_iadd hf (by decide) rfl rfl rfl ?_
      clear hf; intro a ha hf; clear ha
      refine st_assign hf rfl rfl (by decide) ?_
      clear hf; intro a ha hf; clear ha
      refine st_nil hf ?_
      obtain rfl := Option.some.inj h
      exact rnd_l ⟨_, hf.sub ⟨rfl, rfl, rfl, rfl, rfl, rfl, trivial⟩, hp⟩
    replace h := ifF h hb
    refine wp_exit ?_
    refine th_e ?_
    obtain rfl := Option.some.inj h
    have hp : Hp _ _ _ (Res.sl Ek.c128 28 v18 out10 :: ow) := Hp.sel (pre := [Res.sl Ek.c128 28 v18 out10, Res.obj 55 v1 [.func (.func 27) #[] #[]]]) (tail := ow) (rs' := [Res.sl Ek.c128 28 v18 out10]) hp [0] (by decide) (by simp) rfl
    exact rnd_r (by simp) ⟨rfl, _, hf.sub ⟨rfl, trivial⟩, hp⟩
  clear hl hf hp
  intro e a w hne hO
  obtain ⟨rfl, v20, hf, hp⟩ := hO
  refine ib_same ?_
  refine th_n ?_
  refine wp_seq ?_
  refine wp_reg ?_
  refine st_move hf rfl rfl (by decide) ?_
  clear hf; intro a ha hf; clear ha
  refine st_assign hf rfl rfl (by decide) ?_
  clear hf; intro a ha hf; clear ha
  refine st_assign hf rfl rfl (by decide) ?_
  clear hf; intro a ha hf; clear ha
  refine st_nil hf ?_
  refine th_n ?_
  refine wp_ret ?_
  obtain rfl := Option.some.inj h
  exact ⟨rfl, ⟨_, hf.sub ⟨rfl, rfl, trivial⟩, hp⟩⟩

noncomputable def f_tones_Back (power0 : Int) (l1 : (List (Fl × Fl))) : Option ((List (Fl × Fl)) × Int) := ((f_tones_back).bind fun q1 => ((f_tones_way_rows_21 power0 l1).bind fun q3 => (some (q3.1, q3.2))))
theorem f_tones_Back_c {S : Nat → Prop} {w0 w : World} {ow : List Res} (hp : Hp S w0 w ow) (power0 : Int) (vl1 : Value) (l1 : (List (Fl × Fl))) (hl1 : RdS Ek.c128 S w0 vl1 l1) {r : ((List (Fl × Fl)) × Int)} (h : f_tones_Back power0 l1 = some r) :
    Calls Try.prog 10 #[.int .i64 power0, vl1] w (fun e w' => ∃ (u0 : Value), e = .returned (.tuple #[u0, .int .i64 r.2]) ∧ Hp S w0 w' (Res.sl Ek.c128 28 u0 r.1 :: ow)) := by
  unfold f_tones_Back at h
  refine enter (n := 12) (args := [.int .i64 power0, vl1]) Try.func10 rfl rfl (Nat.le_of_ble_eq_true rfl) fun a hf => ?_
  replace hf : Fr 12 a [(0, .int .i64 power0), (1, vl1)] := hf
  refine wp_mono (Q := fun e a w => e = .ret ∧ ∃ (u0 : Value), Fr 12 a [(4, u0), (5, .int .i64 r.2)] ∧ Hp S w0 w (Res.sl Ek.c128 28 u0 r.1 :: ow)) ?_ ?_
  rotate_left
  · rintro e a w ⟨rfl, x0, hf, hp⟩
    exact ret2 hf rfl rfl rfl ⟨x0, rfl, hp⟩
  refine wp_seq ?_
  refine wp_reg ?_
  refine st_assign hf rfl rfl (by decide) ?_
  clear hf; intro a ha hf; clear ha
  refine st_assign hf rfl rfl (by decide) ?_
  clear hf; intro a ha hf; clear ha
  refine st_nil hf ?_
  refine th_n ?_
  refine wp_seq ?_
  refine wp_reg ?_
  obtain ⟨q1, hcall2, h⟩ := bnd h
  refine st_call hf (by decide) Try.func22 rfl rfl rfl rfl rfl (f_tones_back_c hp  hcall2) ?_
  rintro _ w ⟨rfl, hp0⟩
  clear hp; have hp := hp0; clear hp0
  replace hp : Hp _ _ _ (ow) := hp
  refine ⟨_, rfl, ?_⟩
  clear hf; intro a hf
  refine st_move hf rfl rfl (by decide) ?_
  clear hf; intro a ha hf; clear ha
  refine st_move hf rfl rfl (by decide) ?_
  clear hf; intro a ha hf; clear ha
  obtain ⟨q3, hcall4, h⟩ := bnd h
  refine st_call hf (by decide) Try.func21 rfl rfl rfl rfl rfl (f_tones_way_rows_21_c hp _ _ _ hl1 hcall4) ?_
  rintro _ w ⟨v5, rfl, hp0⟩
  clear hp; have hp := hp0; clear hp0
  replace hp : Hp _ _ _ (Res.sl Ek.c128 28 v5 q3.1 :: ow) := hp
  refine ⟨_, rfl, ?_⟩
  clear hf; intro a hf
  refine st_extract hf (by decide) rfl rfl rfl ?_
  clear hf; intro a ha hf; clear ha
  refine st_extract hf (by decide) rfl rfl rfl ?_
  clear hf; intro a ha hf; clear ha
  refine st_assign hf rfl rfl (by decide) ?_
  clear hf; intro a ha hf; clear ha
  refine st_assign hf rfl rfl (by decide) ?_
  clear hf; intro a ha hf; clear ha
  refine st_nil hf ?_
  refine th_n ?_
  refine wp_ret ?_
  obtain rfl := Option.some.inj h
  exact ⟨rfl, ⟨_, hf.sub ⟨rfl, rfl, trivial⟩, hp⟩⟩

noncomputable def f_foghornlaw09_same.s1c (ax0 : (List (Fl × Fl))) (bx1 : (List (Fl × Fl))) (i5 : Int) : Option (Int ⊕ (Unit ⊕ Bool)) := (if (decide (i5 < (ax0.length : Int))) = true then (if 0 ≤ i5 ∧ i5 < (ax0.length : Int) then (if 0 ≤ i5 ∧ i5 < (bx1.length : Int) then (if (!ceq (gt ax0 i5) (gt bx1 i5)) = true then (some (Sum.inr (Sum.inr false))) else (some (Sum.inl (IntKind.i64.wrap (i5 + (1 : Int)))))) else none) else none) else (some (Sum.inr (Sum.inl ()))))
noncomputable def f_foghornlaw09_same.s1 (ax0 : (List (Fl × Fl))) (bx1 : (List (Fl × Fl))) (s : Int) : Option (Int ⊕ (Unit ⊕ Bool)) := f_foghornlaw09_same.s1c ax0 bx1 s
noncomputable def f_foghornlaw09_same (ax0 : (List (Fl × Fl))) (bx1 : (List (Fl × Fl))) : Option Bool := (if ((ax0.length : Int) != (bx1.length : Int)) = true then (some false) else ((loop (f_foghornlaw09_same.s1 ax0 bx1) (0 : Int)).bind (fun q13 => sm q13 (fun q14 => (some true)) (fun q15 => (some q15)))))
theorem f_foghornlaw09_same_c {S : Nat → Prop} {w0 w : World} {ow : List Res} (hp : Hp S w0 w ow) (vax0 : Value) (ax0 : (List (Fl × Fl))) (hax0 : RdS Ek.c128 S w0 vax0 ax0) (vbx1 : Value) (bx1 : (List (Fl × Fl))) (hbx1 : RdS Ek.c128 S w0 vbx1 bx1) {r : Bool} (h : f_foghornlaw09_same ax0 bx1 = some r) :
    Calls Try.prog 11 #[vax0, vbx1] w (fun e w' => e = .returned (.bool r) ∧ Hp S w0 w' (ow)) := by
  unfold f_foghornlaw09_same at h
  refine enter (n := 26) (args := [vax0, vbx1]) Try.func11 rfl rfl (Nat.le_of_ble_eq_true rfl) fun a hf => ?_
  replace hf : Fr 26 a [(0, vax0), (1, vbx1)] := hf
  refine wp_mono (Q := fun e a w => e = .ret ∧ Fr 26 a [(4, .bool r)] ∧ Hp S w0 w (ow)) ?_ ?_
  rotate_left
  · rintro e a w ⟨rfl, hf, hp⟩
    exact ret1 hf rfl rfl ⟨rfl, hp⟩
  refine wp_seq ?_
  refine wp_reg ?_
  refine st_assign hf rfl rfl (by decide) ?_
  clear hf; intro a ha hf; clear ha
  refine st_nil hf ?_
  refine th_n ?_
  refine wp_seq ?_
  refine wp_seq ?_
  refine wp_reg ?_
  refine st_move hf rfl rfl (by decide) ?_
  clear hf; intro a ha hf; clear ha
  refine st_len (E := Ek.c128) hf (by decide) Try.underlying26 rfl rfl (hax0.sl hp) ?_
  clear hf; intro a ha hf; clear ha
  refine st_move hf rfl rfl (by decide) ?_
  clear hf; intro a ha hf; clear ha
  refine st_len (E := Ek.c128) hf (by decide) Try.underlying26 rfl rfl (hbx1.sl hp) ?_
  clear hf; intro a ha hf; clear ha
  refine st_ineq hf (by decide) rfl rfl rfl ?_
  clear hf; intro a ha hf; clear ha
  refine st_nil hf ?_
  refine th_n ?_
  refine wp_if hf rfl (fun hb => ?_) (fun hb => ?_)
  · replace h := ifT h hb
    refine wp_seq ?_
    refine wp_reg ?_
    refine st_assign hf rfl rfl (by decide) ?_
    clear hf; intro a ha hf; clear ha
    refine st_nil hf ?_
    refine th_n ?_
    refine wp_ret ?_
    refine th_r ?_
    obtain rfl := Option.some.inj h
    exact ⟨rfl, ⟨hf.sub ⟨rfl, trivial⟩, hp⟩⟩
  replace h := ifF h hb
  refine wp_skip ?_
  refine th_n ?_
  refine wp_seq ?_
  refine wp_seq ?_
  refine wp_reg ?_
  refine st_assign hf rfl rfl (by decide) ?_
  clear hf; intro a ha hf; clear ha
  refine st_nil hf ?_
  refine th_n ?_
  refine wp_block ?_
  obtain ⟨q13, hl, h⟩ := bnd h
  refine wp_loop_pure (f := (f_foghornlaw09_same.s1 ax0 bx1)) (s := (0 : Int)) (fun s a w => Fr 26 a [(0, vax0), (1, vbx1), (5, .int .i64 s)] ∧ Hp S w0 w (ow)) (fun q e a w => match q with | (Sum.inl q) => e = .exit 0 ∧ Fr 26 a [] ∧ Hp S w0 w (ow) | (Sum.inr q) => e = .ret ∧ Fr 26 a [(4, .bool q)] ∧ Hp S w0 w (ow)) ?_ hl ⟨hf.sub ⟨rfl, rfl, rfl, trivial⟩, hp⟩ ?_
  · clear hl hf hp
    intro s x a w h hI
    obtain ⟨i5, hs⟩ : ∃ z, z = s := ⟨s, rfl⟩; subst hs
    obtain ⟨hf, hp⟩ : Fr 26 a [(0, vax0), (1, vbx1), (5, .int .i64 i5)] ∧ Hp S w0 w (ow) := hI
    replace h : f_foghornlaw09_same.s1c ax0 bx1 i5 = some x := h
    unfold f_foghornlaw09_same.s1c at h
    refine wp_seq ?_
    refine wp_seq ?_
    refine wp_reg ?_
    refine st_move hf rfl rfl (by decide) ?_
    clear hf; intro a ha hf; clear ha
    refine st_move hf rfl rfl (by decide) ?_
    clear hf; intro a ha hf; clear ha
    refine st_len (E := Ek.c128) hf (by decide) Try.underlying26 rfl rfl (hax0.sl hp) ?_
    clear hf; intro a ha hf; clear ha
    refine st_ilss hf (by decide) rfl rfl rfl ?_
    clear hf; intro a ha hf; clear ha
    refine st_nil hf ?_
    refine th_n ?_
    refine wp_if hf rfl (fun hb => ?_) (fun hb => ?_)
    · replace h := ifT h hb
      refine wp_skip ?_
      refine th_n ?_
      refine wp_seq ?_
      refine wp_block ?_
      refine wp_seq ?_
      obtain ⟨hc1, h⟩ := chk h
      obtain ⟨bb3, bb4, y5, y6, hl2⟩ := RdS.pinC (p := i5) hax0 hc1.1 hc1.2
      obtain ⟨hc7, h⟩ := chk h
      obtain ⟨bb9, bb10, y11, y12, hl8⟩ := RdS.pinC (p := i5) hbx1 hc7.1 hc7.2
      refine wp_cutN (fun a w => Fr 26 a [(0, vax0), (1, vbx1), (5, .int .i64 i5), (25, .bool (!ceq (gt ax0 i5) (gt bx1 i5)))] ∧ Hp S w0 w (ow)) ?_ ?_
      · have hp := hp.same (Same.drew w)
        refine dr_begin' (fun a w => Fr 26 a [(0, vax0), (1, vbx1), (5, .int .i64 i5), (25, .bool (!ceq (gt ax0 i5) (gt bx1 i5)))] ∧ Hp S w0 w (ow)) (fun w' => ∃ l, Hp S w0 w' l) [] (by kernel_rfl) ?_
        refine dr_take 0 (vax0) rfl (by kernel_rfl) (by kernel_rfl) (by kernel_rfl) (by kernel_rfl) rfl rfl hf (by decide) rfl (fun w hp => ?_) ⟨_, hp⟩ ?_
        · obtain ⟨_, hp⟩ := hp
          refine st_move hf rfl rfl (by decide) ?_
          clear hf; intro a ha hf
          exact st_nil hf (th_n ⟨ha, rfl⟩)
        clear hf; intro a hf
        refine dr_take 1 (.int .i64 i5) rfl (by kernel_rfl) (by kernel_rfl) (by kernel_rfl) (by kernel_rfl) rfl rfl hf (by decide) rfl (fun w hp => ?_) ⟨_, hp⟩ ?_
        · obtain ⟨_, hp⟩ := hp
          refine st_move hf rfl rfl (by decide) ?_
          clear hf; intro a ha hf
          exact st_nil hf (th_n ⟨ha, rfl⟩)
        clear hf; intro a hf
        refine dr_take 2 (eptr vax0 i5 1) rfl (by kernel_rfl) (by kernel_rfl) (by kernel_rfl) (by kernel_rfl) rfl rfl hf (by decide) rfl (fun w hp => ?_) ⟨_, hp⟩ ?_
        · obtain ⟨_, hp⟩ := hp
          refine st_index (E := Ek.c128) hf (by decide) Try.underlying26 elt28 rfl rfl rfl (hax0.sl hp) hc1.1 hc1.2 ?_
          clear hf; intro a ha hf
          exact st_nil hf (th_n ⟨ha, rfl⟩)
        clear hf; intro a hf
        refine dr_take 3 (.complex .f64 bb3 bb4) rfl (by kernel_rfl) (by kernel_rfl) (by kernel_rfl) (by kernel_rfl) rfl rfl hf (by decide) rfl (fun w hp => ?_) ⟨_, hp⟩ ?_
        · obtain ⟨_, hp⟩ := hp
          refine st_ldP hf (by decide) pl28 rfl rfl (hl2 _ _ hp) ?_
          clear hf; intro a ha hf
          exact st_nil hf (th_n ⟨ha, rfl⟩)
        clear hf; intro a hf
        refine dr_take 4 (vbx1) rfl (by kernel_rfl) (by kernel_rfl) (by kernel_rfl) (by kernel_rfl) rfl rfl hf (by decide) rfl (fun w hp => ?_) ⟨_, hp⟩ ?_
        · obtain ⟨_, hp⟩ := hp
          refine st_move hf rfl rfl (by decide) ?_
          clear hf; intro a ha hf
          exact st_nil hf (th_n ⟨ha, rfl⟩)
        clear hf; intro a hf
        refine dr_take 5 (.int .i64 i5) rfl (by kernel_rfl) (by kernel_rfl) (by kernel_rfl) (by kernel_rfl) rfl rfl hf (by decide) rfl (fun w hp => ?_) ⟨_, hp⟩ ?_
        · obtain ⟨_, hp⟩ := hp
          refine st_move hf rfl rfl (by decide) ?_
          clear hf; intro a ha hf
          exact st_nil hf (th_n ⟨ha, rfl⟩)
        clear hf; intro a hf
        refine dr_take 6 (eptr vbx1 i5 1) rfl (by kernel_rfl) (by kernel_rfl) (by kernel_rfl) (by kernel_rfl) rfl rfl hf (by decide) rfl (fun w hp => ?_) ⟨_, hp⟩ ?_
        · obtain ⟨_, hp⟩ := hp
          refine st_index (E := Ek.c128) hf (by decide) Try.underlying26 elt28 rfl rfl rfl (hbx1.sl hp) hc7.1 hc7.2 ?_
          clear hf; intro a ha hf
          exact st_nil hf (th_n ⟨ha, rfl⟩)
        clear hf; intro a hf
        refine dr_take 7 (.complex .f64 bb9 bb10) rfl (by kernel_rfl) (by kernel_rfl) (by kernel_rfl) (by kernel_rfl) rfl rfl hf (by decide) rfl (fun w hp => ?_) ⟨_, hp⟩ ?_
        · obtain ⟨_, hp⟩ := hp
          refine st_ldP hf (by decide) pl28 rfl rfl (hl8 _ _ hp) ?_
          clear hf; intro a ha hf
          exact st_nil hf (th_n ⟨ha, rfl⟩)
        clear hf; intro a hf
        refine dr_take 8 (.bool (!ceq (gt ax0 i5) (gt bx1 i5))) rfl (by kernel_rfl) (by kernel_rfl) (by kernel_rfl) (by kernel_rfl) rfl rfl hf (by decide) rfl (fun w hp => ?_) ⟨_, hp⟩ ?_
        · obtain ⟨_, hp⟩ := hp
          refine st_ccmp (r_cne (x := (gt ax0 i5)) (y := (gt bx1 i5)) y5 y6 y11 y12) hf (by decide) rfl rfl rfl ?_
          clear hf; intro a ha hf
          exact st_nil hf (th_n ⟨ha, rfl⟩)
        clear hf; intro a hf
        refine dr_end (by kernel_rfl) ?_ _
        exact ⟨hf.sub ⟨rfl, rfl, rfl, rfl, trivial⟩, hp⟩
      rintro a w ⟨hf, hp⟩
      refine th_n ?_
      refine wp_if hf rfl (fun hb => ?_) (fun hb => ?_)
      · replace h := ifT h hb
        refine wp_seq ?_
        refine wp_reg ?_
        refine st_assign hf rfl rfl (by decide) ?_
        clear hf; intro a ha hf; clear ha
        refine st_nil hf ?_
        refine th_n ?_
        refine wp_ret ?_
        refine ib_r ?_
        refine th_r ?_
        obtain rfl := Option.some.inj h
        exact rnd_r (by simp) ⟨rfl, ⟨hf.sub ⟨rfl, trivial⟩, hp⟩⟩
      replace h := ifF h hb
      refine wp_skip ?_
      refine ib_n ?_
      refine th_n ?_
      refine wp_reg ?_
      refine st_move hf rfl rfl (by decide) ?_
      clear hf; intro a ha hf; clear ha
      refine st_iadd hf (by decide) rfl rfl rfl ?_
      clear hf; intro a ha hf; clear ha
      refine st_assign hf rfl rfl (by decide) ?_
      clear hf; intro a ha hf; clear ha
      refine st_nil hf ?_
      obtain rfl := Option.some.inj h
      exact rnd_l ⟨hf.sub ⟨rfl, rfl, rfl, trivial⟩, hp⟩
    replace h := ifF h hb
    refine wp_exit ?_
    refine th_e ?_
    obtain rfl := Option.some.inj h
    exact rnd_r (by simp) ⟨rfl, hf.sub trivial, hp⟩
  clear hl hf hp
  intro e a w hne hO
  rcases q13 with q14 | q15
  · replace h := smL h
    obtain ⟨rfl, hf, hp⟩ := hO
    refine ib_same ?_
    refine th_n ?_
    refine wp_seq ?_
    refine wp_reg ?_
    refine st_assign hf rfl rfl (by decide) ?_
    clear hf; intro a ha hf; clear ha
    refine st_nil hf ?_
    refine th_n ?_
    refine wp_ret ?_
    obtain rfl := Option.some.inj h
    exact ⟨rfl, ⟨hf.sub ⟨rfl, trivial⟩, hp⟩⟩
  replace h := smR h
  obtain ⟨rfl, hf, hp⟩ := hO
  refine ib_r ?_
  refine th_r ?_
  obtain rfl := Option.some.inj h
  exact ⟨rfl, ⟨hf.sub ⟨rfl, trivial⟩, hp⟩⟩

noncomputable def f_tones_Entry (power0 : Int) (place1 : Int) (tone2 : Int) : Option (Int × Int) := ((f_tones_tones power0).bind fun q1 => (if ((((decide (place1 < (0 : Int))) || (decide (q1 ≤ place1))) || (decide (tone2 < (0 : Int)))) || (decide (q1 ≤ tone2))) = true then (some ((0 : Int), (1 : Int))) else ((f_tones_entry place1 tone2).bind fun q9 => (some (q9, (0 : Int))))))
theorem f_tones_Entry_c {S : Nat → Prop} {w0 w : World} {ow : List Res} (hp : Hp S w0 w ow) (power0 : Int) (place1 : Int) (tone2 : Int) {r : (Int × Int)} (h : f_tones_Entry power0 place1 tone2 = some r) :
    Calls Try.prog 15 #[.int .i64 power0, .int .i64 place1, .int .i64 tone2] w (fun e w' => e = .returned (.tuple #[.int .i64 r.1, .int .i64 r.2]) ∧ Hp S w0 w' (ow)) := by
  unfold f_tones_Entry at h
  refine enter (n := 30) (args := [.int .i64 power0, .int .i64 place1, .int .i64 tone2]) Try.func15 rfl rfl (Nat.le_of_ble_eq_true rfl) fun a hf => ?_
  replace hf : Fr 30 a [(0, .int .i64 power0), (1, .int .i64 place1), (2, .int .i64 tone2)] := hf
  refine wp_mono (Q := fun e a w => e = .ret ∧ Fr 30 a [(6, .int .i64 r.1), (7, .int .i64 r.2)] ∧ Hp S w0 w (ow)) ?_ ?_
  rotate_left
  · rintro e a w ⟨rfl, hf, hp⟩
    exact ret2 hf rfl rfl rfl ⟨rfl, hp⟩
  refine wp_seq ?_
  refine wp_reg ?_
  refine st_assign hf rfl rfl (by decide) ?_
  clear hf; intro a ha hf; clear ha
  refine st_assign hf rfl rfl (by decide) ?_
  clear hf; intro a ha hf; clear ha
  refine st_nil hf ?_
  refine th_n ?_
  refine wp_seq ?_
  refine wp_reg ?_
  refine st_move hf rfl rfl (by decide) ?_
  clear hf; intro a ha hf; clear ha
  obtain ⟨q1, hcall2, h⟩ := bnd h
  refine st_call hf (by decide) Try.func25 rfl rfl rfl rfl rfl (f_tones_tones_c hp _ hcall2) ?_
  rintro _ w ⟨rfl, hp0⟩
  clear hp; have hp := hp0; clear hp0
  replace hp : Hp _ _ _ (ow) := hp
  refine ⟨_, rfl, ?_⟩
  clear hf; intro a hf
  refine st_assign hf rfl rfl (by decide) ?_
  clear hf; intro a ha hf; clear ha
  refine st_nil hf ?_
  refine th_n ?_
  refine wp_seq ?_
  refine wp_seq ?_
  refine wp_reg ?_
  refine st_move hf rfl rfl (by decide) ?_
  clear hf; intro a ha hf; clear ha
  refine st_ilss hf (by decide) rfl rfl rfl ?_
  clear hf; intro a ha hf; clear ha
  refine st_move hf rfl rfl (by decide) ?_
  clear hf; intro a ha hf; clear ha
  refine wpList_cut 4 (fun a w => Fr 30 a [(1, .int .i64 place1), (2, .int .i64 tone2), (8, .int .i64 q1), (17, .bool ((decide (place1 < (0 : Int))) || (decide (q1 ≤ place1))))] ∧ Hp S w0 w (ow)) ?_ ?_
  · rcases Bool.eq_false_or_eq_true (decide (place1 < (0 : Int))) with hb4 | hb4
    · skip
      refine st_skip hf (wantN hf rfl rfl hb4) rfl (by decide) ?_ rfl
      clear hf; intro a hf
      refine st_skip hf (wantN hf rfl rfl hb4) rfl (by decide) ?_ rfl
      clear hf; intro a hf
      refine st_skip hf (wantN hf rfl rfl hb4) rfl (by decide) ?_ rfl
      clear hf; intro a hf
      refine st_pick (v := .bool true) hf rfl rfl (fun hb' => ?_) (fun hb' => ?_) (by decide) ?_
      · rfl
      · exact absurd (hb4.symm.trans hb') (by decide)
      clear hf; intro a ha hf; clear ha
      refine st_nil hf (th_n ?_)
      exact ⟨hf.sub ⟨rfl, rfl, rfl, (by rw [hb4]; rfl), trivial⟩, hp⟩
    refine st_move hf (wantY hf rfl rfl hb4) rfl (by decide) ?_
    clear hf; intro a ha hf; clear ha
    refine st_move hf (wantY hf rfl rfl hb4) rfl (by decide) ?_
    clear hf; intro a ha hf; clear ha
    refine st_igeq hf (by decide) (wantY hf rfl rfl hb4) rfl rfl ?_
    clear hf; intro a ha hf; clear ha
    refine st_pick (v := .bool (decide (q1 ≤ place1))) hf rfl rfl (fun hb' => ?_) (fun hb' => ?_) (by decide) ?_
    · exact absurd (hb4.symm.trans hb') (by decide)
    · rfl
    clear hf; intro a ha hf; clear ha
    refine st_nil hf (th_n ?_)
    exact ⟨hf.sub ⟨rfl, rfl, rfl, (by rw [hb4]; rfl), trivial⟩, hp⟩
  rintro a w ⟨hf, hp⟩
  refine st_move hf rfl rfl (by decide) ?_
  clear hf; intro a ha hf; clear ha
  refine wpList_cut 3 (fun a w => Fr 30 a [(1, .int .i64 place1), (2, .int .i64 tone2), (8, .int .i64 q1), (21, .bool (((decide (place1 < (0 : Int))) || (decide (q1 ≤ place1))) || (decide (tone2 < (0 : Int)))))] ∧ Hp S w0 w (ow)) ?_ ?_
  · rcases Bool.eq_false_or_eq_true ((decide (place1 < (0 : Int))) || (decide (q1 ≤ place1))) with hb6 | hb6
    · skip
      refine st_skip hf (wantN hf rfl rfl hb6) rfl (by decide) ?_ rfl
      clear hf; intro a hf
      refine st_skip hf (wantN hf rfl rfl hb6) rfl (by decide) ?_ rfl
      clear hf; intro a hf
      refine st_pick (v := .bool true) hf rfl rfl (fun hb' => ?_) (fun hb' => ?_) (by decide) ?_
      · rfl
      · exact absurd (hb6.symm.trans hb') (by decide)
      clear hf; intro a ha hf; clear ha
      refine st_nil hf (th_n ?_)
      exact ⟨hf.sub ⟨rfl, rfl, rfl, (by rw [hb6]; rfl), trivial⟩, hp⟩
    refine st_move hf (wantY hf rfl rfl hb6) rfl (by decide) ?_
    clear hf; intro a ha hf; clear ha
    refine st_ilss hf (by decide) (wantY hf rfl rfl hb6) rfl rfl ?_
    clear hf; intro a ha hf; clear ha
    refine st_pick (v := .bool (decide (tone2 < (0 : Int)))) hf rfl rfl (fun hb' => ?_) (fun hb' => ?_) (by decide) ?_
    · exact absurd (hb6.symm.trans hb') (by decide)
    · rfl
    clear hf; intro a ha hf; clear ha
    refine st_nil hf (th_n ?_)
    exact ⟨hf.sub ⟨rfl, rfl, rfl, (by rw [hb6]; rfl), trivial⟩, hp⟩
  rintro a w ⟨hf, hp⟩
  refine st_move hf rfl rfl (by decide) ?_
  clear hf; intro a ha hf; clear ha
  refine wpList_cut 4 (fun a w => Fr 30 a [(1, .int .i64 place1), (2, .int .i64 tone2), (26, .bool ((((decide (place1 < (0 : Int))) || (decide (q1 ≤ place1))) || (decide (tone2 < (0 : Int)))) || (decide (q1 ≤ tone2))))] ∧ Hp S w0 w (ow)) ?_ ?_
  · rcases Bool.eq_false_or_eq_true (((decide (place1 < (0 : Int))) || (decide (q1 ≤ place1))) || (decide (tone2 < (0 : Int)))) with hb8 | hb8
    · skip
      refine st_skip hf (wantN hf rfl rfl hb8) rfl (by decide) ?_ rfl
      clear hf; intro a hf
      refine st_skip hf (wantN hf rfl rfl hb8) rfl (by decide) ?_ rfl
      clear hf; intro a hf
      refine st_skip hf (wantN hf rfl rfl hb8) rfl (by decide) ?_ rfl
      clear hf; intro a hf
      refine st_pick (v := .bool true) hf rfl rfl (fun hb' => ?_) (fun hb' => ?_) (by decide) ?_
      · rfl
      · exact absurd (hb8.symm.trans hb') (by decide)
      clear hf; intro a ha hf; clear ha
      refine st_nil hf (th_n ?_)
      exact ⟨hf.sub ⟨rfl, rfl, (by rw [hb8]; rfl), trivial⟩, hp⟩
    refine st_move hf (wantY hf rfl rfl hb8) rfl (by decide) ?_
    clear hf; intro a ha hf; clear ha
    refine st_move hf (wantY hf rfl rfl hb8) rfl (by decide) ?_
    clear hf; intro a ha hf; clear ha
    refine st_igeq hf (by decide) (wantY hf rfl rfl hb8) rfl rfl ?_
    clear hf; intro a ha hf; clear ha
    refine st_pick (v := .bool (decide (q1 ≤ tone2))) hf rfl rfl (fun hb' => ?_) (fun hb' => ?_) (by decide) ?_
    · exact absurd (hb8.symm.trans hb') (by decide)
    · rfl
    clear hf; intro a ha hf; clear ha
    refine st_nil hf (th_n ?_)
    exact ⟨hf.sub ⟨rfl, rfl, (by rw [hb8]; rfl), trivial⟩, hp⟩
  rintro a w ⟨hf, hp⟩
  refine st_nil hf ?_
  refine th_n ?_
  refine wp_if hf rfl (fun hb => ?_) (fun hb => ?_)
  · replace h := ifT h hb
    refine wp_seq ?_
    refine wp_reg ?_
    refine st_assign hf rfl rfl (by decide) ?_
    clear hf; intro a ha hf; clear ha
    refine st_assign hf rfl rfl (by decide) ?_
    clear hf; intro a ha hf; clear ha
    refine st_nil hf ?_
    refine th_n ?_
    refine wp_ret ?_
    refine th_r ?_
    obtain rfl := Option.some.inj h
    exact ⟨rfl, ⟨hf.sub ⟨rfl, rfl, trivial⟩, hp⟩⟩
  replace h := ifF h hb
  refine wp_skip ?_
  refine th_n ?_
  refine wp_seq ?_
  refine wp_reg ?_
  refine st_move hf rfl rfl (by decide) ?_
  clear hf; intro a ha hf; clear ha
  refine st_move hf rfl rfl (by decide) ?_
  clear hf; intro a ha hf; clear ha
  obtain ⟨q9, hcall10, h⟩ := bnd h
  refine st_call hf (by decide) Try.func26 rfl rfl rfl rfl rfl (f_tones_entry_c hp _ _ hcall10) ?_
  rintro _ w ⟨rfl, hp0⟩
  clear hp; have hp := hp0; clear hp0
  replace hp : Hp _ _ _ (ow) := hp
  refine ⟨_, rfl, ?_⟩
  clear hf; intro a hf
  refine st_assign hf rfl rfl (by decide) ?_
  clear hf; intro a ha hf; clear ha
  refine st_assign hf rfl rfl (by decide) ?_
  clear hf; intro a ha hf; clear ha
  refine st_nil hf ?_
  refine th_n ?_
  refine wp_ret ?_
  obtain rfl := Option.some.inj h
  exact ⟨rfl, ⟨hf.sub ⟨rfl, rfl, trivial⟩, hp⟩⟩

noncomputable def f_plane_Mul (ax0 : (Fl × Fl)) (bx1 : (Fl × Fl)) : Option (Fl × Fl) := (some ((fsub (fmul ax0.1 bx1.1) (fmul ax0.2 bx1.2)), (fadd (fmul ax0.1 bx1.2) (fmul ax0.2 bx1.1))))
theorem f_plane_Mul_c {S : Nat → Prop} {w0 w : World} {ow : List Res} (hp : Hp S w0 w ow) (bax0 cax0 : Nat) (ax0 : Fl × Fl) (hax0 : ax0.1.rep bax0) (kax0 : ax0.2.rep cax0) (bbx1 cbx1 : Nat) (bx1 : Fl × Fl) (hbx1 : bx1.1.rep bbx1) (kbx1 : bx1.2.rep cbx1) {r : (Fl × Fl)} (h : f_plane_Mul ax0 bx1 = some r) :
    Calls Try.prog 16 #[.complex .f64 bax0 cax0, .complex .f64 bbx1 cbx1] w (fun e w' => ∃ (b0 : Nat) (b1 : Nat), e = .returned (.complex .f64 b0 b1) ∧ Fl.rep b0 r.1 ∧ Fl.rep b1 r.2 ∧ Hp S w0 w' (ow)) := by
  unfold f_plane_Mul at h
  refine enter (n := 32) (args := [.complex .f64 bax0 cax0, .complex .f64 bbx1 cbx1]) Try.func16 rfl rfl (Nat.le_of_ble_eq_true rfl) fun a hf => ?_
  replace hf : Fr 32 a [(0, .complex .f64 bax0 cax0), (1, .complex .f64 bbx1 cbx1)] := hf
  refine wp_mono (Q := fun e a w => e = .ret ∧ ∃ (b0 : Nat) (b1 : Nat), Fr 32 a [(4, .complex .f64 b0 b1)] ∧ Fl.rep b0 r.1 ∧ Fl.rep b1 r.2 ∧ Hp S w0 w (ow)) ?_ ?_
  rotate_left
  · rintro e a w ⟨rfl, x0, x1, hf, y0, y1, hp⟩
    exact ret1 hf rfl rfl ⟨x0, x1, rfl, y0, y1, hp⟩
  refine wp_seq ?_
  refine wp_reg ?_
  refine st_assign hf rfl rfl (by decide) ?_
  clear hf; intro a ha hf; clear ha
  refine st_nil hf ?_
  refine th_n ?_
  refine wp_seq ?_
  refine wp_reg ?_
  refine st_move hf rfl rfl (by decide) ?_
  clear hf; intro a ha hf; clear ha
  refine st_real hf (by decide) rfl rfl ?_
  clear hf; intro a ha hf; clear ha
  refine st_move hf rfl rfl (by decide) ?_
  clear hf; intro a ha hf; clear ha
  refine st_real hf (by decide) rfl rfl ?_
  clear hf; intro a ha hf; clear ha
  refine st_farith (op := .mul) rfl hf (by decide) hp rfl rfl rfl (show Fl.rep bax0 ax0.1 from hax0) (show Fl.rep bbx1 bx1.1 from hbx1) ?_
  clear hf; intro a w bb1 y2 hf hp0; clear hp; have hp := hp0; clear hp0
  replace hp : Hp _ _ _ (ow) := hp
  refine st_move hf rfl rfl (by decide) ?_
  clear hf; intro a ha hf; clear ha
  refine st_imag hf (by decide) rfl rfl ?_
  clear hf; intro a ha hf; clear ha
  refine st_move hf rfl rfl (by decide) ?_
  clear hf; intro a ha hf; clear ha
  refine st_imag hf (by decide) rfl rfl ?_
  clear hf; intro a ha hf; clear ha
  refine st_farith (op := .mul) rfl hf (by decide) hp rfl rfl rfl (show Fl.rep cax0 ax0.2 from kax0) (show Fl.rep cbx1 bx1.2 from kbx1) ?_
  clear hf; intro a w bb3 y4 hf hp0; clear hp; have hp := hp0; clear hp0
  replace hp : Hp _ _ _ (ow) := hp
  refine st_farith (op := .sub) rfl hf (by decide) hp rfl rfl rfl (show Fl.rep bb1 (fmul ax0.1 bx1.1) from y2) (show Fl.rep bb3 (fmul ax0.2 bx1.2) from y4) ?_
  clear hf; intro a w bb5 y6 hf hp0; clear hp; have hp := hp0; clear hp0
  replace hp : Hp _ _ _ (ow) := hp
  refine st_assign hf rfl rfl (by decide) ?_
  clear hf; intro a ha hf; clear ha
  refine st_nil hf ?_
  refine th_n ?_
  refine wp_seq ?_
  refine wp_reg ?_
  refine st_move hf rfl rfl (by decide) ?_
  clear hf; intro a ha hf; clear ha
  refine st_real hf (by decide) rfl rfl ?_
  clear hf; intro a ha hf; clear ha
  refine st_move hf rfl rfl (by decide) ?_
  clear hf; intro a ha hf; clear ha
  refine st_imag hf (by decide) rfl rfl ?_
  clear hf; intro a ha hf; clear ha
  refine st_farith (op := .mul) rfl hf (by decide) hp rfl rfl rfl (show Fl.rep bax0 ax0.1 from hax0) (show Fl.rep cbx1 bx1.2 from kbx1) ?_
  clear hf; intro a w bb7 y8 hf hp0; clear hp; have hp := hp0; clear hp0
  replace hp : Hp _ _ _ (ow) := hp
  refine st_move hf rfl rfl (by decide) ?_
  clear hf; intro a ha hf; clear ha
  refine st_imag hf (by decide) rfl rfl ?_
  clear hf; intro a ha hf; clear ha
  refine st_move hf rfl rfl (by decide) ?_
  clear hf; intro a ha hf; clear ha
  refine st_real hf (by decide) rfl rfl ?_
  clear hf; intro a ha hf; clear ha
  refine st_farith (op := .mul) rfl hf (by decide) hp rfl rfl rfl (show Fl.rep cax0 ax0.2 from kax0) (show Fl.rep bbx1 bx1.1 from hbx1) ?_
  clear hf; intro a w bb9 y10 hf hp0; clear hp; have hp := hp0; clear hp0
  replace hp : Hp _ _ _ (ow) := hp
  refine st_farith (op := .add) rfl hf (by decide) hp rfl rfl rfl (show Fl.rep bb7 (fmul ax0.1 bx1.2) from y8) (show Fl.rep bb9 (fmul ax0.2 bx1.1) from y10) ?_
  clear hf; intro a w bb11 y12 hf hp0; clear hp; have hp := hp0; clear hp0
  replace hp : Hp _ _ _ (ow) := hp
  refine st_assign hf rfl rfl (by decide) ?_
  clear hf; intro a ha hf; clear ha
  refine st_nil hf ?_
  refine th_n ?_
  refine wp_seq ?_
  refine wp_reg ?_
  refine st_move hf rfl rfl (by decide) ?_
  clear hf; intro a ha hf; clear ha
  refine st_move hf rfl rfl (by decide) ?_
  clear hf; intro a ha hf; clear ha
  refine st_complex hf (by decide) rfl rfl rfl ?_
  clear hf; intro a ha hf; clear ha
  refine st_assign hf rfl rfl (by decide) ?_
  clear hf; intro a ha hf; clear ha
  refine st_nil hf ?_
  refine th_n ?_
  refine wp_ret ?_
  obtain rfl := Option.some.inj h
  exact ⟨rfl, ⟨_, _, hf.sub ⟨rfl, trivial⟩, y6, y12, hp⟩⟩

noncomputable def f_tones_Round.s1c (l1 : (List (Fl × Fl))) (by2 : Int) (q1 : Int) (out9 : (List (Fl × Fl))) (t33 : Int) : Option (((List (Fl × Fl)) × Int) ⊕ (List (Fl × Fl))) := (if (decide (t33 < (l1.length : Int))) = true then (if 0 ≤ t33 ∧ t33 < (l1.length : Int) then (if 0 ≤ (ior .i64 (iandn .i64 t33 (IntKind.i64.wrap (q1 - (1 : Int)))) (iand .i64 (IntKind.i64.wrap (t33 + by2)) (IntKind.i64.wrap (q1 - (1 : Int))))) ∧ (ior .i64 (iandn .i64 t33 (IntKind.i64.wrap (q1 - (1 : Int)))) (iand .i64 (IntKind.i64.wrap (t33 + by2)) (IntKind.i64.wrap (q1 - (1 : Int))))) < (out9.length : Int) then (some (Sum.inl ((out9.set ((ior .i64 (iandn .i64 t33 (IntKind.i64.wrap (q1 - (1 : Int)))) (iand .i64 (IntKind.i64.wrap (t33 + by2)) (IntKind.i64.wrap (q1 - (1 : Int)))))).toNat (gt l1 t33)), (IntKind.i64.wrap (t33 + (1 : Int)))))) else none) else none) else (some (Sum.inr out9)))
noncomputable def f_tones_Round.s1 (l1 : (List (Fl × Fl))) (by2 : Int) (q1 : Int) (s : ((List (Fl × Fl)) × Int)) : Option (((List (Fl × Fl)) × Int) ⊕ (List (Fl × Fl))) := f_tones_Round.s1c l1 by2 q1 s.1 s.2
noncomputable def f_tones_Round (power0 : Int) (l1 : (List (Fl × Fl))) (by2 : Int) : Option ((List (Fl × Fl)) × Int) := ((f_tones_tones power0).bind fun q1 => ((if ((q1 == (0 : Int)) || (decide ((65536 : Int) < (l1.length : Int)))) = true then (some true) else (if q1 ≠ 0 then (some (decide ((0 : Int) < (((l1.length : Int)).tmod q1)))) else none)).bind fun z7 => (if z7 = true then (some ([], (1 : Int))) else (if 0 ≤ (l1.length : Int) ∧ (l1.length : Int) ≤ (l1.length : Int) ∧ (l1.length : Int) * 16 ≤ 281474976710656 then ((loop (f_tones_Round.s1 l1 by2 q1) ((List.replicate ((l1.length : Int)).toNat (Fl.bits 0, Fl.bits 0)), (0 : Int))).bind (fun q23 => (some (q23, (0 : Int))))) else none))))
theorem f_tones_Round_c {S : Nat → Prop} {w0 w : World} {ow : List Res} (hp : Hp S w0 w ow) (power0 : Int) (vl1 : Value) (l1 : (List (Fl × Fl))) (hl1 : RdS Ek.c128 S w0 vl1 l1) (by2 : Int) {r : ((List (Fl × Fl)) × Int)} (h : f_tones_Round power0 l1 by2 = some r) :
    Calls Try.prog 19 #[.int .i64 power0, vl1, .int .i64 by2] w (fun e w' => ∃ (u0 : Value), e = .returned (.tuple #[u0, .int .i64 r.2]) ∧ Hp S w0 w' (Res.sl Ek.c128 28 u0 r.1 :: ow)) := by
  unfold f_tones_Round at h
  refine enter (n := 54) (args := [.int .i64 power0, vl1, .int .i64 by2]) Try.func19 rfl rfl (Nat.le_of_ble_eq_true rfl) fun a hf => ?_
  replace hf : Fr 54 a [(0, .int .i64 power0), (1, vl1), (2, .int .i64 by2)] := hf
  refine wp_mono (Q := fun e a w => e = .ret ∧ ∃ (u0 : Value), Fr 54 a [(6, u0), (7, .int .i64 r.2)] ∧ Hp S w0 w (Res.sl Ek.c128 28 u0 r.1 :: ow)) ?_ ?_
  rotate_left
  · rintro e a w ⟨rfl, x0, hf, hp⟩
    exact ret2 hf rfl rfl rfl ⟨x0, rfl, hp⟩
  refine wp_seq ?_
  refine wp_reg ?_
  refine st_assign hf rfl rfl (by decide) ?_
  clear hf; intro a ha hf; clear ha
  refine st_assign hf rfl rfl (by decide) ?_
  clear hf; intro a ha hf; clear ha
  refine st_nil hf ?_
  refine th_n ?_
  refine wp_seq ?_
  refine wp_reg ?_
  refine st_move hf rfl rfl (by decide) ?_
  clear hf; intro a ha hf; clear ha
  obtain ⟨q1, hcall2, h⟩ := bnd h
  refine st_call hf (by decide) Try.func25 rfl rfl rfl rfl rfl (f_tones_tones_c hp _ hcall2) ?_
  rintro _ w ⟨rfl, hp0⟩
  clear hp; have hp := hp0; clear hp0
  replace hp : Hp _ _ _ (ow) := hp
  refine ⟨_, rfl, ?_⟩
  clear hf; intro a hf
  refine st_assign hf rfl rfl (by decide) ?_
  clear hf; intro a ha hf; clear ha
  refine st_nil hf ?_
  refine th_n ?_
  refine wp_seq ?_
  refine wp_seq ?_
  refine wp_reg ?_
  refine st_move hf rfl rfl (by decide) ?_
  clear hf; intro a ha hf; clear ha
  refine st_ieql hf (by decide) rfl rfl rfl ?_
  clear hf; intro a ha hf; clear ha
  refine st_move hf rfl rfl (by decide) ?_
  clear hf; intro a ha hf; clear ha
  refine wpList_cut 4 (fun a w => Fr 54 a [(1, vl1), (2, .int .i64 by2), (8, .int .i64 q1), (20, .bool ((q1 == (0 : Int)) || (decide ((65536 : Int) < (l1.length : Int)))))] ∧ Hp S w0 w (ow)) ?_ ?_
  · rcases Bool.eq_false_or_eq_true (q1 == (0 : Int)) with hb4 | hb4
    · skip
      refine st_skip hf (wantN hf rfl rfl hb4) rfl (by decide) ?_ rfl
      clear hf; intro a hf
      refine st_skip hf (wantN hf rfl rfl hb4) rfl (by decide) ?_ rfl
      clear hf; intro a hf
      refine st_skip hf (wantN hf rfl rfl hb4) rfl (by decide) ?_ rfl
      clear hf; intro a hf
      refine st_pick (v := .bool true) hf rfl rfl (fun hb' => ?_) (fun hb' => ?_) (by decide) ?_
      · rfl
      · exact absurd (hb4.symm.trans hb') (by decide)
      clear hf; intro a ha hf; clear ha
      refine st_nil hf (th_n ?_)
      exact ⟨hf.sub ⟨rfl, rfl, rfl, (by rw [hb4]; rfl), trivial⟩, hp⟩
    refine st_move hf (wantY hf rfl rfl hb4) rfl (by decide) ?_
    clear hf; intro a ha hf; clear ha
    refine st_len (E := Ek.c128) hf (by decide) Try.underlying26 (wantY hf rfl rfl hb4) rfl (hl1.sl hp) ?_
    clear hf; intro a ha hf; clear ha
    refine st_igtr hf (by decide) (wantY hf rfl rfl hb4) rfl rfl ?_
    clear hf; intro a ha hf; clear ha
    refine st_pick (v := .bool (decide ((65536 : Int) < (l1.length : Int)))) hf rfl rfl (fun hb' => ?_) (fun hb' => ?_) (by decide) ?_
    · exact absurd (hb4.symm.trans hb') (by decide)
    · rfl
    clear hf; intro a ha hf; clear ha
    refine st_nil hf (th_n ?_)
    exact ⟨hf.sub ⟨rfl, rfl, rfl, (by rw [hb4]; rfl), trivial⟩, hp⟩
  rintro a w ⟨hf, hp⟩
  refine st_move hf rfl rfl (by decide) ?_
  clear hf; intro a ha hf; clear ha
  obtain ⟨z7, hz5, h⟩ := bnd h
  refine wpList_cut 6 (fun a w => Fr 54 a [(1, vl1), (2, .int .i64 by2), (8, .int .i64 q1), (27, .bool z7)] ∧ Hp S w0 w (ow)) ?_ ?_
  · rcases Bool.eq_false_or_eq_true ((q1 == (0 : Int)) || (decide ((65536 : Int) < (l1.length : Int)))) with hb6 | hb6
    · skip
      replace hz5 := ifT hz5 hb6
      refine st_skip hf (wantN hf rfl rfl hb6) rfl (by decide) ?_ rfl
      clear hf; intro a hf
      refine st_skip hf (wantN hf rfl rfl hb6) rfl (by decide) ?_ rfl
      clear hf; intro a hf
      refine st_skip hf (wantN hf rfl rfl hb6) rfl (by decide) ?_ rfl
      clear hf; intro a hf
      refine st_skip hf (wantN hf rfl rfl hb6) rfl (by decide) ?_ rfl
      clear hf; intro a hf
      refine st_skip hf (wantN hf rfl rfl hb6) rfl (by decide) ?_ rfl
      clear hf; intro a hf
      obtain rfl := Option.some.inj hz5
      refine st_pick (v := .bool true) hf rfl rfl (fun hb' => ?_) (fun hb' => ?_) (by decide) ?_
      · rfl
      · exact absurd (hb6.symm.trans hb') (by decide)
      clear hf; intro a ha hf; clear ha
      refine st_nil hf (th_n ?_)
      exact ⟨hf.sub ⟨rfl, rfl, rfl, rfl, trivial⟩, hp⟩
    replace hz5 := ifF hz5 hb6
    refine st_move hf (wantY hf rfl rfl hb6) rfl (by decide) ?_
    clear hf; intro a ha hf; clear ha
    refine st_len (E := Ek.c128) hf (by decide) Try.underlying26 (wantY hf rfl rfl hb6) rfl (hl1.sl hp) ?_
    clear hf; intro a ha hf; clear ha
    refine st_move hf (wantY hf rfl rfl hb6) rfl (by decide) ?_
    clear hf; intro a ha hf; clear ha
    obtain ⟨hc8, hz5⟩ := chk hz5
    refine st_irem hf (by decide) (wantY hf rfl rfl hb6) rfl rfl hc8 ?_
    clear hf; intro a ha hf; clear ha
    refine st_igtr hf (by decide) (wantY hf rfl rfl hb6) rfl rfl ?_
    clear hf; intro a ha hf; clear ha
    obtain rfl := Option.some.inj hz5
    refine st_pick (v := .bool (decide ((0 : Int) < (((l1.length : Int)).tmod q1)))) hf rfl rfl (fun hb' => ?_) (fun hb' => ?_) (by decide) ?_
    · exact absurd (hb6.symm.trans hb') (by decide)
    · rfl
    clear hf; intro a ha hf; clear ha
    refine st_nil hf (th_n ?_)
    exact ⟨hf.sub ⟨rfl, rfl, rfl, rfl, trivial⟩, hp⟩
  rintro a w ⟨hf, hp⟩
  refine st_nil hf ?_
  refine th_n ?_
  refine wp_if hf rfl (fun hb => ?_) (fun hb => ?_)
  · replace h := ifT h hb
    refine wp_seq ?_
    refine wp_reg ?_
    refine st_assign hf rfl rfl (by decide) ?_
    clear hf; intro a ha hf; clear ha
    refine st_assign hf rfl rfl (by decide) ?_
    clear hf; intro a ha hf; clear ha
    refine st_nil hf ?_
    refine th_n ?_
    refine wp_ret ?_
    refine th_r ?_
    obtain rfl := Option.some.inj h
    have hp := hp.nil Ek.c128 28
    exact ⟨rfl, ⟨_, hf.sub ⟨rfl, rfl, trivial⟩, hp⟩⟩
  replace h := ifF h hb
  refine wp_skip ?_
  refine th_n ?_
  refine wp_seq ?_
  refine wp_reg ?_
  refine st_move hf rfl rfl (by decide) ?_
  clear hf; intro a ha hf; clear ha
  refine st_len (E := Ek.c128) hf (by decide) Try.underlying26 rfl rfl (hl1.sl hp) ?_
  clear hf; intro a ha hf; clear ha
  obtain ⟨hc10, h⟩ := chk h
  refine st_make (E := Ek.c128) hf (by decide) elt28 Try.underlying26 (by decide) hp rfl rfl rfl hc10.1 hc10.2.1 hc10.2.2 ?_
  clear hf; intro a w v11 hf hp0; clear hp; have hp := hp0; clear hp0
  replace hp : Hp _ _ _ (Res.sl Ek.c128 28 v11 (List.replicate ((l1.length : Int)).toNat (Fl.bits 0, Fl.bits 0)) :: ow) := hp
  refine st_assign hf rfl rfl (by decide) ?_
  clear hf; intro a ha hf; clear ha
  refine st_nil hf ?_
  refine th_n ?_
  refine wp_seq ?_
  refine wp_seq ?_
  refine wp_reg ?_
  refine st_move hf rfl rfl (by decide) ?_
  clear hf; intro a ha hf; clear ha
  refine st_len (E := Ek.c128) hf (by decide) Try.underlying26 rfl rfl (hl1.sl hp) ?_
  clear hf; intro a ha hf; clear ha
  refine st_move hf rfl rfl (by decide) ?_
  clear hf; intro a ha hf; clear ha
  refine st_nil hf ?_
  refine th_n ?_
  refine wp_block ?_
  obtain ⟨q23, hl, h⟩ := bnd h
  refine wp_loop_pure (f := (f_tones_Round.s1 l1 by2 q1)) (s := ((List.replicate ((l1.length : Int)).toNat (Fl.bits 0, Fl.bits 0)), (0 : Int))) (fun s a w => ∃ (v13 : Value), Fr 54 a [(2, .int .i64 by2), (8, .int .i64 q1), (9, v13), (31, vl1), (32, .int .i64 (l1.length : Int)), (33, .int .i64 s.2)] ∧ Hp S w0 w (Res.sl Ek.c128 28 v13 s.1 :: ow)) (fun q e a w => e = .exit 0 ∧ ∃ (v15 : Value), Fr 54 a [(9, v15)] ∧ Hp S w0 w (Res.sl Ek.c128 28 v15 q :: ow)) ?_ hl ⟨_, hf.sub ⟨rfl, rfl, rfl, rfl, rfl, rfl, trivial⟩, hp⟩ ?_
  · clear hl hf hp
    intro s x a w h hI
    obtain ⟨out9, t33⟩ := s
    obtain ⟨v13, hf, hp⟩ : ∃ (v13 : Value), Fr 54 a [(2, .int .i64 by2), (8, .int .i64 q1), (9, v13), (31, vl1), (32, .int .i64 (l1.length : Int)), (33, .int .i64 t33)] ∧ Hp S w0 w (Res.sl Ek.c128 28 v13 out9 :: ow) := hI
    replace h : f_tones_Round.s1c l1 by2 q1 out9 t33 = some x := h
    unfold f_tones_Round.s1c at h
    refine wp_seq ?_
    refine wp_reg ?_
    refine st_ilss hf (by decide) rfl rfl rfl ?_
    clear hf; intro a ha hf; clear ha
    refine st_nil hf ?_
    refine th_n ?_
    refine wp_seq ?_
    refine wp_if hf rfl (fun hb => ?_) (fun hb => ?_)
    · replace h := ifT h hb
      refine wp_skip ?_
      refine th_n ?_
      refine wp_seq ?_
      refine wp_block ?_
      refine wp_seq ?_
      refine wp_reg ?_
      refine st_move hf rfl rfl (by decide) ?_
      clear hf; intro a ha hf; clear ha
      obtain ⟨hc17, h⟩ := chk h
      refine st_index (E := Ek.c128) hf (by decide) Try.underlying26 elt28 rfl rfl rfl (hl1.sl hp) hc17.1 hc17.2 ?_
      clear hf; intro a ha hf; clear ha
      refine st_ldC hf (by decide) pl28 rfl rfl (hl1.sl hp) hc17.1 hc17.2 ?_
      clear hf; intro a bb18 bb19 y20 y21 ha hf; clear ha
      refine st_assign hf rfl rfl (by decide) ?_
      clear hf; intro a ha hf; clear ha
      refine st_assign hf rfl rfl (by decide) ?_
      clear hf; intro a ha hf; clear ha
      refine st_nil hf ?_
      refine th_n ?_
      refine wp_reg ?_
      refine st_move hf rfl rfl (by decide) ?_
      clear hf; intro a ha hf; clear ha
      refine st_move hf rfl rfl (by decide) ?_
      clear hf; intro a ha hf; clear ha
      refine st_move hf rfl rfl (by decide) ?_
      clear hf; intro a ha hf; clear ha
      refine st_isub hf (by decide) rfl rfl rfl ?_
      clear hf; intro a ha hf; clear ha
      refine st_iandn hf (by decide) rfl rfl rfl ?_
      clear hf; intro a ha hf; clear ha
      refine st_move hf rfl rfl (by decide) ?_
      clear hf; intro a ha hf; clear ha
      refine st_move hf rfl rfl (by decide) ?_
      clear hf; intro a ha hf; clear ha
      refine st_iadd hf (by decide) rfl rfl rfl ?_
      clear hf; intro a ha hf; clear ha
      refine st_move hf rfl rfl (by decide) ?_
      clear hf; intro a ha hf; clear ha
      refine st_isub hf (by decide) rfl rfl rfl ?_
      clear hf; intro a ha hf; clear ha
      refine st_iand hf (by decide) rfl rfl rfl ?_
      clear hf; intro a ha hf; clear ha
      refine st_ior hf (by decide) rfl rfl rfl ?_
      clear hf; intro a ha hf; clear ha
      refine st_move hf rfl rfl (by decide) ?_
      clear hf; intro a ha hf; clear ha
      obtain ⟨hc22, h⟩ := chk h
      refine st_index (E := Ek.c128) hf (by decide) Try.underlying26 elt28 rfl rfl rfl (hp.sl (i := 0) rfl) hc22.1 hc22.2 ?_
      clear hf; intro a ha hf; clear ha
      refine st_store (E := Ek.c128) hf elt28 hp (i := 0) rfl rfl rfl rfl (show Ek.c128.rep [.complex .f64 bb18 bb19] (gt l1 t33) from ⟨_, _, rfl, y20, y21⟩) hc22.1 hc22.2 ?_
      clear hf; intro a w hf hp0; clear hp; have hp := hp0; clear hp0
      replace hp : Hp _ _ _ (Res.sl Ek.c128 28 v13 (out9.set ((ior .i64 (iandn .i64 t33 (IntKind.i64.wrap (q1 - (1 : Int)))) (iand .i64 (IntKind.i64.wrap (t33 + by2)) (IntKind.i64.wrap (q1 - (1 : Int)))))).toNat (gt l1 t33)) :: ow) := hp
      refine st_nil hf ?_
      refine ib_n ?_
      refine th_n ?_
      refine wp_reg ?_
      refine st_iadd hf (by decide) rfl rfl rfl ?_
      clear hf; intro a ha hf; clear ha
      refine st_move hf rfl rfl (by decide) ?_
      clear hf; intro a ha hf; clear ha
      refine st_nil hf ?_
      obtain rfl := Option.some.inj h
      exact rnd_l ⟨_, hf.sub ⟨rfl, rfl, rfl, rfl, rfl, rfl, trivial⟩, hp⟩
    replace h := ifF h hb
    refine wp_exit ?_
    refine th_e ?_
    obtain rfl := Option.some.inj h
    exact rnd_r (by simp) ⟨rfl, _, hf.sub ⟨rfl, trivial⟩, hp⟩
  clear hl hf hp
  intro e a w hne hO
  obtain ⟨rfl, v15, hf, hp⟩ := hO
  refine ib_same ?_
  refine th_n ?_
  refine wp_seq ?_
  refine wp_reg ?_
  refine st_move hf rfl rfl (by decide) ?_
  clear hf; intro a ha hf; clear ha
  refine st_assign hf rfl rfl (by decide) ?_
  clear hf; intro a ha hf; clear ha
  refine st_assign hf rfl rfl (by decide) ?_
  clear hf; intro a ha hf; clear ha
  refine st_nil hf ?_
  refine th_n ?_
  refine wp_ret ?_
  obtain rfl := Option.some.inj h
  exact ⟨rfl, ⟨_, hf.sub ⟨rfl, rfl, trivial⟩, hp⟩⟩

noncomputable def f_foghornlaw09_shifted.s1c (re0 : Int) (im1 : Int) (by2 : Int) (q21 : ((List (Fl × Fl)) × Int)) (t14 : Int) : Option (Int ⊕ (Unit ⊕ Bool)) := (if (decide (t14 < (4 : Int))) = true then (if 0 ≤ t14 ∧ t14 < (q21.1.length : Int) then (if 0 ≤ t14 ∧ t14 < (([((fofi ((re0).tmod (64 : Int))), (Fl.bits 4607182418800017408)), ((Fl.bits 4611686018427387904), (fofi ((im1).tmod (64 : Int)))), ((fofi ((im1).tmod (9 : Int))), (Fl.bits 13837309855095848960)), ((Fl.bits 4617315517961601024), (fofi ((re0).tmod (7 : Int))))]).length : Int) then ((f_plane_Turn (gt ([((fofi ((re0).tmod (64 : Int))), (Fl.bits 4607182418800017408)), ((Fl.bits 4611686018427387904), (fofi ((im1).tmod (64 : Int)))), ((fofi ((im1).tmod (9 : Int))), (Fl.bits 13837309855095848960)), ((Fl.bits 4617315517961601024), (fofi ((re0).tmod (7 : Int))))]) t14) (IntKind.i64.wrap ((IntKind.i64.wrap (0 - t14)) * ((by2).tmod (4 : Int))))).bind fun q60 => (if (!ceq (gt q21.1 t14) q60) = true then (some (Sum.inr (Sum.inr false))) else (some (Sum.inl (IntKind.i64.wrap (t14 + (1 : Int))))))) else none) else none) else (some (Sum.inr (Sum.inl ()))))
noncomputable def f_foghornlaw09_shifted.s1 (re0 : Int) (im1 : Int) (by2 : Int) (q21 : ((List (Fl × Fl)) × Int)) (s : Int) : Option (Int ⊕ (Unit ⊕ Bool)) := f_foghornlaw09_shifted.s1c re0 im1 by2 q21 s
noncomputable def f_foghornlaw09_shifted (re0 : Int) (im1 : Int) (by2 : Int) : Option Bool := ((f_tones_Send (1 : Int) ([((fofi ((re0).tmod (64 : Int))), (Fl.bits 4607182418800017408)), ((Fl.bits 4611686018427387904), (fofi ((im1).tmod (64 : Int)))), ((fofi ((im1).tmod (9 : Int))), (Fl.bits 13837309855095848960)), ((Fl.bits 4617315517961601024), (fofi ((re0).tmod (7 : Int))))])).bind fun q3 => ((f_tones_Round (1 : Int) q3.1 by2).bind fun q12 => ((f_tones_Back (1 : Int) q12.1).bind fun q21 => (if ((((q3.2 != (0 : Int)) || (q12.2 != (0 : Int))) || (q21.2 != (0 : Int))) || ((q21.1.length : Int) != (4 : Int))) = true then (some false) else ((loop (f_foghornlaw09_shifted.s1 re0 im1 by2 q21) (0 : Int)).bind (fun q66 => sm q66 (fun q67 => (some true)) (fun q68 => (some q68))))))))
theorem f_foghornlaw09_shifted_c {S : Nat → Prop} {w0 w : World} {ow : List Res} (hp : Hp S w0 w ow) (re0 : Int) (im1 : Int) (by2 : Int) {r : Bool} (h : f_foghornlaw09_shifted re0 im1 by2 = some r) :
    Calls Try.prog 17 #[.int .i16 re0, .int .i16 im1, .int .i64 by2] w (fun e w' => e = .returned (.bool r) ∧ Hp S w0 w' (ow)) := by
  unfold f_foghornlaw09_shifted at h
  refine enter (n := 82) (args := [.int .i16 re0, .int .i16 im1, .int .i64 by2]) Try.func17 rfl rfl (Nat.le_of_ble_eq_true rfl) fun a hf => ?_
  replace hf : Fr 82 a [(0, .int .i16 re0), (1, .int .i16 im1), (2, .int .i64 by2)] := hf
  refine wp_mono (Q := fun e a w => e = .ret ∧ Fr 82 a [(6, .bool r)] ∧ Hp S w0 w (ow)) ?_ ?_
  rotate_left
  · rintro e a w ⟨rfl, hf, hp⟩
    exact ret1 hf rfl rfl ⟨rfl, hp⟩
  refine wp_seq ?_
  refine wp_reg ?_
  refine st_assign hf rfl rfl (by decide) ?_
  clear hf; intro a ha hf; clear ha
  refine st_nil hf ?_
  refine th_n ?_
  refine wp_seq ?_
  refine wp_reg ?_
  refine st_move hf rfl rfl (by decide) ?_
  clear hf; intro a ha hf; clear ha
  refine st_irem hf (by decide) rfl rfl rfl (by decide) ?_
  clear hf; intro a ha hf; clear ha
  refine st_conv_if Try.underlying41 Try.underlying34 hf (by decide) rfl rfl ?_
  clear hf; intro a ha hf; clear ha
  refine st_complex hf (by decide) rfl rfl rfl ?_
  clear hf; intro a ha hf; clear ha
  refine st_move hf rfl rfl (by decide) ?_
  clear hf; intro a ha hf; clear ha
  refine st_irem hf (by decide) rfl rfl rfl (by decide) ?_
  clear hf; intro a ha hf; clear ha
  refine st_conv_if Try.underlying41 Try.underlying34 hf (by decide) rfl rfl ?_
  clear hf; intro a ha hf; clear ha
  refine st_complex hf (by decide) rfl rfl rfl ?_
  clear hf; intro a ha hf; clear ha
  refine st_move hf rfl rfl (by decide) ?_
  clear hf; intro a ha hf; clear ha
  refine st_irem hf (by decide) rfl rfl rfl (by decide) ?_
  clear hf; intro a ha hf; clear ha
  refine st_conv_if Try.underlying41 Try.underlying34 hf (by decide) rfl rfl ?_
  clear hf; intro a ha hf; clear ha
  refine st_complex hf (by decide) rfl rfl rfl ?_
  clear hf; intro a ha hf; clear ha
  refine st_move hf rfl rfl (by decide) ?_
  clear hf; intro a ha hf; clear ha
  refine st_irem hf (by decide) rfl rfl rfl (by decide) ?_
  clear hf; intro a ha hf; clear ha
  refine st_conv_if Try.underlying41 Try.underlying34 hf (by decide) rfl rfl ?_
  clear hf; intro a ha hf; clear ha
  refine st_complex hf (by decide) rfl rfl rfl ?_
  clear hf; intro a ha hf; clear ha
  refine st_build (E := Ek.c128) (xs := [((fofi ((re0).tmod (64 : Int))), (Fl.bits 4607182418800017408)), ((Fl.bits 4611686018427387904), (fofi ((im1).tmod (64 : Int)))), ((fofi ((im1).tmod (9 : Int))), (Fl.bits 13837309855095848960)), ((Fl.bits 4617315517961601024), (fofi ((re0).tmod (7 : Int))))]) hf (by decide) elt28 Try.underlying26 hp (vals := #[(0, .complex .f64 (FloatKind.f64.nearest ((re0).tmod (64 : Int))) 4607182418800017408), (1, .complex .f64 4611686018427387904 (FloatKind.f64.nearest ((im1).tmod (64 : Int)))), (2, .complex .f64 (FloatKind.f64.nearest ((im1).tmod (9 : Int))) 13837309855095848960), (3, .complex .f64 4617315517961601024 (FloatKind.f64.nearest ((re0).tmod (7 : Int))))]) (cells := #[.complex .f64 (FloatKind.f64.nearest ((re0).tmod (64 : Int))) 4607182418800017408, .complex .f64 4611686018427387904 (FloatKind.f64.nearest ((im1).tmod (64 : Int))), .complex .f64 (FloatKind.f64.nearest ((im1).tmod (9 : Int))) 13837309855095848960, .complex .f64 4617315517961601024 (FloatKind.f64.nearest ((re0).tmod (7 : Int)))]) rfl (by simp [hf.ev (x := (Operand.tmp 18)) rfl, hf.ev (x := (Operand.tmp 22)) rfl, hf.ev (x := (Operand.tmp 26)) rfl, hf.ev (x := (Operand.tmp 30)) rfl]) (by decide) (by decide) (z := .complex .f64 0 0) (by kernel_rfl) (by kernel_rfl) rfl (reps_cons (cs := [.complex .f64 (FloatKind.f64.nearest ((re0).tmod (64 : Int))) 4607182418800017408]) (show Ek.c128.rep [.complex .f64 (FloatKind.f64.nearest ((re0).tmod (64 : Int))) 4607182418800017408] ((fofi ((re0).tmod (64 : Int))), (Fl.bits 4607182418800017408)) from ⟨_, _, rfl, rfl, rfl⟩) (reps_cons (cs := [.complex .f64 4611686018427387904 (FloatKind.f64.nearest ((im1).tmod (64 : Int)))]) (show Ek.c128.rep [.complex .f64 4611686018427387904 (FloatKind.f64.nearest ((im1).tmod (64 : Int)))] ((Fl.bits 4611686018427387904), (fofi ((im1).tmod (64 : Int)))) from ⟨_, _, rfl, rfl, rfl⟩) (reps_cons (cs := [.complex .f64 (FloatKind.f64.nearest ((im1).tmod (9 : Int))) 13837309855095848960]) (show Ek.c128.rep [.complex .f64 (FloatKind.f64.nearest ((im1).tmod (9 : Int))) 13837309855095848960] ((fofi ((im1).tmod (9 : Int))), (Fl.bits 13837309855095848960)) from ⟨_, _, rfl, rfl, rfl⟩) (reps_cons (cs := [.complex .f64 4617315517961601024 (FloatKind.f64.nearest ((re0).tmod (7 : Int)))]) (show Ek.c128.rep [.complex .f64 4617315517961601024 (FloatKind.f64.nearest ((re0).tmod (7 : Int)))] ((Fl.bits 4617315517961601024), (fofi ((re0).tmod (7 : Int)))) from ⟨_, _, rfl, rfl, rfl⟩) (reps_nil _))))) ?_
  clear hf; intro a w v1 hf hp0; clear hp; have hp := hp0; clear hp0
  replace hp : Hp _ _ _ (Res.sl Ek.c128 28 v1 ([((fofi ((re0).tmod (64 : Int))), (Fl.bits 4607182418800017408)), ((Fl.bits 4611686018427387904), (fofi ((im1).tmod (64 : Int)))), ((fofi ((im1).tmod (9 : Int))), (Fl.bits 13837309855095848960)), ((Fl.bits 4617315517961601024), (fofi ((re0).tmod (7 : Int))))]) :: ow) := hp
  refine st_assign hf rfl rfl (by decide) ?_
  clear hf; intro a ha hf; clear ha
  refine st_nil hf ?_
  refine th_n ?_
  refine wp_seq ?_
  refine wp_reg ?_
  refine st_move hf rfl rfl (by decide) ?_
  clear hf; intro a ha hf; clear ha
  obtain ⟨q3, hcall4, h⟩ := bnd h
  obtain ⟨S5, hp6, rd7, up8, bk9⟩ := Hp.lendS hp (i := 0) rfl
  refine st_call hf (by decide) Try.func9 rfl rfl rfl rfl rfl (f_tones_Send_c hp6 _ _ _ rd7 hcall4) ?_
  rintro _ w ⟨v10, rfl, hp0⟩
  have hp0 := bk9 _ _ hp0
  clear hp; have hp := hp0; clear hp0
  replace hp : Hp _ _ _ (Res.sl Ek.c128 28 v1 ([((fofi ((re0).tmod (64 : Int))), (Fl.bits 4607182418800017408)), ((Fl.bits 4611686018427387904), (fofi ((im1).tmod (64 : Int)))), ((fofi ((im1).tmod (9 : Int))), (Fl.bits 13837309855095848960)), ((Fl.bits 4617315517961601024), (fofi ((re0).tmod (7 : Int))))]) :: Res.sl Ek.c128 28 v10 q3.1 :: ow) := hp
  refine ⟨_, rfl, ?_⟩
  clear hf; intro a hf
  refine st_move hf rfl rfl (by decide) ?_
  clear hf; intro a ha hf; clear ha
  refine st_extract hf (by decide) rfl rfl rfl ?_
  clear hf; intro a ha hf; clear ha
  refine st_extract hf (by decide) rfl rfl rfl ?_
  clear hf; intro a ha hf; clear ha
  refine st_assign hf rfl rfl (by decide) ?_
  clear hf; intro a ha hf; clear ha
  refine st_assign hf rfl rfl (by decide) ?_
  clear hf; intro a ha hf; clear ha
  refine st_nil hf ?_
  refine th_n ?_
  refine wp_seq ?_
  refine wp_reg ?_
  refine st_move hf rfl rfl (by decide) ?_
  clear hf; intro a ha hf; clear ha
  refine st_move hf rfl rfl (by decide) ?_
  clear hf; intro a ha hf; clear ha
  obtain ⟨q12, hcall13, h⟩ := bnd h
  obtain ⟨S14, hp15, rd16, up17, bk18⟩ := Hp.lendS hp (i := 1) rfl
  refine st_call hf (by decide) Try.func19 rfl rfl rfl rfl rfl (f_tones_Round_c hp15 _ _ _ rd16 _ hcall13) ?_
  rintro _ w ⟨v19, rfl, hp0⟩
  have hp0 := bk18 _ _ hp0
  clear hp; have hp := hp0; clear hp0
  replace hp : Hp _ _ _ (Res.sl Ek.c128 28 v10 q3.1 :: Res.sl Ek.c128 28 v19 q12.1 :: Res.sl Ek.c128 28 v1 ([((fofi ((re0).tmod (64 : Int))), (Fl.bits 4607182418800017408)), ((Fl.bits 4611686018427387904), (fofi ((im1).tmod (64 : Int)))), ((fofi ((im1).tmod (9 : Int))), (Fl.bits 13837309855095848960)), ((Fl.bits 4617315517961601024), (fofi ((re0).tmod (7 : Int))))]) :: ow) := hp
  refine ⟨_, rfl, ?_⟩
  clear hf; intro a hf
  refine st_move hf rfl rfl (by decide) ?_
  clear hf; intro a ha hf; clear ha
  refine st_extract hf (by decide) rfl rfl rfl ?_
  clear hf; intro a ha hf; clear ha
  refine st_extract hf (by decide) rfl rfl rfl ?_
  clear hf; intro a ha hf; clear ha
  refine st_assign hf rfl rfl (by decide) ?_
  clear hf; intro a ha hf; clear ha
  refine st_assign hf rfl rfl (by decide) ?_
  clear hf; intro a ha hf; clear ha
  refine st_nil hf ?_
  refine th_n ?_
  refine wp_seq ?_
  refine wp_reg ?_
  refine st_move hf rfl rfl (by decide) ?_
  clear hf; intro a ha hf; clear ha
  obtain ⟨q21, hcall22, h⟩ := bnd h
  obtain ⟨S23, hp24, rd25, up26, bk27⟩ := Hp.lendS hp (i := 1) rfl
  refine st_call hf (by decide) Try.func10 rfl rfl rfl rfl rfl (f_tones_Back_c hp24 _ _ _ rd25 hcall22) ?_
  rintro _ w ⟨v28, rfl, hp0⟩
  have hp0 := bk27 _ _ hp0
  clear hp; have hp := hp0; clear hp0
  replace hp : Hp _ _ _ (Res.sl Ek.c128 28 v19 q12.1 :: Res.sl Ek.c128 28 v28 q21.1 :: Res.sl Ek.c128 28 v10 q3.1 :: Res.sl Ek.c128 28 v1 ([((fofi ((re0).tmod (64 : Int))), (Fl.bits 4607182418800017408)), ((Fl.bits 4611686018427387904), (fofi ((im1).tmod (64 : Int)))), ((fofi ((im1).tmod (9 : Int))), (Fl.bits 13837309855095848960)), ((Fl.bits 4617315517961601024), (fofi ((re0).tmod (7 : Int))))]) :: ow) := hp
  refine ⟨_, rfl, ?_⟩
  clear hf; intro a hf
  refine st_move hf rfl rfl (by decide) ?_
  clear hf; intro a ha hf; clear ha
  refine st_extract hf (by decide) rfl rfl rfl ?_
  clear hf; intro a ha hf; clear ha
  refine st_extract hf (by decide) rfl rfl rfl ?_
  clear hf; intro a ha hf; clear ha
  refine st_assign hf rfl rfl (by decide) ?_
  clear hf; intro a ha hf; clear ha
  refine st_assign hf rfl rfl (by decide) ?_
  clear hf; intro a ha hf; clear ha
  refine st_nil hf ?_
  refine th_n ?_
  refine wp_seq ?_
  refine wp_seq ?_
  refine wp_reg ?_
  refine st_move hf rfl rfl (by decide) ?_
  clear hf; intro a ha hf; clear ha
  refine st_ineq hf (by decide) rfl rfl rfl ?_
  clear hf; intro a ha hf; clear ha
  refine st_move hf rfl rfl (by decide) ?_
  clear hf; intro a ha hf; clear ha
  refine wpList_cut 3 (fun a w => Fr 82 a [(2, .int .i64 by2), (7, v1), (12, v28), (13, .int .i64 q21.2), (53, .bool ((q3.2 != (0 : Int)) || (q12.2 != (0 : Int))))] ∧ Hp S w0 w (Res.sl Ek.c128 28 v19 q12.1 :: Res.sl Ek.c128 28 v28 q21.1 :: Res.sl Ek.c128 28 v10 q3.1 :: Res.sl Ek.c128 28 v1 ([((fofi ((re0).tmod (64 : Int))), (Fl.bits 4607182418800017408)), ((Fl.bits 4611686018427387904), (fofi ((im1).tmod (64 : Int)))), ((fofi ((im1).tmod (9 : Int))), (Fl.bits 13837309855095848960)), ((Fl.bits 4617315517961601024), (fofi ((re0).tmod (7 : Int))))]) :: ow)) ?_ ?_
  · rcases Bool.eq_false_or_eq_true (q3.2 != (0 : Int)) with hb31 | hb31
    · skip
      refine st_skip hf (wantN hf rfl rfl hb31) rfl (by decide) ?_ rfl
      clear hf; intro a hf
      refine st_skip hf (wantN hf rfl rfl hb31) rfl (by decide) ?_ rfl
      clear hf; intro a hf
      refine st_pick (v := .bool true) hf rfl rfl (fun hb' => ?_) (fun hb' => ?_) (by decide) ?_
      · rfl
      · exact absurd (hb31.symm.trans hb') (by decide)
      clear hf; intro a ha hf; clear ha
      refine st_nil hf (th_n ?_)
      exact ⟨hf.sub ⟨rfl, rfl, rfl, rfl, (by rw [hb31]; rfl), trivial⟩, hp⟩
    refine st_move hf (wantY hf rfl rfl hb31) rfl (by decide) ?_
    clear hf; intro a ha hf; clear ha
    refine st_ineq hf (by decide) (wantY hf rfl rfl hb31) rfl rfl ?_
    clear hf; intro a ha hf; clear ha
    refine st_pick (v := .bool (q12.2 != (0 : Int))) hf rfl rfl (fun hb' => ?_) (fun hb' => ?_) (by decide) ?_
    · exact absurd (hb31.symm.trans hb') (by decide)
    · rfl
    clear hf; intro a ha hf; clear ha
    refine st_nil hf (th_n ?_)
    exact ⟨hf.sub ⟨rfl, rfl, rfl, rfl, (by rw [hb31]; rfl), trivial⟩, hp⟩
  rintro a w ⟨hf, hp⟩
  refine st_move hf rfl rfl (by decide) ?_
  clear hf; intro a ha hf; clear ha
  refine wpList_cut 3 (fun a w => Fr 82 a [(2, .int .i64 by2), (7, v1), (12, v28), (57, .bool (((q3.2 != (0 : Int)) || (q12.2 != (0 : Int))) || (q21.2 != (0 : Int))))] ∧ Hp S w0 w (Res.sl Ek.c128 28 v19 q12.1 :: Res.sl Ek.c128 28 v28 q21.1 :: Res.sl Ek.c128 28 v10 q3.1 :: Res.sl Ek.c128 28 v1 ([((fofi ((re0).tmod (64 : Int))), (Fl.bits 4607182418800017408)), ((Fl.bits 4611686018427387904), (fofi ((im1).tmod (64 : Int)))), ((fofi ((im1).tmod (9 : Int))), (Fl.bits 13837309855095848960)), ((Fl.bits 4617315517961601024), (fofi ((re0).tmod (7 : Int))))]) :: ow)) ?_ ?_
  · rcases Bool.eq_false_or_eq_true ((q3.2 != (0 : Int)) || (q12.2 != (0 : Int))) with hb33 | hb33
    · skip
      refine st_skip hf (wantN hf rfl rfl hb33) rfl (by decide) ?_ rfl
      clear hf; intro a hf
      refine st_skip hf (wantN hf rfl rfl hb33) rfl (by decide) ?_ rfl
      clear hf; intro a hf
      refine st_pick (v := .bool true) hf rfl rfl (fun hb' => ?_) (fun hb' => ?_) (by decide) ?_
      · rfl
      · exact absurd (hb33.symm.trans hb') (by decide)
      clear hf; intro a ha hf; clear ha
      refine st_nil hf (th_n ?_)
      exact ⟨hf.sub ⟨rfl, rfl, rfl, (by rw [hb33]; rfl), trivial⟩, hp⟩
    refine st_move hf (wantY hf rfl rfl hb33) rfl (by decide) ?_
    clear hf; intro a ha hf; clear ha
    refine st_ineq hf (by decide) (wantY hf rfl rfl hb33) rfl rfl ?_
    clear hf; intro a ha hf; clear ha
    refine st_pick (v := .bool (q21.2 != (0 : Int))) hf rfl rfl (fun hb' => ?_) (fun hb' => ?_) (by decide) ?_
    · exact absurd (hb33.symm.trans hb') (by decide)
    · rfl
    clear hf; intro a ha hf; clear ha
    refine st_nil hf (th_n ?_)
    exact ⟨hf.sub ⟨rfl, rfl, rfl, (by rw [hb33]; rfl), trivial⟩, hp⟩
  rintro a w ⟨hf, hp⟩
  refine st_move hf rfl rfl (by decide) ?_
  clear hf; intro a ha hf; clear ha
  refine wpList_cut 4 (fun a w => Fr 82 a [(2, .int .i64 by2), (7, v1), (12, v28), (62, .bool ((((q3.2 != (0 : Int)) || (q12.2 != (0 : Int))) || (q21.2 != (0 : Int))) || ((q21.1.length : Int) != (4 : Int))))] ∧ Hp S w0 w (Res.sl Ek.c128 28 v19 q12.1 :: Res.sl Ek.c128 28 v28 q21.1 :: Res.sl Ek.c128 28 v10 q3.1 :: Res.sl Ek.c128 28 v1 ([((fofi ((re0).tmod (64 : Int))), (Fl.bits 4607182418800017408)), ((Fl.bits 4611686018427387904), (fofi ((im1).tmod (64 : Int)))), ((fofi ((im1).tmod (9 : Int))), (Fl.bits 13837309855095848960)), ((Fl.bits 4617315517961601024), (fofi ((re0).tmod (7 : Int))))]) :: ow)) ?_ ?_
  · rcases Bool.eq_false_or_eq_true (((q3.2 != (0 : Int)) || (q12.2 != (0 : Int))) || (q21.2 != (0 : Int))) with hb35 | hb35
    · skip
      refine st_skip hf (wantN hf rfl rfl hb35) rfl (by decide) ?_ rfl
      clear hf; intro a hf
      refine st_skip hf (wantN hf rfl rfl hb35) rfl (by decide) ?_ rfl
      clear hf; intro a hf
      refine st_skip hf (wantN hf rfl rfl hb35) rfl (by decide) ?_ rfl
      clear hf; intro a hf
      refine st_pick (v := .bool true) hf rfl rfl (fun hb' => ?_) (fun hb' => ?_) (by decide) ?_
      · rfl
      · exact absurd (hb35.symm.trans hb') (by decide)
      clear hf; intro a ha hf; clear ha
      refine st_nil hf (th_n ?_)
      exact ⟨hf.sub ⟨rfl, rfl, rfl, (by rw [hb35]; rfl), trivial⟩, hp⟩
    refine st_move hf (wantY hf rfl rfl hb35) rfl (by decide) ?_
    clear hf; intro a ha hf; clear ha
    refine st_len (E := Ek.c128) hf (by decide) Try.underlying26 (wantY hf rfl rfl hb35) rfl (hp.sl (i := 1) rfl) ?_
    clear hf; intro a ha hf; clear ha
    refine st_ineq hf (by decide) (wantY hf rfl rfl hb35) rfl rfl ?_
    clear hf; intro a ha hf; clear ha
    refine st_pick (v := .bool ((q21.1.length : Int) != (4 : Int))) hf rfl rfl (fun hb' => ?_) (fun hb' => ?_) (by decide) ?_
    · exact absurd (hb35.symm.trans hb') (by decide)
    · rfl
    clear hf; intro a ha hf; clear ha
    refine st_nil hf (th_n ?_)
    exact ⟨hf.sub ⟨rfl, rfl, rfl, (by rw [hb35]; rfl), trivial⟩, hp⟩
  rintro a w ⟨hf, hp⟩
  refine st_nil hf ?_
  refine th_n ?_
  refine wp_if hf rfl (fun hb => ?_) (fun hb => ?_)
  · replace h := ifT h hb
    refine wp_seq ?_
    refine wp_reg ?_
    refine st_assign hf rfl rfl (by decide) ?_
    clear hf; intro a ha hf; clear ha
    refine st_nil hf ?_
    refine th_n ?_
    refine wp_ret ?_
    refine th_r ?_
    obtain rfl := Option.some.inj h
    have hp : Hp _ _ _ (ow) := Hp.sel (pre := [Res.sl Ek.c128 28 v19 q12.1, Res.sl Ek.c128 28 v28 q21.1, Res.sl Ek.c128 28 v10 q3.1, Res.sl Ek.c128 28 v1 ([((fofi ((re0).tmod (64 : Int))), (Fl.bits 4607182418800017408)), ((Fl.bits 4611686018427387904), (fofi ((im1).tmod (64 : Int)))), ((fofi ((im1).tmod (9 : Int))), (Fl.bits 13837309855095848960)), ((Fl.bits 4617315517961601024), (fofi ((re0).tmod (7 : Int))))])]) (tail := ow) (rs' := []) hp [] (by decide) (by simp) rfl
    exact ⟨rfl, ⟨hf.sub ⟨rfl, trivial⟩, hp⟩⟩
  replace h := ifF h hb
  refine wp_skip ?_
  refine th_n ?_
  refine wp_seq ?_
  refine wp_seq ?_
  refine wp_reg ?_
  refine st_assign hf rfl rfl (by decide) ?_
  clear hf; intro a ha hf; clear ha
  refine st_nil hf ?_
  refine th_n ?_
  refine wp_block ?_
  obtain ⟨q66, hl, h⟩ := bnd h
  have hp : Hp _ _ _ (Res.sl Ek.c128 28 v1 ([((fofi ((re0).tmod (64 : Int))), (Fl.bits 4607182418800017408)), ((Fl.bits 4611686018427387904), (fofi ((im1).tmod (64 : Int)))), ((fofi ((im1).tmod (9 : Int))), (Fl.bits 13837309855095848960)), ((Fl.bits 4617315517961601024), (fofi ((re0).tmod (7 : Int))))]) :: Res.sl Ek.c128 28 v28 q21.1 :: ow) := Hp.sel (pre := [Res.sl Ek.c128 28 v19 q12.1, Res.sl Ek.c128 28 v28 q21.1, Res.sl Ek.c128 28 v10 q3.1, Res.sl Ek.c128 28 v1 ([((fofi ((re0).tmod (64 : Int))), (Fl.bits 4607182418800017408)), ((Fl.bits 4611686018427387904), (fofi ((im1).tmod (64 : Int)))), ((fofi ((im1).tmod (9 : Int))), (Fl.bits 13837309855095848960)), ((Fl.bits 4617315517961601024), (fofi ((re0).tmod (7 : Int))))])]) (tail := ow) (rs' := [Res.sl Ek.c128 28 v1 ([((fofi ((re0).tmod (64 : Int))), (Fl.bits 4607182418800017408)), ((Fl.bits 4611686018427387904), (fofi ((im1).tmod (64 : Int)))), ((fofi ((im1).tmod (9 : Int))), (Fl.bits 13837309855095848960)), ((Fl.bits 4617315517961601024), (fofi ((re0).tmod (7 : Int))))]), Res.sl Ek.c128 28 v28 q21.1]) hp [3, 1] (by decide) (by simp) rfl
  refine wp_loop_pure (f := (f_foghornlaw09_shifted.s1 re0 im1 by2 q21)) (s := (0 : Int)) (fun s a w => Fr 82 a [(2, .int .i64 by2), (7, v1), (12, v28), (14, .int .i64 s)] ∧ Hp S w0 w (Res.sl Ek.c128 28 v1 ([((fofi ((re0).tmod (64 : Int))), (Fl.bits 4607182418800017408)), ((Fl.bits 4611686018427387904), (fofi ((im1).tmod (64 : Int)))), ((fofi ((im1).tmod (9 : Int))), (Fl.bits 13837309855095848960)), ((Fl.bits 4617315517961601024), (fofi ((re0).tmod (7 : Int))))]) :: Res.sl Ek.c128 28 v28 q21.1 :: ow)) (fun q e a w => match q with | (Sum.inl q) => e = .exit 0 ∧ Fr 82 a [] ∧ Hp S w0 w (ow) | (Sum.inr q) => e = .ret ∧ Fr 82 a [(6, .bool q)] ∧ Hp S w0 w (ow)) ?_ hl ⟨hf.sub ⟨rfl, rfl, rfl, rfl, trivial⟩, hp⟩ ?_
  · clear hl hf hp
    intro s x a w h hI
    obtain ⟨t14, hs⟩ : ∃ z, z = s := ⟨s, rfl⟩; subst hs
    obtain ⟨hf, hp⟩ : Fr 82 a [(2, .int .i64 by2), (7, v1), (12, v28), (14, .int .i64 t14)] ∧ Hp S w0 w (Res.sl Ek.c128 28 v1 ([((fofi ((re0).tmod (64 : Int))), (Fl.bits 4607182418800017408)), ((Fl.bits 4611686018427387904), (fofi ((im1).tmod (64 : Int)))), ((fofi ((im1).tmod (9 : Int))), (Fl.bits 13837309855095848960)), ((Fl.bits 4617315517961601024), (fofi ((re0).tmod (7 : Int))))]) :: Res.sl Ek.c128 28 v28 q21.1 :: ow) := hI
    replace h : f_foghornlaw09_shifted.s1c re0 im1 by2 q21 t14 = some x := h
    unfold f_foghornlaw09_shifted.s1c at h
    refine wp_seq ?_
    refine wp_seq ?_
    refine wp_reg ?_
    refine st_move hf rfl rfl (by decide) ?_
    clear hf; intro a ha hf; clear ha
    refine st_ilss hf (by decide) rfl rfl rfl ?_
    clear hf; intro a ha hf; clear ha
    refine st_nil hf ?_
    refine th_n ?_
    refine wp_if hf rfl (fun hb => ?_) (fun hb => ?_)
    · replace h := ifT h hb
      refine wp_skip ?_
      refine th_n ?_
      refine wp_seq ?_
      refine wp_block ?_
      refine wp_seq ?_
      obtain ⟨S36, hp37, rd38, up39, bk40⟩ := Hp.lendS hp (i := 1) rfl
      obtain ⟨S41, hp42, rd43, up44, bk45⟩ := Hp.lendS hp37 (i := 0) rfl
      have rl46 := rd43
      have rl47 := ((rd38.now hp37).mono up44)
      obtain ⟨hc48, h⟩ := chk h
      obtain ⟨bb50, bb51, y52, y53, hl49⟩ := RdS.pinC (p := t14) rl47 hc48.1 hc48.2
      obtain ⟨hc54, h⟩ := chk h
      obtain ⟨bb56, bb57, y58, y59, hl55⟩ := RdS.pinC (p := t14) rl46 hc54.1 hc54.2
      obtain ⟨q60, hcall61, h⟩ := bnd h
      refine wp_cutN (fun a w => Fr 82 a [(2, .int .i64 by2), (7, v1), (12, v28), (14, .int .i64 t14), (81, .bool (!ceq (gt q21.1 t14) q60))] ∧ Hp S w0 w (Res.sl Ek.c128 28 v28 q21.1 :: Res.sl Ek.c128 28 v1 ([((fofi ((re0).tmod (64 : Int))), (Fl.bits 4607182418800017408)), ((Fl.bits 4611686018427387904), (fofi ((im1).tmod (64 : Int)))), ((fofi ((im1).tmod (9 : Int))), (Fl.bits 13837309855095848960)), ((Fl.bits 4617315517961601024), (fofi ((re0).tmod (7 : Int))))]) :: ow)) ?_ ?_
      · have hp := hp42.same (Same.drew w)
        refine dr_begin' (fun a w => Fr 82 a [(2, .int .i64 by2), (7, v1), (12, v28), (14, .int .i64 t14), (81, .bool (!ceq (gt q21.1 t14) q60))] ∧ Hp S w0 w (Res.sl Ek.c128 28 v28 q21.1 :: Res.sl Ek.c128 28 v1 ([((fofi ((re0).tmod (64 : Int))), (Fl.bits 4607182418800017408)), ((Fl.bits 4611686018427387904), (fofi ((im1).tmod (64 : Int)))), ((fofi ((im1).tmod (9 : Int))), (Fl.bits 13837309855095848960)), ((Fl.bits 4617315517961601024), (fofi ((re0).tmod (7 : Int))))]) :: ow)) (fun w' => ∃ l, Hp S41 w w' l) [] (by kernel_rfl) ?_
        refine dr_take 0 (v28) rfl (by kernel_rfl) (by kernel_rfl) (by kernel_rfl) (by kernel_rfl) rfl rfl hf (by decide) rfl (fun w hp => ?_) ⟨_, hp⟩ ?_
        · obtain ⟨_, hp⟩ := hp
          refine st_move hf rfl rfl (by decide) ?_
          clear hf; intro a ha hf
          exact st_nil hf (th_n ⟨ha, rfl⟩)
        clear hf; intro a hf
        refine dr_take 1 (.int .i64 t14) rfl (by kernel_rfl) (by kernel_rfl) (by kernel_rfl) (by kernel_rfl) rfl rfl hf (by decide) rfl (fun w hp => ?_) ⟨_, hp⟩ ?_
        · obtain ⟨_, hp⟩ := hp
          refine st_move hf rfl rfl (by decide) ?_
          clear hf; intro a ha hf
          exact st_nil hf (th_n ⟨ha, rfl⟩)
        clear hf; intro a hf
        refine dr_take 2 (eptr v28 t14 1) rfl (by kernel_rfl) (by kernel_rfl) (by kernel_rfl) (by kernel_rfl) rfl rfl hf (by decide) rfl (fun w hp => ?_) ⟨_, hp⟩ ?_
        · obtain ⟨_, hp⟩ := hp
          refine st_index (E := Ek.c128) hf (by decide) Try.underlying26 elt28 rfl rfl rfl (rl47.sl hp) hc48.1 hc48.2 ?_
          clear hf; intro a ha hf
          exact st_nil hf (th_n ⟨ha, rfl⟩)
        clear hf; intro a hf
        refine dr_take 3 (.complex .f64 bb50 bb51) rfl (by kernel_rfl) (by kernel_rfl) (by kernel_rfl) (by kernel_rfl) rfl rfl hf (by decide) rfl (fun w hp => ?_) ⟨_, hp⟩ ?_
        · obtain ⟨_, hp⟩ := hp
          refine st_ldP hf (by decide) pl28 rfl rfl (hl49 _ _ hp) ?_
          clear hf; intro a ha hf
          exact st_nil hf (th_n ⟨ha, rfl⟩)
        clear hf; intro a hf
        refine dr_take 4 (v1) rfl (by kernel_rfl) (by kernel_rfl) (by kernel_rfl) (by kernel_rfl) rfl rfl hf (by decide) rfl (fun w hp => ?_) ⟨_, hp⟩ ?_
        · obtain ⟨_, hp⟩ := hp
          refine st_move hf rfl rfl (by decide) ?_
          clear hf; intro a ha hf
          exact st_nil hf (th_n ⟨ha, rfl⟩)
        clear hf; intro a hf
        refine dr_take 5 (.int .i64 t14) rfl (by kernel_rfl) (by kernel_rfl) (by kernel_rfl) (by kernel_rfl) rfl rfl hf (by decide) rfl (fun w hp => ?_) ⟨_, hp⟩ ?_
        · obtain ⟨_, hp⟩ := hp
          refine st_move hf rfl rfl (by decide) ?_
          clear hf; intro a ha hf
          exact st_nil hf (th_n ⟨ha, rfl⟩)
        clear hf; intro a hf
        refine dr_take 6 (eptr v1 t14 1) rfl (by kernel_rfl) (by kernel_rfl) (by kernel_rfl) (by kernel_rfl) rfl rfl hf (by decide) rfl (fun w hp => ?_) ⟨_, hp⟩ ?_
        · obtain ⟨_, hp⟩ := hp
          refine st_index (E := Ek.c128) hf (by decide) Try.underlying26 elt28 rfl rfl rfl (rl46.sl hp) hc54.1 hc54.2 ?_
          clear hf; intro a ha hf
          exact st_nil hf (th_n ⟨ha, rfl⟩)
        clear hf; intro a hf
        refine dr_take 7 (.complex .f64 bb56 bb57) rfl (by kernel_rfl) (by kernel_rfl) (by kernel_rfl) (by kernel_rfl) rfl rfl hf (by decide) rfl (fun w hp => ?_) ⟨_, hp⟩ ?_
        · obtain ⟨_, hp⟩ := hp
          refine st_ldP hf (by decide) pl28 rfl rfl (hl55 _ _ hp) ?_
          clear hf; intro a ha hf
          exact st_nil hf (th_n ⟨ha, rfl⟩)
        clear hf; intro a hf
        refine dr_take 8 (.int .i64 t14) rfl (by kernel_rfl) (by kernel_rfl) (by kernel_rfl) (by kernel_rfl) rfl rfl hf (by decide) rfl (fun w hp => ?_) ⟨_, hp⟩ ?_
        · obtain ⟨_, hp⟩ := hp
          refine st_move hf rfl rfl (by decide) ?_
          clear hf; intro a ha hf
          exact st_nil hf (th_n ⟨ha, rfl⟩)
        clear hf; intro a hf
        refine dr_take 9 (.int .i64 (IntKind.i64.wrap (0 - t14))) rfl (by kernel_rfl) (by kernel_rfl) (by kernel_rfl) (by kernel_rfl) rfl rfl hf (by decide) rfl (fun w hp => ?_) ⟨_, hp⟩ ?_
        · obtain ⟨_, hp⟩ := hp
          refine st_ineg hf (by decide) rfl rfl ?_
          clear hf; intro a ha hf
          exact st_nil hf (th_n ⟨ha, rfl⟩)
        clear hf; intro a hf
        refine dr_take 10 (.int .i64 by2) rfl (by kernel_rfl) (by kernel_rfl) (by kernel_rfl) (by kernel_rfl) rfl rfl hf (by decide) rfl (fun w hp => ?_) ⟨_, hp⟩ ?_
        · obtain ⟨_, hp⟩ := hp
          refine st_move hf rfl rfl (by decide) ?_
          clear hf; intro a ha hf
          exact st_nil hf (th_n ⟨ha, rfl⟩)
        clear hf; intro a hf
        refine dr_take 11 (.int .i64 ((by2).tmod (4 : Int))) rfl (by kernel_rfl) (by kernel_rfl) (by kernel_rfl) (by kernel_rfl) rfl rfl hf (by decide) rfl (fun w hp => ?_) ⟨_, hp⟩ ?_
        · obtain ⟨_, hp⟩ := hp
          refine st_irem hf (by decide) rfl rfl rfl (by decide) ?_
          clear hf; intro a ha hf
          exact st_nil hf (th_n ⟨ha, rfl⟩)
        clear hf; intro a hf
        refine dr_take 12 (.int .i64 (IntKind.i64.wrap ((IntKind.i64.wrap (0 - t14)) * ((by2).tmod (4 : Int))))) rfl (by kernel_rfl) (by kernel_rfl) (by kernel_rfl) (by kernel_rfl) rfl rfl hf (by decide) rfl (fun w hp => ?_) ⟨_, hp⟩ ?_
        · obtain ⟨_, hp⟩ := hp
          refine st_imul hf (by decide) rfl rfl rfl ?_
          clear hf; intro a ha hf
          exact st_nil hf (th_n ⟨ha, rfl⟩)
        clear hf; intro a hf
        refine dr_one 13 rfl (by kernel_rfl) ?_
        refine st_call hf (by decide) Try.func8 rfl rfl rfl rfl rfl (f_plane_Turn_c hp _ _ _ (show Fl.rep bb56 ((gt ([((fofi ((re0).tmod (64 : Int))), (Fl.bits 4607182418800017408)), ((Fl.bits 4611686018427387904), (fofi ((im1).tmod (64 : Int)))), ((fofi ((im1).tmod (9 : Int))), (Fl.bits 13837309855095848960)), ((Fl.bits 4617315517961601024), (fofi ((re0).tmod (7 : Int))))]) t14)).1 from y58) (show Fl.rep bb57 ((gt ([((fofi ((re0).tmod (64 : Int))), (Fl.bits 4607182418800017408)), ((Fl.bits 4611686018427387904), (fofi ((im1).tmod (64 : Int)))), ((fofi ((im1).tmod (9 : Int))), (Fl.bits 13837309855095848960)), ((Fl.bits 4617315517961601024), (fofi ((re0).tmod (7 : Int))))]) t14)).2 from y59) _ hcall61) ?_
        rintro _ w ⟨v62, v63, rfl, y64, y65, hp0⟩
        clear hp; have hp := hp0; clear hp0
        replace hp : Hp _ _ _ (ow) := hp
        refine ⟨_, rfl, ?_⟩
        clear hf; intro a hf
        refine st_nil hf (th_n ⟨fun _ _ => ⟨_, hp⟩, ?_⟩)
        refine dr_take 14 (.bool (!ceq (gt q21.1 t14) q60)) rfl (by kernel_rfl) (by kernel_rfl) (by kernel_rfl) (by kernel_rfl) rfl rfl hf (by decide) rfl (fun w hp => ?_) ⟨_, hp⟩ ?_
        · obtain ⟨_, hp⟩ := hp
          refine st_ccmp (r_cne (x := (gt q21.1 t14)) (y := q60) y52 y53 y64 y65) hf (by decide) rfl rfl rfl ?_
          clear hf; intro a ha hf
          exact st_nil hf (th_n ⟨ha, rfl⟩)
        clear hf; intro a hf
        refine dr_end (by kernel_rfl) ?_ _
        have hp := bk45 _ _ hp
        have hp := bk40 _ _ hp
        exact ⟨hf.sub ⟨rfl, rfl, rfl, rfl, rfl, trivial⟩, hp⟩
      rintro a w ⟨hf, hp⟩
      refine th_n ?_
      refine wp_if hf rfl (fun hb => ?_) (fun hb => ?_)
      · replace h := ifT h hb
        refine wp_seq ?_
        refine wp_reg ?_
        refine st_assign hf rfl rfl (by decide) ?_
        clear hf; intro a ha hf; clear ha
        refine st_nil hf ?_
        refine th_n ?_
        refine wp_ret ?_
        refine ib_r ?_
        refine th_r ?_
        obtain rfl := Option.some.inj h
        have hp : Hp _ _ _ (ow) := Hp.sel (pre := [Res.sl Ek.c128 28 v28 q21.1, Res.sl Ek.c128 28 v1 ([((fofi ((re0).tmod (64 : Int))), (Fl.bits 4607182418800017408)), ((Fl.bits 4611686018427387904), (fofi ((im1).tmod (64 : Int)))), ((fofi ((im1).tmod (9 : Int))), (Fl.bits 13837309855095848960)), ((Fl.bits 4617315517961601024), (fofi ((re0).tmod (7 : Int))))])]) (tail := ow) (rs' := []) hp [] (by decide) (by simp) rfl
        exact rnd_r (by simp) ⟨rfl, ⟨hf.sub ⟨rfl, trivial⟩, hp⟩⟩
      replace h := ifF h hb
      refine wp_skip ?_
      refine ib_n ?_
      refine th_n ?_
      refine wp_reg ?_
      refine st_move hf rfl rfl (by decide) ?_
      clear hf; intro a ha hf; clear ha
      refine st_iadd hf (by decide) rfl rfl rfl ?_
      clear hf; intro a ha hf; clear ha
      refine st_assign hf rfl rfl (by decide) ?_
      clear hf; intro a ha hf; clear ha
      refine st_nil hf ?_
      obtain rfl := Option.some.inj h
      have hp : Hp _ _ _ (Res.sl Ek.c128 28 v1 ([((fofi ((re0).tmod (64 : Int))), (Fl.bits 4607182418800017408)), ((Fl.bits 4611686018427387904), (fofi ((im1).tmod (64 : Int)))), ((fofi ((im1).tmod (9 : Int))), (Fl.bits 13837309855095848960)), ((Fl.bits 4617315517961601024), (fofi ((re0).tmod (7 : Int))))]) :: Res.sl Ek.c128 28 v28 q21.1 :: ow) := Hp.sel (pre := [Res.sl Ek.c128 28 v28 q21.1, Res.sl Ek.c128 28 v1 ([((fofi ((re0).tmod (64 : Int))), (Fl.bits 4607182418800017408)), ((Fl.bits 4611686018427387904), (fofi ((im1).tmod (64 : Int)))), ((fofi ((im1).tmod (9 : Int))), (Fl.bits 13837309855095848960)), ((Fl.bits 4617315517961601024), (fofi ((re0).tmod (7 : Int))))])]) (tail := ow) (rs' := [Res.sl Ek.c128 28 v1 ([((fofi ((re0).tmod (64 : Int))), (Fl.bits 4607182418800017408)), ((Fl.bits 4611686018427387904), (fofi ((im1).tmod (64 : Int)))), ((fofi ((im1).tmod (9 : Int))), (Fl.bits 13837309855095848960)), ((Fl.bits 4617315517961601024), (fofi ((re0).tmod (7 : Int))))]), Res.sl Ek.c128 28 v28 q21.1]) hp [1, 0] (by decide) (by simp) rfl
      exact rnd_l ⟨hf.sub ⟨rfl, rfl, rfl, rfl, trivial⟩, hp⟩
    replace h := ifF h hb
    refine wp_exit ?_
    refine th_e ?_
    obtain rfl := Option.some.inj h
    have hp : Hp _ _ _ (ow) := Hp.sel (pre := [Res.sl Ek.c128 28 v1 ([((fofi ((re0).tmod (64 : Int))), (Fl.bits 4607182418800017408)), ((Fl.bits 4611686018427387904), (fofi ((im1).tmod (64 : Int)))), ((fofi ((im1).tmod (9 : Int))), (Fl.bits 13837309855095848960)), ((Fl.bits 4617315517961601024), (fofi ((re0).tmod (7 : Int))))]), Res.sl Ek.c128 28 v28 q21.1]) (tail := ow) (rs' := []) hp [] (by decide) (by simp) rfl
    exact rnd_r (by simp) ⟨rfl, hf.sub trivial, hp⟩
  clear hl hf hp
  intro e a w hne hO
  rcases q66 with q67 | q68
  · replace h := smL h
    obtain ⟨rfl, hf, hp⟩ := hO
    refine ib_same ?_
    refine th_n ?_
    refine wp_seq ?_
    refine wp_reg ?_
    refine st_assign hf rfl rfl (by decide) ?_
    clear hf; intro a ha hf; clear ha
    refine st_nil hf ?_
    refine th_n ?_
    refine wp_ret ?_
    obtain rfl := Option.some.inj h
    exact ⟨rfl, ⟨hf.sub ⟨rfl, trivial⟩, hp⟩⟩
  replace h := smR h
  obtain ⟨rfl, hf, hp⟩ := hO
  refine ib_r ?_
  refine th_r ?_
  obtain rfl := Option.some.inj h
  exact ⟨rfl, ⟨hf.sub ⟨rfl, trivial⟩, hp⟩⟩

noncomputable def f_math_Signbit (xx0 : Fl) : Option Bool := ((fbits xx0).bind fun q1 => (some (decide ((IntKind.i64.wrap q1) < (0 : Int)))))
theorem f_math_Signbit_c {S : Nat → Prop} {w0 w : World} {ow : List Res} (hp : Hp S w0 w ow) (bxx0 : Nat) (xx0 : Fl) (hxx0 : xx0.rep bxx0) {r : Bool} (h : f_math_Signbit xx0 = some r) :
    Calls Try.prog 30 #[.float .f64 bxx0] w (fun e w' => e = .returned (.bool r) ∧ Hp S w0 w' (ow)) := by
  unfold f_math_Signbit at h
  refine enter (n := 7) (args := [.float .f64 bxx0]) Try.func30 rfl rfl (Nat.le_of_ble_eq_true rfl) fun a hf => ?_
  replace hf : Fr 7 a [(0, .float .f64 bxx0)] := hf
  refine wp_mono (Q := fun e a w => e = .ret ∧ Fr 7 a [(2, .bool r)] ∧ Hp S w0 w (ow)) ?_ ?_
  rotate_left
  · rintro e a w ⟨rfl, hf, hp⟩
    exact ret1 hf rfl rfl ⟨rfl, hp⟩
  refine wp_seq ?_
  refine wp_reg ?_
  refine st_assign hf rfl rfl (by decide) ?_
  clear hf; intro a ha hf; clear ha
  refine st_nil hf ?_
  refine th_n ?_
  refine wp_seq ?_
  refine wp_reg ?_
  refine st_move hf rfl rfl (by decide) ?_
  clear hf; intro a ha hf; clear ha
  obtain ⟨q1, hq2, h⟩ := bnd h
  refine st_extern (ex := Extern.MathFloatBits.float64bits) (r := .int .u64 (bxx0 : Int)) (f := 31) (vs := [.float .f64 bxx0]) hf (by decide) Try.func31 rfl rfl (by kernel_rfl) (by kernel_rfl) rfl rfl rfl rfl ?_
  clear hf; intro a ha hf; clear ha
  have he3 := fbits_rep hxx0 hq2; rw [← he3] at hf
  refine st_conv_ii hf (by decide) (by rw [Try.underlying65]; rfl) Try.underlying2 rfl rfl ?_
  clear hf; intro a ha hf; clear ha
  refine st_ilss hf (by decide) rfl rfl rfl ?_
  clear hf; intro a ha hf; clear ha
  refine st_assign hf rfl rfl (by decide) ?_
  clear hf; intro a ha hf; clear ha
  refine st_nil hf ?_
  refine th_n ?_
  refine wp_ret ?_
  obtain rfl := Option.some.inj h
  exact ⟨rfl, ⟨hf.sub ⟨rfl, trivial⟩, hp⟩⟩

noncomputable def f_foghornref03_part (ax0 : Fl) (bx1 : Fl) (signs2 : Bool) : Option Bool := (if ((fne ax0 ax0) || (fne bx1 bx1)) = true then (some ((fne ax0 ax0) && (fne bx1 bx1))) else ((if (feq ax0 bx1) = true then ((if (!signs2) = true then (some true) else ((f_math_Signbit ax0).bind fun q11 => ((f_math_Signbit bx1).bind fun q13 => (some (q11 == q13))))).bind fun z10 => (some z10)) else (some false)).bind fun z7 => (some z7)))
theorem f_foghornref03_part_c {S : Nat → Prop} {w0 w : World} {ow : List Res} (hp : Hp S w0 w ow) (bax0 : Nat) (ax0 : Fl) (hax0 : ax0.rep bax0) (bbx1 : Nat) (bx1 : Fl) (hbx1 : bx1.rep bbx1) (signs2 : Bool) {r : Bool} (h : f_foghornref03_part ax0 bx1 signs2 = some r) :
    Calls Try.prog 29 #[.float .f64 bax0, .float .f64 bbx1, .bool signs2] w (fun e w' => e = .returned (.bool r) ∧ Hp S w0 w' (ow)) := by
  unfold f_foghornref03_part at h
  refine enter (n := 37) (args := [.float .f64 bax0, .float .f64 bbx1, .bool signs2]) Try.func29 rfl rfl (Nat.le_of_ble_eq_true rfl) fun a hf => ?_
  replace hf : Fr 37 a [(0, .float .f64 bax0), (1, .float .f64 bbx1), (2, .bool signs2)] := hf
  refine wp_mono (Q := fun e a w => e = .ret ∧ Fr 37 a [(6, .bool r)] ∧ Hp S w0 w (ow)) ?_ ?_
  rotate_left
  · rintro e a w ⟨rfl, hf, hp⟩
    exact ret1 hf rfl rfl ⟨rfl, hp⟩
  refine wp_seq ?_
  refine wp_reg ?_
  refine st_assign hf rfl rfl (by decide) ?_
  clear hf; intro a ha hf; clear ha
  refine st_nil hf ?_
  refine th_n ?_
  refine wp_seq ?_
  refine wp_seq ?_
  refine wp_reg ?_
  refine st_move hf rfl rfl (by decide) ?_
  clear hf; intro a ha hf; clear ha
  refine st_move hf rfl rfl (by decide) ?_
  clear hf; intro a ha hf; clear ha
  refine st_fcmp (r_fne (fx := ax0) (fy := ax0) hax0 hax0) hf (by decide) rfl rfl rfl ?_
  clear hf; intro a ha hf; clear ha
  refine st_move hf rfl rfl (by decide) ?_
  clear hf; intro a ha hf; clear ha
  refine wpList_cut 4 (fun a w => Fr 37 a [(0, .float .f64 bax0), (1, .float .f64 bbx1), (2, .bool signs2), (14, .bool ((fne ax0 ax0) || (fne bx1 bx1)))] ∧ Hp S w0 w (ow)) ?_ ?_
  · rcases Bool.eq_false_or_eq_true (fne ax0 ax0) with hb2 | hb2
    · skip
      refine st_skip hf (wantN hf rfl rfl hb2) rfl (by decide) ?_ rfl
      clear hf; intro a hf
      refine st_skip hf (wantN hf rfl rfl hb2) rfl (by decide) ?_ rfl
      clear hf; intro a hf
      refine st_skip hf (wantN hf rfl rfl hb2) rfl (by decide) ?_ rfl
      clear hf; intro a hf
      refine st_pick (v := .bool true) hf rfl rfl (fun hb' => ?_) (fun hb' => ?_) (by decide) ?_
      · rfl
      · exact absurd (hb2.symm.trans hb') (by decide)
      clear hf; intro a ha hf; clear ha
      refine st_nil hf (th_n ?_)
      exact ⟨hf.sub ⟨rfl, rfl, rfl, (by rw [hb2]; rfl), trivial⟩, hp⟩
    refine st_move hf (wantY hf rfl rfl hb2) rfl (by decide) ?_
    clear hf; intro a ha hf; clear ha
    refine st_move hf (wantY hf rfl rfl hb2) rfl (by decide) ?_
    clear hf; intro a ha hf; clear ha
    refine st_fcmp (r_fne (fx := bx1) (fy := bx1) hbx1 hbx1) hf (by decide) (wantY hf rfl rfl hb2) rfl rfl ?_
    clear hf; intro a ha hf; clear ha
    refine st_pick (v := .bool (fne bx1 bx1)) hf rfl rfl (fun hb' => ?_) (fun hb' => ?_) (by decide) ?_
    · exact absurd (hb2.symm.trans hb') (by decide)
    · rfl
    clear hf; intro a ha hf; clear ha
    refine st_nil hf (th_n ?_)
    exact ⟨hf.sub ⟨rfl, rfl, rfl, (by rw [hb2]; rfl), trivial⟩, hp⟩
  rintro a w ⟨hf, hp⟩
  refine st_nil hf ?_
  refine th_n ?_
  refine wp_if hf rfl (fun hb => ?_) (fun hb => ?_)
  · replace h := ifT h hb
    refine wp_seq ?_
    refine wp_reg ?_
    refine st_move hf rfl rfl (by decide) ?_
    clear hf; intro a ha hf; clear ha
    refine st_move hf rfl rfl (by decide) ?_
    clear hf; intro a ha hf; clear ha
    refine st_fcmp (r_fne (fx := ax0) (fy := ax0) hax0 hax0) hf (by decide) rfl rfl rfl ?_
    clear hf; intro a ha hf; clear ha
    refine st_move hf rfl rfl (by decide) ?_
    clear hf; intro a ha hf; clear ha
    refine wpList_cut 4 (fun a w => Fr 37 a [(22, .bool ((fne ax0 ax0) && (fne bx1 bx1)))] ∧ Hp S w0 w (ow)) ?_ ?_
    · rcases Bool.eq_false_or_eq_true (fne ax0 ax0) with hb4 | hb4
      · skip
        refine st_move hf (wantY hf rfl rfl hb4) rfl (by decide) ?_
        clear hf; intro a ha hf; clear ha
        refine st_move hf (wantY hf rfl rfl hb4) rfl (by decide) ?_
        clear hf; intro a ha hf; clear ha
        refine st_fcmp (r_fne (fx := bx1) (fy := bx1) hbx1 hbx1) hf (by decide) (wantY hf rfl rfl hb4) rfl rfl ?_
        clear hf; intro a ha hf; clear ha
        refine st_pick (v := .bool (fne bx1 bx1)) hf rfl rfl (fun hb' => ?_) (fun hb' => ?_) (by decide) ?_
        · rfl
        · exact absurd (hb4.symm.trans hb') (by decide)
        clear hf; intro a ha hf; clear ha
        refine st_nil hf (th_n ?_)
        exact ⟨hf.sub ⟨(by rw [hb4]; rfl), trivial⟩, hp⟩
      refine st_skip hf (wantN hf rfl rfl hb4) rfl (by decide) ?_ rfl
      clear hf; intro a hf
      refine st_skip hf (wantN hf rfl rfl hb4) rfl (by decide) ?_ rfl
      clear hf; intro a hf
      refine st_skip hf (wantN hf rfl rfl hb4) rfl (by decide) ?_ rfl
      clear hf; intro a hf
      refine st_pick (v := .bool false) hf rfl rfl (fun hb' => ?_) (fun hb' => ?_) (by decide) ?_
      · exact absurd (hb4.symm.trans hb') (by decide)
      · rfl
      clear hf; intro a ha hf; clear ha
      refine st_nil hf (th_n ?_)
      exact ⟨hf.sub ⟨(by rw [hb4]; rfl), trivial⟩, hp⟩
    rintro a w ⟨hf, hp⟩
    refine st_assign hf rfl rfl (by decide) ?_
    clear hf; intro a ha hf; clear ha
    refine st_nil hf ?_
    refine th_n ?_
    refine wp_ret ?_
    refine th_r ?_
    obtain rfl := Option.some.inj h
    exact ⟨rfl, ⟨hf.sub ⟨rfl, trivial⟩, hp⟩⟩
  replace h := ifF h hb
  refine wp_skip ?_
  refine th_n ?_
  refine wp_seq ?_
  refine wp_reg ?_
  refine st_move hf rfl rfl (by decide) ?_
  clear hf; intro a ha hf; clear ha
  refine st_move hf rfl rfl (by decide) ?_
  clear hf; intro a ha hf; clear ha
  refine st_fcmp (r_feq (fx := ax0) (fy := bx1) hax0 hbx1) hf (by decide) rfl rfl rfl ?_
  clear hf; intro a ha hf; clear ha
  refine st_move hf rfl rfl (by decide) ?_
  clear hf; intro a ha hf; clear ha
  obtain ⟨z7, hz5, h⟩ := bnd h
  refine wpList_cut 10 (fun a w => Fr 37 a [(36, .bool z7)] ∧ Hp S w0 w (ow)) ?_ ?_
  · rcases Bool.eq_false_or_eq_true (feq ax0 bx1) with hb6 | hb6
    · skip
      replace hz5 := ifT hz5 hb6
      refine st_move hf (wantY hf rfl rfl hb6) rfl (by decide) ?_
      clear hf; intro a ha hf; clear ha
      refine st_not hf (by decide) (wantY hf rfl rfl hb6) rfl ?_
      clear hf; intro a ha hf; clear ha
      refine st_move hf (wantY hf rfl rfl hb6) rfl (by decide) ?_
      clear hf; intro a ha hf; clear ha
      obtain ⟨z10, hz8, hz5⟩ := bnd hz5
      refine wpList_cut 6 (fun a w => Fr 37 a [(26, .bool (feq ax0 bx1)), (35, .bool z10)] ∧ Hp S w0 w (ow)) ?_ ?_
      · rcases Bool.eq_false_or_eq_true (!signs2) with hb9 | hb9
        · skip
          replace hz8 := ifT hz8 hb9
          refine st_skip hf (wantN hf rfl rfl hb9) rfl (by decide) ?_ rfl
          clear hf; intro a hf
          refine st_skip hf (wantN hf rfl rfl hb9) rfl (by decide) ?_ rfl
          clear hf; intro a hf
          refine st_skip hf (wantN hf rfl rfl hb9) rfl (by decide) ?_ rfl
          clear hf; intro a hf
          refine st_skip hf (wantN hf rfl rfl hb9) rfl (by decide) ?_ rfl
          clear hf; intro a hf
          refine st_skip hf (wantN hf rfl rfl hb9) rfl (by decide) ?_ rfl
          clear hf; intro a hf
          obtain rfl := Option.some.inj hz8
          refine st_pick (v := .bool true) hf (wantY hf rfl rfl hb6) rfl (fun hb' => ?_) (fun hb' => ?_) (by decide) ?_
          · rfl
          · exact absurd (hb9.symm.trans hb') (by decide)
          clear hf; intro a ha hf; clear ha
          refine st_nil hf (th_n ?_)
          exact ⟨hf.sub ⟨rfl, rfl, trivial⟩, hp⟩
        replace hz8 := ifF hz8 hb9
        refine st_move hf (wantY hf rfl rfl hb9) rfl (by decide) ?_
        clear hf; intro a ha hf; clear ha
        obtain ⟨q11, hcall12, hz8⟩ := bnd hz8
        refine st_call hf (by decide) Try.func30 rfl rfl (wantY hf rfl rfl hb9) rfl rfl (f_math_Signbit_c hp _ _ (show Fl.rep bax0 ax0 from hax0) hcall12) ?_
        rintro _ w ⟨rfl, hp0⟩
        clear hp; have hp := hp0; clear hp0
        replace hp : Hp _ _ _ (ow) := hp
        refine ⟨_, rfl, ?_⟩
        clear hf; intro a hf
        refine st_move hf (wantY hf rfl rfl hb9) rfl (by decide) ?_
        clear hf; intro a ha hf; clear ha
        obtain ⟨q13, hcall14, hz8⟩ := bnd hz8
        refine st_call hf (by decide) Try.func30 rfl rfl (wantY hf rfl rfl hb9) rfl rfl (f_math_Signbit_c hp _ _ (show Fl.rep bbx1 bx1 from hbx1) hcall14) ?_
        rintro _ w ⟨rfl, hp0⟩
        clear hp; have hp := hp0; clear hp0
        replace hp : Hp _ _ _ (ow) := hp
        refine ⟨_, rfl, ?_⟩
        clear hf; intro a hf
        refine st_beql hf (by decide) Try.underlying4 (wantY hf rfl rfl hb9) rfl rfl ?_
        clear hf; intro a ha hf; clear ha
        obtain rfl := Option.some.inj hz8
        refine st_pick (v := .bool (q11 == q13)) hf (wantY hf rfl rfl hb6) rfl (fun hb' => ?_) (fun hb' => ?_) (by decide) ?_
        · exact absurd (hb9.symm.trans hb') (by decide)
        · rfl
        clear hf; intro a ha hf; clear ha
        refine st_nil hf (th_n ?_)
        exact ⟨hf.sub ⟨rfl, rfl, trivial⟩, hp⟩
      rintro a w ⟨hf, hp⟩
      obtain rfl := Option.some.inj hz5
      refine st_pick (v := .bool z10) hf rfl rfl (fun hb' => ?_) (fun hb' => ?_) (by decide) ?_
      · rfl
      · exact absurd (hb6.symm.trans hb') (by decide)
      clear hf; intro a ha hf; clear ha
      refine st_nil hf (th_n ?_)
      exact ⟨hf.sub ⟨rfl, trivial⟩, hp⟩
    replace hz5 := ifF hz5 hb6
    refine st_skip hf (wantN hf rfl rfl hb6) rfl (by decide) ?_ rfl
    clear hf; intro a hf
    refine st_skip hf (wantN hf rfl rfl hb6) rfl (by decide) ?_ rfl
    clear hf; intro a hf
    refine st_skipU hf (wantN hf rfl rfl hb6) rfl (by decide) ?_
    clear hf; intro a hf
    refine st_skip hf (wantU hf rfl rfl) rfl (by decide) ?_ rfl
    clear hf; intro a hf
    refine st_skip hf (wantU hf rfl rfl) rfl (by decide) ?_ rfl
    clear hf; intro a hf
    refine st_skip hf (wantU hf rfl rfl) rfl (by decide) ?_ rfl
    clear hf; intro a hf
    refine st_skip hf (wantU hf rfl rfl) rfl (by decide) ?_ rfl
    clear hf; intro a hf
    refine st_skip hf (wantU hf rfl rfl) rfl (by decide) ?_ rfl
    clear hf; intro a hf
    refine st_skip hf (wantN hf rfl rfl hb6) rfl (by decide) ?_ rfl
    clear hf; intro a hf
    obtain rfl := Option.some.inj hz5
    refine st_pick (v := .bool false) hf rfl rfl (fun hb' => ?_) (fun hb' => ?_) (by decide) ?_
    · exact absurd (hb6.symm.trans hb') (by decide)
    · rfl
    clear hf; intro a ha hf; clear ha
    refine st_nil hf (th_n ?_)
    exact ⟨hf.sub ⟨rfl, trivial⟩, hp⟩
  rintro a w ⟨hf, hp⟩
  refine st_assign hf rfl rfl (by decide) ?_
  clear hf; intro a ha hf; clear ha
  refine st_nil hf ?_
  refine th_n ?_
  refine wp_ret ?_
  obtain rfl := Option.some.inj h
  exact ⟨rfl, ⟨hf.sub ⟨rfl, trivial⟩, hp⟩⟩

noncomputable def f_foghornref03_Same (ax0 : (Fl × Fl)) (bx1 : (Fl × Fl)) (signs2 : Bool) : Option Bool := ((f_foghornref03_part ax0.1 bx1.1 signs2).bind fun q1 => ((if q1 = true then ((f_foghornref03_part ax0.2 bx1.2 signs2).bind fun q6 => (some q6)) else (some false)).bind fun z5 => (some z5)))
theorem f_foghornref03_Same_c {S : Nat → Prop} {w0 w : World} {ow : List Res} (hp : Hp S w0 w ow) (bax0 cax0 : Nat) (ax0 : Fl × Fl) (hax0 : ax0.1.rep bax0) (kax0 : ax0.2.rep cax0) (bbx1 cbx1 : Nat) (bx1 : Fl × Fl) (hbx1 : bx1.1.rep bbx1) (kbx1 : bx1.2.rep cbx1) (signs2 : Bool) {r : Bool} (h : f_foghornref03_Same ax0 bx1 signs2 = some r) :
    Calls Try.prog 28 #[.complex .f64 bax0 cax0, .complex .f64 bbx1 cbx1, .bool signs2] w (fun e w' => e = .returned (.bool r) ∧ Hp S w0 w' (ow)) := by
  unfold f_foghornref03_Same at h
  refine enter (n := 21) (args := [.complex .f64 bax0 cax0, .complex .f64 bbx1 cbx1, .bool signs2]) Try.func28 rfl rfl (Nat.le_of_ble_eq_true rfl) fun a hf => ?_
  replace hf : Fr 21 a [(0, .complex .f64 bax0 cax0), (1, .complex .f64 bbx1 cbx1), (2, .bool signs2)] := hf
  refine wp_mono (Q := fun e a w => e = .ret ∧ Fr 21 a [(6, .bool r)] ∧ Hp S w0 w (ow)) ?_ ?_
  rotate_left
  · rintro e a w ⟨rfl, hf, hp⟩
    exact ret1 hf rfl rfl ⟨rfl, hp⟩
  refine wp_seq ?_
  refine wp_reg ?_
  refine st_assign hf rfl rfl (by decide) ?_
  clear hf; intro a ha hf; clear ha
  refine st_nil hf ?_
  refine th_n ?_
  refine wp_seq ?_
  refine wp_reg ?_
  refine st_move hf rfl rfl (by decide) ?_
  clear hf; intro a ha hf; clear ha
  refine st_real hf (by decide) rfl rfl ?_
  clear hf; intro a ha hf; clear ha
  refine st_move hf rfl rfl (by decide) ?_
  clear hf; intro a ha hf; clear ha
  refine st_real hf (by decide) rfl rfl ?_
  clear hf; intro a ha hf; clear ha
  refine st_move hf rfl rfl (by decide) ?_
  clear hf; intro a ha hf; clear ha
  obtain ⟨q1, hcall2, h⟩ := bnd h
  refine st_call hf (by decide) Try.func29 rfl rfl rfl rfl rfl (f_foghornref03_part_c hp _ _ (show Fl.rep bax0 ax0.1 from hax0) _ _ (show Fl.rep bbx1 bx1.1 from hbx1) _ hcall2) ?_
  rintro _ w ⟨rfl, hp0⟩
  clear hp; have hp := hp0; clear hp0
  replace hp : Hp _ _ _ (ow) := hp
  refine ⟨_, rfl, ?_⟩
  clear hf; intro a hf
  refine st_move hf rfl rfl (by decide) ?_
  clear hf; intro a ha hf; clear ha
  obtain ⟨z5, hz3, h⟩ := bnd h
  refine wpList_cut 7 (fun a w => Fr 21 a [(20, .bool z5)] ∧ Hp S w0 w (ow)) ?_ ?_
  · rcases Bool.eq_false_or_eq_true q1 with hb4 | hb4
    · skip
      replace hz3 := ifT hz3 hb4
      refine st_move hf (wantY hf rfl rfl hb4) rfl (by decide) ?_
      clear hf; intro a ha hf; clear ha
      refine st_imag hf (by decide) (wantY hf rfl rfl hb4) rfl ?_
      clear hf; intro a ha hf; clear ha
      refine st_move hf (wantY hf rfl rfl hb4) rfl (by decide) ?_
      clear hf; intro a ha hf; clear ha
      refine st_imag hf (by decide) (wantY hf rfl rfl hb4) rfl ?_
      clear hf; intro a ha hf; clear ha
      refine st_move hf (wantY hf rfl rfl hb4) rfl (by decide) ?_
      clear hf; intro a ha hf; clear ha
      obtain ⟨q6, hcall7, hz3⟩ := bnd hz3
      refine st_call hf (by decide) Try.func29 rfl rfl (wantY hf rfl rfl hb4) rfl rfl (f_foghornref03_part_c hp _ _ (show Fl.rep cax0 ax0.2 from kax0) _ _ (show Fl.rep cbx1 bx1.2 from kbx1) _ hcall7) ?_
      rintro _ w ⟨rfl, hp0⟩
      clear hp; have hp := hp0; clear hp0
      replace hp : Hp _ _ _ (ow) := hp
      refine ⟨_, rfl, ?_⟩
      clear hf; intro a hf
      obtain rfl := Option.some.inj hz3
      refine st_pick (v := .bool q6) hf rfl rfl (fun hb' => ?_) (fun hb' => ?_) (by decide) ?_
      · rfl
      · exact absurd (hb4.symm.trans hb') (by decide)
      clear hf; intro a ha hf; clear ha
      refine st_nil hf (th_n ?_)
      exact ⟨hf.sub ⟨rfl, trivial⟩, hp⟩
    replace hz3 := ifF hz3 hb4
    refine st_skip hf (wantN hf rfl rfl hb4) rfl (by decide) ?_ rfl
    clear hf; intro a hf
    refine st_skip hf (wantN hf rfl rfl hb4) rfl (by decide) ?_ rfl
    clear hf; intro a hf
    refine st_skip hf (wantN hf rfl rfl hb4) rfl (by decide) ?_ rfl
    clear hf; intro a hf
    refine st_skip hf (wantN hf rfl rfl hb4) rfl (by decide) ?_ rfl
    clear hf; intro a hf
    refine st_skip hf (wantN hf rfl rfl hb4) rfl (by decide) ?_ rfl
    clear hf; intro a hf
    refine st_skip hf (wantN hf rfl rfl hb4) rfl (by decide) ?_ rfl
    clear hf; intro a hf
    obtain rfl := Option.some.inj hz3
    refine st_pick (v := .bool false) hf rfl rfl (fun hb' => ?_) (fun hb' => ?_) (by decide) ?_
    · exact absurd (hb4.symm.trans hb') (by decide)
    · rfl
    clear hf; intro a ha hf; clear ha
    refine st_nil hf (th_n ?_)
    exact ⟨hf.sub ⟨rfl, trivial⟩, hp⟩
  rintro a w ⟨hf, hp⟩
  refine st_assign hf rfl rfl (by decide) ?_
  clear hf; intro a ha hf; clear ha
  refine st_nil hf ?_
  refine th_n ?_
  refine wp_ret ?_
  obtain rfl := Option.some.inj h
  exact ⟨rfl, ⟨hf.sub ⟨rfl, trivial⟩, hp⟩⟩

noncomputable def f_foghornref03_SameRow.s1c (ax0 : (List (Fl × Fl))) (bx1 : (List (Fl × Fl))) (i5 : Int) : Option (Int ⊕ (Unit ⊕ Bool)) := (if (decide (i5 < (ax0.length : Int))) = true then (if 0 ≤ i5 ∧ i5 < (ax0.length : Int) then (if 0 ≤ i5 ∧ i5 < (bx1.length : Int) then ((f_foghornref03_Same (gt ax0 i5) (gt bx1 i5) false).bind fun q13 => (if (!q13) = true then (some (Sum.inr (Sum.inr false))) else (some (Sum.inl (IntKind.i64.wrap (i5 + (1 : Int))))))) else none) else none) else (some (Sum.inr (Sum.inl ()))))
noncomputable def f_foghornref03_SameRow.s1 (ax0 : (List (Fl × Fl))) (bx1 : (List (Fl × Fl))) (s : Int) : Option (Int ⊕ (Unit ⊕ Bool)) := f_foghornref03_SameRow.s1c ax0 bx1 s
noncomputable def f_foghornref03_SameRow (ax0 : (List (Fl × Fl))) (bx1 : (List (Fl × Fl))) : Option Bool := (if ((ax0.length : Int) != (bx1.length : Int)) = true then (some false) else ((loop (f_foghornref03_SameRow.s1 ax0 bx1) (0 : Int)).bind (fun q15 => sm q15 (fun q16 => (some true)) (fun q17 => (some q17)))))
theorem f_foghornref03_SameRow_c {S : Nat → Prop} {w0 w : World} {ow : List Res} (hp : Hp S w0 w ow) (vax0 : Value) (ax0 : (List (Fl × Fl))) (hax0 : RdS Ek.c128 S w0 vax0 ax0) (vbx1 : Value) (bx1 : (List (Fl × Fl))) (hbx1 : RdS Ek.c128 S w0 vbx1 bx1) {r : Bool} (h : f_foghornref03_SameRow ax0 bx1 = some r) :
    Calls Try.prog 24 #[vax0, vbx1] w (fun e w' => e = .returned (.bool r) ∧ Hp S w0 w' (ow)) := by
  unfold f_foghornref03_SameRow at h
  refine enter (n := 27) (args := [vax0, vbx1]) Try.func24 rfl rfl (Nat.le_of_ble_eq_true rfl) fun a hf => ?_
  replace hf : Fr 27 a [(0, vax0), (1, vbx1)] := hf
  refine wp_mono (Q := fun e a w => e = .ret ∧ Fr 27 a [(4, .bool r)] ∧ Hp S w0 w (ow)) ?_ ?_
  rotate_left
  · rintro e a w ⟨rfl, hf, hp⟩
    exact ret1 hf rfl rfl ⟨rfl, hp⟩
  refine wp_seq ?_
  refine wp_reg ?_
  refine st_assign hf rfl rfl (by decide) ?_
  clear hf; intro a ha hf; clear ha
  refine st_nil hf ?_
  refine th_n ?_
  refine wp_seq ?_
  refine wp_seq ?_
  refine wp_reg ?_
  refine st_move hf rfl rfl (by decide) ?_
  clear hf; intro a ha hf; clear ha
  refine st_len (E := Ek.c128) hf (by decide) Try.underlying26 rfl rfl (hax0.sl hp) ?_
  clear hf; intro a ha hf; clear ha
  refine st_move hf rfl rfl (by decide) ?_
  clear hf; intro a ha hf; clear ha
  refine st_len (E := Ek.c128) hf (by decide) Try.underlying26 rfl rfl (hbx1.sl hp) ?_
  clear hf; intro a ha hf; clear ha
  refine st_ineq hf (by decide) rfl rfl rfl ?_
  clear hf; intro a ha hf; clear ha
  refine st_nil hf ?_
  refine th_n ?_
  refine wp_if hf rfl (fun hb => ?_) (fun hb => ?_)
  · replace h := ifT h hb
    refine wp_seq ?_
    refine wp_reg ?_
    refine st_assign hf rfl rfl (by decide) ?_
    clear hf; intro a ha hf; clear ha
    refine st_nil hf ?_
    refine th_n ?_
    refine wp_ret ?_
    refine th_r ?_
    obtain rfl := Option.some.inj h
    exact ⟨rfl, ⟨hf.sub ⟨rfl, trivial⟩, hp⟩⟩
  replace h := ifF h hb
  refine wp_skip ?_
  refine th_n ?_
  refine wp_seq ?_
  refine wp_seq ?_
  refine wp_reg ?_
  refine st_assign hf rfl rfl (by decide) ?_
  clear hf; intro a ha hf; clear ha
  refine st_nil hf ?_
  refine th_n ?_
  refine wp_block ?_
  obtain ⟨q15, hl, h⟩ := bnd h
  refine wp_loop_pure (f := (f_foghornref03_SameRow.s1 ax0 bx1)) (s := (0 : Int)) (fun s a w => Fr 27 a [(0, vax0), (1, vbx1), (5, .int .i64 s)] ∧ Hp S w0 w (ow)) (fun q e a w => match q with | (Sum.inl q) => e = .exit 0 ∧ Fr 27 a [] ∧ Hp S w0 w (ow) | (Sum.inr q) => e = .ret ∧ Fr 27 a [(4, .bool q)] ∧ Hp S w0 w (ow)) ?_ hl ⟨hf.sub ⟨rfl, rfl, rfl, trivial⟩, hp⟩ ?_
  · clear hl hf hp
    intro s x a w h hI
    obtain ⟨i5, hs⟩ : ∃ z, z = s := ⟨s, rfl⟩; subst hs
    obtain ⟨hf, hp⟩ : Fr 27 a [(0, vax0), (1, vbx1), (5, .int .i64 i5)] ∧ Hp S w0 w (ow) := hI
    replace h : f_foghornref03_SameRow.s1c ax0 bx1 i5 = some x := h
    unfold f_foghornref03_SameRow.s1c at h
    refine wp_seq ?_
    refine wp_seq ?_
    refine wp_reg ?_
    refine st_move hf rfl rfl (by decide) ?_
    clear hf; intro a ha hf; clear ha
    refine st_move hf rfl rfl (by decide) ?_
    clear hf; intro a ha hf; clear ha
    refine st_len (E := Ek.c128) hf (by decide) Try.underlying26 rfl rfl (hax0.sl hp) ?_
    clear hf; intro a ha hf; clear ha
    refine st_ilss hf (by decide) rfl rfl rfl ?_
    clear hf; intro a ha hf; clear ha
    refine st_nil hf ?_
    refine th_n ?_
    refine wp_if hf rfl (fun hb => ?_) (fun hb => ?_)
    · replace h := ifT h hb
      refine wp_skip ?_
      refine th_n ?_
      refine wp_seq ?_
      refine wp_block ?_
      refine wp_seq ?_
      obtain ⟨hc1, h⟩ := chk h
      obtain ⟨bb3, bb4, y5, y6, hl2⟩ := RdS.pinC (p := i5) hax0 hc1.1 hc1.2
      obtain ⟨hc7, h⟩ := chk h
      obtain ⟨bb9, bb10, y11, y12, hl8⟩ := RdS.pinC (p := i5) hbx1 hc7.1 hc7.2
      obtain ⟨q13, hcall14, h⟩ := bnd h
      refine wp_cutN (fun a w => Fr 27 a [(0, vax0), (1, vbx1), (5, .int .i64 i5), (26, .bool (!q13))] ∧ Hp S w0 w (ow)) ?_ ?_
      · have hp := hp.same (Same.drew w)
        refine dr_begin' (fun a w => Fr 27 a [(0, vax0), (1, vbx1), (5, .int .i64 i5), (26, .bool (!q13))] ∧ Hp S w0 w (ow)) (fun w' => ∃ l, Hp S w0 w' l) [] (by kernel_rfl) ?_
        refine dr_take 0 (vax0) rfl (by kernel_rfl) (by kernel_rfl) (by kernel_rfl) (by kernel_rfl) rfl rfl hf (by decide) rfl (fun w hp => ?_) ⟨_, hp⟩ ?_
        · obtain ⟨_, hp⟩ := hp
          refine st_move hf rfl rfl (by decide) ?_
          clear hf; intro a ha hf
          exact st_nil hf (th_n ⟨ha, rfl⟩)
        clear hf; intro a hf
        refine dr_take 1 (.int .i64 i5) rfl (by kernel_rfl) (by kernel_rfl) (by kernel_rfl) (by kernel_rfl) rfl rfl hf (by decide) rfl (fun w hp => ?_) ⟨_, hp⟩ ?_
        · obtain ⟨_, hp⟩ := hp
          refine st_move hf rfl rfl (by decide) ?_
          clear hf; intro a ha hf
          exact st_nil hf (th_n ⟨ha, rfl⟩)
        clear hf; intro a hf
        refine dr_take 2 (eptr vax0 i5 1) rfl (by kernel_rfl) (by kernel_rfl) (by kernel_rfl) (by kernel_rfl) rfl rfl hf (by decide) rfl (fun w hp => ?_) ⟨_, hp⟩ ?_
        · obtain ⟨_, hp⟩ := hp
          refine st_index (E := Ek.c128) hf (by decide) Try.underlying26 elt28 rfl rfl rfl (hax0.sl hp) hc1.1 hc1.2 ?_
          clear hf; intro a ha hf
          exact st_nil hf (th_n ⟨ha, rfl⟩)
        clear hf; intro a hf
        refine dr_take 3 (.complex .f64 bb3 bb4) rfl (by kernel_rfl) (by kernel_rfl) (by kernel_rfl) (by kernel_rfl) rfl rfl hf (by decide) rfl (fun w hp => ?_) ⟨_, hp⟩ ?_
        · obtain ⟨_, hp⟩ := hp
          refine st_ldP hf (by decide) pl28 rfl rfl (hl2 _ _ hp) ?_
          clear hf; intro a ha hf
          exact st_nil hf (th_n ⟨ha, rfl⟩)
        clear hf; intro a hf
        refine dr_take 4 (vbx1) rfl (by kernel_rfl) (by kernel_rfl) (by kernel_rfl) (by kernel_rfl) rfl rfl hf (by decide) rfl (fun w hp => ?_) ⟨_, hp⟩ ?_
        · obtain ⟨_, hp⟩ := hp
          refine st_move hf rfl rfl (by decide) ?_
          clear hf; intro a ha hf
          exact st_nil hf (th_n ⟨ha, rfl⟩)
        clear hf; intro a hf
        refine dr_take 5 (.int .i64 i5) rfl (by kernel_rfl) (by kernel_rfl) (by kernel_rfl) (by kernel_rfl) rfl rfl hf (by decide) rfl (fun w hp => ?_) ⟨_, hp⟩ ?_
        · obtain ⟨_, hp⟩ := hp
          refine st_move hf rfl rfl (by decide) ?_
          clear hf; intro a ha hf
          exact st_nil hf (th_n ⟨ha, rfl⟩)
        clear hf; intro a hf
        refine dr_take 6 (eptr vbx1 i5 1) rfl (by kernel_rfl) (by kernel_rfl) (by kernel_rfl) (by kernel_rfl) rfl rfl hf (by decide) rfl (fun w hp => ?_) ⟨_, hp⟩ ?_
        · obtain ⟨_, hp⟩ := hp
          refine st_index (E := Ek.c128) hf (by decide) Try.underlying26 elt28 rfl rfl rfl (hbx1.sl hp) hc7.1 hc7.2 ?_
          clear hf; intro a ha hf
          exact st_nil hf (th_n ⟨ha, rfl⟩)
        clear hf; intro a hf
        refine dr_take 7 (.complex .f64 bb9 bb10) rfl (by kernel_rfl) (by kernel_rfl) (by kernel_rfl) (by kernel_rfl) rfl rfl hf (by decide) rfl (fun w hp => ?_) ⟨_, hp⟩ ?_
        · obtain ⟨_, hp⟩ := hp
          refine st_ldP hf (by decide) pl28 rfl rfl (hl8 _ _ hp) ?_
          clear hf; intro a ha hf
          exact st_nil hf (th_n ⟨ha, rfl⟩)
        clear hf; intro a hf
        refine dr_one 8 rfl (by kernel_rfl) ?_
        refine st_call hf (by decide) Try.func28 rfl rfl rfl rfl rfl (f_foghornref03_Same_c hp _ _ _ (show Fl.rep bb3 ((gt ax0 i5)).1 from y5) (show Fl.rep bb4 ((gt ax0 i5)).2 from y6) _ _ _ (show Fl.rep bb9 ((gt bx1 i5)).1 from y11) (show Fl.rep bb10 ((gt bx1 i5)).2 from y12) _ hcall14) ?_
        rintro _ w ⟨rfl, hp0⟩
        clear hp; have hp := hp0; clear hp0
        replace hp : Hp _ _ _ (ow) := hp
        refine ⟨_, rfl, ?_⟩
        clear hf; intro a hf
        refine st_nil hf (th_n ⟨fun _ _ => ⟨_, hp⟩, ?_⟩)
        refine dr_take 9 (.bool (!q13)) rfl (by kernel_rfl) (by kernel_rfl) (by kernel_rfl) (by kernel_rfl) rfl rfl hf (by decide) rfl (fun w hp => ?_) ⟨_, hp⟩ ?_
        · obtain ⟨_, hp⟩ := hp
          refine st_not hf (by decide) rfl rfl ?_
          clear hf; intro a ha hf
          exact st_nil hf (th_n ⟨ha, rfl⟩)
        clear hf; intro a hf
        refine dr_end (by kernel_rfl) ?_ _
        exact ⟨hf.sub ⟨rfl, rfl, rfl, rfl, trivial⟩, hp⟩
      rintro a w ⟨hf, hp⟩
      refine th_n ?_
      refine wp_if hf rfl (fun hb => ?_) (fun hb => ?_)
      · replace h := ifT h hb
        refine wp_seq ?_
        refine wp_reg ?_
        refine st_assign hf rfl rfl (by decide) ?_
        clear hf; intro a ha hf; clear ha
        refine st_nil hf ?_
        refine th_n ?_
        refine wp_ret ?_
        refine ib_r ?_
        refine th_r ?_
        obtain rfl := Option.some.inj h
        exact rnd_r (by simp) ⟨rfl, ⟨hf.sub ⟨rfl, trivial⟩, hp⟩⟩
      replace h := ifF h hb
      refine wp_skip ?_
      refine ib_n ?_
      refine th_n ?_
      refine wp_reg ?_
      refine st_move hf rfl rfl (by decide) ?_
      clear hf; intro a ha hf; clear ha
      refine st_iadd hf (by decide) rfl rfl rfl ?_
      clear hf; intro a ha hf; clear ha
      refine st_assign hf rfl rfl (by decide) ?_
      clear hf; intro a ha hf; clear ha
      refine st_nil hf ?_
      obtain rfl := Option.some.inj h
      exact rnd_l ⟨hf.sub ⟨rfl, rfl, rfl, trivial⟩, hp⟩
    replace h := ifF h hb
    refine wp_exit ?_
    refine th_e ?_
    obtain rfl := Option.some.inj h
    exact rnd_r (by simp) ⟨rfl, hf.sub trivial, hp⟩
  clear hl hf hp
  intro e a w hne hO
  rcases q15 with q16 | q17
  · replace h := smL h
    obtain ⟨rfl, hf, hp⟩ := hO
    refine ib_same ?_
    refine th_n ?_
    refine wp_seq ?_
    refine wp_reg ?_
    refine st_assign hf rfl rfl (by decide) ?_
    clear hf; intro a ha hf; clear ha
    refine st_nil hf ?_
    refine th_n ?_
    refine wp_ret ?_
    obtain rfl := Option.some.inj h
    exact ⟨rfl, ⟨hf.sub ⟨rfl, trivial⟩, hp⟩⟩
  replace h := smR h
  obtain ⟨rfl, hf, hp⟩ := hO
  refine ib_r ?_
  refine th_r ?_
  obtain rfl := Option.some.inj h
  exact ⟨rfl, ⟨hf.sub ⟨rfl, trivial⟩, hp⟩⟩

noncomputable def f_foghornlaw09_awake  : Option Bool := ((f_tones_Send (1 : Int) ([(Fl.bits 0, Fl.bits 0), (Fl.bits 4616189618054758400, Fl.bits 0), (Fl.bits 0, Fl.bits 0), (Fl.bits 0, Fl.bits 0)])).bind fun q3 => ((f_tones_Back (1 : Int) ([(Fl.bits 4611686018427387904, Fl.bits 0), (Fl.bits 0, Fl.bits 4611686018427387904), (Fl.bits 13835058055282163712, Fl.bits 0), (Fl.bits 0, Fl.bits 13835058055282163712)])).bind fun q14 => ((if ((q3.2 == (0 : Int)) && (q14.2 == (0 : Int))) = true then ((f_foghornref03_SameRow q3.1 ([(Fl.bits 4611686018427387904, Fl.bits 0), (Fl.bits 0, Fl.bits 4611686018427387904), (Fl.bits 13835058055282163712, Fl.bits 0), (Fl.bits 0, Fl.bits 13835058055282163712)])).bind fun q30 => (some q30)) else (some false)).bind fun z27 => ((if z27 = true then ((f_foghornref03_SameRow q14.1 ([(Fl.bits 0, Fl.bits 0), (Fl.bits 4616189618054758400, Fl.bits 0), (Fl.bits 0, Fl.bits 0), (Fl.bits 0, Fl.bits 0)])).bind fun q47 => (some q47)) else (some false)).bind fun z44 => (some z44)))))
theorem f_foghornlaw09_awake_c {S : Nat → Prop} {w0 w : World} {ow : List Res} (hp : Hp S w0 w ow) {r : Bool} (h : f_foghornlaw09_awake = some r) :
    Calls Try.prog 13 #[] w (fun e w' => e = .returned (.bool r) ∧ Hp S w0 w' (ow)) := by
  unfold f_foghornlaw09_awake at h
  refine enter (n := 31) (args := []) Try.func13 rfl rfl (Nat.le_of_ble_eq_true rfl) fun a hf => ?_
  replace hf : Fr 31 a [] := hf
  refine wp_mono (Q := fun e a w => e = .ret ∧ Fr 31 a [(0, .bool r)] ∧ Hp S w0 w (ow)) ?_ ?_
  rotate_left
  · rintro e a w ⟨rfl, hf, hp⟩
    exact ret1 hf rfl rfl ⟨rfl, hp⟩
  refine wp_seq ?_
  refine wp_reg ?_
  refine st_assign hf rfl rfl (by decide) ?_
  clear hf; intro a ha hf; clear ha
  refine st_nil hf ?_
  refine th_n ?_
  refine wp_seq ?_
  refine wp_reg ?_
  refine st_build (E := Ek.c128) (xs := [(Fl.bits 0, Fl.bits 0), (Fl.bits 4616189618054758400, Fl.bits 0), (Fl.bits 0, Fl.bits 0), (Fl.bits 0, Fl.bits 0)]) hf (by decide) elt28 Try.underlying26 hp (vals := #[(0, .complex .f64 0 0), (1, .complex .f64 4616189618054758400 0), (2, .complex .f64 0 0), (3, .complex .f64 0 0)]) (cells := #[.complex .f64 0 0, .complex .f64 4616189618054758400 0, .complex .f64 0 0, .complex .f64 0 0]) rfl (by simp [hf.ev (x := (Operand.const (.complex .f64 0 0))) rfl, hf.ev (x := (Operand.const (.complex .f64 4616189618054758400 0))) rfl, hf.ev (x := (Operand.const (.complex .f64 0 0))) rfl, hf.ev (x := (Operand.const (.complex .f64 0 0))) rfl]) (by decide) (by decide) (z := .complex .f64 0 0) (by kernel_rfl) (by kernel_rfl) rfl (reps_cons (cs := [.complex .f64 0 0]) (show Ek.c128.rep [.complex .f64 0 0] (Fl.bits 0, Fl.bits 0) from ⟨_, _, rfl, rfl, rfl⟩) (reps_cons (cs := [.complex .f64 4616189618054758400 0]) (show Ek.c128.rep [.complex .f64 4616189618054758400 0] (Fl.bits 4616189618054758400, Fl.bits 0) from ⟨_, _, rfl, rfl, rfl⟩) (reps_cons (cs := [.complex .f64 0 0]) (show Ek.c128.rep [.complex .f64 0 0] (Fl.bits 0, Fl.bits 0) from ⟨_, _, rfl, rfl, rfl⟩) (reps_cons (cs := [.complex .f64 0 0]) (show Ek.c128.rep [.complex .f64 0 0] (Fl.bits 0, Fl.bits 0) from ⟨_, _, rfl, rfl, rfl⟩) (reps_nil _))))) ?_
  clear hf; intro a w v1 hf hp0; clear hp; have hp := hp0; clear hp0
  replace hp : Hp _ _ _ (Res.sl Ek.c128 28 v1 ([(Fl.bits 0, Fl.bits 0), (Fl.bits 4616189618054758400, Fl.bits 0), (Fl.bits 0, Fl.bits 0), (Fl.bits 0, Fl.bits 0)]) :: ow) := hp
  obtain ⟨q3, hcall4, h⟩ := bnd h
  obtain ⟨S5, hp6, rd7, up8, bk9⟩ := Hp.lendS hp (i := 0) rfl
  refine st_call hf (by decide) Try.func9 rfl rfl rfl rfl rfl (f_tones_Send_c hp6 _ _ _ rd7 hcall4) ?_
  rintro _ w ⟨v10, rfl, hp0⟩
  have hp0 := bk9 _ _ hp0
  clear hp; have hp := hp0; clear hp0
  replace hp : Hp _ _ _ (Res.sl Ek.c128 28 v1 ([(Fl.bits 0, Fl.bits 0), (Fl.bits 4616189618054758400, Fl.bits 0), (Fl.bits 0, Fl.bits 0), (Fl.bits 0, Fl.bits 0)]) :: Res.sl Ek.c128 28 v10 q3.1 :: ow) := hp
  refine ⟨_, rfl, ?_⟩
  clear hf; intro a hf
  refine st_move hf rfl rfl (by decide) ?_
  clear hf; intro a ha hf; clear ha
  refine st_extract hf (by decide) rfl rfl rfl ?_
  clear hf; intro a ha hf; clear ha
  refine st_extract hf (by decide) rfl rfl rfl ?_
  clear hf; intro a ha hf; clear ha
  refine st_assign hf rfl rfl (by decide) ?_
  clear hf; intro a ha hf; clear ha
  refine st_assign hf rfl rfl (by decide) ?_
  clear hf; intro a ha hf; clear ha
  refine st_nil hf ?_
  refine th_n ?_
  refine wp_seq ?_
  refine wp_reg ?_
  refine st_build (E := Ek.c128) (xs := [(Fl.bits 4611686018427387904, Fl.bits 0), (Fl.bits 0, Fl.bits 4611686018427387904), (Fl.bits 13835058055282163712, Fl.bits 0), (Fl.bits 0, Fl.bits 13835058055282163712)]) hf (by decide) elt28 Try.underlying26 hp (vals := #[(0, .complex .f64 4611686018427387904 0), (1, .complex .f64 0 4611686018427387904), (2, .complex .f64 13835058055282163712 0), (3, .complex .f64 0 13835058055282163712)]) (cells := #[.complex .f64 4611686018427387904 0, .complex .f64 0 4611686018427387904, .complex .f64 13835058055282163712 0, .complex .f64 0 13835058055282163712]) rfl (by simp [hf.ev (x := (Operand.const (.complex .f64 4611686018427387904 0))) rfl, hf.ev (x := (Operand.const (.complex .f64 0 4611686018427387904))) rfl, hf.ev (x := (Operand.const (.complex .f64 13835058055282163712 0))) rfl, hf.ev (x := (Operand.const (.complex .f64 0 13835058055282163712))) rfl]) (by decide) (by decide) (z := .complex .f64 0 0) (by kernel_rfl) (by kernel_rfl) rfl (reps_cons (cs := [.complex .f64 4611686018427387904 0]) (show Ek.c128.rep [.complex .f64 4611686018427387904 0] (Fl.bits 4611686018427387904, Fl.bits 0) from ⟨_, _, rfl, rfl, rfl⟩) (reps_cons (cs := [.complex .f64 0 4611686018427387904]) (show Ek.c128.rep [.complex .f64 0 4611686018427387904] (Fl.bits 0, Fl.bits 4611686018427387904) from ⟨_, _, rfl, rfl, rfl⟩) (reps_cons (cs := [.complex .f64 13835058055282163712 0]) (show Ek.c128.rep [.complex .f64 13835058055282163712 0] (Fl.bits 13835058055282163712, Fl.bits 0) from ⟨_, _, rfl, rfl, rfl⟩) (reps_cons (cs := [.complex .f64 0 13835058055282163712]) (show Ek.c128.rep [.complex .f64 0 13835058055282163712] (Fl.bits 0, Fl.bits 13835058055282163712) from ⟨_, _, rfl, rfl, rfl⟩) (reps_nil _))))) ?_
  clear hf; intro a w v12 hf hp0; clear hp; have hp := hp0; clear hp0
  replace hp : Hp _ _ _ (Res.sl Ek.c128 28 v12 ([(Fl.bits 4611686018427387904, Fl.bits 0), (Fl.bits 0, Fl.bits 4611686018427387904), (Fl.bits 13835058055282163712, Fl.bits 0), (Fl.bits 0, Fl.bits 13835058055282163712)]) :: Res.sl Ek.c128 28 v1 ([(Fl.bits 0, Fl.bits 0), (Fl.bits 4616189618054758400, Fl.bits 0), (Fl.bits 0, Fl.bits 0), (Fl.bits 0, Fl.bits 0)]) :: Res.sl Ek.c128 28 v10 q3.1 :: ow) := hp
  obtain ⟨q14, hcall15, h⟩ := bnd h
  obtain ⟨S16, hp17, rd18, up19, bk20⟩ := Hp.lendS hp (i := 0) rfl
  refine st_call hf (by decide) Try.func10 rfl rfl rfl rfl rfl (f_tones_Back_c hp17 _ _ _ rd18 hcall15) ?_
  rintro _ w ⟨v21, rfl, hp0⟩
  have hp0 := bk20 _ _ hp0
  clear hp; have hp := hp0; clear hp0
  replace hp : Hp _ _ _ (Res.sl Ek.c128 28 v12 ([(Fl.bits 4611686018427387904, Fl.bits 0), (Fl.bits 0, Fl.bits 4611686018427387904), (Fl.bits 13835058055282163712, Fl.bits 0), (Fl.bits 0, Fl.bits 13835058055282163712)]) :: Res.sl Ek.c128 28 v21 q14.1 :: Res.sl Ek.c128 28 v1 ([(Fl.bits 0, Fl.bits 0), (Fl.bits 4616189618054758400, Fl.bits 0), (Fl.bits 0, Fl.bits 0), (Fl.bits 0, Fl.bits 0)]) :: Res.sl Ek.c128 28 v10 q3.1 :: ow) := hp
  refine ⟨_, rfl, ?_⟩
  clear hf; intro a hf
  refine st_move hf rfl rfl (by decide) ?_
  clear hf; intro a ha hf; clear ha
  refine st_extract hf (by decide) rfl rfl rfl ?_
  clear hf; intro a ha hf; clear ha
  refine st_extract hf (by decide) rfl rfl rfl ?_
  clear hf; intro a ha hf; clear ha
  refine st_assign hf rfl rfl (by decide) ?_
  clear hf; intro a ha hf; clear ha
  refine st_assign hf rfl rfl (by decide) ?_
  clear hf; intro a ha hf; clear ha
  refine st_nil hf ?_
  refine th_n ?_
  refine wp_seq ?_
  refine wp_reg ?_
  refine st_move hf rfl rfl (by decide) ?_
  clear hf; intro a ha hf; clear ha
  refine st_ieql hf (by decide) rfl rfl rfl ?_
  clear hf; intro a ha hf; clear ha
  refine st_move hf rfl rfl (by decide) ?_
  clear hf; intro a ha hf; clear ha
  refine wpList_cut 3 (fun a w => Fr 31 a [(1, v10), (3, v21), (20, .bool ((q3.2 == (0 : Int)) && (q14.2 == (0 : Int))))] ∧ Hp S w0 w (Res.sl Ek.c128 28 v12 ([(Fl.bits 4611686018427387904, Fl.bits 0), (Fl.bits 0, Fl.bits 4611686018427387904), (Fl.bits 13835058055282163712, Fl.bits 0), (Fl.bits 0, Fl.bits 13835058055282163712)]) :: Res.sl Ek.c128 28 v21 q14.1 :: Res.sl Ek.c128 28 v1 ([(Fl.bits 0, Fl.bits 0), (Fl.bits 4616189618054758400, Fl.bits 0), (Fl.bits 0, Fl.bits 0), (Fl.bits 0, Fl.bits 0)]) :: Res.sl Ek.c128 28 v10 q3.1 :: ow)) ?_ ?_
  · rcases Bool.eq_false_or_eq_true (q3.2 == (0 : Int)) with hb24 | hb24
    · skip
      refine st_move hf (wantY hf rfl rfl hb24) rfl (by decide) ?_
      clear hf; intro a ha hf; clear ha
      refine st_ieql hf (by decide) (wantY hf rfl rfl hb24) rfl rfl ?_
      clear hf; intro a ha hf; clear ha
      refine st_pick (v := .bool (q14.2 == (0 : Int))) hf rfl rfl (fun hb' => ?_) (fun hb' => ?_) (by decide) ?_
      · rfl
      · exact absurd (hb24.symm.trans hb') (by decide)
      clear hf; intro a ha hf; clear ha
      refine st_nil hf (th_n ?_)
      exact ⟨hf.sub ⟨rfl, rfl, (by rw [hb24]; rfl), trivial⟩, hp⟩
    refine st_skip hf (wantN hf rfl rfl hb24) rfl (by decide) ?_ rfl
    clear hf; intro a hf
    refine st_skip hf (wantN hf rfl rfl hb24) rfl (by decide) ?_ rfl
    clear hf; intro a hf
    refine st_pick (v := .bool false) hf rfl rfl (fun hb' => ?_) (fun hb' => ?_) (by decide) ?_
    · exact absurd (hb24.symm.trans hb') (by decide)
    · rfl
    clear hf; intro a ha hf; clear ha
    refine st_nil hf (th_n ?_)
    exact ⟨hf.sub ⟨rfl, rfl, (by rw [hb24]; rfl), trivial⟩, hp⟩
  rintro a w ⟨hf, hp⟩
  refine st_move hf rfl rfl (by decide) ?_
  clear hf; intro a ha hf; clear ha
  obtain ⟨z27, hz25, h⟩ := bnd h
  refine wpList_cut 4 (fun a w => Fr 31 a [(3, v21), (25, .bool z27)] ∧ Hp S w0 w (Res.sl Ek.c128 28 v12 ([(Fl.bits 4611686018427387904, Fl.bits 0), (Fl.bits 0, Fl.bits 4611686018427387904), (Fl.bits 13835058055282163712, Fl.bits 0), (Fl.bits 0, Fl.bits 13835058055282163712)]) :: Res.sl Ek.c128 28 v21 q14.1 :: Res.sl Ek.c128 28 v1 ([(Fl.bits 0, Fl.bits 0), (Fl.bits 4616189618054758400, Fl.bits 0), (Fl.bits 0, Fl.bits 0), (Fl.bits 0, Fl.bits 0)]) :: Res.sl Ek.c128 28 v10 q3.1 :: ow)) ?_ ?_
  · rcases Bool.eq_false_or_eq_true ((q3.2 == (0 : Int)) && (q14.2 == (0 : Int))) with hb26 | hb26
    · skip
      replace hz25 := ifT hz25 hb26
      refine st_move hf (wantY hf rfl rfl hb26) rfl (by decide) ?_
      clear hf; intro a ha hf; clear ha
      refine st_build (E := Ek.c128) (xs := [(Fl.bits 4611686018427387904, Fl.bits 0), (Fl.bits 0, Fl.bits 4611686018427387904), (Fl.bits 13835058055282163712, Fl.bits 0), (Fl.bits 0, Fl.bits 13835058055282163712)]) hf (by decide) elt28 Try.underlying26 hp (vals := #[(0, .complex .f64 4611686018427387904 0), (1, .complex .f64 0 4611686018427387904), (2, .complex .f64 13835058055282163712 0), (3, .complex .f64 0 13835058055282163712)]) (cells := #[.complex .f64 4611686018427387904 0, .complex .f64 0 4611686018427387904, .complex .f64 13835058055282163712 0, .complex .f64 0 13835058055282163712]) (wantY hf rfl rfl hb26) (by simp [hf.ev (x := (Operand.const (.complex .f64 4611686018427387904 0))) rfl, hf.ev (x := (Operand.const (.complex .f64 0 4611686018427387904))) rfl, hf.ev (x := (Operand.const (.complex .f64 13835058055282163712 0))) rfl, hf.ev (x := (Operand.const (.complex .f64 0 13835058055282163712))) rfl]) (by decide) (by decide) (z := .complex .f64 0 0) (by kernel_rfl) (by kernel_rfl) rfl (reps_cons (cs := [.complex .f64 4611686018427387904 0]) (show Ek.c128.rep [.complex .f64 4611686018427387904 0] (Fl.bits 4611686018427387904, Fl.bits 0) from ⟨_, _, rfl, rfl, rfl⟩) (reps_cons (cs := [.complex .f64 0 4611686018427387904]) (show Ek.c128.rep [.complex .f64 0 4611686018427387904] (Fl.bits 0, Fl.bits 4611686018427387904) from ⟨_, _, rfl, rfl, rfl⟩) (reps_cons (cs := [.complex .f64 13835058055282163712 0]) (show Ek.c128.rep [.complex .f64 13835058055282163712 0] (Fl.bits 13835058055282163712, Fl.bits 0) from ⟨_, _, rfl, rfl, rfl⟩) (reps_cons (cs := [.complex .f64 0 13835058055282163712]) (show Ek.c128.rep [.complex .f64 0 13835058055282163712] (Fl.bits 0, Fl.bits 13835058055282163712) from ⟨_, _, rfl, rfl, rfl⟩) (reps_nil _))))) ?_
      clear hf; intro a w v28 hf hp0; clear hp; have hp := hp0; clear hp0
      replace hp : Hp _ _ _ (Res.sl Ek.c128 28 v28 ([(Fl.bits 4611686018427387904, Fl.bits 0), (Fl.bits 0, Fl.bits 4611686018427387904), (Fl.bits 13835058055282163712, Fl.bits 0), (Fl.bits 0, Fl.bits 13835058055282163712)]) :: Res.sl Ek.c128 28 v12 ([(Fl.bits 4611686018427387904, Fl.bits 0), (Fl.bits 0, Fl.bits 4611686018427387904), (Fl.bits 13835058055282163712, Fl.bits 0), (Fl.bits 0, Fl.bits 13835058055282163712)]) :: Res.sl Ek.c128 28 v21 q14.1 :: Res.sl Ek.c128 28 v1 ([(Fl.bits 0, Fl.bits 0), (Fl.bits 4616189618054758400, Fl.bits 0), (Fl.bits 0, Fl.bits 0), (Fl.bits 0, Fl.bits 0)]) :: Res.sl Ek.c128 28 v10 q3.1 :: ow) := hp
      obtain ⟨q30, hcall31, hz25⟩ := bnd hz25
      obtain ⟨S32, hp33, rd34, up35, bk36⟩ := Hp.lendS hp (i := 4) rfl
      obtain ⟨S37, hp38, rd39, up40, bk41⟩ := Hp.lendS hp33 (i := 0) rfl
      refine st_call hf (by decide) Try.func24 rfl rfl (wantY hf rfl rfl hb26) rfl rfl (f_foghornref03_SameRow_c hp38 _ _ ((rd34.now hp33).mono up40) _ _ rd39 hcall31) ?_
      rintro _ w ⟨rfl, hp0⟩
      have hp0 := bk41 _ _ hp0
      have hp0 := bk36 _ _ hp0
      clear hp; have hp := hp0; clear hp0
      replace hp : Hp _ _ _ (Res.sl Ek.c128 28 v10 q3.1 :: Res.sl Ek.c128 28 v28 ([(Fl.bits 4611686018427387904, Fl.bits 0), (Fl.bits 0, Fl.bits 4611686018427387904), (Fl.bits 13835058055282163712, Fl.bits 0), (Fl.bits 0, Fl.bits 13835058055282163712)]) :: Res.sl Ek.c128 28 v12 ([(Fl.bits 4611686018427387904, Fl.bits 0), (Fl.bits 0, Fl.bits 4611686018427387904), (Fl.bits 13835058055282163712, Fl.bits 0), (Fl.bits 0, Fl.bits 13835058055282163712)]) :: Res.sl Ek.c128 28 v21 q14.1 :: Res.sl Ek.c128 28 v1 ([(Fl.bits 0, Fl.bits 0), (Fl.bits 4616189618054758400, Fl.bits 0), (Fl.bits 0, Fl.bits 0), (Fl.bits 0, Fl.bits 0)]) :: ow) := hp
      refine ⟨_, rfl, ?_⟩
      clear hf; intro a hf
      obtain rfl := Option.some.inj hz25
      refine st_pick (v := .bool q30) hf rfl rfl (fun hb' => ?_) (fun hb' => ?_) (by decide) ?_
      · rfl
      · exact absurd (hb26.symm.trans hb') (by decide)
      clear hf; intro a ha hf; clear ha
      refine st_nil hf (th_n ?_)
      have hp : Hp _ _ _ (Res.sl Ek.c128 28 v12 ([(Fl.bits 4611686018427387904, Fl.bits 0), (Fl.bits 0, Fl.bits 4611686018427387904), (Fl.bits 13835058055282163712, Fl.bits 0), (Fl.bits 0, Fl.bits 13835058055282163712)]) :: Res.sl Ek.c128 28 v21 q14.1 :: Res.sl Ek.c128 28 v1 ([(Fl.bits 0, Fl.bits 0), (Fl.bits 4616189618054758400, Fl.bits 0), (Fl.bits 0, Fl.bits 0), (Fl.bits 0, Fl.bits 0)]) :: Res.sl Ek.c128 28 v10 q3.1 :: ow) := Hp.sel (pre := [Res.sl Ek.c128 28 v10 q3.1, Res.sl Ek.c128 28 v28 ([(Fl.bits 4611686018427387904, Fl.bits 0), (Fl.bits 0, Fl.bits 4611686018427387904), (Fl.bits 13835058055282163712, Fl.bits 0), (Fl.bits 0, Fl.bits 13835058055282163712)]), Res.sl Ek.c128 28 v12 ([(Fl.bits 4611686018427387904, Fl.bits 0), (Fl.bits 0, Fl.bits 4611686018427387904), (Fl.bits 13835058055282163712, Fl.bits 0), (Fl.bits 0, Fl.bits 13835058055282163712)]), Res.sl Ek.c128 28 v21 q14.1, Res.sl Ek.c128 28 v1 ([(Fl.bits 0, Fl.bits 0), (Fl.bits 4616189618054758400, Fl.bits 0), (Fl.bits 0, Fl.bits 0), (Fl.bits 0, Fl.bits 0)])]) (tail := ow) (rs' := [Res.sl Ek.c128 28 v12 ([(Fl.bits 4611686018427387904, Fl.bits 0), (Fl.bits 0, Fl.bits 4611686018427387904), (Fl.bits 13835058055282163712, Fl.bits 0), (Fl.bits 0, Fl.bits 13835058055282163712)]), Res.sl Ek.c128 28 v21 q14.1, Res.sl Ek.c128 28 v1 ([(Fl.bits 0, Fl.bits 0), (Fl.bits 4616189618054758400, Fl.bits 0), (Fl.bits 0, Fl.bits 0), (Fl.bits 0, Fl.bits 0)]), Res.sl Ek.c128 28 v10 q3.1]) hp [2, 3, 4, 0] (by decide) (by simp) rfl
      exact ⟨hf.sub ⟨rfl, rfl, trivial⟩, hp⟩
    replace hz25 := ifF hz25 hb26
    refine st_skip hf (wantN hf rfl rfl hb26) rfl (by decide) ?_ rfl
    clear hf; intro a hf
    refine st_skip hf (wantN hf rfl rfl hb26) rfl (by decide) ?_ rfl
    clear hf; intro a hf
    refine st_skip hf (wantN hf rfl rfl hb26) rfl (by decide) ?_ rfl
    clear hf; intro a hf
    obtain rfl := Option.some.inj hz25
    refine st_pick (v := .bool false) hf rfl rfl (fun hb' => ?_) (fun hb' => ?_) (by decide) ?_
    · exact absurd (hb26.symm.trans hb') (by decide)
    · rfl
    clear hf; intro a ha hf; clear ha
    refine st_nil hf (th_n ?_)
    exact ⟨hf.sub ⟨rfl, rfl, trivial⟩, hp⟩
  rintro a w ⟨hf, hp⟩
  refine st_move hf rfl rfl (by decide) ?_
  clear hf; intro a ha hf; clear ha
  obtain ⟨z44, hz42, h⟩ := bnd h
  refine wpList_cut 4 (fun a w => Fr 31 a [(30, .bool z44)] ∧ Hp S w0 w (Res.sl Ek.c128 28 v12 ([(Fl.bits 4611686018427387904, Fl.bits 0), (Fl.bits 0, Fl.bits 4611686018427387904), (Fl.bits 13835058055282163712, Fl.bits 0), (Fl.bits 0, Fl.bits 13835058055282163712)]) :: Res.sl Ek.c128 28 v21 q14.1 :: Res.sl Ek.c128 28 v1 ([(Fl.bits 0, Fl.bits 0), (Fl.bits 4616189618054758400, Fl.bits 0), (Fl.bits 0, Fl.bits 0), (Fl.bits 0, Fl.bits 0)]) :: Res.sl Ek.c128 28 v10 q3.1 :: ow)) ?_ ?_
  · rcases Bool.eq_false_or_eq_true z27 with hb43 | hb43
    · skip
      replace hz42 := ifT hz42 hb43
      refine st_move hf (wantY hf rfl rfl hb43) rfl (by decide) ?_
      clear hf; intro a ha hf; clear ha
      refine st_build (E := Ek.c128) (xs := [(Fl.bits 0, Fl.bits 0), (Fl.bits 4616189618054758400, Fl.bits 0), (Fl.bits 0, Fl.bits 0), (Fl.bits 0, Fl.bits 0)]) hf (by decide) elt28 Try.underlying26 hp (vals := #[(0, .complex .f64 0 0), (1, .complex .f64 4616189618054758400 0), (2, .complex .f64 0 0), (3, .complex .f64 0 0)]) (cells := #[.complex .f64 0 0, .complex .f64 4616189618054758400 0, .complex .f64 0 0, .complex .f64 0 0]) (wantY hf rfl rfl hb43) (by simp [hf.ev (x := (Operand.const (.complex .f64 0 0))) rfl, hf.ev (x := (Operand.const (.complex .f64 4616189618054758400 0))) rfl, hf.ev (x := (Operand.const (.complex .f64 0 0))) rfl, hf.ev (x := (Operand.const (.complex .f64 0 0))) rfl]) (by decide) (by decide) (z := .complex .f64 0 0) (by kernel_rfl) (by kernel_rfl) rfl (reps_cons (cs := [.complex .f64 0 0]) (show Ek.c128.rep [.complex .f64 0 0] (Fl.bits 0, Fl.bits 0) from ⟨_, _, rfl, rfl, rfl⟩) (reps_cons (cs := [.complex .f64 4616189618054758400 0]) (show Ek.c128.rep [.complex .f64 4616189618054758400 0] (Fl.bits 4616189618054758400, Fl.bits 0) from ⟨_, _, rfl, rfl, rfl⟩) (reps_cons (cs := [.complex .f64 0 0]) (show Ek.c128.rep [.complex .f64 0 0] (Fl.bits 0, Fl.bits 0) from ⟨_, _, rfl, rfl, rfl⟩) (reps_cons (cs := [.complex .f64 0 0]) (show Ek.c128.rep [.complex .f64 0 0] (Fl.bits 0, Fl.bits 0) from ⟨_, _, rfl, rfl, rfl⟩) (reps_nil _))))) ?_
      clear hf; intro a w v45 hf hp0; clear hp; have hp := hp0; clear hp0
      replace hp : Hp _ _ _ (Res.sl Ek.c128 28 v45 ([(Fl.bits 0, Fl.bits 0), (Fl.bits 4616189618054758400, Fl.bits 0), (Fl.bits 0, Fl.bits 0), (Fl.bits 0, Fl.bits 0)]) :: Res.sl Ek.c128 28 v12 ([(Fl.bits 4611686018427387904, Fl.bits 0), (Fl.bits 0, Fl.bits 4611686018427387904), (Fl.bits 13835058055282163712, Fl.bits 0), (Fl.bits 0, Fl.bits 13835058055282163712)]) :: Res.sl Ek.c128 28 v21 q14.1 :: Res.sl Ek.c128 28 v1 ([(Fl.bits 0, Fl.bits 0), (Fl.bits 4616189618054758400, Fl.bits 0), (Fl.bits 0, Fl.bits 0), (Fl.bits 0, Fl.bits 0)]) :: Res.sl Ek.c128 28 v10 q3.1 :: ow) := hp
      obtain ⟨q47, hcall48, hz42⟩ := bnd hz42
      obtain ⟨S49, hp50, rd51, up52, bk53⟩ := Hp.lendS hp (i := 2) rfl
      obtain ⟨S54, hp55, rd56, up57, bk58⟩ := Hp.lendS hp50 (i := 0) rfl
      refine st_call hf (by decide) Try.func24 rfl rfl (wantY hf rfl rfl hb43) rfl rfl (f_foghornref03_SameRow_c hp55 _ _ ((rd51.now hp50).mono up57) _ _ rd56 hcall48) ?_
      rintro _ w ⟨rfl, hp0⟩
      have hp0 := bk58 _ _ hp0
      have hp0 := bk53 _ _ hp0
      clear hp; have hp := hp0; clear hp0
      replace hp : Hp _ _ _ (Res.sl Ek.c128 28 v21 q14.1 :: Res.sl Ek.c128 28 v45 ([(Fl.bits 0, Fl.bits 0), (Fl.bits 4616189618054758400, Fl.bits 0), (Fl.bits 0, Fl.bits 0), (Fl.bits 0, Fl.bits 0)]) :: Res.sl Ek.c128 28 v12 ([(Fl.bits 4611686018427387904, Fl.bits 0), (Fl.bits 0, Fl.bits 4611686018427387904), (Fl.bits 13835058055282163712, Fl.bits 0), (Fl.bits 0, Fl.bits 13835058055282163712)]) :: Res.sl Ek.c128 28 v1 ([(Fl.bits 0, Fl.bits 0), (Fl.bits 4616189618054758400, Fl.bits 0), (Fl.bits 0, Fl.bits 0), (Fl.bits 0, Fl.bits 0)]) :: Res.sl Ek.c128 28 v10 q3.1 :: ow) := hp
      refine ⟨_, rfl, ?_⟩
      clear hf; intro a hf
      obtain rfl := Option.some.inj hz42
      refine st_pick (v := .bool q47) hf rfl rfl (fun hb' => ?_) (fun hb' => ?_) (by decide) ?_
      · rfl
      · exact absurd (hb43.symm.trans hb') (by decide)
      clear hf; intro a ha hf; clear ha
      refine st_nil hf (th_n ?_)
      have hp : Hp _ _ _ (Res.sl Ek.c128 28 v12 ([(Fl.bits 4611686018427387904, Fl.bits 0), (Fl.bits 0, Fl.bits 4611686018427387904), (Fl.bits 13835058055282163712, Fl.bits 0), (Fl.bits 0, Fl.bits 13835058055282163712)]) :: Res.sl Ek.c128 28 v21 q14.1 :: Res.sl Ek.c128 28 v1 ([(Fl.bits 0, Fl.bits 0), (Fl.bits 4616189618054758400, Fl.bits 0), (Fl.bits 0, Fl.bits 0), (Fl.bits 0, Fl.bits 0)]) :: Res.sl Ek.c128 28 v10 q3.1 :: ow) := Hp.sel (pre := [Res.sl Ek.c128 28 v21 q14.1, Res.sl Ek.c128 28 v45 ([(Fl.bits 0, Fl.bits 0), (Fl.bits 4616189618054758400, Fl.bits 0), (Fl.bits 0, Fl.bits 0), (Fl.bits 0, Fl.bits 0)]), Res.sl Ek.c128 28 v12 ([(Fl.bits 4611686018427387904, Fl.bits 0), (Fl.bits 0, Fl.bits 4611686018427387904), (Fl.bits 13835058055282163712, Fl.bits 0), (Fl.bits 0, Fl.bits 13835058055282163712)]), Res.sl Ek.c128 28 v1 ([(Fl.bits 0, Fl.bits 0), (Fl.bits 4616189618054758400, Fl.bits 0), (Fl.bits 0, Fl.bits 0), (Fl.bits 0, Fl.bits 0)]), Res.sl Ek.c128 28 v10 q3.1]) (tail := ow) (rs' := [Res.sl Ek.c128 28 v12 ([(Fl.bits 4611686018427387904, Fl.bits 0), (Fl.bits 0, Fl.bits 4611686018427387904), (Fl.bits 13835058055282163712, Fl.bits 0), (Fl.bits 0, Fl.bits 13835058055282163712)]), Res.sl Ek.c128 28 v21 q14.1, Res.sl Ek.c128 28 v1 ([(Fl.bits 0, Fl.bits 0), (Fl.bits 4616189618054758400, Fl.bits 0), (Fl.bits 0, Fl.bits 0), (Fl.bits 0, Fl.bits 0)]), Res.sl Ek.c128 28 v10 q3.1]) hp [2, 0, 3, 4] (by decide) (by simp) rfl
      exact ⟨hf.sub ⟨rfl, trivial⟩, hp⟩
    replace hz42 := ifF hz42 hb43
    refine st_skip hf (wantN hf rfl rfl hb43) rfl (by decide) ?_ rfl
    clear hf; intro a hf
    refine st_skip hf (wantN hf rfl rfl hb43) rfl (by decide) ?_ rfl
    clear hf; intro a hf
    refine st_skip hf (wantN hf rfl rfl hb43) rfl (by decide) ?_ rfl
    clear hf; intro a hf
    obtain rfl := Option.some.inj hz42
    refine st_pick (v := .bool false) hf rfl rfl (fun hb' => ?_) (fun hb' => ?_) (by decide) ?_
    · exact absurd (hb43.symm.trans hb') (by decide)
    · rfl
    clear hf; intro a ha hf; clear ha
    refine st_nil hf (th_n ?_)
    exact ⟨hf.sub ⟨rfl, trivial⟩, hp⟩
  rintro a w ⟨hf, hp⟩
  refine st_assign hf rfl rfl (by decide) ?_
  clear hf; intro a ha hf; clear ha
  refine st_nil hf ?_
  refine th_n ?_
  refine wp_ret ?_
  obtain rfl := Option.some.inj h
  have hp : Hp _ _ _ (ow) := Hp.sel (pre := [Res.sl Ek.c128 28 v12 ([(Fl.bits 4611686018427387904, Fl.bits 0), (Fl.bits 0, Fl.bits 4611686018427387904), (Fl.bits 13835058055282163712, Fl.bits 0), (Fl.bits 0, Fl.bits 13835058055282163712)]), Res.sl Ek.c128 28 v21 q14.1, Res.sl Ek.c128 28 v1 ([(Fl.bits 0, Fl.bits 0), (Fl.bits 4616189618054758400, Fl.bits 0), (Fl.bits 0, Fl.bits 0), (Fl.bits 0, Fl.bits 0)]), Res.sl Ek.c128 28 v10 q3.1]) (tail := ow) (rs' := []) hp [] (by decide) (by simp) rfl
  exact ⟨rfl, ⟨hf.sub ⟨rfl, trivial⟩, hp⟩⟩

end Go.Proofs.Ythmobhgjojgipaa
