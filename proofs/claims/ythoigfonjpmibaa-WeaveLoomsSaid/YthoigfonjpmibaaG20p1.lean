/- The functions foghorn foghornlaw17.WeaveLooms: what each answers, as a plain function, and that its call answers it; printed by gen.py. -/
import Derived.Test.YthoigfonjpmibaaProg
import Derived.Test.YthoigfonjpmibaaGlUb
import Derived.KernelRfl
set_option linter.unusedVariables false
set_option linter.unusedSimpArgs false
set_option maxRecDepth 100000
set_option maxHeartbeats 4000000
namespace Go.Proofs.Ythoigfonjpmibaa
open GL
def pk70 : PtrK ((List (List Int)) × Int × Int) where
  R := fun v s => Res.ex fun (u : (Value × List Value)) => Res.star [Res.obj 70 v [u.1, .int .i64 s.2.1, .int .i64 s.2.2], Res.rows (RowK.sl (Ek.int .u8) 5) 59 u.1 u.2 s.1]
  sh := fun ⟨_, h⟩ => star_sh h
theorem pk70_in {S : Nat → Prop} {w0 w : World} {rs : List Res} {v : Value} {s : ((List (List Int)) × Int × Int)} (hp : Hp S w0 w (pk70.R v s :: rs)) : ∃ u : (Value × List Value), Hp S w0 w (Res.obj 70 v [u.1, .int .i64 s.2.1, .int .i64 s.2.2] :: Res.rows (RowK.sl (Ek.int .u8) 5) 59 u.1 u.2 s.1 :: rs) := by
  obtain ⟨u, h⟩ := Hp.exOpen hp
  exact ⟨u, h.unstar⟩
theorem pk70_out {S : Nat → Prop} {w0 w : World} {rs : List Res} {v : Value} {s : ((List (List Int)) × Int × Int)} {u : (Value × List Value)} (hp : Hp S w0 w (Res.obj 70 v [u.1, .int .i64 s.2.1, .int .i64 s.2.2] :: Res.rows (RowK.sl (Ek.int .u8) 5) 59 u.1 u.2 s.1 :: rs)) : Hp S w0 w (pk70.R v s :: rs) :=
  Hp.exClose (R := fun u => Res.star [Res.obj 70 v [u.1, .int .i64 s.2.1, .int .i64 s.2.2], Res.rows (RowK.sl (Ek.int .u8) 5) 59 u.1 u.2 s.1]) (i := u) (Hp.star (l := [Res.obj 70 v [u.1, .int .i64 s.2.1, .int .i64 s.2.2], Res.rows (RowK.sl (Ek.int .u8) 5) 59 u.1 u.2 s.1]) hp)
theorem eltv59 : ElT Try.prog Ek.val 59 24 (.slice none 0 0) := ElT.of (z := .slice none 0 0) (by kernel_rfl) ⟨rfl, rfl⟩
theorem elt5 : ElT Try.prog (Ek.int .u8) 5 1 (0 : Int) := ElT.of (z := .int .u8 0) (by kernel_rfl) rfl
theorem elt52 : ElT Try.prog (Ek.pair (Ek.int .i64) (Ek.pair (Ek.int .i64) (Ek.pair (Ek.int .u8) Ek.str))) 52 40 ((0 : Int), (0 : Int), (0 : Int), ByteArray.empty) := ElT.of (z := .agg #[.int .i64 0, .int .i64 0, .int .u8 0, .string ByteArray.empty]) (by kernel_rfl) ⟨[.int .i64 0], [.int .i64 0, .int .u8 0, .string ByteArray.empty], rfl, rfl, ⟨[.int .i64 0], [.int .u8 0, .string ByteArray.empty], rfl, rfl, ⟨[.int .u8 0], [.string ByteArray.empty], rfl, rfl, rfl⟩⟩⟩
theorem pl3 : Plain Try.prog 3 := ⟨⟨_, Try.underlying3, trivial⟩⟩
theorem pl5 : Plain Try.prog 5 := ⟨⟨_, Try.underlying5, trivial⟩⟩
theorem pl9 : Plain Try.prog 9 := ⟨⟨_, Try.underlying9, trivial⟩⟩
theorem pl59 : Plain Try.prog 59 := ⟨⟨_, Try.underlying59, trivial⟩⟩
theorem pl68 : Plain Try.prog 68 := ⟨⟨_, Try.underlying68, trivial⟩⟩
noncomputable def f_weave_New_1 (i0 : Int) : Option Int := (some i0)
theorem f_weave_New_1_c {S : Nat → Prop} {w0 w : World} {ow : List Res} (hp : Hp S w0 w ow) (i0 : Int) {r : Int} (h : f_weave_New_1 i0 = some r) :
    Calls Try.prog 41 #[.int .i64 i0] w (fun e w' => e = .returned (.int .i64 r) ∧ Hp S w0 w' (ow)) := by
  unfold f_weave_New_1 at h
  refine enter (n := 4) (args := [.int .i64 i0]) Try.func41 rfl rfl (Nat.le_of_ble_eq_true rfl) fun a hf => ?_
  replace hf : Fr 4 a [(0, .int .i64 i0)] := hf
  refine wp_mono (Q := fun e a w => e = .ret ∧ Fr 4 a [(2, .int .i64 r)] ∧ Hp S w0 w (ow)) ?_ ?_
  rotate_left
  · rintro e a w ⟨rfl, hf, hp⟩
    exact ret1 hf rfl rfl ⟨rfl, hp⟩
  refine wp_seq ?_
  refine wp_reg ?_
  refine st_assign hf rfl rfl (by decide) ?_
  clear hf; intro a ha hf; clear ha
  refine st_nil hf ?_
  refine th_n ?_
  refine wp_seq ?_
  refine wp_reg ?_
  refine st_move hf rfl rfl (by decide) ?_
  clear hf; intro a ha hf; clear ha
  refine st_assign hf rfl rfl (by decide) ?_
  clear hf; intro a ha hf; clear ha
  refine st_nil hf ?_
  refine th_n ?_
  refine wp_ret ?_
  obtain rfl := Option.some.inj h
  exact ⟨rfl, ⟨hf.sub ⟨rfl, trivial⟩, hp⟩⟩

noncomputable def f_weave_made.s1c (branches0 : Int) (steps1 : Int) (l8 : LoomS) (t29 : Int) : Option ((LoomS × Int) ⊕ LoomS) := (if (decide (t29 < branches0)) = true then ((f_weave_New_1 t29).bind fun q15 => (if 0 ≤ (IntKind.i64.wrap (q15 * steps1)) ∧ (IntKind.i64.wrap (q15 * steps1)) ≤ (IntKind.i64.wrap (q15 * steps1)) ∧ (IntKind.i64.wrap (q15 * steps1)) * 1 ≤ 281474976710656 then (if 0 ≤ t29 ∧ t29 < (64 : Int) then (some (Sum.inl ((l8.1.set (t29).toNat ((List.replicate ((IntKind.i64.wrap (q15 * steps1))).toNat (0 : Int)), (gt l8.1 t29).2), l8.2), (IntKind.i64.wrap (t29 + (1 : Int)))))) else none) else none)) else (some (Sum.inr l8)))
noncomputable def f_weave_made.s1 (branches0 : Int) (steps1 : Int) (s : (LoomS × Int)) : Option ((LoomS × Int) ⊕ LoomS) := f_weave_made.s1c branches0 steps1 s.1 s.2
noncomputable def f_weave_made (branches0 : Int) (steps1 : Int) : Option ((Option LoomS) × Int) := (if ((((decide (branches0 < (1 : Int))) || (decide ((64 : Int) < branches0))) || (decide (steps1 < (1 : Int)))) || (decide ((64 : Int) < steps1))) = true then (some (none, (1 : Int))) else ((loop (f_weave_made.s1 branches0 steps1) ((List.replicate 64 ([], 0), branches0, steps1, (0 : Int)), (0 : Int))).bind (fun q22 => (some ((some q22), (0 : Int))))))
theorem f_weave_made_c {S : Nat → Prop} {w0 w : World} {ow : List Res} (hp : Hp S w0 w ow) (branches0 : Int) (steps1 : Int) {r : ((Option LoomS) × Int)} (h : f_weave_made branches0 steps1 = some r) :
    Calls Try.prog 40 #[.int .i64 branches0, .int .i64 steps1, .func (.func 41) #[] #[]] w (fun e w' => ∃ (u0 : Value), e = .returned (.tuple #[u0, .int .i64 r.2]) ∧ Hp S w0 w' (Res.opt (LoomK 75 5) u0 r.1 :: ow)) := by
  unfold f_weave_made at h
  refine enter (n := 46) (args := [.int .i64 branches0, .int .i64 steps1, .func (.func 41) #[] #[]]) Try.func40 rfl rfl (Nat.le_of_ble_eq_true rfl) fun a hf => ?_
  replace hf : Fr 46 a [(0, .int .i64 branches0), (1, .int .i64 steps1), (2, .func (.func 41) #[] #[])] := hf
  refine wp_mono (Q := fun e a w => e = .ret ∧ ∃ (u0 : Value), Fr 46 a [(6, u0), (7, .int .i64 r.2)] ∧ Hp S w0 w (Res.opt (LoomK 75 5) u0 r.1 :: ow)) ?_ ?_
  rotate_left
  · rintro e a w ⟨rfl, x0, hf, hp⟩
    exact ret2 hf rfl rfl rfl ⟨x0, rfl, hp⟩
  refine wp_seq ?_
  refine wp_reg ?_
  refine st_assign hf rfl rfl (by decide) ?_
  clear hf; intro a ha hf; clear ha
  refine st_assign hf rfl rfl (by decide) ?_
  clear hf; intro a ha hf; clear ha
  refine st_nil hf ?_
  refine th_n ?_
  refine wp_seq ?_
  refine wp_seq ?_
  refine wp_reg ?_
  refine st_move hf rfl rfl (by decide) ?_
  clear hf; intro a ha hf; clear ha
  refine st_ilss hf (by decide) rfl rfl rfl ?_
  clear hf; intro a ha hf; clear ha
  refine st_move hf rfl rfl (by decide) ?_
  clear hf; intro a ha hf; clear ha
  refine wpList_cut 3 (fun a w => Fr 46 a [(0, .int .i64 branches0), (1, .int .i64 steps1), (2, .func (.func 41) #[] #[]), (15, .bool ((decide (branches0 < (1 : Int))) || (decide ((64 : Int) < branches0))))] ∧ Hp S w0 w (ow)) ?_ ?_
  · rcases Bool.eq_false_or_eq_true (decide (branches0 < (1 : Int))) with hb2 | hb2
    · skip
      refine st_skip hf (wantN hf rfl rfl hb2) rfl (by decide) ?_ rfl
      clear hf; intro a hf
      refine st_skip hf (wantN hf rfl rfl hb2) rfl (by decide) ?_ rfl
      clear hf; intro a hf
      refine st_pick (v := .bool true) hf rfl rfl (fun hb' => ?_) (fun hb' => ?_) (by decide) ?_
      · rfl
      · exact absurd (hb2.symm.trans hb') (by decide)
      clear hf; intro a ha hf; clear ha
      refine st_nil hf (th_n ?_)
      exact ⟨hf.sub ⟨rfl, rfl, rfl, (by rw [hb2]; rfl), trivial⟩, hp⟩
    refine st_move hf (wantY hf rfl rfl hb2) rfl (by decide) ?_
    clear hf; intro a ha hf; clear ha
    refine st_igtr hf (by decide) (wantY hf rfl rfl hb2) rfl rfl ?_
    clear hf; intro a ha hf; clear ha
    refine st_pick (v := .bool (decide ((64 : Int) < branches0))) hf rfl rfl (fun hb' => ?_) (fun hb' => ?_) (by decide) ?_
    · exact absurd (hb2.symm.trans hb') (by decide)
    · rfl
    clear hf; intro a ha hf; clear ha
    refine st_nil hf (th_n ?_)
    exact ⟨hf.sub ⟨rfl, rfl, rfl, (by rw [hb2]; rfl), trivial⟩, hp⟩
  rintro a w ⟨hf, hp⟩
  refine st_move hf rfl rfl (by decide) ?_
  clear hf; intro a ha hf; clear ha
  refine wpList_cut 3 (fun a w => Fr 46 a [(0, .int .i64 branches0), (1, .int .i64 steps1), (2, .func (.func 41) #[] #[]), (19, .bool (((decide (branches0 < (1 : Int))) || (decide ((64 : Int) < branches0))) || (decide (steps1 < (1 : Int)))))] ∧ Hp S w0 w (ow)) ?_ ?_
  · rcases Bool.eq_false_or_eq_true ((decide (branches0 < (1 : Int))) || (decide ((64 : Int) < branches0))) with hb4 | hb4
    · skip
      refine st_skip hf (wantN hf rfl rfl hb4) rfl (by decide) ?_ rfl
      clear hf; intro a hf
      refine st_skip hf (wantN hf rfl rfl hb4) rfl (by decide) ?_ rfl
      clear hf; intro a hf
      refine st_pick (v := .bool true) hf rfl rfl (fun hb' => ?_) (fun hb' => ?_) (by decide) ?_
      · rfl
      · exact absurd (hb4.symm.trans hb') (by decide)
      clear hf; intro a ha hf; clear ha
      refine st_nil hf (th_n ?_)
      exact ⟨hf.sub ⟨rfl, rfl, rfl, (by rw [hb4]; rfl), trivial⟩, hp⟩
    refine st_move hf (wantY hf rfl rfl hb4) rfl (by decide) ?_
    clear hf; intro a ha hf; clear ha
    refine st_ilss hf (by decide) (wantY hf rfl rfl hb4) rfl rfl ?_
    clear hf; intro a ha hf; clear ha
    refine st_pick (v := .bool (decide (steps1 < (1 : Int)))) hf rfl rfl (fun hb' => ?_) (fun hb' => ?_) (by decide) ?_
    · exact absurd (hb4.symm.trans hb') (by decide)
    · rfl
    clear hf; intro a ha hf; clear ha
    refine st_nil hf (th_n ?_)
    exact ⟨hf.sub ⟨rfl, rfl, rfl, (by rw [hb4]; rfl), trivial⟩, hp⟩
  rintro a w ⟨hf, hp⟩
  refine st_move hf rfl rfl (by decide) ?_
  clear hf; intro a ha hf; clear ha
  refine wpList_cut 3 (fun a w => Fr 46 a [(0, .int .i64 branches0), (1, .int .i64 steps1), (2, .func (.func 41) #[] #[]), (23, .bool ((((decide (branches0 < (1 : Int))) || (decide ((64 : Int) < branches0))) || (decide (steps1 < (1 : Int)))) || (decide ((64 : Int) < steps1))))] ∧ Hp S w0 w (ow)) ?_ ?_
  · rcases Bool.eq_false_or_eq_true (((decide (branches0 < (1 : Int))) || (decide ((64 : Int) < branches0))) || (decide (steps1 < (1 : Int)))) with hb6 | hb6
    · skip
      refine st_skip hf (wantN hf rfl rfl hb6) rfl (by decide) ?_ rfl
      clear hf; intro a hf
      refine st_skip hf (wantN hf rfl rfl hb6) rfl (by decide) ?_ rfl
      clear hf; intro a hf
      refine st_pick (v := .bool true) hf rfl rfl (fun hb' => ?_) (fun hb' => ?_) (by decide) ?_
      · rfl
      · exact absurd (hb6.symm.trans hb') (by decide)
      clear hf; intro a ha hf; clear ha
      refine st_nil hf (th_n ?_)
      exact ⟨hf.sub ⟨rfl, rfl, rfl, (by rw [hb6]; rfl), trivial⟩, hp⟩
    refine st_move hf (wantY hf rfl rfl hb6) rfl (by decide) ?_
    clear hf; intro a ha hf; clear ha
    refine st_igtr hf (by decide) (wantY hf rfl rfl hb6) rfl rfl ?_
    clear hf; intro a ha hf; clear ha
    refine st_pick (v := .bool (decide ((64 : Int) < steps1))) hf rfl rfl (fun hb' => ?_) (fun hb' => ?_) (by decide) ?_
    · exact absurd (hb6.symm.trans hb') (by decide)
    · rfl
    clear hf; intro a ha hf; clear ha
    refine st_nil hf (th_n ?_)
    exact ⟨hf.sub ⟨rfl, rfl, rfl, (by rw [hb6]; rfl), trivial⟩, hp⟩
  rintro a w ⟨hf, hp⟩
  refine st_nil hf ?_
  refine th_n ?_
  refine wp_if hf rfl (fun hb => ?_) (fun hb => ?_)
  · replace h := ifT h hb
    refine wp_seq ?_
    refine wp_reg ?_
    refine st_assign hf rfl rfl (by decide) ?_
    clear hf; intro a ha hf; clear ha
    refine st_assign hf rfl rfl (by decide) ?_
    clear hf; intro a ha hf; clear ha
    refine st_nil hf ?_
    refine th_n ?_
    refine wp_ret ?_
    refine th_r ?_
    obtain rfl := Option.some.inj h
    have hp := hp.optNil (LoomK 75 5)
    exact ⟨rfl, ⟨_, hf.sub ⟨rfl, rfl, trivial⟩, hp⟩⟩
  replace h := ifF h hb
  refine wp_skip ?_
  refine th_n ?_
  refine wp_seq ?_
  refine wp_reg ?_
  refine st_move hf rfl rfl (by decide) ?_
  clear hf; intro a ha hf; clear ha
  refine st_move hf rfl rfl (by decide) ?_
  clear hf; intro a ha hf; clear ha
  refine st_buildA (vals := [(1, .int .i64 branches0), (2, .int .i64 steps1)]) (cells := loomCells (List.replicate 64 (.slice none 0 0)) (List.replicate 64 ([], 0), branches0, steps1, (0 : Int))) hf (by decide) rfl (by simp [hf.ev (x := (Operand.tmp 24)) rfl, hf.ev (x := (Operand.tmp 25)) rfl]) (fun w => by kernel_rfl) ?_
  clear hf; intro a ha hf; clear ha
  refine st_boxO (cs := loomCells (List.replicate 64 (.slice none 0 0)) (List.replicate 64 ([], 0), branches0, steps1, (0 : Int))) hf (by decide) hp rfl rfl rfl ?_
  clear hf; intro a w v8 hf hp0; clear hp; have hp := hp0; clear hp0
  rw [(hp.ob (i := 0) rfl).eq0] at hf
  replace hp : Hp _ _ _ (Res.loom 75 5 v8 (List.replicate 64 ([], 0), branches0, steps1, (0 : Int)) :: ow) := Hp.loomNew hp
  obtain ⟨vs10, hp⟩ := Hp.loomIn hp
  replace hp : Hp _ _ _ (Res.loomX 75 5 v8 vs10 (List.replicate 64 ([], 0), branches0, steps1, (0 : Int)) :: ow) := hp
  refine st_assign hf rfl rfl (by decide) ?_
  clear hf; intro a ha hf; clear ha
  refine st_nil hf ?_
  refine th_n ?_
  refine wp_seq ?_
  refine wp_seq ?_
  refine wp_reg ?_
  refine st_move hf rfl rfl (by decide) ?_
  clear hf; intro a ha hf; clear ha
  refine st_move hf rfl rfl (by decide) ?_
  clear hf; intro a ha hf; clear ha
  refine st_nil hf ?_
  refine th_n ?_
  refine wp_block ?_
  obtain ⟨q22, hl, h⟩ := bnd h
  refine wp_loop_pure (f := (f_weave_made.s1 branches0 steps1)) (s := ((List.replicate 64 ([], 0), branches0, steps1, (0 : Int)), (0 : Int))) (fun s a w => ∃ (vs12 : List Value), Fr 46 a [(1, .int .i64 steps1), (2, .func (.func 41) #[] #[]), (8, v8), (28, .int .i64 branches0), (29, .int .i64 s.2)] ∧ Hp S w0 w (Res.loomX 75 5 v8 vs12 s.1 :: ow)) (fun q e a w => e = .exit 0 ∧ ∃ (vs14 : List Value), Fr 46 a [(8, v8)] ∧ Hp S w0 w (Res.loomX 75 5 v8 vs14 q :: ow)) ?_ hl ⟨_, hf.sub ⟨rfl, rfl, rfl, rfl, rfl, trivial⟩, hp⟩ ?_
  · clear hl hf hp
    intro s x a w h hI
    obtain ⟨l8, t29⟩ := s
    obtain ⟨vs12, hf, hp⟩ : ∃ (vs12 : List Value), Fr 46 a [(1, .int .i64 steps1), (2, .func (.func 41) #[] #[]), (8, v8), (28, .int .i64 branches0), (29, .int .i64 t29)] ∧ Hp S w0 w (Res.loomX 75 5 v8 vs12 l8 :: ow) := hI
    replace h : f_weave_made.s1c branches0 steps1 l8 t29 = some x := h
    unfold f_weave_made.s1c at h
    refine wp_seq ?_
    refine wp_reg ?_
    refine st_ilss hf (by decide) rfl rfl rfl ?_
    clear hf; intro a ha hf; clear ha
    refine st_nil hf ?_
    refine th_n ?_
    refine wp_seq ?_
    refine wp_if hf rfl (fun hb => ?_) (fun hb => ?_)
    · replace h := ifT h hb
      refine wp_skip ?_
      refine th_n ?_
      refine wp_seq ?_
      refine wp_block ?_
      refine wp_seq ?_
      refine wp_reg ?_
      refine st_move hf rfl rfl (by decide) ?_
      clear hf; intro a ha hf; clear ha
      refine st_assign hf rfl rfl (by decide) ?_
      clear hf; intro a ha hf; clear ha
      refine st_nil hf ?_
      refine th_n ?_
      have fx20 := hp.shX (i := 0) rfl
      obtain ⟨q15, hcall16, h⟩ := bnd h
      obtain ⟨hc17, h⟩ := chk h
      obtain ⟨hc21, h⟩ := chk h
      refine wp_cutN (fun a w => ∃ (v18 : Value), Fr 46 a [(1, .int .i64 steps1), (2, .func (.func 41) #[] #[]), (8, v8), (28, .int .i64 branches0), (29, .int .i64 t29)] ∧ Hp S w0 w (Res.loomX 75 5 v8 (vs12.set (t29).toNat v18) (l8.1.set (t29).toNat ((List.replicate ((IntKind.i64.wrap (q15 * steps1))).toNat (0 : Int)), (gt l8.1 t29).2), l8.2) :: ow)) ?_ ?_
      · have hp := hp.same (Same.drew w)
        refine dr_begin' (fun a w => ∃ (v18 : Value), Fr 46 a [(1, .int .i64 steps1), (2, .func (.func 41) #[] #[]), (8, v8), (28, .int .i64 branches0), (29, .int .i64 t29)] ∧ Hp S w0 w (Res.loomX 75 5 v8 (vs12.set (t29).toNat v18) (l8.1.set (t29).toNat ((List.replicate ((IntKind.i64.wrap (q15 * steps1))).toNat (0 : Int)), (gt l8.1 t29).2), l8.2) :: ow)) (fun w' => ∃ l, Hp S w0 w' l) [] (by kernel_rfl) ?_
        refine dr_takeP 0 (v8) rfl (by kernel_rfl) (by kernel_rfl) (by kernel_rfl) rfl rfl hf (by decide) rfl (fun w => ?_) ?_
        · skip
          refine st_move hf rfl rfl (by decide) ?_
          clear hf; intro a ha hf
          exact st_nil hf (th_n ⟨ha, rfl⟩)
        clear hf; intro a hf
        refine dr_takeP 1 (.int .i64 t29) rfl (by kernel_rfl) (by kernel_rfl) (by kernel_rfl) rfl rfl hf (by decide) rfl (fun w => ?_) ?_
        · skip
          refine st_move hf rfl rfl (by decide) ?_
          clear hf; intro a ha hf
          exact st_nil hf (th_n ⟨ha, rfl⟩)
        clear hf; intro a hf
        refine dr_takeP 2 (.func (.func 41) #[] #[]) rfl (by kernel_rfl) (by kernel_rfl) (by kernel_rfl) rfl rfl hf (by decide) rfl (fun w => ?_) ?_
        · skip
          refine st_move hf rfl rfl (by decide) ?_
          clear hf; intro a ha hf
          exact st_nil hf (th_n ⟨ha, rfl⟩)
        clear hf; intro a hf
        refine dr_takeP 3 (.int .i64 t29) rfl (by kernel_rfl) (by kernel_rfl) (by kernel_rfl) rfl rfl hf (by decide) rfl (fun w => ?_) ?_
        · skip
          refine st_move hf rfl rfl (by decide) ?_
          clear hf; intro a ha hf
          exact st_nil hf (th_n ⟨ha, rfl⟩)
        clear hf; intro a hf
        refine dr_takeP 5 (.int .i64 steps1) rfl (by kernel_rfl) (by kernel_rfl) (by kernel_rfl) rfl rfl hf (by decide) rfl (fun w => ?_) ?_
        · skip
          refine st_move hf rfl rfl (by decide) ?_
          clear hf; intro a ha hf
          exact st_nil hf (th_n ⟨ha, rfl⟩)
        clear hf; intro a hf
        refine dr_nilV 8 rfl (by kernel_rfl) (by kernel_rfl) (by kernel_rfl) hf (by decide) rfl rfl fx20 ?_
        clear hf; intro a hf
        refine dr_takeP 9 (optr v8 0) rfl (by kernel_rfl) (by kernel_rfl) (by kernel_rfl) rfl rfl hf (by decide) rfl (fun w => ?_) ?_
        · skip
          refine st_fa (o' := 0) hf (by decide) (off := 0) (sz := 128) (by kernel_rfl) (by decide) rfl rfl fx20 rfl ?_
          clear hf; intro a ha hf
          exact st_nil hf (th_n ⟨ha, rfl⟩)
        clear hf; intro a hf
        refine dr_one 4 rfl (by kernel_rfl) ?_
        refine st_call hf (by decide) Try.func41 rfl rfl rfl rfl rfl (f_weave_New_1_c hp _ hcall16) ?_
        rintro _ w ⟨rfl, hp0⟩
        clear hp; have hp := hp0; clear hp0
        replace hp : Hp _ _ _ (Res.loomX 75 5 v8 vs12 l8 :: ow) := hp
        refine ⟨_, rfl, ?_⟩
        clear hf; intro a hf
        refine st_nil hf (th_n ⟨fun _ _ => ⟨_, hp⟩, ?_⟩)
        refine dr_takeP 6 (.int .i64 (IntKind.i64.wrap (q15 * steps1))) rfl (by kernel_rfl) (by kernel_rfl) (by kernel_rfl) rfl rfl hf (by decide) rfl (fun w => ?_) ?_
        · skip
          refine st_imul hf (by decide) rfl rfl rfl ?_
          clear hf; intro a ha hf
          exact st_nil hf (th_n ⟨ha, rfl⟩)
        clear hf; intro a hf
        refine dr_one 7 rfl (by kernel_rfl) ?_
        refine st_make (E := (Ek.int .u8)) hf (by decide) elt5 Try.underlying59 (by decide) hp rfl rfl rfl hc17.1 hc17.2.1 hc17.2.2 ?_
        clear hf; intro a w v18 hf hp0; clear hp; have hp := hp0; clear hp0
        replace hp : Hp _ _ _ (Res.sl (Ek.int .u8) 5 v18 (List.replicate ((IntKind.i64.wrap (q15 * steps1))).toNat (0 : Int)) :: Res.loomX 75 5 v8 vs12 l8 :: ow) := hp
        refine st_nil hf (th_n ⟨fun _ _ => ⟨_, hp⟩, ?_⟩)
        refine dr_takeP 10 (optr v8 (0 + (t29).toNat * 2)) rfl (by kernel_rfl) (by kernel_rfl) (by kernel_rfl) rfl rfl hf (by decide) rfl (fun w => ?_) ?_
        · skip
          refine st_ia (o' := 0 + (t29).toNat * 2) hf (by decide) Try.underlying73 (sz := 2) (by kernel_rfl) rfl rfl rfl fx20 hc21.1 hc21.2 rfl ?_
          clear hf; intro a ha hf
          exact st_nil hf (th_n ⟨ha, rfl⟩)
        clear hf; intro a hf
        refine dr_takeP 11 (optr v8 (0 + (t29).toNat * 2 + 0)) rfl (by kernel_rfl) (by kernel_rfl) (by kernel_rfl) rfl rfl hf (by decide) rfl (fun w => ?_) ?_
        · skip
          refine st_fa (o' := 0 + (t29).toNat * 2 + 0) hf (by decide) (off := 0) (sz := 1) (by kernel_rfl) (by decide) rfl rfl fx20 rfl ?_
          clear hf; intro a ha hf
          exact st_nil hf (th_n ⟨ha, rfl⟩)
        clear hf; intro a hf
        refine dr_one 12 rfl (by kernel_rfl) ?_
        have hp : Hp _ _ _ (Res.loomX 75 5 v8 vs12 l8 :: Res.sl (Ek.int .u8) 5 v18 (List.replicate ((IntKind.i64.wrap (q15 * steps1))).toNat (0 : Int)) :: ow) := Hp.sel (pre := [Res.sl (Ek.int .u8) 5 v18 (List.replicate ((IntKind.i64.wrap (q15 * steps1))).toNat (0 : Int)), Res.loomX 75 5 v8 vs12 l8]) (tail := ow) (rs' := [Res.loomX 75 5 v8 vs12 l8, Res.sl (Ek.int .u8) 5 v18 (List.replicate ((IntKind.i64.wrap (q15 * steps1))).toNat (0 : Int))]) hp [1, 0] (by decide) (by simp) rfl
        refine st_loomHeld (j := t29) hf hp (hp.sl (i := 1) rfl).shapeV (by kernel_rfl) rfl hc21 rfl rfl ?_
        clear hf; intro a w hf hp0; clear hp; have hp := hp0; clear hp0
        replace hp : Hp _ _ _ (Res.loomX 75 5 v8 (vs12.set (t29).toNat v18) (l8.1.set (t29).toNat ((List.replicate ((IntKind.i64.wrap (q15 * steps1))).toNat (0 : Int)), (gt l8.1 t29).2), l8.2) :: ow) := hp
        refine st_nil hf (th_n ⟨fun _ _ => ⟨_, hp⟩, ?_⟩)
        refine dr_end (by kernel_rfl) ?_ _
        exact ⟨v18, hf.sub ⟨rfl, rfl, rfl, rfl, rfl, trivial⟩, hp⟩
      rintro a w ⟨v18, hf, hp⟩
      refine ib_n ?_
      refine th_n ?_
      refine wp_reg ?_
      refine st_iadd hf (by decide) rfl rfl rfl ?_
      clear hf; intro a ha hf; clear ha
      refine st_move hf rfl rfl (by decide) ?_
      clear hf; intro a ha hf; clear ha
      refine st_nil hf ?_
      obtain rfl := Option.some.inj h
      exact rnd_l ⟨_, hf.sub ⟨rfl, rfl, rfl, rfl, rfl, trivial⟩, hp⟩
    replace h := ifF h hb
    refine wp_exit ?_
    refine th_e ?_
    obtain rfl := Option.some.inj h
    exact rnd_r (by simp) ⟨rfl, _, hf.sub ⟨rfl, trivial⟩, hp⟩
  clear hl hf hp
  intro e a w hne hO
  obtain ⟨rfl, vs14, hf, hp⟩ := hO
  refine ib_same ?_
  refine th_n ?_
  refine wp_seq ?_
  refine wp_reg ?_
  refine st_move hf rfl rfl (by decide) ?_
  clear hf; intro a ha hf; clear ha
  refine st_assign hf rfl rfl (by decide) ?_
  clear hf; intro a ha hf; clear ha
  refine st_assign hf rfl rfl (by decide) ?_
  clear hf; intro a ha hf; clear ha
  refine st_nil hf ?_
  refine th_n ?_
  refine wp_ret ?_
  replace hp : Hp _ _ _ (Res.opt (LoomK 75 5) v8 (some q22) :: ow) := Hp.loomOut hp
  obtain rfl := Option.some.inj h
  exact ⟨rfl, ⟨_, hf.sub ⟨rfl, rfl, trivial⟩, hp⟩⟩

noncomputable def f_weave_New (branches0 : Int) (steps1 : Int) : Option ((Option LoomS) × Int) := ((f_weave_made branches0 steps1).bind fun q1 => (some (q1.1, q1.2)))
theorem f_weave_New_c {S : Nat → Prop} {w0 w : World} {ow : List Res} (hp : Hp S w0 w ow) (branches0 : Int) (steps1 : Int) {r : ((Option LoomS) × Int)} (h : f_weave_New branches0 steps1 = some r) :
    Calls Try.prog 27 #[.int .i64 branches0, .int .i64 steps1] w (fun e w' => ∃ (u0 : Value), e = .returned (.tuple #[u0, .int .i64 r.2]) ∧ Hp S w0 w' (Res.opt (LoomK 75 5) u0 r.1 :: ow)) := by
  unfold f_weave_New at h
  refine enter (n := 11) (args := [.int .i64 branches0, .int .i64 steps1]) Try.func27 rfl rfl (Nat.le_of_ble_eq_true rfl) fun a hf => ?_
  replace hf : Fr 11 a [(0, .int .i64 branches0), (1, .int .i64 steps1)] := hf
  refine wp_mono (Q := fun e a w => e = .ret ∧ ∃ (u0 : Value), Fr 11 a [(4, u0), (5, .int .i64 r.2)] ∧ Hp S w0 w (Res.opt (LoomK 75 5) u0 r.1 :: ow)) ?_ ?_
  rotate_left
  · rintro e a w ⟨rfl, x0, hf, hp⟩
    exact ret2 hf rfl rfl rfl ⟨x0, rfl, hp⟩
  refine wp_seq ?_
  refine wp_reg ?_
  refine st_assign hf rfl rfl (by decide) ?_
  clear hf; intro a ha hf; clear ha
  refine st_assign hf rfl rfl (by decide) ?_
  clear hf; intro a ha hf; clear ha
  refine st_nil hf ?_
  refine th_n ?_
  refine wp_seq ?_
  refine wp_reg ?_
  refine st_move hf rfl rfl (by decide) ?_
  clear hf; intro a ha hf; clear ha
  refine st_move hf rfl rfl (by decide) ?_
  clear hf; intro a ha hf; clear ha
  obtain ⟨q1, hcall2, h⟩ := bnd h
  refine st_call hf (by decide) Try.func40 rfl rfl rfl rfl rfl (f_weave_made_c hp _ _ hcall2) ?_
  rintro _ w ⟨v3, rfl, hp0⟩
  clear hp; have hp := hp0; clear hp0
  replace hp : Hp _ _ _ (Res.opt (LoomK 75 5) v3 q1.1 :: ow) := hp
  refine ⟨_, rfl, ?_⟩
  clear hf; intro a hf
  refine st_extract hf (by decide) rfl rfl rfl ?_
  clear hf; intro a ha hf; clear ha
  refine st_extract hf (by decide) rfl rfl rfl ?_
  clear hf; intro a ha hf; clear ha
  refine st_assign hf rfl rfl (by decide) ?_
  clear hf; intro a ha hf; clear ha
  refine st_assign hf rfl rfl (by decide) ?_
  clear hf; intro a ha hf; clear ha
  refine st_nil hf ?_
  refine th_n ?_
  refine wp_ret ?_
  obtain rfl := Option.some.inj h
  exact ⟨rfl, ⟨_, hf.sub ⟨rfl, rfl, trivial⟩, hp⟩⟩

noncomputable def f_weave_Undo_1 (i0 : Int) (t1 : Int) : Option Int := (some (IntKind.i64.wrap ((IntKind.i64.wrap (t1 - (1 : Int))) - i0)))
theorem f_weave_Undo_1_c {S : Nat → Prop} {w0 w : World} {ow : List Res} (hp : Hp S w0 w ow) (i0 : Int) (t1 : Int) (ot1 : Value) (hot1 : RdO S w0 ot1 [.int .i64 t1]) {r : Int} (h : f_weave_Undo_1 i0 t1 = some r) :
    Calls Try.prog 42 #[.int .i64 i0, optr ot1 0] w (fun e w' => e = .returned (.int .i64 r) ∧ Hp S w0 w' (ow)) := by
  unfold f_weave_Undo_1 at h
  refine enter (n := 8) (args := [.int .i64 i0, optr ot1 0]) Try.func42 rfl rfl (Nat.le_of_ble_eq_true rfl) fun a hf => ?_
  replace hf : Fr 8 a [(0, .int .i64 i0), (1, optr ot1 0)] := hf
  refine wp_mono (Q := fun e a w => e = .ret ∧ Fr 8 a [(3, .int .i64 r)] ∧ Hp S w0 w (ow)) ?_ ?_
  rotate_left
  · rintro e a w ⟨rfl, hf, hp⟩
    exact ret1 hf rfl rfl ⟨rfl, hp⟩
  refine wp_seq ?_
  refine wp_reg ?_
  refine st_assign hf rfl rfl (by decide) ?_
  clear hf; intro a ha hf; clear ha
  refine st_nil hf ?_
  refine th_n ?_
  refine wp_seq ?_
  refine wp_reg ?_
  refine st_ldO (u := .int .i64 t1) hf (by decide) pl3 rfl rfl (hot1.ob hp) rfl ?_
  clear hf; intro a ha hf; clear ha
  refine st_isub hf (by decide) rfl rfl rfl ?_
  clear hf; intro a ha hf; clear ha
  refine st_move hf rfl rfl (by decide) ?_
  clear hf; intro a ha hf; clear ha
  refine st_isub hf (by decide) rfl rfl rfl ?_
  clear hf; intro a ha hf; clear ha
  refine st_assign hf rfl rfl (by decide) ?_
  clear hf; intro a ha hf; clear ha
  refine st_nil hf ?_
  refine th_n ?_
  refine wp_ret ?_
  obtain rfl := Option.some.inj h
  exact ⟨rfl, ⟨hf.sub ⟨rfl, trivial⟩, hp⟩⟩

noncomputable def f_weave_made_40.s1c (branches0 : Int) (steps1 : Int) (t3000 : Int) (l8 : LoomS) (t29 : Int) : Option ((LoomS × Int) ⊕ LoomS) := (if (decide (t29 < branches0)) = true then ((f_weave_Undo_1 t29 t3000).bind fun q15 => (if 0 ≤ (IntKind.i64.wrap (q15 * steps1)) ∧ (IntKind.i64.wrap (q15 * steps1)) ≤ (IntKind.i64.wrap (q15 * steps1)) ∧ (IntKind.i64.wrap (q15 * steps1)) * 1 ≤ 281474976710656 then (if 0 ≤ t29 ∧ t29 < (64 : Int) then (some (Sum.inl ((l8.1.set (t29).toNat ((List.replicate ((IntKind.i64.wrap (q15 * steps1))).toNat (0 : Int)), (gt l8.1 t29).2), l8.2), (IntKind.i64.wrap (t29 + (1 : Int)))))) else none) else none)) else (some (Sum.inr l8)))
noncomputable def f_weave_made_40.s1 (branches0 : Int) (steps1 : Int) (t3000 : Int) (s : (LoomS × Int)) : Option ((LoomS × Int) ⊕ LoomS) := f_weave_made_40.s1c branches0 steps1 t3000 s.1 s.2
noncomputable def f_weave_made_40 (branches0 : Int) (steps1 : Int) (t3000 : Int) : Option ((Option LoomS) × Int) := (if ((((decide (branches0 < (1 : Int))) || (decide ((64 : Int) < branches0))) || (decide (steps1 < (1 : Int)))) || (decide ((64 : Int) < steps1))) = true then (some (none, (1 : Int))) else ((loop (f_weave_made_40.s1 branches0 steps1 t3000) ((List.replicate 64 ([], 0), branches0, steps1, (0 : Int)), (0 : Int))).bind (fun q22 => (some ((some q22), (0 : Int))))))
theorem f_weave_made_40_c {S : Nat → Prop} {w0 w : World} {ow : List Res} (hp : Hp S w0 w ow) (branches0 : Int) (steps1 : Int) (t3000 : Int) (ot3000 : Value) (hot3000 : RdO S w0 ot3000 [.int .i64 t3000]) {r : ((Option LoomS) × Int)} (h : f_weave_made_40 branches0 steps1 t3000 = some r) :
    Calls Try.prog 40 #[.int .i64 branches0, .int .i64 steps1, .func (.func 42) #[] #[optr ot3000 0]] w (fun e w' => ∃ (u0 : Value), e = .returned (.tuple #[u0, .int .i64 r.2]) ∧ Hp S w0 w' (Res.opt (LoomK 75 5) u0 r.1 :: ow)) := by
  unfold f_weave_made_40 at h
  refine enter (n := 46) (args := [.int .i64 branches0, .int .i64 steps1, .func (.func 42) #[] #[optr ot3000 0]]) Try.func40 rfl rfl (Nat.le_of_ble_eq_true rfl) fun a hf => ?_
  replace hf : Fr 46 a [(0, .int .i64 branches0), (1, .int .i64 steps1), (2, .func (.func 42) #[] #[optr ot3000 0])] := hf
  refine wp_mono (Q := fun e a w => e = .ret ∧ ∃ (u0 : Value), Fr 46 a [(6, u0), (7, .int .i64 r.2)] ∧ Hp S w0 w (Res.opt (LoomK 75 5) u0 r.1 :: ow)) ?_ ?_
  rotate_left
  · rintro e a w ⟨rfl, x0, hf, hp⟩
    exact ret2 hf rfl rfl rfl ⟨x0, rfl, hp⟩
  refine wp_seq ?_
  refine wp_reg ?_
  refine st_assign hf rfl rfl (by decide) ?_
  clear hf; intro a ha hf; clear ha
  refine st_assign hf rfl rfl (by decide) ?_
  clear hf; intro a ha hf; clear ha
  refine st_nil hf ?_
  refine th_n ?_
  refine wp_seq ?_
  refine wp_seq ?_
  refine wp_reg ?_
  refine st_move hf rfl rfl (by decide) ?_
  clear hf; intro a ha hf; clear ha
  refine st_ilss hf (by decide) rfl rfl rfl ?_
  clear hf; intro a ha hf; clear ha
  refine st_move hf rfl rfl (by decide) ?_
  clear hf; intro a ha hf; clear ha
  refine wpList_cut 3 (fun a w => Fr 46 a [(0, .int .i64 branches0), (1, .int .i64 steps1), (2, .func (.func 42) #[] #[optr ot3000 0]), (15, .bool ((decide (branches0 < (1 : Int))) || (decide ((64 : Int) < branches0))))] ∧ Hp S w0 w (ow)) ?_ ?_
  · rcases Bool.eq_false_or_eq_true (decide (branches0 < (1 : Int))) with hb2 | hb2
    · skip
      refine st_skip hf (wantN hf rfl rfl hb2) rfl (by decide) ?_ rfl
      clear hf; intro a hf
      refine st_skip hf (wantN hf rfl rfl hb2) rfl (by decide) ?_ rfl
      clear hf; intro a hf
      refine st_pick (v := .bool true) hf rfl rfl (fun hb' => ?_) (fun hb' => ?_) (by decide) ?_
      · rfl
      · exact absurd (hb2.symm.trans hb') (by decide)
      clear hf; intro a ha hf; clear ha
      refine st_nil hf (th_n ?_)
      exact ⟨hf.sub ⟨rfl, rfl, rfl, (by rw [hb2]; rfl), trivial⟩, hp⟩
    refine st_move hf (wantY hf rfl rfl hb2) rfl (by decide) ?_
    clear hf; intro a ha hf; clear ha
    refine st_igtr hf (by decide) (wantY hf rfl rfl hb2) rfl rfl ?_
    clear hf; intro a ha hf; clear ha
    refine st_pick (v := .bool (decide ((64 : Int) < branches0))) hf rfl rfl (fun hb' => ?_) (fun hb' => ?_) (by decide) ?_
    · exact absurd (hb2.symm.trans hb') (by decide)
    · rfl
    clear hf; intro a ha hf; clear ha
    refine st_nil hf (th_n ?_)
    exact ⟨hf.sub ⟨rfl, rfl, rfl, (by rw [hb2]; rfl), trivial⟩, hp⟩
  rintro a w ⟨hf, hp⟩
  refine st_move hf rfl rfl (by decide) ?_
  clear hf; intro a ha hf; clear ha
  refine wpList_cut 3 (fun a w => Fr 46 a [(0, .int .i64 branches0), (1, .int .i64 steps1), (2, .func (.func 42) #[] #[optr ot3000 0]), (19, .bool (((decide (branches0 < (1 : Int))) || (decide ((64 : Int) < branches0))) || (decide (steps1 < (1 : Int)))))] ∧ Hp S w0 w (ow)) ?_ ?_
  · rcases Bool.eq_false_or_eq_true ((decide (branches0 < (1 : Int))) || (decide ((64 : Int) < branches0))) with hb4 | hb4
    · skip
      refine st_skip hf (wantN hf rfl rfl hb4) rfl (by decide) ?_ rfl
      clear hf; intro a hf
      refine st_skip hf (wantN hf rfl rfl hb4) rfl (by decide) ?_ rfl
      clear hf; intro a hf
      refine st_pick (v := .bool true) hf rfl rfl (fun hb' => ?_) (fun hb' => ?_) (by decide) ?_
      · rfl
      · exact absurd (hb4.symm.trans hb') (by decide)
      clear hf; intro a ha hf; clear ha
      refine st_nil hf (th_n ?_)
      exact ⟨hf.sub ⟨rfl, rfl, rfl, (by rw [hb4]; rfl), trivial⟩, hp⟩
    refine st_move hf (wantY hf rfl rfl hb4) rfl (by decide) ?_
    clear hf; intro a ha hf; clear ha
    refine st_ilss hf (by decide) (wantY hf rfl rfl hb4) rfl rfl ?_
    clear hf; intro a ha hf; clear ha
    refine st_pick (v := .bool (decide (steps1 < (1 : Int)))) hf rfl rfl (fun hb' => ?_) (fun hb' => ?_) (by decide) ?_
    · exact absurd (hb4.symm.trans hb') (by decide)
    · rfl
    clear hf; intro a ha hf; clear ha
    refine st_nil hf (th_n ?_)
    exact ⟨hf.sub ⟨rfl, rfl, rfl, (by rw [hb4]; rfl), trivial⟩, hp⟩
  rintro a w ⟨hf, hp⟩
  refine st_move hf rfl rfl (by decide) ?_
  clear hf; intro a ha hf; clear ha
  refine wpList_cut 3 (fun a w => Fr 46 a [(0, .int .i64 branches0), (1, .int .i64 steps1), (2, .func (.func 42) #[] #[optr ot3000 0]), (23, .bool ((((decide (branches0 < (1 : Int))) || (decide ((64 : Int) < branches0))) || (decide (steps1 < (1 : Int)))) || (decide ((64 : Int) < steps1))))] ∧ Hp S w0 w (ow)) ?_ ?_
  · rcases Bool.eq_false_or_eq_true (((decide (branches0 < (1 : Int))) || (decide ((64 : Int) < branches0))) || (decide (steps1 < (1 : Int)))) with hb6 | hb6
    · skip
      refine st_skip hf (wantN hf rfl rfl hb6) rfl (by decide) ?_ rfl
      clear hf; intro a hf
      refine st_skip hf (wantN hf rfl rfl hb6) rfl (by decide) ?_ rfl
      clear hf; intro a hf
      refine st_pick (v := .bool true) hf rfl rfl (fun hb' => ?_) (fun hb' => ?_) (by decide) ?_
      · rfl
      · exact absurd (hb6.symm.trans hb') (by decide)
      clear hf; intro a ha hf; clear ha
      refine st_nil hf (th_n ?_)
      exact ⟨hf.sub ⟨rfl, rfl, rfl, (by rw [hb6]; rfl), trivial⟩, hp⟩
    refine st_move hf (wantY hf rfl rfl hb6) rfl (by decide) ?_
    clear hf; intro a ha hf; clear ha
    refine st_igtr hf (by decide) (wantY hf rfl rfl hb6) rfl rfl ?_
    clear hf; intro a ha hf; clear ha
    refine st_pick (v := .bool (decide ((64 : Int) < steps1))) hf rfl rfl (fun hb' => ?_) (fun hb' => ?_) (by decide) ?_
    · exact absurd (hb6.symm.trans hb') (by decide)
    · rfl
    clear hf; intro a ha hf; clear ha
    refine st_nil hf (th_n ?_)
    exact ⟨hf.sub ⟨rfl, rfl, rfl, (by rw [hb6]; rfl), trivial⟩, hp⟩
  rintro a w ⟨hf, hp⟩
  refine st_nil hf ?_
  refine th_n ?_
  refine wp_if hf rfl (fun hb => ?_) (fun hb => ?_)
  · replace h := ifT h hb
    refine wp_seq ?_
    refine wp_reg ?_
    refine st_assign hf rfl rfl (by decide) ?_
    clear hf; intro a ha hf; clear ha
    refine st_assign hf rfl rfl (by decide) ?_
    clear hf; intro a ha hf; clear ha
    refine st_nil hf ?_
    refine th_n ?_
    refine wp_ret ?_
    refine th_r ?_
    obtain rfl := Option.some.inj h
    have hp := hp.optNil (LoomK 75 5)
    exact ⟨rfl, ⟨_, hf.sub ⟨rfl, rfl, trivial⟩, hp⟩⟩
  replace h := ifF h hb
  refine wp_skip ?_
  refine th_n ?_
  refine wp_seq ?_
  refine wp_reg ?_
  refine st_move hf rfl rfl (by decide) ?_
  clear hf; intro a ha hf; clear ha
  refine st_move hf rfl rfl (by decide) ?_
  clear hf; intro a ha hf; clear ha
  refine st_buildA (vals := [(1, .int .i64 branches0), (2, .int .i64 steps1)]) (cells := loomCells (List.replicate 64 (.slice none 0 0)) (List.replicate 64 ([], 0), branches0, steps1, (0 : Int))) hf (by decide) rfl (by simp [hf.ev (x := (Operand.tmp 24)) rfl, hf.ev (x := (Operand.tmp 25)) rfl]) (fun w => by kernel_rfl) ?_
  clear hf; intro a ha hf; clear ha
  refine st_boxO (cs := loomCells (List.replicate 64 (.slice none 0 0)) (List.replicate 64 ([], 0), branches0, steps1, (0 : Int))) hf (by decide) hp rfl rfl rfl ?_
  clear hf; intro a w v8 hf hp0; clear hp; have hp := hp0; clear hp0
  rw [(hp.ob (i := 0) rfl).eq0] at hf
  replace hp : Hp _ _ _ (Res.loom 75 5 v8 (List.replicate 64 ([], 0), branches0, steps1, (0 : Int)) :: ow) := Hp.loomNew hp
  obtain ⟨vs10, hp⟩ := Hp.loomIn hp
  replace hp : Hp _ _ _ (Res.loomX 75 5 v8 vs10 (List.replicate 64 ([], 0), branches0, steps1, (0 : Int)) :: ow) := hp
  refine st_assign hf rfl rfl (by decide) ?_
  clear hf; intro a ha hf; clear ha
  refine st_nil hf ?_
  refine th_n ?_
  refine wp_seq ?_
  refine wp_seq ?_
  refine wp_reg ?_
  refine st_move hf rfl rfl (by decide) ?_
  clear hf; intro a ha hf; clear ha
  refine st_move hf rfl rfl (by decide) ?_
  clear hf; intro a ha hf; clear ha
  refine st_nil hf ?_
  refine th_n ?_
  refine wp_block ?_
  obtain ⟨q22, hl, h⟩ := bnd h
  refine wp_loop_pure (f := (f_weave_made_40.s1 branches0 steps1 t3000)) (s := ((List.replicate 64 ([], 0), branches0, steps1, (0 : Int)), (0 : Int))) (fun s a w => ∃ (vs12 : List Value), Fr 46 a [(1, .int .i64 steps1), (2, .func (.func 42) #[] #[optr ot3000 0]), (8, v8), (28, .int .i64 branches0), (29, .int .i64 s.2)] ∧ Hp S w0 w (Res.loomX 75 5 v8 vs12 s.1 :: ow)) (fun q e a w => e = .exit 0 ∧ ∃ (vs14 : List Value), Fr 46 a [(8, v8)] ∧ Hp S w0 w (Res.loomX 75 5 v8 vs14 q :: ow)) ?_ hl ⟨_, hf.sub ⟨rfl, rfl, rfl, rfl, rfl, trivial⟩, hp⟩ ?_
  · clear hl hf hp
    intro s x a w h hI
    obtain ⟨l8, t29⟩ := s
    obtain ⟨vs12, hf, hp⟩ : ∃ (vs12 : List Value), Fr 46 a [(1, .int .i64 steps1), (2, .func (.func 42) #[] #[optr ot3000 0]), (8, v8), (28, .int .i64 branches0), (29, .int .i64 t29)] ∧ Hp S w0 w (Res.loomX 75 5 v8 vs12 l8 :: ow) := hI
    replace h : f_weave_made_40.s1c branches0 steps1 t3000 l8 t29 = some x := h
    unfold f_weave_made_40.s1c at h
    refine wp_seq ?_
    refine wp_reg ?_
    refine st_ilss hf (by decide) rfl rfl rfl ?_
    clear hf; intro a ha hf; clear ha
    refine st_nil hf ?_
    refine th_n ?_
    refine wp_seq ?_
    refine wp_if hf rfl (fun hb => ?_) (fun hb => ?_)
    · replace h := ifT h hb
      refine wp_skip ?_
      refine th_n ?_
      refine wp_seq ?_
      refine wp_block ?_
      refine wp_seq ?_
      refine wp_reg ?_
      refine st_move hf rfl rfl (by decide) ?_
      clear hf; intro a ha hf; clear ha
      refine st_assign hf rfl rfl (by decide) ?_
      clear hf; intro a ha hf; clear ha
      refine st_nil hf ?_
      refine th_n ?_
      have fx20 := hp.shX (i := 0) rfl
      obtain ⟨q15, hcall16, h⟩ := bnd h
      obtain ⟨hc17, h⟩ := chk h
      obtain ⟨hc21, h⟩ := chk h
      refine wp_cutN (fun a w => ∃ (v18 : Value), Fr 46 a [(1, .int .i64 steps1), (2, .func (.func 42) #[] #[optr ot3000 0]), (8, v8), (28, .int .i64 branches0), (29, .int .i64 t29)] ∧ Hp S w0 w (Res.loomX 75 5 v8 (vs12.set (t29).toNat v18) (l8.1.set (t29).toNat ((List.replicate ((IntKind.i64.wrap (q15 * steps1))).toNat (0 : Int)), (gt l8.1 t29).2), l8.2) :: ow)) ?_ ?_
      · have hp := hp.same (Same.drew w)
        refine dr_begin' (fun a w => ∃ (v18 : Value), Fr 46 a [(1, .int .i64 steps1), (2, .func (.func 42) #[] #[optr ot3000 0]), (8, v8), (28, .int .i64 branches0), (29, .int .i64 t29)] ∧ Hp S w0 w (Res.loomX 75 5 v8 (vs12.set (t29).toNat v18) (l8.1.set (t29).toNat ((List.replicate ((IntKind.i64.wrap (q15 * steps1))).toNat (0 : Int)), (gt l8.1 t29).2), l8.2) :: ow)) (fun w' => ∃ l, Hp S w0 w' l) [] (by kernel_rfl) ?_
        refine dr_takeP 0 (v8) rfl (by kernel_rfl) (by kernel_rfl) (by kernel_rfl) rfl rfl hf (by decide) rfl (fun w => ?_) ?_
        · skip
          refine st_move hf rfl rfl (by decide) ?_
          clear hf; intro a ha hf
          exact st_nil hf (th_n ⟨ha, rfl⟩)
        clear hf; intro a hf
        refine dr_takeP 1 (.int .i64 t29) rfl (by kernel_rfl) (by kernel_rfl) (by kernel_rfl) rfl rfl hf (by decide) rfl (fun w => ?_) ?_
        · skip
          refine st_move hf rfl rfl (by decide) ?_
          clear hf; intro a ha hf
          exact st_nil hf (th_n ⟨ha, rfl⟩)
        clear hf; intro a hf
        refine dr_takeP 2 (.func (.func 42) #[] #[optr ot3000 0]) rfl (by kernel_rfl) (by kernel_rfl) (by kernel_rfl) rfl rfl hf (by decide) rfl (fun w => ?_) ?_
        · skip
          refine st_move hf rfl rfl (by decide) ?_
          clear hf; intro a ha hf
          exact st_nil hf (th_n ⟨ha, rfl⟩)
        clear hf; intro a hf
        refine dr_takeP 3 (.int .i64 t29) rfl (by kernel_rfl) (by kernel_rfl) (by kernel_rfl) rfl rfl hf (by decide) rfl (fun w => ?_) ?_
        · skip
          refine st_move hf rfl rfl (by decide) ?_
          clear hf; intro a ha hf
          exact st_nil hf (th_n ⟨ha, rfl⟩)
        clear hf; intro a hf
        refine dr_takeP 5 (.int .i64 steps1) rfl (by kernel_rfl) (by kernel_rfl) (by kernel_rfl) rfl rfl hf (by decide) rfl (fun w => ?_) ?_
        · skip
          refine st_move hf rfl rfl (by decide) ?_
          clear hf; intro a ha hf
          exact st_nil hf (th_n ⟨ha, rfl⟩)
        clear hf; intro a hf
        refine dr_nilV 8 rfl (by kernel_rfl) (by kernel_rfl) (by kernel_rfl) hf (by decide) rfl rfl fx20 ?_
        clear hf; intro a hf
        refine dr_takeP 9 (optr v8 0) rfl (by kernel_rfl) (by kernel_rfl) (by kernel_rfl) rfl rfl hf (by decide) rfl (fun w => ?_) ?_
        · skip
          refine st_fa (o' := 0) hf (by decide) (off := 0) (sz := 128) (by kernel_rfl) (by decide) rfl rfl fx20 rfl ?_
          clear hf; intro a ha hf
          exact st_nil hf (th_n ⟨ha, rfl⟩)
        clear hf; intro a hf
        refine dr_one 4 rfl (by kernel_rfl) ?_
        refine st_call hf (by decide) Try.func42 rfl rfl rfl rfl rfl (f_weave_Undo_1_c hp _ _ _ hot3000 hcall16) ?_
        rintro _ w ⟨rfl, hp0⟩
        clear hp; have hp := hp0; clear hp0
        replace hp : Hp _ _ _ (Res.loomX 75 5 v8 vs12 l8 :: ow) := hp
        refine ⟨_, rfl, ?_⟩
        clear hf; intro a hf
        refine st_nil hf (th_n ⟨fun _ _ => ⟨_, hp⟩, ?_⟩)
        refine dr_takeP 6 (.int .i64 (IntKind.i64.wrap (q15 * steps1))) rfl (by kernel_rfl) (by kernel_rfl) (by kernel_rfl) rfl rfl hf (by decide) rfl (fun w => ?_) ?_
        · skip
          refine st_imul hf (by decide) rfl rfl rfl ?_
          clear hf; intro a ha hf
          exact st_nil hf (th_n ⟨ha, rfl⟩)
        clear hf; intro a hf
        refine dr_one 7 rfl (by kernel_rfl) ?_
        refine st_make (E := (Ek.int .u8)) hf (by decide) elt5 Try.underlying59 (by decide) hp rfl rfl rfl hc17.1 hc17.2.1 hc17.2.2 ?_
        clear hf; intro a w v18 hf hp0; clear hp; have hp := hp0; clear hp0
        replace hp : Hp _ _ _ (Res.sl (Ek.int .u8) 5 v18 (List.replicate ((IntKind.i64.wrap (q15 * steps1))).toNat (0 : Int)) :: Res.loomX 75 5 v8 vs12 l8 :: ow) := hp
        refine st_nil hf (th_n ⟨fun _ _ => ⟨_, hp⟩, ?_⟩)
        refine dr_takeP 10 (optr v8 (0 + (t29).toNat * 2)) rfl (by kernel_rfl) (by kernel_rfl) (by kernel_rfl) rfl rfl hf (by decide) rfl (fun w => ?_) ?_
        · skip
          refine st_ia (o' := 0 + (t29).toNat * 2) hf (by decide) Try.underlying73 (sz := 2) (by kernel_rfl) rfl rfl rfl fx20 hc21.1 hc21.2 rfl ?_
          clear hf; intro a ha hf
          exact st_nil hf (th_n ⟨ha, rfl⟩)
        clear hf; intro a hf
        refine dr_takeP 11 (optr v8 (0 + (t29).toNat * 2 + 0)) rfl (by kernel_rfl) (by kernel_rfl) (by kernel_rfl) rfl rfl hf (by decide) rfl (fun w => ?_) ?_
        · skip
          refine st_fa (o' := 0 + (t29).toNat * 2 + 0) hf (by decide) (off := 0) (sz := 1) (by kernel_rfl) (by decide) rfl rfl fx20 rfl ?_
          clear hf; intro a ha hf
          exact st_nil hf (th_n ⟨ha, rfl⟩)
        clear hf; intro a hf
        refine dr_one 12 rfl (by kernel_rfl) ?_
        have hp : Hp _ _ _ (Res.loomX 75 5 v8 vs12 l8 :: Res.sl (Ek.int .u8) 5 v18 (List.replicate ((IntKind.i64.wrap (q15 * steps1))).toNat (0 : Int)) :: ow) := Hp.sel (pre := [Res.sl (Ek.int .u8) 5 v18 (List.replicate ((IntKind.i64.wrap (q15 * steps1))).toNat (0 : Int)), Res.loomX 75 5 v8 vs12 l8]) (tail := ow) (rs' := [Res.loomX 75 5 v8 vs12 l8, Res.sl (Ek.int .u8) 5 v18 (List.replicate ((IntKind.i64.wrap (q15 * steps1))).toNat (0 : Int))]) hp [1, 0] (by decide) (by simp) rfl
        refine st_loomHeld (j := t29) hf hp (hp.sl (i := 1) rfl).shapeV (by kernel_rfl) rfl hc21 rfl rfl ?_
        clear hf; intro a w hf hp0; clear hp; have hp := hp0; clear hp0
        replace hp : Hp _ _ _ (Res.loomX 75 5 v8 (vs12.set (t29).toNat v18) (l8.1.set (t29).toNat ((List.replicate ((IntKind.i64.wrap (q15 * steps1))).toNat (0 : Int)), (gt l8.1 t29).2), l8.2) :: ow) := hp
        refine st_nil hf (th_n ⟨fun _ _ => ⟨_, hp⟩, ?_⟩)
        refine dr_end (by kernel_rfl) ?_ _
        exact ⟨v18, hf.sub ⟨rfl, rfl, rfl, rfl, rfl, trivial⟩, hp⟩
      rintro a w ⟨v18, hf, hp⟩
      refine ib_n ?_
      refine th_n ?_
      refine wp_reg ?_
      refine st_iadd hf (by decide) rfl rfl rfl ?_
      clear hf; intro a ha hf; clear ha
      refine st_move hf rfl rfl (by decide) ?_
      clear hf; intro a ha hf; clear ha
      refine st_nil hf ?_
      obtain rfl := Option.some.inj h
      exact rnd_l ⟨_, hf.sub ⟨rfl, rfl, rfl, rfl, rfl, trivial⟩, hp⟩
    replace h := ifF h hb
    refine wp_exit ?_
    refine th_e ?_
    obtain rfl := Option.some.inj h
    exact rnd_r (by simp) ⟨rfl, _, hf.sub ⟨rfl, trivial⟩, hp⟩
  clear hl hf hp
  intro e a w hne hO
  obtain ⟨rfl, vs14, hf, hp⟩ := hO
  refine ib_same ?_
  refine th_n ?_
  refine wp_seq ?_
  refine wp_reg ?_
  refine st_move hf rfl rfl (by decide) ?_
  clear hf; intro a ha hf; clear ha
  refine st_assign hf rfl rfl (by decide) ?_
  clear hf; intro a ha hf; clear ha
  refine st_assign hf rfl rfl (by decide) ?_
  clear hf; intro a ha hf; clear ha
  refine st_nil hf ?_
  refine th_n ?_
  refine wp_ret ?_
  replace hp : Hp _ _ _ (Res.opt (LoomK 75 5) v8 (some q22) :: ow) := Hp.loomOut hp
  obtain rfl := Option.some.inj h
  exact ⟨rfl, ⟨_, hf.sub ⟨rfl, rfl, trivial⟩, hp⟩⟩

noncomputable def f_weave_Undo (branches0 : Int) (steps1 : Int) : Option ((Option LoomS) × Int) := ((f_weave_made_40 branches0 steps1 branches0).bind fun q3 => (some (q3.1, q3.2)))
theorem f_weave_Undo_c {S : Nat → Prop} {w0 w : World} {ow : List Res} (hp : Hp S w0 w ow) (branches0 : Int) (steps1 : Int) {r : ((Option LoomS) × Int)} (h : f_weave_Undo branches0 steps1 = some r) :
    Calls Try.prog 28 #[.int .i64 branches0, .int .i64 steps1] w (fun e w' => ∃ (u0 : Value), e = .returned (.tuple #[u0, .int .i64 r.2]) ∧ Hp S w0 w' (Res.opt (LoomK 75 5) u0 r.1 :: ow)) := by
  unfold f_weave_Undo at h
  refine enter (n := 12) (args := [.int .i64 branches0, .int .i64 steps1]) Try.func28 rfl rfl (Nat.le_of_ble_eq_true rfl) fun a hf => ?_
  replace hf : Fr 12 a [(0, .int .i64 branches0), (1, .int .i64 steps1)] := hf
  refine wp_mono (Q := fun e a w => e = .ret ∧ ∃ (u0 : Value), Fr 12 a [(4, u0), (5, .int .i64 r.2)] ∧ Hp S w0 w (Res.opt (LoomK 75 5) u0 r.1 :: ow)) ?_ ?_
  rotate_left
  · rintro e a w ⟨rfl, x0, hf, hp⟩
    exact ret2 hf rfl rfl rfl ⟨x0, rfl, hp⟩
  refine wp_seq ?_
  refine wp_reg ?_
  refine st_boxO (cs := [.int .i64 branches0]) hf (by decide) hp rfl rfl rfl ?_
  clear hf; intro a w v1 hf hp0; clear hp; have hp := hp0; clear hp0
  replace hp : Hp _ _ _ (Res.obj 3 v1 [.int .i64 branches0] :: ow) := hp
  refine st_assign hf rfl rfl (by decide) ?_
  clear hf; intro a ha hf; clear ha
  refine st_assign hf rfl rfl (by decide) ?_
  clear hf; intro a ha hf; clear ha
  refine st_nil hf ?_
  refine th_n ?_
  refine wp_seq ?_
  refine wp_reg ?_
  refine st_ldO (u := .int .i64 branches0) hf (by decide) pl3 rfl rfl (hp.ob (i := 0) rfl) rfl ?_
  clear hf; intro a ha hf; clear ha
  refine st_move hf rfl rfl (by decide) ?_
  clear hf; intro a ha hf; clear ha
  refine st_makeFunc1 hf (by decide) rfl rfl ?_
  clear hf; intro a ha hf; clear ha
  obtain ⟨q3, hcall4, h⟩ := bnd h
  obtain ⟨S5, hp6, rd7, up8, bk9⟩ := Hp.lendO hp (i := 0) rfl
  refine st_call hf (by decide) Try.func40 rfl rfl rfl rfl rfl (f_weave_made_40_c hp6 _ _ _ _ rd7 hcall4) ?_
  rintro _ w ⟨v10, rfl, hp0⟩
  have hp0 := bk9 _ _ hp0
  clear hp; have hp := hp0; clear hp0
  replace hp : Hp _ _ _ (Res.obj 3 v1 [.int .i64 branches0] :: Res.opt (LoomK 75 5) v10 q3.1 :: ow) := hp
  refine ⟨_, rfl, ?_⟩
  clear hf; intro a hf
  refine st_extract hf (by decide) rfl rfl rfl ?_
  clear hf; intro a ha hf; clear ha
  refine st_extract hf (by decide) rfl rfl rfl ?_
  clear hf; intro a ha hf; clear ha
  refine st_assign hf rfl rfl (by decide) ?_
  clear hf; intro a ha hf; clear ha
  refine st_assign hf rfl rfl (by decide) ?_
  clear hf; intro a ha hf; clear ha
  refine st_nil hf ?_
  refine th_n ?_
  refine wp_ret ?_
  obtain rfl := Option.some.inj h
  have hp : Hp _ _ _ (Res.opt (LoomK 75 5) v10 q3.1 :: ow) := Hp.sel (pre := [Res.obj 3 v1 [.int .i64 branches0], Res.opt (LoomK 75 5) v10 q3.1]) (tail := ow) (rs' := [Res.opt (LoomK 75 5) v10 q3.1]) hp [1] (by decide) (by simp) rfl
  exact ⟨rfl, ⟨_, hf.sub ⟨rfl, rfl, trivial⟩, hp⟩⟩

noncomputable def f_foghornref17_New.j1 (steps1 : Int) (l8c_0 : (List (List Int))) (l8c_1 : Int) (l8c_2 : Int) (i9 : Int) (n10 : Int) : Option (((List (List Int)) × Int × Int × Int) ⊕ ((List (List Int)) × Int × Int)) := (if 0 ≤ (IntKind.i64.wrap (n10 * steps1)) ∧ (IntKind.i64.wrap (n10 * steps1)) ≤ (IntKind.i64.wrap (n10 * steps1)) ∧ (IntKind.i64.wrap (n10 * steps1)) * 1 ≤ 281474976710656 then (if (l8c_0.length + 1) * 24 ≤ 140737488355328 then (some (Sum.inl ((l8c_0 ++ [((List.replicate ((IntKind.i64.wrap (n10 * steps1))).toNat (0 : Int)) : (List Int))]), l8c_1, l8c_2, (IntKind.i64.wrap (i9 + (1 : Int)))))) else none) else none)
noncomputable def f_foghornref17_New.s1c (branches0 : Int) (steps1 : Int) (undo2 : Bool) (l8c_0 : (List (List Int))) (l8c_1 : Int) (l8c_2 : Int) (i9 : Int) : Option (((List (List Int)) × Int × Int × Int) ⊕ ((List (List Int)) × Int × Int)) := (if (decide (i9 < branches0)) = true then (if undo2 = true then (f_foghornref17_New.j1 steps1 l8c_0 l8c_1 l8c_2 i9 (IntKind.i64.wrap ((IntKind.i64.wrap (branches0 - (1 : Int))) - i9))) else (f_foghornref17_New.j1 steps1 l8c_0 l8c_1 l8c_2 i9 i9)) else (some (Sum.inr (l8c_0, l8c_1, l8c_2))))
noncomputable def f_foghornref17_New.s1 (branches0 : Int) (steps1 : Int) (undo2 : Bool) (s : ((List (List Int)) × Int × Int × Int)) : Option (((List (List Int)) × Int × Int × Int) ⊕ ((List (List Int)) × Int × Int)) := f_foghornref17_New.s1c branches0 steps1 undo2 s.1 s.2.1 s.2.2.1 s.2.2.2
noncomputable def f_foghornref17_New (branches0 : Int) (steps1 : Int) (undo2 : Bool) : Option ((Option ((List (List Int)) × Int × Int)) × Int) := (if ((((decide (branches0 < (1 : Int))) || (decide ((64 : Int) < branches0))) || (decide (steps1 < (1 : Int)))) || (decide ((64 : Int) < steps1))) = true then (some (none, (1 : Int))) else ((loop (f_foghornref17_New.s1 branches0 steps1 undo2) ([], (0 : Int), steps1, (0 : Int))).bind (fun q25 => (some ((some (q25.1, q25.2.1, q25.2.2)), (0 : Int))))))
theorem f_foghornref17_New_c {S : Nat → Prop} {w0 w : World} {ow : List Res} (hp : Hp S w0 w ow) (branches0 : Int) (steps1 : Int) (undo2 : Bool) {r : ((Option ((List (List Int)) × Int × Int)) × Int)} (h : f_foghornref17_New branches0 steps1 undo2 = some r) :
    Calls Try.prog 29 #[.int .i64 branches0, .int .i64 steps1, .bool undo2] w (fun e w' => ∃ (u0 : Value), e = .returned (.tuple #[u0, .int .i64 r.2]) ∧ Hp S w0 w' (Res.opt pk70 u0 r.1 :: ow)) := by
  unfold f_foghornref17_New at h
  refine enter (n := 53) (args := [.int .i64 branches0, .int .i64 steps1, .bool undo2]) Try.func29 rfl rfl (Nat.le_of_ble_eq_true rfl) fun a hf => ?_
  replace hf : Fr 53 a [(0, .int .i64 branches0), (1, .int .i64 steps1), (2, .bool undo2)] := hf
  refine wp_mono (Q := fun e a w => e = .ret ∧ ∃ (u0 : Value), Fr 53 a [(6, u0), (7, .int .i64 r.2)] ∧ Hp S w0 w (Res.opt pk70 u0 r.1 :: ow)) ?_ ?_
  rotate_left
  · rintro e a w ⟨rfl, x0, hf, hp⟩
    exact ret2 hf rfl rfl rfl ⟨x0, rfl, hp⟩
  refine wp_seq ?_
  refine wp_reg ?_
  refine st_assign hf rfl rfl (by decide) ?_
  clear hf; intro a ha hf; clear ha
  refine st_assign hf rfl rfl (by decide) ?_
  clear hf; intro a ha hf; clear ha
  refine st_nil hf ?_
  refine th_n ?_
  refine wp_seq ?_
  refine wp_seq ?_
  refine wp_reg ?_
  refine st_move hf rfl rfl (by decide) ?_
  clear hf; intro a ha hf; clear ha
  refine st_ilss hf (by decide) rfl rfl rfl ?_
  clear hf; intro a ha hf; clear ha
  refine st_move hf rfl rfl (by decide) ?_
  clear hf; intro a ha hf; clear ha
  refine wpList_cut 3 (fun a w => Fr 53 a [(0, .int .i64 branches0), (1, .int .i64 steps1), (2, .bool undo2), (16, .bool ((decide (branches0 < (1 : Int))) || (decide ((64 : Int) < branches0))))] ∧ Hp S w0 w (ow)) ?_ ?_
  · rcases Bool.eq_false_or_eq_true (decide (branches0 < (1 : Int))) with hb2 | hb2
    · skip
      refine st_skip hf (wantN hf rfl rfl hb2) rfl (by decide) ?_ rfl
      clear hf; intro a hf
      refine st_skip hf (wantN hf rfl rfl hb2) rfl (by decide) ?_ rfl
      clear hf; intro a hf
      refine st_pick (v := .bool true) hf rfl rfl (fun hb' => ?_) (fun hb' => ?_) (by decide) ?_
      · rfl
      · exact absurd (hb2.symm.trans hb') (by decide)
      clear hf; intro a ha hf; clear ha
      refine st_nil hf (th_n ?_)
      exact ⟨hf.sub ⟨rfl, rfl, rfl, (by rw [hb2]; rfl), trivial⟩, hp⟩
    refine st_move hf (wantY hf rfl rfl hb2) rfl (by decide) ?_
    clear hf; intro a ha hf; clear ha
    refine st_igtr hf (by decide) (wantY hf rfl rfl hb2) rfl rfl ?_
    clear hf; intro a ha hf; clear ha
    refine st_pick (v := .bool (decide ((64 : Int) < branches0))) hf rfl rfl (fun hb' => ?_) (fun hb' => ?_) (by decide) ?_
    · exact absurd (hb2.symm.trans hb') (by decide)
    · rfl
    clear hf; intro a ha hf; clear ha
    refine st_nil hf (th_n ?_)
    exact ⟨hf.sub ⟨rfl, rfl, rfl, (by rw [hb2]; rfl), trivial⟩, hp⟩
  rintro a w ⟨hf, hp⟩
  refine st_move hf rfl rfl (by decide) ?_
  clear hf; intro a ha hf; clear ha
  refine wpList_cut 3 (fun a w => Fr 53 a [(0, .int .i64 branches0), (1, .int .i64 steps1), (2, .bool undo2), (20, .bool (((decide (branches0 < (1 : Int))) || (decide ((64 : Int) < branches0))) || (decide (steps1 < (1 : Int)))))] ∧ Hp S w0 w (ow)) ?_ ?_
  · rcases Bool.eq_false_or_eq_true ((decide (branches0 < (1 : Int))) || (decide ((64 : Int) < branches0))) with hb4 | hb4
    · skip
      refine st_skip hf (wantN hf rfl rfl hb4) rfl (by decide) ?_ rfl
      clear hf; intro a hf
      refine st_skip hf (wantN hf rfl rfl hb4) rfl (by decide) ?_ rfl
      clear hf; intro a hf
      refine st_pick (v := .bool true) hf rfl rfl (fun hb' => ?_) (fun hb' => ?_) (by decide) ?_
      · rfl
      · exact absurd (hb4.symm.trans hb') (by decide)
      clear hf; intro a ha hf; clear ha
      refine st_nil hf (th_n ?_)
      exact ⟨hf.sub ⟨rfl, rfl, rfl, (by rw [hb4]; rfl), trivial⟩, hp⟩
    refine st_move hf (wantY hf rfl rfl hb4) rfl (by decide) ?_
    clear hf; intro a ha hf; clear ha
    refine st_ilss hf (by decide) (wantY hf rfl rfl hb4) rfl rfl ?_
    clear hf; intro a ha hf; clear ha
    refine st_pick (v := .bool (decide (steps1 < (1 : Int)))) hf rfl rfl (fun hb' => ?_) (fun hb' => ?_) (by decide) ?_
    · exact absurd (hb4.symm.trans hb') (by decide)
    · rfl
    clear hf; intro a ha hf; clear ha
    refine st_nil hf (th_n ?_)
    exact ⟨hf.sub ⟨rfl, rfl, rfl, (by rw [hb4]; rfl), trivial⟩, hp⟩
  rintro a w ⟨hf, hp⟩
  refine st_move hf rfl rfl (by decide) ?_
  clear hf; intro a ha hf; clear ha
  refine wpList_cut 3 (fun a w => Fr 53 a [(0, .int .i64 branches0), (1, .int .i64 steps1), (2, .bool undo2), (24, .bool ((((decide (branches0 < (1 : Int))) || (decide ((64 : Int) < branches0))) || (decide (steps1 < (1 : Int)))) || (decide ((64 : Int) < steps1))))] ∧ Hp S w0 w (ow)) ?_ ?_
  · rcases Bool.eq_false_or_eq_true (((decide (branches0 < (1 : Int))) || (decide ((64 : Int) < branches0))) || (decide (steps1 < (1 : Int)))) with hb6 | hb6
    · skip
      refine st_skip hf (wantN hf rfl rfl hb6) rfl (by decide) ?_ rfl
      clear hf; intro a hf
      refine st_skip hf (wantN hf rfl rfl hb6) rfl (by decide) ?_ rfl
      clear hf; intro a hf
      refine st_pick (v := .bool true) hf rfl rfl (fun hb' => ?_) (fun hb' => ?_) (by decide) ?_
      · rfl
      · exact absurd (hb6.symm.trans hb') (by decide)
      clear hf; intro a ha hf; clear ha
      refine st_nil hf (th_n ?_)
      exact ⟨hf.sub ⟨rfl, rfl, rfl, (by rw [hb6]; rfl), trivial⟩, hp⟩
    refine st_move hf (wantY hf rfl rfl hb6) rfl (by decide) ?_
    clear hf; intro a ha hf; clear ha
    refine st_igtr hf (by decide) (wantY hf rfl rfl hb6) rfl rfl ?_
    clear hf; intro a ha hf; clear ha
    refine st_pick (v := .bool (decide ((64 : Int) < steps1))) hf rfl rfl (fun hb' => ?_) (fun hb' => ?_) (by decide) ?_
    · exact absurd (hb6.symm.trans hb') (by decide)
    · rfl
    clear hf; intro a ha hf; clear ha
    refine st_nil hf (th_n ?_)
    exact ⟨hf.sub ⟨rfl, rfl, rfl, (by rw [hb6]; rfl), trivial⟩, hp⟩
  rintro a w ⟨hf, hp⟩
  refine st_nil hf ?_
  refine th_n ?_
  refine wp_if hf rfl (fun hb => ?_) (fun hb => ?_)
  · replace h := ifT h hb
    refine wp_seq ?_
    refine wp_reg ?_
    refine st_assign hf rfl rfl (by decide) ?_
    clear hf; intro a ha hf; clear ha
    refine st_assign hf rfl rfl (by decide) ?_
    clear hf; intro a ha hf; clear ha
    refine st_nil hf ?_
    refine th_n ?_
    refine wp_ret ?_
    refine th_r ?_
    obtain rfl := Option.some.inj h
    have hp := hp.optNil pk70
    exact ⟨rfl, ⟨_, hf.sub ⟨rfl, rfl, trivial⟩, hp⟩⟩
  replace h := ifF h hb
  refine wp_skip ?_
  refine th_n ?_
  refine wp_seq ?_
  refine wp_reg ?_
  refine st_move hf rfl rfl (by decide) ?_
  clear hf; intro a ha hf; clear ha
  refine st_buildA (vals := [(2, .int .i64 steps1)]) (cells := [.slice none 0 0, .int .i64 (0 : Int), .int .i64 steps1]) hf (by decide) rfl (by simp [hf.ev (x := (Operand.tmp 25)) rfl]) (fun w => by kernel_rfl) ?_
  clear hf; intro a ha hf; clear ha
  refine st_boxO (cs := [.slice none 0 0, .int .i64 (0 : Int), .int .i64 steps1]) hf (by decide) hp rfl rfl rfl ?_
  clear hf; intro a w v8 hf hp0; clear hp; have hp := hp0; clear hp0
  replace hp : Hp _ _ _ (Res.obj 70 v8 [.slice none 0 0, .int .i64 (0 : Int), .int .i64 steps1] :: ow) := hp
  rw [hp.eq0] at hf
  refine st_assign hf rfl rfl (by decide) ?_
  clear hf; intro a ha hf; clear ha
  refine st_nil hf ?_
  refine th_n ?_
  refine wp_seq ?_
  refine wp_seq ?_
  refine wp_reg ?_
  refine st_assign hf rfl rfl (by decide) ?_
  clear hf; intro a ha hf; clear ha
  refine st_nil hf ?_
  refine th_n ?_
  refine wp_block ?_
  obtain ⟨q25, hl, h⟩ := bnd h
  have hp := hp.rowsNil (RowK.sl (Ek.int .u8) 5) 59
  refine wp_loop_pure (f := (f_foghornref17_New.s1 branches0 steps1 undo2)) (s := ([], (0 : Int), steps1, (0 : Int))) (fun s a w => ∃ (v10 : Value) (vs11 : List Value), Fr 53 a [(0, .int .i64 branches0), (1, .int .i64 steps1), (2, .bool undo2), (8, v8), (9, .int .i64 s.2.2.2)] ∧ Hp S w0 w (Res.rows (RowK.sl (Ek.int .u8) 5) 59 v10 vs11 s.1 :: Res.obj 70 v8 [v10, .int .i64 s.2.1, .int .i64 s.2.2.1] :: ow)) (fun q e a w => e = .exit 0 ∧ ∃ (v14 : Value) (vs15 : List Value), Fr 53 a [(8, v8)] ∧ Hp S w0 w (Res.rows (RowK.sl (Ek.int .u8) 5) 59 v14 vs15 q.1 :: Res.obj 70 v8 [v14, .int .i64 q.2.1, .int .i64 q.2.2] :: ow)) ?_ hl ⟨_, _, hf.sub ⟨rfl, rfl, rfl, rfl, rfl, trivial⟩, hp⟩ ?_
  · clear hl hf hp
    intro s x a w h hI
    obtain ⟨l8c_0, l8c_1, l8c_2, i9⟩ := s
    obtain ⟨v10, vs11, hf, hp⟩ : ∃ (v10 : Value) (vs11 : List Value), Fr 53 a [(0, .int .i64 branches0), (1, .int .i64 steps1), (2, .bool undo2), (8, v8), (9, .int .i64 i9)] ∧ Hp S w0 w (Res.rows (RowK.sl (Ek.int .u8) 5) 59 v10 vs11 l8c_0 :: Res.obj 70 v8 [v10, .int .i64 l8c_1, .int .i64 l8c_2] :: ow) := hI
    replace h : f_foghornref17_New.s1c branches0 steps1 undo2 l8c_0 l8c_1 l8c_2 i9 = some x := h
    unfold f_foghornref17_New.s1c at h
    refine wp_seq ?_
    refine wp_seq ?_
    refine wp_reg ?_
    refine st_move hf rfl rfl (by decide) ?_
    clear hf; intro a ha hf; clear ha
    refine st_move hf rfl rfl (by decide) ?_
    clear hf; intro a ha hf; clear ha
    refine st_ilss hf (by decide) rfl rfl rfl ?_
    clear hf; intro a ha hf; clear ha
    refine st_nil hf ?_
    refine th_n ?_
    refine wp_if hf rfl (fun hb => ?_) (fun hb => ?_)
    · replace h := ifT h hb
      refine wp_skip ?_
      refine th_n ?_
      refine wp_seq ?_
      refine wp_block ?_
      refine wp_seq ?_
      refine wp_reg ?_
      refine st_move hf rfl rfl (by decide) ?_
      clear hf; intro a ha hf; clear ha
      refine st_assign hf rfl rfl (by decide) ?_
      clear hf; intro a ha hf; clear ha
      refine st_nil hf ?_
      refine th_n ?_
      refine wp_seq_cut (fun a w => ∃ (n10 : Int), f_foghornref17_New.j1 steps1 l8c_0 l8c_1 l8c_2 i9 n10 = some x ∧ Fr 53 a [(0, .int .i64 branches0), (1, .int .i64 steps1), (2, .bool undo2), (8, v8), (9, .int .i64 i9), (10, .int .i64 n10)] ∧ Hp S w0 w (Res.obj 70 v8 [v10, .int .i64 l8c_1, .int .i64 l8c_2] :: Res.rows (RowK.sl (Ek.int .u8) 5) 59 v10 vs11 l8c_0 :: ow)) ?_ ?_
      · skip
        refine wp_seq ?_
        refine wp_reg ?_
        refine st_move hf rfl rfl (by decide) ?_
        clear hf; intro a ha hf; clear ha
        refine st_nil hf ?_
        refine th_n ?_
        refine wp_if hf rfl (fun hb => ?_) (fun hb => ?_)
        · replace h := ifT h hb
          refine wp_reg ?_
          refine st_move hf rfl rfl (by decide) ?_
          clear hf; intro a ha hf; clear ha
          refine st_isub hf (by decide) rfl rfl rfl ?_
          clear hf; intro a ha hf; clear ha
          refine st_move hf rfl rfl (by decide) ?_
          clear hf; intro a ha hf; clear ha
          refine st_isub hf (by decide) rfl rfl rfl ?_
          clear hf; intro a ha hf; clear ha
          refine st_assign hf rfl rfl (by decide) ?_
          clear hf; intro a ha hf; clear ha
          refine st_nil hf ?_
          have hp : Hp _ _ _ (Res.obj 70 v8 [v10, .int .i64 l8c_1, .int .i64 l8c_2] :: Res.rows (RowK.sl (Ek.int .u8) 5) 59 v10 vs11 l8c_0 :: ow) := Hp.sel (pre := [Res.rows (RowK.sl (Ek.int .u8) 5) 59 v10 vs11 l8c_0, Res.obj 70 v8 [v10, .int .i64 l8c_1, .int .i64 l8c_2]]) (tail := ow) (rs' := [Res.obj 70 v8 [v10, .int .i64 l8c_1, .int .i64 l8c_2], Res.rows (RowK.sl (Ek.int .u8) 5) 59 v10 vs11 l8c_0]) hp [1, 0] (by decide) (by simp) rfl
          refine th_n ?_
          exact ⟨_, h, hf.sub ⟨rfl, rfl, rfl, rfl, rfl, rfl, trivial⟩, hp⟩
        replace h := ifF h hb
        refine wp_skip ?_
        have hp : Hp _ _ _ (Res.obj 70 v8 [v10, .int .i64 l8c_1, .int .i64 l8c_2] :: Res.rows (RowK.sl (Ek.int .u8) 5) 59 v10 vs11 l8c_0 :: ow) := Hp.sel (pre := [Res.rows (RowK.sl (Ek.int .u8) 5) 59 v10 vs11 l8c_0, Res.obj 70 v8 [v10, .int .i64 l8c_1, .int .i64 l8c_2]]) (tail := ow) (rs' := [Res.obj 70 v8 [v10, .int .i64 l8c_1, .int .i64 l8c_2], Res.rows (RowK.sl (Ek.int .u8) 5) 59 v10 vs11 l8c_0]) hp [1, 0] (by decide) (by simp) rfl
        refine th_n ?_
        exact ⟨_, h, hf.sub ⟨rfl, rfl, rfl, rfl, rfl, rfl, trivial⟩, hp⟩
      rintro a w ⟨n10, h, hf, hp⟩
      unfold f_foghornref17_New.j1 at h
      obtain ⟨hc18, h⟩ := chk h
      obtain ⟨hc23, h⟩ := chk h
      refine wp_cutN (fun a w => ∃ (v19 : Value) (v21 : Value) (v24 : Value), Fr 53 a [(0, .int .i64 branches0), (1, .int .i64 steps1), (2, .bool undo2), (8, v8), (9, .int .i64 i9)] ∧ Hp S w0 w (Res.rows (RowK.sl (Ek.int .u8) 5) 59 v24 (vs11 ++ [v19]) (l8c_0 ++ [((List.replicate ((IntKind.i64.wrap (n10 * steps1))).toNat (0 : Int)) : (List Int))]) :: Res.sl Ek.val 59 v21 [v19] :: Res.obj 70 v8 [v24, .int .i64 l8c_1, .int .i64 l8c_2] :: ow)) ?_ ?_
      · have hp := hp.same (Same.drew w)
        refine dr_begin' (fun a w => ∃ (v19 : Value) (v21 : Value) (v24 : Value), Fr 53 a [(0, .int .i64 branches0), (1, .int .i64 steps1), (2, .bool undo2), (8, v8), (9, .int .i64 i9)] ∧ Hp S w0 w (Res.rows (RowK.sl (Ek.int .u8) 5) 59 v24 (vs11 ++ [v19]) (l8c_0 ++ [((List.replicate ((IntKind.i64.wrap (n10 * steps1))).toNat (0 : Int)) : (List Int))]) :: Res.sl Ek.val 59 v21 [v19] :: Res.obj 70 v8 [v24, .int .i64 l8c_1, .int .i64 l8c_2] :: ow)) (fun w' => ∃ l, Hp S w0 w' l) [] (by kernel_rfl) ?_
        refine dr_take 0 (v8) rfl (by kernel_rfl) (by kernel_rfl) (by kernel_rfl) (by kernel_rfl) rfl rfl hf (by decide) rfl (fun w hp => ?_) ⟨_, hp⟩ ?_
        · obtain ⟨_, hp⟩ := hp
          refine st_move hf rfl rfl (by decide) ?_
          clear hf; intro a ha hf
          exact st_nil hf (th_n ⟨ha, rfl⟩)
        clear hf; intro a hf
        refine dr_take 1 (v8) rfl (by kernel_rfl) (by kernel_rfl) (by kernel_rfl) (by kernel_rfl) rfl rfl hf (by decide) rfl (fun w hp => ?_) ⟨_, hp⟩ ?_
        · obtain ⟨_, hp⟩ := hp
          refine st_move hf rfl rfl (by decide) ?_
          clear hf; intro a ha hf
          exact st_nil hf (th_n ⟨ha, rfl⟩)
        clear hf; intro a hf
        refine dr_take 5 (.int .i64 n10) rfl (by kernel_rfl) (by kernel_rfl) (by kernel_rfl) (by kernel_rfl) rfl rfl hf (by decide) rfl (fun w hp => ?_) ⟨_, hp⟩ ?_
        · obtain ⟨_, hp⟩ := hp
          refine st_move hf rfl rfl (by decide) ?_
          clear hf; intro a ha hf
          exact st_nil hf (th_n ⟨ha, rfl⟩)
        clear hf; intro a hf
        refine dr_take 6 (.int .i64 steps1) rfl (by kernel_rfl) (by kernel_rfl) (by kernel_rfl) (by kernel_rfl) rfl rfl hf (by decide) rfl (fun w hp => ?_) ⟨_, hp⟩ ?_
        · obtain ⟨_, hp⟩ := hp
          refine st_move hf rfl rfl (by decide) ?_
          clear hf; intro a ha hf
          exact st_nil hf (th_n ⟨ha, rfl⟩)
        clear hf; intro a hf
        refine dr_take 7 (.int .i64 (IntKind.i64.wrap (n10 * steps1))) rfl (by kernel_rfl) (by kernel_rfl) (by kernel_rfl) (by kernel_rfl) rfl rfl hf (by decide) rfl (fun w hp => ?_) ⟨_, hp⟩ ?_
        · obtain ⟨_, hp⟩ := hp
          refine st_imul hf (by decide) rfl rfl rfl ?_
          clear hf; intro a ha hf
          exact st_nil hf (th_n ⟨ha, rfl⟩)
        clear hf; intro a hf
        refine dr_nilV 2 rfl (by kernel_rfl) (by kernel_rfl) (by kernel_rfl) hf (by decide) rfl rfl (hp.ob (i := 0) rfl) ?_
        clear hf; intro a hf
        refine dr_two 3 8 rfl rfl (by kernel_rfl) ?_ ?_
        · skip
          refine st_fa (o' := 0) hf (by decide) (off := 0) (sz := 1) (by kernel_rfl) (by decide) rfl rfl (hp.ob (i := 0) rfl) rfl ?_
          clear hf; intro a ha hf; clear ha
          refine st_nil hf (th_n ⟨fun _ _ => ⟨_, hp⟩, ?_⟩)
          refine dr_two 4 8 rfl rfl (by kernel_rfl) ?_ ?_
          · skip
            refine st_ldO (u := v10) hf (by decide) pl68 rfl rfl (hp.ob (i := 0) rfl) rfl ?_
            clear hf; intro a ha hf; clear ha
            refine st_nil hf (th_n ⟨fun _ _ => ⟨_, hp⟩, ?_⟩)
            refine dr_one 8 rfl (by kernel_rfl) ?_
            refine st_make (E := (Ek.int .u8)) hf (by decide) elt5 Try.underlying59 (by decide) hp rfl rfl rfl hc18.1 hc18.2.1 hc18.2.2 ?_
            clear hf; intro a w v19 hf hp0; clear hp; have hp := hp0; clear hp0
            replace hp : Hp _ _ _ (Res.sl (Ek.int .u8) 5 v19 (List.replicate ((IntKind.i64.wrap (n10 * steps1))).toNat (0 : Int)) :: Res.obj 70 v8 [v10, .int .i64 l8c_1, .int .i64 l8c_2] :: Res.rows (RowK.sl (Ek.int .u8) 5) 59 v10 vs11 l8c_0 :: ow) := hp
            refine st_nil hf (th_n ⟨fun _ _ => ⟨_, hp⟩, ?_⟩)
            refine dr_one 9 rfl (by kernel_rfl) ?_
            refine st_build (E := Ek.val) (xs := [v19]) hf (by decide) eltv59 Try.underlying68 hp (vals := #[(0, v19)]) (cells := #[v19]) rfl (by simp [hf.ev (x := (Operand.tmp 47)) rfl]) (by decide) (by decide) (z := .slice none 0 0) (by kernel_rfl) (fillv1 (hp.sl (i := 0) rfl).shapeV) rfl (reps_cons (E := Ek.val) (cs := [v19]) ⟨rfl, (one_of (hp.sl (i := 0) rfl).shapeV)⟩ (reps_nil _)) ?_
            clear hf; intro a w v21 hf hp0; clear hp; have hp := hp0; clear hp0
            replace hp : Hp _ _ _ (Res.sl Ek.val 59 v21 [v19] :: Res.sl (Ek.int .u8) 5 v19 (List.replicate ((IntKind.i64.wrap (n10 * steps1))).toNat (0 : Int)) :: Res.obj 70 v8 [v10, .int .i64 l8c_1, .int .i64 l8c_2] :: Res.rows (RowK.sl (Ek.int .u8) 5) 59 v10 vs11 l8c_0 :: ow) := hp
            refine st_nil hf (th_n ⟨fun _ _ => ⟨_, hp⟩, ?_⟩)
            refine dr_one 10 rfl (by kernel_rfl) ?_
            have hp : Hp _ _ _ (Res.rows (RowK.sl (Ek.int .u8) 5) 59 v10 vs11 l8c_0 :: Res.sl (Ek.int .u8) 5 v19 (List.replicate ((IntKind.i64.wrap (n10 * steps1))).toNat (0 : Int)) :: Res.sl Ek.val 59 v21 [v19] :: Res.obj 70 v8 [v10, .int .i64 l8c_1, .int .i64 l8c_2] :: ow) := Hp.sel (pre := [Res.sl Ek.val 59 v21 [v19], Res.sl (Ek.int .u8) 5 v19 (List.replicate ((IntKind.i64.wrap (n10 * steps1))).toNat (0 : Int)), Res.obj 70 v8 [v10, .int .i64 l8c_1, .int .i64 l8c_2], Res.rows (RowK.sl (Ek.int .u8) 5) 59 v10 vs11 l8c_0]) (tail := ow) (rs' := [Res.rows (RowK.sl (Ek.int .u8) 5) 59 v10 vs11 l8c_0, Res.sl (Ek.int .u8) 5 v19 (List.replicate ((IntKind.i64.wrap (n10 * steps1))).toNat (0 : Int)), Res.sl Ek.val 59 v21 [v19], Res.obj 70 v8 [v10, .int .i64 l8c_1, .int .i64 l8c_2]]) hp [3, 1, 0, 2] (by decide) (by simp) rfl
            refine st_appendR (K := (RowK.sl (Ek.int .u8) 5)) (b := ((List.replicate ((IntKind.i64.wrap (n10 * steps1))).toNat (0 : Int)) : (List Int))) hf (by decide) eltv59 Try.underlying68 (by decide) hp rfl rfl rfl (hp.sl (i := 2) rfl) (by rw [List.length_map]; exact hc23) ?_
            clear hf; intro a w v24 hf hp0; clear hp; have hp := hp0; clear hp0
            rw [fill3] at hp
            replace hp : Hp _ _ _ (Res.rows (RowK.sl (Ek.int .u8) 5) 59 v24 (vs11 ++ [v19]) (l8c_0 ++ [((List.replicate ((IntKind.i64.wrap (n10 * steps1))).toNat (0 : Int)) : (List Int))]) :: Res.sl Ek.val 59 v21 [v19] :: Res.obj 70 v8 [v10, .int .i64 l8c_1, .int .i64 l8c_2] :: ow) := hp
            refine st_nil hf (th_n ⟨fun _ _ => ⟨_, hp⟩, ?_⟩)
            refine dr_nilV 11 rfl (by kernel_rfl) (by kernel_rfl) (by kernel_rfl) hf (by decide) rfl rfl (hp.ob (i := 2) rfl) ?_
            clear hf; intro a hf
            refine dr_one 12 rfl (by kernel_rfl) ?_
            refine st_fa (o' := 0) hf (by decide) (off := 0) (sz := 1) (by kernel_rfl) (by decide) rfl rfl (hp.ob (i := 2) rfl) rfl ?_
            clear hf; intro a ha hf; clear ha
            refine st_nil hf (th_n ⟨fun _ _ => ⟨_, hp⟩, ?_⟩)
            refine dr_one 13 rfl (by kernel_rfl) ?_
            refine st_stO (us := [v24]) hf hp (i := 2) rfl rfl rfl rfl (cells_sh (hp.rd (i := 0) rfl).shapeVY) (ones_sh (hp.rd (i := 0) rfl).shapeVY) (by kernel_rfl) (Nat.le_of_ble_eq_true rfl) ?_
            clear hf; intro a w hf hp0; clear hp; have hp := hp0; clear hp0
            replace hp : Hp _ _ _ (Res.rows (RowK.sl (Ek.int .u8) 5) 59 v24 (vs11 ++ [v19]) (l8c_0 ++ [((List.replicate ((IntKind.i64.wrap (n10 * steps1))).toNat (0 : Int)) : (List Int))]) :: Res.sl Ek.val 59 v21 [v19] :: Res.obj 70 v8 [v24, .int .i64 l8c_1, .int .i64 l8c_2] :: ow) := hp
            refine st_nil hf (th_n ⟨fun _ _ => ⟨_, hp⟩, ?_⟩)
            refine dr_end (by kernel_rfl) ?_ _
            exact ⟨v19, v21, v24, hf.sub ⟨rfl, rfl, rfl, rfl, rfl, trivial⟩, hp⟩
          · skip
            refine st_make (E := (Ek.int .u8)) hf (by decide) elt5 Try.underlying59 (by decide) hp rfl rfl rfl hc18.1 hc18.2.1 hc18.2.2 ?_
            clear hf; intro a w v19 hf hp0; clear hp; have hp := hp0; clear hp0
            replace hp : Hp _ _ _ (Res.sl (Ek.int .u8) 5 v19 (List.replicate ((IntKind.i64.wrap (n10 * steps1))).toNat (0 : Int)) :: Res.obj 70 v8 [v10, .int .i64 l8c_1, .int .i64 l8c_2] :: Res.rows (RowK.sl (Ek.int .u8) 5) 59 v10 vs11 l8c_0 :: ow) := hp
            refine st_nil hf (th_n ⟨fun _ _ => ⟨_, hp⟩, ?_⟩)
            refine dr_two 4 9 rfl rfl (by kernel_rfl) ?_ ?_
            · skip
              refine st_ldO (u := v10) hf (by decide) pl68 rfl rfl (hp.ob (i := 1) rfl) rfl ?_
              clear hf; intro a ha hf; clear ha
              refine st_nil hf (th_n ⟨fun _ _ => ⟨_, hp⟩, ?_⟩)
              refine dr_one 9 rfl (by kernel_rfl) ?_
              refine st_build (E := Ek.val) (xs := [v19]) hf (by decide) eltv59 Try.underlying68 hp (vals := #[(0, v19)]) (cells := #[v19]) rfl (by simp [hf.ev (x := (Operand.tmp 47)) rfl]) (by decide) (by decide) (z := .slice none 0 0) (by kernel_rfl) (fillv1 (hp.sl (i := 0) rfl).shapeV) rfl (reps_cons (E := Ek.val) (cs := [v19]) ⟨rfl, (one_of (hp.sl (i := 0) rfl).shapeV)⟩ (reps_nil _)) ?_
              clear hf; intro a w v21 hf hp0; clear hp; have hp := hp0; clear hp0
              replace hp : Hp _ _ _ (Res.sl Ek.val 59 v21 [v19] :: Res.sl (Ek.int .u8) 5 v19 (List.replicate ((IntKind.i64.wrap (n10 * steps1))).toNat (0 : Int)) :: Res.obj 70 v8 [v10, .int .i64 l8c_1, .int .i64 l8c_2] :: Res.rows (RowK.sl (Ek.int .u8) 5) 59 v10 vs11 l8c_0 :: ow) := hp
              refine st_nil hf (th_n ⟨fun _ _ => ⟨_, hp⟩, ?_⟩)
              refine dr_one 10 rfl (by kernel_rfl) ?_
              have hp : Hp _ _ _ (Res.rows (RowK.sl (Ek.int .u8) 5) 59 v10 vs11 l8c_0 :: Res.sl (Ek.int .u8) 5 v19 (List.replicate ((IntKind.i64.wrap (n10 * steps1))).toNat (0 : Int)) :: Res.sl Ek.val 59 v21 [v19] :: Res.obj 70 v8 [v10, .int .i64 l8c_1, .int .i64 l8c_2] :: ow) := Hp.sel (pre := [Res.sl Ek.val 59 v21 [v19], Res.sl (Ek.int .u8) 5 v19 (List.replicate ((IntKind.i64.wrap (n10 * steps1))).toNat (0 : Int)), Res.obj 70 v8 [v10, .int .i64 l8c_1, .int .i64 l8c_2], Res.rows (RowK.sl (Ek.int .u8) 5) 59 v10 vs11 l8c_0]) (tail := ow) (rs' := [Res.rows (RowK.sl (Ek.int .u8) 5) 59 v10 vs11 l8c_0, Res.sl (Ek.int .u8) 5 v19 (List.replicate ((IntKind.i64.wrap (n10 * steps1))).toNat (0 : Int)), Res.sl Ek.val 59 v21 [v19], Res.obj 70 v8 [v10, .int .i64 l8c_1, .int .i64 l8c_2]]) hp [3, 1, 0, 2] (by decide) (by simp) rfl
              refine st_appendR (K := (RowK.sl (Ek.int .u8) 5)) (b := ((List.replicate ((IntKind.i64.wrap (n10 * steps1))).toNat (0 : Int)) : (List Int))) hf (by decide) eltv59 Try.underlying68 (by decide) hp rfl rfl rfl (hp.sl (i := 2) rfl) (by rw [List.length_map]; exact hc23) ?_
              clear hf; intro a w v24 hf hp0; clear hp; have hp := hp0; clear hp0
              rw [fill3] at hp
              replace hp : Hp _ _ _ (Res.rows (RowK.sl (Ek.int .u8) 5) 59 v24 (vs11 ++ [v19]) (l8c_0 ++ [((List.replicate ((IntKind.i64.wrap (n10 * steps1))).toNat (0 : Int)) : (List Int))]) :: Res.sl Ek.val 59 v21 [v19] :: Res.obj 70 v8 [v10, .int .i64 l8c_1, .int .i64 l8c_2] :: ow) := hp
              refine st_nil hf (th_n ⟨fun _ _ => ⟨_, hp⟩, ?_⟩)
              refine dr_nilV 11 rfl (by kernel_rfl) (by kernel_rfl) (by kernel_rfl) hf (by decide) rfl rfl (hp.ob (i := 2) rfl) ?_
              clear hf; intro a hf
              refine dr_one 12 rfl (by kernel_rfl) ?_
              refine st_fa (o' := 0) hf (by decide) (off := 0) (sz := 1) (by kernel_rfl) (by decide) rfl rfl (hp.ob (i := 2) rfl) rfl ?_
              clear hf; intro a ha hf; clear ha
              refine st_nil hf (th_n ⟨fun _ _ => ⟨_, hp⟩, ?_⟩)
              refine dr_one 13 rfl (by kernel_rfl) ?_
              refine st_stO (us := [v24]) hf hp (i := 2) rfl rfl rfl rfl (cells_sh (hp.rd (i := 0) rfl).shapeVY) (ones_sh (hp.rd (i := 0) rfl).shapeVY) (by kernel_rfl) (Nat.le_of_ble_eq_true rfl) ?_
              clear hf; intro a w hf hp0; clear hp; have hp := hp0; clear hp0
              replace hp : Hp _ _ _ (Res.rows (RowK.sl (Ek.int .u8) 5) 59 v24 (vs11 ++ [v19]) (l8c_0 ++ [((List.replicate ((IntKind.i64.wrap (n10 * steps1))).toNat (0 : Int)) : (List Int))]) :: Res.sl Ek.val 59 v21 [v19] :: Res.obj 70 v8 [v24, .int .i64 l8c_1, .int .i64 l8c_2] :: ow) := hp
              refine st_nil hf (th_n ⟨fun _ _ => ⟨_, hp⟩, ?_⟩)
              refine dr_end (by kernel_rfl) ?_ _
              exact ⟨v19, v21, v24, hf.sub ⟨rfl, rfl, rfl, rfl, rfl, trivial⟩, hp⟩
            · skip
              refine st_build (E := Ek.val) (xs := [v19]) hf (by decide) eltv59 Try.underlying68 hp (vals := #[(0, v19)]) (cells := #[v19]) rfl (by simp [hf.ev (x := (Operand.tmp 47)) rfl]) (by decide) (by decide) (z := .slice none 0 0) (by kernel_rfl) (fillv1 (hp.sl (i := 0) rfl).shapeV) rfl (reps_cons (E := Ek.val) (cs := [v19]) ⟨rfl, (one_of (hp.sl (i := 0) rfl).shapeV)⟩ (reps_nil _)) ?_
              clear hf; intro a w v21 hf hp0; clear hp; have hp := hp0; clear hp0
              replace hp : Hp _ _ _ (Res.sl Ek.val 59 v21 [v19] :: Res.sl (Ek.int .u8) 5 v19 (List.replicate ((IntKind.i64.wrap (n10 * steps1))).toNat (0 : Int)) :: Res.obj 70 v8 [v10, .int .i64 l8c_1, .int .i64 l8c_2] :: Res.rows (RowK.sl (Ek.int .u8) 5) 59 v10 vs11 l8c_0 :: ow) := hp
              refine st_nil hf (th_n ⟨fun _ _ => ⟨_, hp⟩, ?_⟩)
              refine dr_one 4 rfl (by kernel_rfl) ?_
              refine st_ldO (u := v10) hf (by decide) pl68 rfl rfl (hp.ob (i := 2) rfl) rfl ?_
              clear hf; intro a ha hf; clear ha
              refine st_nil hf (th_n ⟨fun _ _ => ⟨_, hp⟩, ?_⟩)
              refine dr_one 10 rfl (by kernel_rfl) ?_
              have hp : Hp _ _ _ (Res.rows (RowK.sl (Ek.int .u8) 5) 59 v10 vs11 l8c_0 :: Res.sl (Ek.int .u8) 5 v19 (List.replicate ((IntKind.i64.wrap (n10 * steps1))).toNat (0 : Int)) :: Res.sl Ek.val 59 v21 [v19] :: Res.obj 70 v8 [v10, .int .i64 l8c_1, .int .i64 l8c_2] :: ow) := Hp.sel (pre := [Res.sl Ek.val 59 v21 [v19], Res.sl (Ek.int .u8) 5 v19 (List.replicate ((IntKind.i64.wrap (n10 * steps1))).toNat (0 : Int)), Res.obj 70 v8 [v10, .int .i64 l8c_1, .int .i64 l8c_2], Res.rows (RowK.sl (Ek.int .u8) 5) 59 v10 vs11 l8c_0]) (tail := ow) (rs' := [Res.rows (RowK.sl (Ek.int .u8) 5) 59 v10 vs11 l8c_0, Res.sl (Ek.int .u8) 5 v19 (List.replicate ((IntKind.i64.wrap (n10 * steps1))).toNat (0 : Int)), Res.sl Ek.val 59 v21 [v19], Res.obj 70 v8 [v10, .int .i64 l8c_1, .int .i64 l8c_2]]) hp [3, 1, 0, 2] (by decide) (by simp) rfl
              refine st_appendR (K := (RowK.sl (Ek.int .u8) 5)) (b := ((List.replicate ((IntKind.i64.wrap (n10 * steps1))).toNat (0 : Int)) : (List Int))) hf (by decide) eltv59 Try.underlying68 (by decide) hp rfl rfl rfl (hp.sl (i := 2) rfl) (by rw [List.length_map]; exact hc23) ?_
              clear hf; intro a w v24 hf hp0; clear hp; have hp := hp0; clear hp0
              rw [fill3] at hp
              replace hp : Hp _ _ _ (Res.rows (RowK.sl (Ek.int .u8) 5) 59 v24 (vs11 ++ [v19]) (l8c_0 ++ [((List.replicate ((IntKind.i64.wrap (n10 * steps1))).toNat (0 : Int)) : (List Int))]) :: Res.sl Ek.val 59 v21 [v19] :: Res.obj 70 v8 [v10, .int .i64 l8c_1, .int .i64 l8c_2] :: ow) := hp
              refine st_nil hf (th_n ⟨fun _ _ => ⟨_, hp⟩, ?_⟩)
              refine dr_nilV 11 rfl (by kernel_rfl) (by kernel_rfl) (by kernel_rfl) hf (by decide) rfl rfl (hp.ob (i := 2) rfl) ?_
              clear hf; intro a hf
              refine dr_one 12 rfl (by kernel_rfl) ?_
              refine st_fa (o' := 0) hf (by decide) (off := 0) (sz := 1) (by kernel_rfl) (by decide) rfl rfl (hp.ob (i := 2) rfl) rfl ?_
              clear hf; intro a ha hf; clear ha
              refine st_nil hf (th_n ⟨fun _ _ => ⟨_, hp⟩, ?_⟩)
              refine dr_one 13 rfl (by kernel_rfl) ?_
              refine st_stO (us := [v24]) hf hp (i := 2) rfl rfl rfl rfl (cells_sh (hp.rd (i := 0) rfl).shapeVY) (ones_sh (hp.rd (i := 0) rfl).shapeVY) (by kernel_rfl) (Nat.le_of_ble_eq_true rfl) ?_
              clear hf; intro a w hf hp0; clear hp; have hp := hp0; clear hp0
              replace hp : Hp _ _ _ (Res.rows (RowK.sl (Ek.int .u8) 5) 59 v24 (vs11 ++ [v19]) (l8c_0 ++ [((List.replicate ((IntKind.i64.wrap (n10 * steps1))).toNat (0 : Int)) : (List Int))]) :: Res.sl Ek.val 59 v21 [v19] :: Res.obj 70 v8 [v24, .int .i64 l8c_1, .int .i64 l8c_2] :: ow) := hp
              refine st_nil hf (th_n ⟨fun _ _ => ⟨_, hp⟩, ?_⟩)
              refine dr_end (by kernel_rfl) ?_ _
              exact ⟨v19, v21, v24, hf.sub ⟨rfl, rfl, rfl, rfl, rfl, trivial⟩, hp⟩
        · skip
          refine st_make (E := (Ek.int .u8)) hf (by decide) elt5 Try.underlying59 (by decide) hp rfl rfl rfl hc18.1 hc18.2.1 hc18.2.2 ?_
          clear hf; intro a w v19 hf hp0; clear hp; have hp := hp0; clear hp0
          replace hp : Hp _ _ _ (Res.sl (Ek.int .u8) 5 v19 (List.replicate ((IntKind.i64.wrap (n10 * steps1))).toNat (0 : Int)) :: Res.obj 70 v8 [v10, .int .i64 l8c_1, .int .i64 l8c_2] :: Res.rows (RowK.sl (Ek.int .u8) 5) 59 v10 vs11 l8c_0 :: ow) := hp
          refine st_nil hf (th_n ⟨fun _ _ => ⟨_, hp⟩, ?_⟩)
          refine dr_two 3 9 rfl rfl (by kernel_rfl) ?_ ?_
          · skip
            refine st_fa (o' := 0) hf (by decide) (off := 0) (sz := 1) (by kernel_rfl) (by decide) rfl rfl (hp.ob (i := 1) rfl) rfl ?_
            clear hf; intro a ha hf; clear ha
            refine st_nil hf (th_n ⟨fun _ _ => ⟨_, hp⟩, ?_⟩)
            refine dr_two 4 9 rfl rfl (by kernel_rfl) ?_ ?_
            · skip
              refine st_ldO (u := v10) hf (by decide) pl68 rfl rfl (hp.ob (i := 1) rfl) rfl ?_
              clear hf; intro a ha hf; clear ha
              refine st_nil hf (th_n ⟨fun _ _ => ⟨_, hp⟩, ?_⟩)
              refine dr_one 9 rfl (by kernel_rfl) ?_
              refine st_build (E := Ek.val) (xs := [v19]) hf (by decide) eltv59 Try.underlying68 hp (vals := #[(0, v19)]) (cells := #[v19]) rfl (by simp [hf.ev (x := (Operand.tmp 47)) rfl]) (by decide) (by decide) (z := .slice none 0 0) (by kernel_rfl) (fillv1 (hp.sl (i := 0) rfl).shapeV) rfl (reps_cons (E := Ek.val) (cs := [v19]) ⟨rfl, (one_of (hp.sl (i := 0) rfl).shapeV)⟩ (reps_nil _)) ?_
              clear hf; intro a w v21 hf hp0; clear hp; have hp := hp0; clear hp0
              replace hp : Hp _ _ _ (Res.sl Ek.val 59 v21 [v19] :: Res.sl (Ek.int .u8) 5 v19 (List.replicate ((IntKind.i64.wrap (n10 * steps1))).toNat (0 : Int)) :: Res.obj 70 v8 [v10, .int .i64 l8c_1, .int .i64 l8c_2] :: Res.rows (RowK.sl (Ek.int .u8) 5) 59 v10 vs11 l8c_0 :: ow) := hp
              refine st_nil hf (th_n ⟨fun _ _ => ⟨_, hp⟩, ?_⟩)
              refine dr_one 10 rfl (by kernel_rfl) ?_
              have hp : Hp _ _ _ (Res.rows (RowK.sl (Ek.int .u8) 5) 59 v10 vs11 l8c_0 :: Res.sl (Ek.int .u8) 5 v19 (List.replicate ((IntKind.i64.wrap (n10 * steps1))).toNat (0 : Int)) :: Res.sl Ek.val 59 v21 [v19] :: Res.obj 70 v8 [v10, .int .i64 l8c_1, .int .i64 l8c_2] :: ow) := Hp.sel (pre := [Res.sl Ek.val 59 v21 [v19], Res.sl (Ek.int .u8) 5 v19 (List.replicate ((IntKind.i64.wrap (n10 * steps1))).toNat (0 : Int)), Res.obj 70 v8 [v10, .int .i64 l8c_1, .int .i64 l8c_2], Res.rows (RowK.sl (Ek.int .u8) 5) 59 v10 vs11 l8c_0]) (tail := ow) (rs' := [Res.rows (RowK.sl (Ek.int .u8) 5) 59 v10 vs11 l8c_0, Res.sl (Ek.int .u8) 5 v19 (List.replicate ((IntKind.i64.wrap (n10 * steps1))).toNat (0 : Int)), Res.sl Ek.val 59 v21 [v19], Res.obj 70 v8 [v10, .int .i64 l8c_1, .int .i64 l8c_2]]) hp [3, 1, 0, 2] (by decide) (by simp) rfl
              refine st_appendR (K := (RowK.sl (Ek.int .u8) 5)) (b := ((List.replicate ((IntKind.i64.wrap (n10 * steps1))).toNat (0 : Int)) : (List Int))) hf (by decide) eltv59 Try.underlying68 (by decide) hp rfl rfl rfl (hp.sl (i := 2) rfl) (by rw [List.length_map]; exact hc23) ?_
              clear hf; intro a w v24 hf hp0; clear hp; have hp := hp0; clear hp0
              rw [fill3] at hp
              replace hp : Hp _ _ _ (Res.rows (RowK.sl (Ek.int .u8) 5) 59 v24 (vs11 ++ [v19]) (l8c_0 ++ [((List.replicate ((IntKind.i64.wrap (n10 * steps1))).toNat (0 : Int)) : (List Int))]) :: Res.sl Ek.val 59 v21 [v19] :: Res.obj 70 v8 [v10, .int .i64 l8c_1, .int .i64 l8c_2] :: ow) := hp
              refine st_nil hf (th_n ⟨fun _ _ => ⟨_, hp⟩, ?_⟩)
              refine dr_nilV 11 rfl (by kernel_rfl) (by kernel_rfl) (by kernel_rfl) hf (by decide) rfl rfl (hp.ob (i := 2) rfl) ?_
              clear hf; intro a hf
              refine dr_one 12 rfl (by kernel_rfl) ?_
              refine st_fa (o' := 0) hf (by decide) (off := 0) (sz := 1) (by kernel_rfl) (by decide) rfl rfl (hp.ob (i := 2) rfl) rfl ?_
              clear hf; intro a ha hf; clear ha
              refine st_nil hf (th_n ⟨fun _ _ => ⟨_, hp⟩, ?_⟩)
              refine dr_one 13 rfl (by kernel_rfl) ?_
              refine st_stO (us := [v24]) hf hp (i := 2) rfl rfl rfl rfl (cells_sh (hp.rd (i := 0) rfl).shapeVY) (ones_sh (hp.rd (i := 0) rfl).shapeVY) (by kernel_rfl) (Nat.le_of_ble_eq_true rfl) ?_
              clear hf; intro a w hf hp0; clear hp; have hp := hp0; clear hp0
              replace hp : Hp _ _ _ (Res.rows (RowK.sl (Ek.int .u8) 5) 59 v24 (vs11 ++ [v19]) (l8c_0 ++ [((List.replicate ((IntKind.i64.wrap (n10 * steps1))).toNat (0 : Int)) : (List Int))]) :: Res.sl Ek.val 59 v21 [v19] :: Res.obj 70 v8 [v24, .int .i64 l8c_1, .int .i64 l8c_2] :: ow) := hp
              refine st_nil hf (th_n ⟨fun _ _ => ⟨_, hp⟩, ?_⟩)
              refine dr_end (by kernel_rfl) ?_ _
              exact ⟨v19, v21, v24, hf.sub ⟨rfl, rfl, rfl, rfl, rfl, trivial⟩, hp⟩
            · skip
              refine st_build (E := Ek.val) (xs := [v19]) hf (by decide) eltv59 Try.underlying68 hp (vals := #[(0, v19)]) (cells := #[v19]) rfl (by simp [hf.ev (x := (Operand.tmp 47)) rfl]) (by decide) (by decide) (z := .slice none 0 0) (by kernel_rfl) (fillv1 (hp.sl (i := 0) rfl).shapeV) rfl (reps_cons (E := Ek.val) (cs := [v19]) ⟨rfl, (one_of (hp.sl (i := 0) rfl).shapeV)⟩ (reps_nil _)) ?_
              clear hf; intro a w v21 hf hp0; clear hp; have hp := hp0; clear hp0
              replace hp : Hp _ _ _ (Res.sl Ek.val 59 v21 [v19] :: Res.sl (Ek.int .u8) 5 v19 (List.replicate ((IntKind.i64.wrap (n10 * steps1))).toNat (0 : Int)) :: Res.obj 70 v8 [v10, .int .i64 l8c_1, .int .i64 l8c_2] :: Res.rows (RowK.sl (Ek.int .u8) 5) 59 v10 vs11 l8c_0 :: ow) := hp
              refine st_nil hf (th_n ⟨fun _ _ => ⟨_, hp⟩, ?_⟩)
              refine dr_one 4 rfl (by kernel_rfl) ?_
              refine st_ldO (u := v10) hf (by decide) pl68 rfl rfl (hp.ob (i := 2) rfl) rfl ?_
              clear hf; intro a ha hf; clear ha
              refine st_nil hf (th_n ⟨fun _ _ => ⟨_, hp⟩, ?_⟩)
              refine dr_one 10 rfl (by kernel_rfl) ?_
              have hp : Hp _ _ _ (Res.rows (RowK.sl (Ek.int .u8) 5) 59 v10 vs11 l8c_0 :: Res.sl (Ek.int .u8) 5 v19 (List.replicate ((IntKind.i64.wrap (n10 * steps1))).toNat (0 : Int)) :: Res.sl Ek.val 59 v21 [v19] :: Res.obj 70 v8 [v10, .int .i64 l8c_1, .int .i64 l8c_2] :: ow) := Hp.sel (pre := [Res.sl Ek.val 59 v21 [v19], Res.sl (Ek.int .u8) 5 v19 (List.replicate ((IntKind.i64.wrap (n10 * steps1))).toNat (0 : Int)), Res.obj 70 v8 [v10, .int .i64 l8c_1, .int .i64 l8c_2], Res.rows (RowK.sl (Ek.int .u8) 5) 59 v10 vs11 l8c_0]) (tail := ow) (rs' := [Res.rows (RowK.sl (Ek.int .u8) 5) 59 v10 vs11 l8c_0, Res.sl (Ek.int .u8) 5 v19 (List.replicate ((IntKind.i64.wrap (n10 * steps1))).toNat (0 : Int)), Res.sl Ek.val 59 v21 [v19], Res.obj 70 v8 [v10, .int .i64 l8c_1, .int .i64 l8c_2]]) hp [3, 1, 0, 2] (by decide) (by simp) rfl
              refine st_appendR (K := (RowK.sl (Ek.int .u8) 5)) (b := ((List.replicate ((IntKind.i64.wrap (n10 * steps1))).toNat (0 : Int)) : (List Int))) hf (by decide) eltv59 Try.underlying68 (by decide) hp rfl rfl rfl (hp.sl (i := 2) rfl) (by rw [List.length_map]; exact hc23) ?_
              clear hf; intro a w v24 hf hp0; clear hp; have hp := hp0; clear hp0
              rw [fill3] at hp
              replace hp : Hp _ _ _ (Res.rows (RowK.sl (Ek.int .u8) 5) 59 v24 (vs11 ++ [v19]) (l8c_0 ++ [((List.replicate ((IntKind.i64.wrap (n10 * steps1))).toNat (0 : Int)) : (List Int))]) :: Res.sl Ek.val 59 v21 [v19] :: Res.obj 70 v8 [v10, .int .i64 l8c_1, .int .i64 l8c_2] :: ow) := hp
              refine st_nil hf (th_n ⟨fun _ _ => ⟨_, hp⟩, ?_⟩)
              refine dr_nilV 11 rfl (by kernel_rfl) (by kernel_rfl) (by kernel_rfl) hf (by decide) rfl rfl (hp.ob (i := 2) rfl) ?_
              clear hf; intro a hf
              refine dr_one 12 rfl (by kernel_rfl) ?_
              refine st_fa (o' := 0) hf (by decide) (off := 0) (sz := 1) (by kernel_rfl) (by decide) rfl rfl (hp.ob (i := 2) rfl) rfl ?_
              clear hf; intro a ha hf; clear ha
              refine st_nil hf (th_n ⟨fun _ _ => ⟨_, hp⟩, ?_⟩)
              refine dr_one 13 rfl (by kernel_rfl) ?_
              refine st_stO (us := [v24]) hf hp (i := 2) rfl rfl rfl rfl (cells_sh (hp.rd (i := 0) rfl).shapeVY) (ones_sh (hp.rd (i := 0) rfl).shapeVY) (by kernel_rfl) (Nat.le_of_ble_eq_true rfl) ?_
              clear hf; intro a w hf hp0; clear hp; have hp := hp0; clear hp0
              replace hp : Hp _ _ _ (Res.rows (RowK.sl (Ek.int .u8) 5) 59 v24 (vs11 ++ [v19]) (l8c_0 ++ [((List.replicate ((IntKind.i64.wrap (n10 * steps1))).toNat (0 : Int)) : (List Int))]) :: Res.sl Ek.val 59 v21 [v19] :: Res.obj 70 v8 [v24, .int .i64 l8c_1, .int .i64 l8c_2] :: ow) := hp
              refine st_nil hf (th_n ⟨fun _ _ => ⟨_, hp⟩, ?_⟩)
              refine dr_end (by kernel_rfl) ?_ _
              exact ⟨v19, v21, v24, hf.sub ⟨rfl, rfl, rfl, rfl, rfl, trivial⟩, hp⟩
          · skip
            refine st_build (E := Ek.val) (xs := [v19]) hf (by decide) eltv59 Try.underlying68 hp (vals := #[(0, v19)]) (cells := #[v19]) rfl (by simp [hf.ev (x := (Operand.tmp 47)) rfl]) (by decide) (by decide) (z := .slice none 0 0) (by kernel_rfl) (fillv1 (hp.sl (i := 0) rfl).shapeV) rfl (reps_cons (E := Ek.val) (cs := [v19]) ⟨rfl, (one_of (hp.sl (i := 0) rfl).shapeV)⟩ (reps_nil _)) ?_
            clear hf; intro a w v21 hf hp0; clear hp; have hp := hp0; clear hp0
            replace hp : Hp _ _ _ (Res.sl Ek.val 59 v21 [v19] :: Res.sl (Ek.int .u8) 5 v19 (List.replicate ((IntKind.i64.wrap (n10 * steps1))).toNat (0 : Int)) :: Res.obj 70 v8 [v10, .int .i64 l8c_1, .int .i64 l8c_2] :: Res.rows (RowK.sl (Ek.int .u8) 5) 59 v10 vs11 l8c_0 :: ow) := hp
            refine st_nil hf (th_n ⟨fun _ _ => ⟨_, hp⟩, ?_⟩)
            refine dr_one 3 rfl (by kernel_rfl) ?_
            refine st_fa (o' := 0) hf (by decide) (off := 0) (sz := 1) (by kernel_rfl) (by decide) rfl rfl (hp.ob (i := 2) rfl) rfl ?_
            clear hf; intro a ha hf; clear ha
            refine st_nil hf (th_n ⟨fun _ _ => ⟨_, hp⟩, ?_⟩)
            refine dr_one 4 rfl (by kernel_rfl) ?_
            refine st_ldO (u := v10) hf (by decide) pl68 rfl rfl (hp.ob (i := 2) rfl) rfl ?_
            clear hf; intro a ha hf; clear ha
            refine st_nil hf (th_n ⟨fun _ _ => ⟨_, hp⟩, ?_⟩)
            refine dr_one 10 rfl (by kernel_rfl) ?_
            have hp : Hp _ _ _ (Res.rows (RowK.sl (Ek.int .u8) 5) 59 v10 vs11 l8c_0 :: Res.sl (Ek.int .u8) 5 v19 (List.replicate ((IntKind.i64.wrap (n10 * steps1))).toNat (0 : Int)) :: Res.sl Ek.val 59 v21 [v19] :: Res.obj 70 v8 [v10, .int .i64 l8c_1, .int .i64 l8c_2] :: ow) := Hp.sel (pre := [Res.sl Ek.val 59 v21 [v19], Res.sl (Ek.int .u8) 5 v19 (List.replicate ((IntKind.i64.wrap (n10 * steps1))).toNat (0 : Int)), Res.obj 70 v8 [v10, .int .i64 l8c_1, .int .i64 l8c_2], Res.rows (RowK.sl (Ek.int .u8) 5) 59 v10 vs11 l8c_0]) (tail := ow) (rs' := [Res.rows (RowK.sl (Ek.int .u8) 5) 59 v10 vs11 l8c_0, Res.sl (Ek.int .u8) 5 v19 (List.replicate ((IntKind.i64.wrap (n10 * steps1))).toNat (0 : Int)), Res.sl Ek.val 59 v21 [v19], Res.obj 70 v8 [v10, .int .i64 l8c_1, .int .i64 l8c_2]]) hp [3, 1, 0, 2] (by decide) (by simp) rfl
            refine st_appendR (K := (RowK.sl (Ek.int .u8) 5)) (b := ((List.replicate ((IntKind.i64.wrap (n10 * steps1))).toNat (0 : Int)) : (List Int))) hf (by decide) eltv59 Try.underlying68 (by decide) hp rfl rfl rfl (hp.sl (i := 2) rfl) (by rw [List.length_map]; exact hc23) ?_
            clear hf; intro a w v24 hf hp0; clear hp; have hp := hp0; clear hp0
            rw [fill3] at hp
            replace hp : Hp _ _ _ (Res.rows (RowK.sl (Ek.int .u8) 5) 59 v24 (vs11 ++ [v19]) (l8c_0 ++ [((List.replicate ((IntKind.i64.wrap (n10 * steps1))).toNat (0 : Int)) : (List Int))]) :: Res.sl Ek.val 59 v21 [v19] :: Res.obj 70 v8 [v10, .int .i64 l8c_1, .int .i64 l8c_2] :: ow) := hp
            refine st_nil hf (th_n ⟨fun _ _ => ⟨_, hp⟩, ?_⟩)
            refine dr_nilV 11 rfl (by kernel_rfl) (by kernel_rfl) (by kernel_rfl) hf (by decide) rfl rfl (hp.ob (i := 2) rfl) ?_
            clear hf; intro a hf
            refine dr_one 12 rfl (by kernel_rfl) ?_
            refine st_fa (o' := 0) hf (by decide) (off := 0) (sz := 1) (by kernel_rfl) (by decide) rfl rfl (hp.ob (i := 2) rfl) rfl ?_
            clear hf; intro a ha hf; clear ha
            refine st_nil hf (th_n ⟨fun _ _ => ⟨_, hp⟩, ?_⟩)
            refine dr_one 13 rfl (by kernel_rfl) ?_
            refine st_stO (us := [v24]) hf hp (i := 2) rfl rfl rfl rfl (cells_sh (hp.rd (i := 0) rfl).shapeVY) (ones_sh (hp.rd (i := 0) rfl).shapeVY) (by kernel_rfl) (Nat.le_of_ble_eq_true rfl) ?_
            clear hf; intro a w hf hp0; clear hp; have hp := hp0; clear hp0
            replace hp : Hp _ _ _ (Res.rows (RowK.sl (Ek.int .u8) 5) 59 v24 (vs11 ++ [v19]) (l8c_0 ++ [((List.replicate ((IntKind.i64.wrap (n10 * steps1))).toNat (0 : Int)) : (List Int))]) :: Res.sl Ek.val 59 v21 [v19] :: Res.obj 70 v8 [v24, .int .i64 l8c_1, .int .i64 l8c_2] :: ow) := hp
            refine st_nil hf (th_n ⟨fun _ _ => ⟨_, hp⟩, ?_⟩)
            refine dr_end (by kernel_rfl) ?_ _
            exact ⟨v19, v21, v24, hf.sub ⟨rfl, rfl, rfl, rfl, rfl, trivial⟩, hp⟩
      rintro a w ⟨v19, v21, v24, hf, hp⟩
      refine ib_n ?_
      refine th_n ?_
      refine wp_reg ?_
      refine st_move hf rfl rfl (by decide) ?_
      clear hf; intro a ha hf; clear ha
      refine st_iadd hf (by decide) rfl rfl rfl ?_
      clear hf; intro a ha hf; clear ha
      refine st_assign hf rfl rfl (by decide) ?_
      clear hf; intro a ha hf; clear ha
      refine st_nil hf ?_
      obtain rfl := Option.some.inj h
      have hp : Hp _ _ _ (Res.rows (RowK.sl (Ek.int .u8) 5) 59 v24 (vs11 ++ [v19]) (l8c_0 ++ [((List.replicate ((IntKind.i64.wrap (n10 * steps1))).toNat (0 : Int)) : (List Int))]) :: Res.obj 70 v8 [v24, .int .i64 l8c_1, .int .i64 l8c_2] :: ow) := Hp.sel (pre := [Res.rows (RowK.sl (Ek.int .u8) 5) 59 v24 (vs11 ++ [v19]) (l8c_0 ++ [((List.replicate ((IntKind.i64.wrap (n10 * steps1))).toNat (0 : Int)) : (List Int))]), Res.sl Ek.val 59 v21 [v19], Res.obj 70 v8 [v24, .int .i64 l8c_1, .int .i64 l8c_2]]) (tail := ow) (rs' := [Res.rows (RowK.sl (Ek.int .u8) 5) 59 v24 (vs11 ++ [v19]) (l8c_0 ++ [((List.replicate ((IntKind.i64.wrap (n10 * steps1))).toNat (0 : Int)) : (List Int))]), Res.obj 70 v8 [v24, .int .i64 l8c_1, .int .i64 l8c_2]]) hp [0, 2] (by decide) (by simp) rfl
      exact rnd_l ⟨_, _, hf.sub ⟨rfl, rfl, rfl, rfl, rfl, trivial⟩, hp⟩
    replace h := ifF h hb
    refine wp_exit ?_
    refine th_e ?_
    obtain rfl := Option.some.inj h
    exact rnd_r (by simp) ⟨rfl, _, _, hf.sub ⟨rfl, trivial⟩, hp⟩
  clear hl hf hp
  intro e a w hne hO
  obtain ⟨rfl, v14, vs15, hf, hp⟩ := hO
  refine ib_same ?_
  refine th_n ?_
  refine wp_seq ?_
  refine wp_reg ?_
  refine st_move hf rfl rfl (by decide) ?_
  clear hf; intro a ha hf; clear ha
  refine st_assign hf rfl rfl (by decide) ?_
  clear hf; intro a ha hf; clear ha
  refine st_assign hf rfl rfl (by decide) ?_
  clear hf; intro a ha hf; clear ha
  refine st_nil hf ?_
  refine th_n ?_
  refine wp_ret ?_
  have hp : Hp _ _ _ (Res.obj 70 v8 [v14, .int .i64 q25.2.1, .int .i64 q25.2.2] :: Res.rows (RowK.sl (Ek.int .u8) 5) 59 v14 vs15 q25.1 :: ow) := Hp.sel (pre := [Res.rows (RowK.sl (Ek.int .u8) 5) 59 v14 vs15 q25.1, Res.obj 70 v8 [v14, .int .i64 q25.2.1, .int .i64 q25.2.2]]) (tail := ow) (rs' := [Res.obj 70 v8 [v14, .int .i64 q25.2.1, .int .i64 q25.2.2], Res.rows (RowK.sl (Ek.int .u8) 5) 59 v14 vs15 q25.1]) hp [1, 0] (by decide) (by simp) rfl
  replace hp : Hp _ _ _ (Res.opt pk70 v8 (some (q25.1, q25.2.1, q25.2.2)) :: ow) := pk70_out (s := (q25.1, q25.2.1, q25.2.2)) (u := (v14, vs15)) hp
  obtain rfl := Option.some.inj h
  exact ⟨rfl, ⟨_, hf.sub ⟨rfl, rfl, trivial⟩, hp⟩⟩

noncomputable def f_weave_ring_push (r0 : LoomS) (pr0 : Int) (bx1 : Int) : Option (Int × LoomS) := (if ((((gt r0.1 pr0).1).length : Int) == (0 : Int)) = true then (some (bx1, r0)) else (if 0 ≤ (gt r0.1 pr0).2 ∧ (gt r0.1 pr0).2 < (((gt r0.1 pr0).1).length : Int) then (if 0 ≤ (gt r0.1 pr0).2 ∧ (gt r0.1 pr0).2 < (((gt r0.1 pr0).1).length : Int) then (if (((gt (r0.1.set (pr0).toNat ((gt r0.1 pr0).1.set ((gt r0.1 pr0).2).toNat bx1, (gt r0.1 pr0).2), r0.2).1 pr0).1).length : Int) ≠ 0 then (some ((gt ((gt r0.1 pr0).1) ((gt r0.1 pr0).2)), ((r0.1.set (pr0).toNat ((gt r0.1 pr0).1.set ((gt r0.1 pr0).2).toNat bx1, (gt r0.1 pr0).2), r0.2).1.set (pr0).toNat ((gt (r0.1.set (pr0).toNat ((gt r0.1 pr0).1.set ((gt r0.1 pr0).2).toNat bx1, (gt r0.1 pr0).2), r0.2).1 pr0).1, (((IntKind.i64.wrap ((gt (r0.1.set (pr0).toNat ((gt r0.1 pr0).1.set ((gt r0.1 pr0).2).toNat bx1, (gt r0.1 pr0).2), r0.2).1 pr0).2 + (1 : Int)))).tmod (((gt (r0.1.set (pr0).toNat ((gt r0.1 pr0).1.set ((gt r0.1 pr0).2).toNat bx1, (gt r0.1 pr0).2), r0.2).1 pr0).1).length : Int))), (r0.1.set (pr0).toNat ((gt r0.1 pr0).1.set ((gt r0.1 pr0).2).toNat bx1, (gt r0.1 pr0).2), r0.2).2))) else none) else none) else none))
theorem f_weave_ring_push_c {S : Nat → Prop} {w0 w : World} {ow : List Res} (vr0 : Value) (r0 : LoomS) (pr0 : Int) (cr0 : 0 ≤ pr0 ∧ pr0 < 64) (bx1 : Int) (hp : Hp S w0 w (Res.loom 75 5 vr0 r0 :: ow)) {r : (Int × LoomS)} (h : f_weave_ring_push r0 pr0 bx1 = some r) :
    Calls Try.prog 43 #[optr vr0 (0 + (pr0).toNat * 2), .int .u8 bx1] w (fun e w' => e = .returned (.int .u8 r.1) ∧ Hp S w0 w' (Res.loom 75 5 vr0 r.2 :: ow)) := by
  unfold f_weave_ring_push at h
  refine enter (n := 48) (args := [optr vr0 (0 + (pr0).toNat * 2), .int .u8 bx1]) Try.func43 rfl rfl (Nat.le_of_ble_eq_true rfl) fun a hf => ?_
  replace hf : Fr 48 a [(0, optr vr0 (0 + (pr0).toNat * 2)), (1, .int .u8 bx1)] := hf
  refine wp_mono (Q := fun e a w => e = .ret ∧ Fr 48 a [(4, .int .u8 r.1)] ∧ Hp S w0 w (Res.loom 75 5 vr0 r.2 :: ow)) ?_ ?_
  rotate_left
  · rintro e a w ⟨rfl, hf, hp⟩
    exact ret1 hf rfl rfl ⟨rfl, hp⟩
  obtain ⟨vs2, hp⟩ := Hp.loomIn hp
  replace hp : Hp _ _ _ (Res.loomX 75 5 vr0 vs2 r0 :: ow) := hp
  refine wp_seq ?_
  refine wp_reg ?_
  refine st_assign hf rfl rfl (by decide) ?_
  clear hf; intro a ha hf; clear ha
  refine st_nil hf ?_
  refine th_n ?_
  refine wp_seq ?_
  refine wp_seq ?_
  refine wp_reg ?_
  refine st_move hf rfl rfl (by decide) ?_
  clear hf; intro a ha hf; clear ha
  refine st_nilO hf (by decide) rfl rfl (hp.shX (i := 0) rfl) ?_
  clear hf; intro a ha hf; clear ha
  refine st_fa (o' := 0 + (pr0).toNat * 2 + 0) hf (by decide) (off := 0) (sz := 1) (by kernel_rfl) (by decide) rfl rfl (hp.shX (i := 0) rfl) rfl ?_
  clear hf; intro a ha hf; clear ha
  refine st_ldP hf (by decide) pl59 rfl rfl ((hp.ldX (i := 0) rfl).ldH cr0) ?_
  clear hf; intro a ha hf; clear ha
  refine st_len (E := (Ek.int .u8)) hf (by decide) Try.underlying59 rfl rfl (RdL.rowP (hp.ldX (i := 0) rfl) cr0) ?_
  clear hf; intro a ha hf; clear ha
  refine st_ieql hf (by decide) rfl rfl rfl ?_
  clear hf; intro a ha hf; clear ha
  refine st_nil hf ?_
  refine th_n ?_
  refine wp_if hf rfl (fun hb => ?_) (fun hb => ?_)
  · replace h := ifT h hb
    refine wp_seq ?_
    refine wp_reg ?_
    refine st_move hf rfl rfl (by decide) ?_
    clear hf; intro a ha hf; clear ha
    refine st_assign hf rfl rfl (by decide) ?_
    clear hf; intro a ha hf; clear ha
    refine st_nil hf ?_
    refine th_n ?_
    refine wp_ret ?_
    refine th_r ?_
    replace hp : Hp _ _ _ (Res.loom 75 5 vr0 r0 :: ow) := Hp.loomOut hp
    obtain rfl := Option.some.inj h
    exact ⟨rfl, ⟨hf.sub ⟨rfl, trivial⟩, hp⟩⟩
  replace h := ifF h hb
  refine wp_skip ?_
  refine th_n ?_
  refine wp_seq ?_
  obtain ⟨S3, hp4, rd5, up6, bk7⟩ := Hp.lendL hp (i := 0) rfl
  have rl8 := rd5
  have rl9 := (RdL.rowP rd5 cr0)
  obtain ⟨hc10, h⟩ := chk h
  refine wp_cutN (fun a w => Fr 48 a [(0, optr vr0 (0 + (pr0).toNat * 2)), (1, .int .u8 bx1), (5, .int .u8 (gt ((gt r0.1 pr0).1) ((gt r0.1 pr0).2)))] ∧ Hp S w0 w (Res.loomX 75 5 vr0 vs2 r0 :: ow)) ?_ ?_
  · have hp := hp4.same (Same.drew w)
    refine dr_begin' (fun a w => Fr 48 a [(0, optr vr0 (0 + (pr0).toNat * 2)), (1, .int .u8 bx1), (5, .int .u8 (gt ((gt r0.1 pr0).1) ((gt r0.1 pr0).2)))] ∧ Hp S w0 w (Res.loomX 75 5 vr0 vs2 r0 :: ow)) (fun w' => ∃ l, Hp S3 w w' l) [] (by kernel_rfl) ?_
    refine dr_take 0 (optr vr0 (0 + (pr0).toNat * 2)) rfl (by kernel_rfl) (by kernel_rfl) (by kernel_rfl) (by kernel_rfl) rfl rfl hf (by decide) rfl (fun w hp => ?_) ⟨_, hp⟩ ?_
    · obtain ⟨_, hp⟩ := hp
      refine st_move hf rfl rfl (by decide) ?_
      clear hf; intro a ha hf
      exact st_nil hf (th_n ⟨ha, rfl⟩)
    clear hf; intro a hf
    refine dr_nilO 1 rfl (by kernel_rfl) (by kernel_rfl) (by kernel_rfl) hf (by decide) rfl rfl rl8.shO ?_
    clear hf; intro a hf
    refine dr_take 2 (optr vr0 (0 + (pr0).toNat * 2 + 0)) rfl (by kernel_rfl) (by kernel_rfl) (by kernel_rfl) (by kernel_rfl) rfl rfl hf (by decide) rfl (fun w hp => ?_) ⟨_, hp⟩ ?_
    · obtain ⟨_, hp⟩ := hp
      refine st_fa (o' := 0 + (pr0).toNat * 2 + 0) hf (by decide) (off := 0) (sz := 1) (by kernel_rfl) (by decide) rfl rfl rl8.shO rfl ?_
      clear hf; intro a ha hf
      exact st_nil hf (th_n ⟨ha, rfl⟩)
    clear hf; intro a hf
    refine dr_take 3 ((gtv vs2 pr0)) rfl (by kernel_rfl) (by kernel_rfl) (by kernel_rfl) (by kernel_rfl) rfl rfl hf (by decide) rfl (fun w hp => ?_) ⟨_, hp⟩ ?_
    · obtain ⟨_, hp⟩ := hp
      refine st_ldP hf (by decide) pl59 rfl rfl ((rl8.obx hp).ldH cr0) ?_
      clear hf; intro a ha hf
      exact st_nil hf (th_n ⟨ha, rfl⟩)
    clear hf; intro a hf
    refine dr_take 4 (optr vr0 (0 + (pr0).toNat * 2)) rfl (by kernel_rfl) (by kernel_rfl) (by kernel_rfl) (by kernel_rfl) rfl rfl hf (by decide) rfl (fun w hp => ?_) ⟨_, hp⟩ ?_
    · obtain ⟨_, hp⟩ := hp
      refine st_move hf rfl rfl (by decide) ?_
      clear hf; intro a ha hf
      exact st_nil hf (th_n ⟨ha, rfl⟩)
    clear hf; intro a hf
    refine dr_nilO 5 rfl (by kernel_rfl) (by kernel_rfl) (by kernel_rfl) hf (by decide) rfl rfl rl8.shO ?_
    clear hf; intro a hf
    refine dr_take 6 (optr vr0 (0 + (pr0).toNat * 2 + 1)) rfl (by kernel_rfl) (by kernel_rfl) (by kernel_rfl) (by kernel_rfl) rfl rfl hf (by decide) rfl (fun w hp => ?_) ⟨_, hp⟩ ?_
    · obtain ⟨_, hp⟩ := hp
      refine st_fa (o' := 0 + (pr0).toNat * 2 + 1) hf (by decide) (off := 1) (sz := 1) (by kernel_rfl) (by decide) rfl rfl rl8.shO rfl ?_
      clear hf; intro a ha hf
      exact st_nil hf (th_n ⟨ha, rfl⟩)
    clear hf; intro a hf
    refine dr_take 7 (.int .i64 ((gt r0.1 pr0).2)) rfl (by kernel_rfl) (by kernel_rfl) (by kernel_rfl) (by kernel_rfl) rfl rfl hf (by decide) rfl (fun w hp => ?_) ⟨_, hp⟩ ?_
    · obtain ⟨_, hp⟩ := hp
      refine st_ldP hf (by decide) pl3 rfl rfl ((rl8.obx hp).ldA cr0) ?_
      clear hf; intro a ha hf
      exact st_nil hf (th_n ⟨ha, rfl⟩)
    clear hf; intro a hf
    refine dr_take 8 (eptr (gtv vs2 pr0) ((gt r0.1 pr0).2) 1) rfl (by kernel_rfl) (by kernel_rfl) (by kernel_rfl) (by kernel_rfl) rfl rfl hf (by decide) rfl (fun w hp => ?_) ⟨_, hp⟩ ?_
    · obtain ⟨_, hp⟩ := hp
      refine st_index (E := (Ek.int .u8)) hf (by decide) Try.underlying59 elt5 rfl rfl rfl ((RdL.rowP rl8 cr0).sl hp) hc10.1 hc10.2 ?_
      clear hf; intro a ha hf
      exact st_nil hf (th_n ⟨ha, rfl⟩)
    clear hf; intro a hf
    refine dr_take 9 (.int .u8 (gt ((gt r0.1 pr0).1) ((gt r0.1 pr0).2))) rfl (by kernel_rfl) (by kernel_rfl) (by kernel_rfl) (by kernel_rfl) rfl rfl hf (by decide) rfl (fun w hp => ?_) ⟨_, hp⟩ ?_
    · obtain ⟨_, hp⟩ := hp
      refine st_ldI hf (by decide) pl5 rfl rfl ((RdL.rowP rl8 cr0).sl hp) hc10.1 hc10.2 ?_
      clear hf; intro a ha hf
      exact st_nil hf (th_n ⟨ha, rfl⟩)
    clear hf; intro a hf
    refine dr_take 10 (.int .u8 (gt ((gt r0.1 pr0).1) ((gt r0.1 pr0).2))) rfl (by kernel_rfl) (by kernel_rfl) (by kernel_rfl) (by kernel_rfl) rfl rfl hf (by decide) rfl (fun w hp => ?_) ⟨_, hp⟩ ?_
    · obtain ⟨_, hp⟩ := hp
      refine st_assign hf rfl rfl (by decide) ?_
      clear hf; intro a ha hf
      exact st_nil hf (th_n ⟨ha, rfl⟩)
    clear hf; intro a hf
    refine dr_end (by kernel_rfl) ?_ _
    have hp := bk7 _ _ hp
    exact ⟨hf.sub ⟨rfl, rfl, rfl, trivial⟩, hp⟩
  rintro a w ⟨hf, hp⟩
  refine th_n ?_
  refine wp_seq ?_
  obtain ⟨S11, hp12, rd13, up14, bk15⟩ := Hp.lendL hp (i := 0) rfl
  have rl16 := rd13
  obtain ⟨hc17, h⟩ := chk h
  refine wp_cutN (fun a w => Fr 48 a [(0, optr vr0 (0 + (pr0).toNat * 2)), (5, .int .u8 (gt ((gt r0.1 pr0).1) ((gt r0.1 pr0).2)))] ∧ Hp S w0 w (Res.loomX 75 5 vr0 vs2 (r0.1.set (pr0).toNat ((gt r0.1 pr0).1.set ((gt r0.1 pr0).2).toNat bx1, (gt r0.1 pr0).2), r0.2) :: ow)) ?_ ?_
  · have hp := hp12.same (Same.drew w)
    refine dr_begin' (fun a w => Fr 48 a [(0, optr vr0 (0 + (pr0).toNat * 2)), (5, .int .u8 (gt ((gt r0.1 pr0).1) ((gt r0.1 pr0).2)))] ∧ Hp S w0 w (Res.loomX 75 5 vr0 vs2 (r0.1.set (pr0).toNat ((gt r0.1 pr0).1.set ((gt r0.1 pr0).2).toNat bx1, (gt r0.1 pr0).2), r0.2) :: ow)) (fun w' => ∃ l, Hp S11 w w' l) [10] (by kernel_rfl) ?_
    refine dr_takeP 0 (optr vr0 (0 + (pr0).toNat * 2)) rfl (by kernel_rfl) (by kernel_rfl) (by kernel_rfl) rfl rfl hf (by decide) rfl (fun w => ?_) ?_
    · skip
      refine st_move hf rfl rfl (by decide) ?_
      clear hf; intro a ha hf
      exact st_nil hf (th_n ⟨ha, rfl⟩)
    clear hf; intro a hf
    refine dr_nilO 1 rfl (by kernel_rfl) (by kernel_rfl) (by kernel_rfl) hf (by decide) rfl rfl rl16.shO ?_
    clear hf; intro a hf
    refine dr_takeP 2 (optr vr0 (0 + (pr0).toNat * 2 + 0)) rfl (by kernel_rfl) (by kernel_rfl) (by kernel_rfl) rfl rfl hf (by decide) rfl (fun w => ?_) ?_
    · skip
      refine st_fa (o' := 0 + (pr0).toNat * 2 + 0) hf (by decide) (off := 0) (sz := 1) (by kernel_rfl) (by decide) rfl rfl rl16.shO rfl ?_
      clear hf; intro a ha hf
      exact st_nil hf (th_n ⟨ha, rfl⟩)
    clear hf; intro a hf
    refine dr_take2 3 ((gtv vs2 pr0)) rfl (by kernel_rfl) (by kernel_rfl) (by kernel_rfl) (by kernel_rfl) (by kernel_rfl) rfl rfl hf (by decide) rfl (fun w hp => ?_) ⟨_, hp⟩ ?_
    · obtain ⟨_, hp⟩ := hp
      refine st_ldP hf (by decide) pl59 rfl rfl ((rl16.obx hp).ldH cr0) ?_
      clear hf; intro a ha hf
      exact st_nil hf (th_n ⟨ha, rfl⟩)
    clear hf; intro a hf
    refine dr_takeP 4 (optr vr0 (0 + (pr0).toNat * 2)) rfl (by kernel_rfl) (by kernel_rfl) (by kernel_rfl) rfl rfl hf (by decide) rfl (fun w => ?_) ?_
    · skip
      refine st_move hf rfl rfl (by decide) ?_
      clear hf; intro a ha hf
      exact st_nil hf (th_n ⟨ha, rfl⟩)
    clear hf; intro a hf
    refine dr_nilO 5 rfl (by kernel_rfl) (by kernel_rfl) (by kernel_rfl) hf (by decide) rfl rfl rl16.shO ?_
    clear hf; intro a hf
    refine dr_takeP 6 (optr vr0 (0 + (pr0).toNat * 2 + 1)) rfl (by kernel_rfl) (by kernel_rfl) (by kernel_rfl) rfl rfl hf (by decide) rfl (fun w => ?_) ?_
    · skip
      refine st_fa (o' := 0 + (pr0).toNat * 2 + 1) hf (by decide) (off := 1) (sz := 1) (by kernel_rfl) (by decide) rfl rfl rl16.shO rfl ?_
      clear hf; intro a ha hf
      exact st_nil hf (th_n ⟨ha, rfl⟩)
    clear hf; intro a hf
    refine dr_take2 7 (.int .i64 ((gt r0.1 pr0).2)) rfl (by kernel_rfl) (by kernel_rfl) (by kernel_rfl) (by kernel_rfl) (by kernel_rfl) rfl rfl hf (by decide) rfl (fun w hp => ?_) ⟨_, hp⟩ ?_
    · obtain ⟨_, hp⟩ := hp
      refine st_ldP hf (by decide) pl3 rfl rfl ((rl16.obx hp).ldA cr0) ?_
      clear hf; intro a ha hf
      exact st_nil hf (th_n ⟨ha, rfl⟩)
    clear hf; intro a hf
    refine dr_takeP 8 (.int .u8 bx1) rfl (by kernel_rfl) (by kernel_rfl) (by kernel_rfl) rfl rfl hf (by decide) rfl (fun w => ?_) ?_
    · skip
      refine st_move hf rfl rfl (by decide) ?_
      clear hf; intro a ha hf
      exact st_nil hf (th_n ⟨ha, rfl⟩)
    clear hf; intro a hf
    refine dr_takeP 9 (eptr (gtv vs2 pr0) ((gt r0.1 pr0).2) 1) rfl (by kernel_rfl) (by kernel_rfl) (by kernel_rfl) rfl rfl hf (by decide) rfl (fun w => ?_) ?_
    · skip
      refine st_index (E := (Ek.int .u8)) hf (by decide) Try.underlying59 elt5 rfl rfl rfl (RdL.rowP rl16 cr0).any hc17.1 hc17.2 ?_
      clear hf; intro a ha hf
      exact st_nil hf (th_n ⟨ha, rfl⟩)
    clear hf; intro a hf
    have hp := bk15 _ _ hp
    refine dr_one 10 rfl (by kernel_rfl) ?_
    refine st_loomByte (j := pr0) (i := (gt r0.1 pr0).2) hf elt5 hp rfl cr0 rfl rfl hc17.1 hc17.2 ?_
    clear hf; intro a w hf hp0; clear hp; have hp := hp0; clear hp0
    replace hp : Hp _ _ _ (Res.loomX 75 5 vr0 vs2 (r0.1.set (pr0).toNat ((gt r0.1 pr0).1.set ((gt r0.1 pr0).2).toNat bx1, (gt r0.1 pr0).2), r0.2) :: ow) := hp
    refine st_nil hf (th_n ⟨fun hn => absurd hn (by decide), ?_⟩)
    refine dr_end (by kernel_rfl) ?_ _
    exact ⟨hf.sub ⟨rfl, rfl, trivial⟩, hp⟩
  rintro a w ⟨hf, hp⟩
  refine th_n ?_
  refine wp_seq ?_
  obtain ⟨S18, hp19, rd20, up21, bk22⟩ := Hp.lendL hp (i := 0) rfl
  have rl23 := rd20
  obtain ⟨hc24, h⟩ := chk h
  refine wp_cutN (fun a w => Fr 48 a [(0, optr vr0 (0 + (pr0).toNat * 2)), (5, .int .u8 (gt ((gt r0.1 pr0).1) ((gt r0.1 pr0).2)))] ∧ Hp S w0 w (Res.loomX 75 5 vr0 vs2 ((r0.1.set (pr0).toNat ((gt r0.1 pr0).1.set ((gt r0.1 pr0).2).toNat bx1, (gt r0.1 pr0).2), r0.2).1.set (pr0).toNat ((gt (r0.1.set (pr0).toNat ((gt r0.1 pr0).1.set ((gt r0.1 pr0).2).toNat bx1, (gt r0.1 pr0).2), r0.2).1 pr0).1, (((IntKind.i64.wrap ((gt (r0.1.set (pr0).toNat ((gt r0.1 pr0).1.set ((gt r0.1 pr0).2).toNat bx1, (gt r0.1 pr0).2), r0.2).1 pr0).2 + (1 : Int)))).tmod (((gt (r0.1.set (pr0).toNat ((gt r0.1 pr0).1.set ((gt r0.1 pr0).2).toNat bx1, (gt r0.1 pr0).2), r0.2).1 pr0).1).length : Int))), (r0.1.set (pr0).toNat ((gt r0.1 pr0).1.set ((gt r0.1 pr0).2).toNat bx1, (gt r0.1 pr0).2), r0.2).2) :: ow)) ?_ ?_
  · have hp := hp19.same (Same.drew w)
    refine dr_begin' (fun a w => Fr 48 a [(0, optr vr0 (0 + (pr0).toNat * 2)), (5, .int .u8 (gt ((gt r0.1 pr0).1) ((gt r0.1 pr0).2)))] ∧ Hp S w0 w (Res.loomX 75 5 vr0 vs2 ((r0.1.set (pr0).toNat ((gt r0.1 pr0).1.set ((gt r0.1 pr0).2).toNat bx1, (gt r0.1 pr0).2), r0.2).1.set (pr0).toNat ((gt (r0.1.set (pr0).toNat ((gt r0.1 pr0).1.set ((gt r0.1 pr0).2).toNat bx1, (gt r0.1 pr0).2), r0.2).1 pr0).1, (((IntKind.i64.wrap ((gt (r0.1.set (pr0).toNat ((gt r0.1 pr0).1.set ((gt r0.1 pr0).2).toNat bx1, (gt r0.1 pr0).2), r0.2).1 pr0).2 + (1 : Int)))).tmod (((gt (r0.1.set (pr0).toNat ((gt r0.1 pr0).1.set ((gt r0.1 pr0).2).toNat bx1, (gt r0.1 pr0).2), r0.2).1 pr0).1).length : Int))), (r0.1.set (pr0).toNat ((gt r0.1 pr0).1.set ((gt r0.1 pr0).2).toNat bx1, (gt r0.1 pr0).2), r0.2).2) :: ow)) (fun w' => ∃ l, Hp S18 w w' l) [14] (by kernel_rfl) ?_
    refine dr_takeP 0 (optr vr0 (0 + (pr0).toNat * 2)) rfl (by kernel_rfl) (by kernel_rfl) (by kernel_rfl) rfl rfl hf (by decide) rfl (fun w => ?_) ?_
    · skip
      refine st_move hf rfl rfl (by decide) ?_
      clear hf; intro a ha hf
      exact st_nil hf (th_n ⟨ha, rfl⟩)
    clear hf; intro a hf
    refine dr_takeP 1 (optr vr0 (0 + (pr0).toNat * 2)) rfl (by kernel_rfl) (by kernel_rfl) (by kernel_rfl) rfl rfl hf (by decide) rfl (fun w => ?_) ?_
    · skip
      refine st_move hf rfl rfl (by decide) ?_
      clear hf; intro a ha hf
      exact st_nil hf (th_n ⟨ha, rfl⟩)
    clear hf; intro a hf
    refine dr_nilO 2 rfl (by kernel_rfl) (by kernel_rfl) (by kernel_rfl) hf (by decide) rfl rfl rl23.shO ?_
    clear hf; intro a hf
    refine dr_takeP 3 (optr vr0 (0 + (pr0).toNat * 2 + 1)) rfl (by kernel_rfl) (by kernel_rfl) (by kernel_rfl) rfl rfl hf (by decide) rfl (fun w => ?_) ?_
    · skip
      refine st_fa (o' := 0 + (pr0).toNat * 2 + 1) hf (by decide) (off := 1) (sz := 1) (by kernel_rfl) (by decide) rfl rfl rl23.shO rfl ?_
      clear hf; intro a ha hf
      exact st_nil hf (th_n ⟨ha, rfl⟩)
    clear hf; intro a hf
    refine dr_take2 4 (.int .i64 ((gt (r0.1.set (pr0).toNat ((gt r0.1 pr0).1.set ((gt r0.1 pr0).2).toNat bx1, (gt r0.1 pr0).2), r0.2).1 pr0).2)) rfl (by kernel_rfl) (by kernel_rfl) (by kernel_rfl) (by kernel_rfl) (by kernel_rfl) rfl rfl hf (by decide) rfl (fun w hp => ?_) ⟨_, hp⟩ ?_
    · obtain ⟨_, hp⟩ := hp
      refine st_ldP hf (by decide) pl3 rfl rfl ((rl23.obx hp).ldA cr0) ?_
      clear hf; intro a ha hf
      exact st_nil hf (th_n ⟨ha, rfl⟩)
    clear hf; intro a hf
    refine dr_takeP 5 (.int .i64 (IntKind.i64.wrap ((gt (r0.1.set (pr0).toNat ((gt r0.1 pr0).1.set ((gt r0.1 pr0).2).toNat bx1, (gt r0.1 pr0).2), r0.2).1 pr0).2 + (1 : Int)))) rfl (by kernel_rfl) (by kernel_rfl) (by kernel_rfl) rfl rfl hf (by decide) rfl (fun w => ?_) ?_
    · skip
      refine st_iadd hf (by decide) rfl rfl rfl ?_
      clear hf; intro a ha hf
      exact st_nil hf (th_n ⟨ha, rfl⟩)
    clear hf; intro a hf
    refine dr_takeP 6 (optr vr0 (0 + (pr0).toNat * 2)) rfl (by kernel_rfl) (by kernel_rfl) (by kernel_rfl) rfl rfl hf (by decide) rfl (fun w => ?_) ?_
    · skip
      refine st_move hf rfl rfl (by decide) ?_
      clear hf; intro a ha hf
      exact st_nil hf (th_n ⟨ha, rfl⟩)
    clear hf; intro a hf
    refine dr_nilO 7 rfl (by kernel_rfl) (by kernel_rfl) (by kernel_rfl) hf (by decide) rfl rfl rl23.shO ?_
    clear hf; intro a hf
    refine dr_takeP 8 (optr vr0 (0 + (pr0).toNat * 2 + 0)) rfl (by kernel_rfl) (by kernel_rfl) (by kernel_rfl) rfl rfl hf (by decide) rfl (fun w => ?_) ?_
    · skip
      refine st_fa (o' := 0 + (pr0).toNat * 2 + 0) hf (by decide) (off := 0) (sz := 1) (by kernel_rfl) (by decide) rfl rfl rl23.shO rfl ?_
      clear hf; intro a ha hf
      exact st_nil hf (th_n ⟨ha, rfl⟩)
    clear hf; intro a hf
    refine dr_take2 9 ((gtv vs2 pr0)) rfl (by kernel_rfl) (by kernel_rfl) (by kernel_rfl) (by kernel_rfl) (by kernel_rfl) rfl rfl hf (by decide) rfl (fun w hp => ?_) ⟨_, hp⟩ ?_
    · obtain ⟨_, hp⟩ := hp
      refine st_ldP hf (by decide) pl59 rfl rfl ((rl23.obx hp).ldH cr0) ?_
      clear hf; intro a ha hf
      exact st_nil hf (th_n ⟨ha, rfl⟩)
    clear hf; intro a hf
    refine dr_takeP 10 (.int .i64 (((gt (r0.1.set (pr0).toNat ((gt r0.1 pr0).1.set ((gt r0.1 pr0).2).toNat bx1, (gt r0.1 pr0).2), r0.2).1 pr0).1).length : Int)) rfl (by kernel_rfl) (by kernel_rfl) (by kernel_rfl) rfl rfl hf (by decide) rfl (fun w => ?_) ?_
    · skip
      refine st_len (E := (Ek.int .u8)) hf (by decide) Try.underlying59 rfl rfl (RdL.rowP rl23 cr0).any ?_
      clear hf; intro a ha hf
      exact st_nil hf (th_n ⟨ha, rfl⟩)
    clear hf; intro a hf
    refine dr_takeP 11 (.int .i64 (((IntKind.i64.wrap ((gt (r0.1.set (pr0).toNat ((gt r0.1 pr0).1.set ((gt r0.1 pr0).2).toNat bx1, (gt r0.1 pr0).2), r0.2).1 pr0).2 + (1 : Int)))).tmod (((gt (r0.1.set (pr0).toNat ((gt r0.1 pr0).1.set ((gt r0.1 pr0).2).toNat bx1, (gt r0.1 pr0).2), r0.2).1 pr0).1).length : Int))) rfl (by kernel_rfl) (by kernel_rfl) (by kernel_rfl) rfl rfl hf (by decide) rfl (fun w => ?_) ?_
    · skip
      refine st_irem hf (by decide) rfl rfl rfl hc24 ?_
      clear hf; intro a ha hf
      exact st_nil hf (th_n ⟨ha, rfl⟩)
    clear hf; intro a hf
    refine dr_nilO 12 rfl (by kernel_rfl) (by kernel_rfl) (by kernel_rfl) hf (by decide) rfl rfl rl23.shO ?_
    clear hf; intro a hf
    refine dr_takeP 13 (optr vr0 (0 + (pr0).toNat * 2 + 1)) rfl (by kernel_rfl) (by kernel_rfl) (by kernel_rfl) rfl rfl hf (by decide) rfl (fun w => ?_) ?_
    · skip
      refine st_fa (o' := 0 + (pr0).toNat * 2 + 1) hf (by decide) (off := 1) (sz := 1) (by kernel_rfl) (by decide) rfl rfl rl23.shO rfl ?_
      clear hf; intro a ha hf
      exact st_nil hf (th_n ⟨ha, rfl⟩)
    clear hf; intro a hf
    have hp := bk22 _ _ hp
    refine dr_one 14 rfl (by kernel_rfl) ?_
    refine st_loomAt (j := pr0) hf hp (by kernel_rfl) rfl cr0 rfl rfl ?_
    clear hf; intro a w hf hp0; clear hp; have hp := hp0; clear hp0
    replace hp : Hp _ _ _ (Res.loomX 75 5 vr0 vs2 ((r0.1.set (pr0).toNat ((gt r0.1 pr0).1.set ((gt r0.1 pr0).2).toNat bx1, (gt r0.1 pr0).2), r0.2).1.set (pr0).toNat ((gt (r0.1.set (pr0).toNat ((gt r0.1 pr0).1.set ((gt r0.1 pr0).2).toNat bx1, (gt r0.1 pr0).2), r0.2).1 pr0).1, (((IntKind.i64.wrap ((gt (r0.1.set (pr0).toNat ((gt r0.1 pr0).1.set ((gt r0.1 pr0).2).toNat bx1, (gt r0.1 pr0).2), r0.2).1 pr0).2 + (1 : Int)))).tmod (((gt (r0.1.set (pr0).toNat ((gt r0.1 pr0).1.set ((gt r0.1 pr0).2).toNat bx1, (gt r0.1 pr0).2), r0.2).1 pr0).1).length : Int))), (r0.1.set (pr0).toNat ((gt r0.1 pr0).1.set ((gt r0.1 pr0).2).toNat bx1, (gt r0.1 pr0).2), r0.2).2) :: ow) := hp
    refine st_nil hf (th_n ⟨fun hn => absurd hn (by decide), ?_⟩)
    refine dr_end (by kernel_rfl) ?_ _
    exact ⟨hf.sub ⟨rfl, rfl, trivial⟩, hp⟩
  rintro a w ⟨hf, hp⟩
  refine th_n ?_
  refine wp_seq ?_
  refine wp_reg ?_
  refine st_move hf rfl rfl (by decide) ?_
  clear hf; intro a ha hf; clear ha
  refine st_assign hf rfl rfl (by decide) ?_
  clear hf; intro a ha hf; clear ha
  refine st_nil hf ?_
  refine th_n ?_
  refine wp_ret ?_
  replace hp : Hp _ _ _ (Res.loom 75 5 vr0 ((r0.1.set (pr0).toNat ((gt r0.1 pr0).1.set ((gt r0.1 pr0).2).toNat bx1, (gt r0.1 pr0).2), r0.2).1.set (pr0).toNat ((gt (r0.1.set (pr0).toNat ((gt r0.1 pr0).1.set ((gt r0.1 pr0).2).toNat bx1, (gt r0.1 pr0).2), r0.2).1 pr0).1, (((IntKind.i64.wrap ((gt (r0.1.set (pr0).toNat ((gt r0.1 pr0).1.set ((gt r0.1 pr0).2).toNat bx1, (gt r0.1 pr0).2), r0.2).1 pr0).2 + (1 : Int)))).tmod (((gt (r0.1.set (pr0).toNat ((gt r0.1 pr0).1.set ((gt r0.1 pr0).2).toNat bx1, (gt r0.1 pr0).2), r0.2).1 pr0).1).length : Int))), (r0.1.set (pr0).toNat ((gt r0.1 pr0).1.set ((gt r0.1 pr0).2).toNat bx1, (gt r0.1 pr0).2), r0.2).2) :: ow) := Hp.loomOut hp
  obtain rfl := Option.some.inj h
  exact ⟨rfl, ⟨hf.sub ⟨rfl, trivial⟩, hp⟩⟩

noncomputable def f_weave_Loom_Push (l0 : (Option LoomS)) (bx1 : Int) : Option (Int × Int × (Option LoomS)) := (if ((l0).isNone) = true then (some ((0 : Int), (2 : Int), l0)) else ((l0).bind fun s2 => (if 0 ≤ s2.2.2.2 ∧ s2.2.2.2 < (64 : Int) then ((f_weave_ring_push s2 s2.2.2.2 bx1).bind fun q12 => (if q12.2.2.1 ≠ 0 then (some (q12.1, (0 : Int), (some (q12.2.1, q12.2.2.1, q12.2.2.2.1, (((IntKind.i64.wrap (q12.2.2.2.2 + (1 : Int)))).tmod q12.2.2.1))))) else none)) else none)))
theorem f_weave_Loom_Push_c {S : Nat → Prop} {w0 w : World} {ow : List Res} (vl0 : Value) (l0 : Option LoomS) (bx1 : Int) (hp : Hp S w0 w (Res.opt (LoomK 75 5) vl0 l0 :: ow)) {r : (Int × Int × (Option LoomS))} (h : f_weave_Loom_Push l0 bx1 = some r) :
    Calls Try.prog 30 #[vl0, .int .u8 bx1] w (fun e w' => e = .returned (.tuple #[.int .u8 r.1, .int .i64 r.2.1]) ∧ Hp S w0 w' (Res.opt (LoomK 75 5) vl0 r.2.2 :: ow)) := by
  unfold f_weave_Loom_Push at h
  refine enter (n := 33) (args := [vl0, .int .u8 bx1]) Try.func30 rfl rfl (Nat.le_of_ble_eq_true rfl) fun a hf => ?_
  replace hf : Fr 33 a [(0, vl0), (1, .int .u8 bx1)] := hf
  refine wp_mono (Q := fun e a w => e = .ret ∧ Fr 33 a [(4, .int .u8 r.1), (5, .int .i64 r.2.1)] ∧ Hp S w0 w (Res.opt (LoomK 75 5) vl0 r.2.2 :: ow)) ?_ ?_
  rotate_left
  · rintro e a w ⟨rfl, hf, hp⟩
    exact ret2 hf rfl rfl rfl ⟨rfl, hp⟩
  refine wp_seq ?_
  refine wp_reg ?_
  refine st_assign hf rfl rfl (by decide) ?_
  clear hf; intro a ha hf; clear ha
  refine st_assign hf rfl rfl (by decide) ?_
  clear hf; intro a ha hf; clear ha
  refine st_nil hf ?_
  refine th_n ?_
  refine wp_seq ?_
  refine wp_seq ?_
  refine wp_reg ?_
  refine st_move hf rfl rfl (by decide) ?_
  clear hf; intro a ha hf; clear ha
  refine st_peql hf (by decide) Try.underlying45 rfl rfl rfl (hp.nilB (i := 0) rfl) ?_
  clear hf; intro a ha hf; clear ha
  refine st_nil hf ?_
  refine th_n ?_
  refine wp_if hf rfl (fun hb => ?_) (fun hb => ?_)
  · replace h := ifT h hb
    refine wp_seq ?_
    refine wp_reg ?_
    refine st_assign hf rfl rfl (by decide) ?_
    clear hf; intro a ha hf; clear ha
    refine st_assign hf rfl rfl (by decide) ?_
    clear hf; intro a ha hf; clear ha
    refine st_nil hf ?_
    refine th_n ?_
    refine wp_ret ?_
    refine th_r ?_
    obtain rfl := Option.some.inj h
    exact ⟨rfl, ⟨hf.sub ⟨rfl, rfl, trivial⟩, hp⟩⟩
  replace h := ifF h hb
  obtain ⟨s2, hs3, h⟩ := bnd h
  replace hp : Hp _ _ _ (Res.loom 75 5 vl0 s2 :: ow) := hp.optSome hs3
  obtain ⟨vs4, hp⟩ := Hp.loomIn hp
  replace hp : Hp _ _ _ (Res.loomX 75 5 vl0 vs4 s2 :: ow) := hp
  refine wp_skip ?_
  refine th_n ?_
  refine wp_seq ?_
  obtain ⟨S5, hp6, rd7, up8, bk9⟩ := Hp.lendL hp (i := 0) rfl
  have rl10 := rd7
  obtain ⟨hc11, h⟩ := chk h
  obtain ⟨q12, hcall13, h⟩ := bnd h
  refine wp_cutN (fun a w => ∃ (vs15 : List Value), Fr 33 a [(0, vl0), (6, .int .u8 q12.1)] ∧ Hp S w0 w (Res.loomX 75 5 vl0 vs15 q12.2 :: ow)) ?_ ?_
  · have hp := hp6.same (Same.drew w)
    refine dr_begin' (fun a w => ∃ (vs15 : List Value), Fr 33 a [(0, vl0), (6, .int .u8 q12.1)] ∧ Hp S w0 w (Res.loomX 75 5 vl0 vs15 q12.2 :: ow)) (fun w' => ∃ l, Hp S5 w w' l) [9] (by kernel_rfl) ?_
    refine dr_takeP 0 (vl0) rfl (by kernel_rfl) (by kernel_rfl) (by kernel_rfl) rfl rfl hf (by decide) rfl (fun w => ?_) ?_
    · skip
      refine st_move hf rfl rfl (by decide) ?_
      clear hf; intro a ha hf
      exact st_nil hf (th_n ⟨ha, rfl⟩)
    clear hf; intro a hf
    refine dr_takeP 1 (vl0) rfl (by kernel_rfl) (by kernel_rfl) (by kernel_rfl) rfl rfl hf (by decide) rfl (fun w => ?_) ?_
    · skip
      refine st_move hf rfl rfl (by decide) ?_
      clear hf; intro a ha hf
      exact st_nil hf (th_n ⟨ha, rfl⟩)
    clear hf; intro a hf
    refine dr_nilV 2 rfl (by kernel_rfl) (by kernel_rfl) (by kernel_rfl) hf (by decide) rfl rfl rl10.shO ?_
    clear hf; intro a hf
    refine dr_takeP 3 (optr vl0 130) rfl (by kernel_rfl) (by kernel_rfl) (by kernel_rfl) rfl rfl hf (by decide) rfl (fun w => ?_) ?_
    · skip
      refine st_fa (o' := 130) hf (by decide) (off := 130) (sz := 1) (by kernel_rfl) (by decide) rfl rfl rl10.shO rfl ?_
      clear hf; intro a ha hf
      exact st_nil hf (th_n ⟨ha, rfl⟩)
    clear hf; intro a hf
    refine dr_take2 4 (.int .i64 s2.2.2.2) rfl (by kernel_rfl) (by kernel_rfl) (by kernel_rfl) (by kernel_rfl) (by kernel_rfl) rfl rfl hf (by decide) rfl (fun w hp => ?_) ⟨_, hp⟩ ?_
    · obtain ⟨_, hp⟩ := hp
      refine st_ldP hf (by decide) pl3 rfl rfl (rl10.obx hp).ld3 ?_
      clear hf; intro a ha hf
      exact st_nil hf (th_n ⟨ha, rfl⟩)
    clear hf; intro a hf
    refine dr_nilV 5 rfl (by kernel_rfl) (by kernel_rfl) (by kernel_rfl) hf (by decide) rfl rfl rl10.shO ?_
    clear hf; intro a hf
    refine dr_takeP 6 (optr vl0 0) rfl (by kernel_rfl) (by kernel_rfl) (by kernel_rfl) rfl rfl hf (by decide) rfl (fun w => ?_) ?_
    · skip
      refine st_fa (o' := 0) hf (by decide) (off := 0) (sz := 128) (by kernel_rfl) (by decide) rfl rfl rl10.shO rfl ?_
      clear hf; intro a ha hf
      exact st_nil hf (th_n ⟨ha, rfl⟩)
    clear hf; intro a hf
    refine dr_takeP 7 (optr vl0 (0 + (s2.2.2.2).toNat * 2)) rfl (by kernel_rfl) (by kernel_rfl) (by kernel_rfl) rfl rfl hf (by decide) rfl (fun w => ?_) ?_
    · skip
      refine st_ia (o' := 0 + (s2.2.2.2).toNat * 2) hf (by decide) Try.underlying73 (sz := 2) (by kernel_rfl) rfl rfl rfl rl10.shO hc11.1 hc11.2 rfl ?_
      clear hf; intro a ha hf
      exact st_nil hf (th_n ⟨ha, rfl⟩)
    clear hf; intro a hf
    refine dr_takeP 8 (.int .u8 bx1) rfl (by kernel_rfl) (by kernel_rfl) (by kernel_rfl) rfl rfl hf (by decide) rfl (fun w => ?_) ?_
    · skip
      refine st_move hf rfl rfl (by decide) ?_
      clear hf; intro a ha hf
      exact st_nil hf (th_n ⟨ha, rfl⟩)
    clear hf; intro a hf
    have hp := bk9 _ _ hp
    refine dr_one 9 rfl (by kernel_rfl) ?_
    replace hp : Hp _ _ _ (Res.loom 75 5 vl0 s2 :: ow) := Hp.loomOut hp
    have hp14 : Hp _ _ _ (Res.loom 75 5 vl0 s2 :: ow) := Hp.sel (pre := [Res.loom 75 5 vl0 s2]) (tail := ow) (rs' := [Res.loom 75 5 vl0 s2]) hp [0] (by decide) (by simp) rfl
    refine st_call hf (by decide) Try.func43 rfl rfl rfl rfl rfl (f_weave_ring_push_c _ _ _ hc11 _ hp14 hcall13) ?_
    rintro _ w ⟨rfl, hp0⟩
    clear hp; have hp := hp0; clear hp0
    replace hp : Hp _ _ _ (Res.loom 75 5 vl0 q12.2 :: ow) := hp
    obtain ⟨vs15, hp⟩ := Hp.loomIn hp
    replace hp : Hp _ _ _ (Res.loomX 75 5 vl0 vs15 q12.2 :: ow) := hp
    refine ⟨_, rfl, ?_⟩
    clear hf; intro a hf
    refine st_nil hf (th_n ⟨fun hn => absurd hn (by decide), ?_⟩)
    refine dr_takeP 10 (.int .u8 q12.1) rfl (by kernel_rfl) (by kernel_rfl) (by kernel_rfl) rfl rfl hf (by decide) rfl (fun w => ?_) ?_
    · skip
      refine st_assign hf rfl rfl (by decide) ?_
      clear hf; intro a ha hf
      exact st_nil hf (th_n ⟨ha, rfl⟩)
    clear hf; intro a hf
    refine dr_end (by kernel_rfl) ?_ _
    exact ⟨vs15, hf.sub ⟨rfl, rfl, trivial⟩, hp⟩
  rintro a w ⟨vs15, hf, hp⟩
  refine th_n ?_
  refine wp_seq ?_
  obtain ⟨S16, hp17, rd18, up19, bk20⟩ := Hp.lendL hp (i := 0) rfl
  have rl21 := rd18
  obtain ⟨hc22, h⟩ := chk h
  refine wp_cutN (fun a w => Fr 33 a [(0, vl0), (6, .int .u8 q12.1)] ∧ Hp S w0 w (Res.loomX 75 5 vl0 vs15 (q12.2.1, q12.2.2.1, q12.2.2.2.1, (((IntKind.i64.wrap (q12.2.2.2.2 + (1 : Int)))).tmod q12.2.2.1)) :: ow)) ?_ ?_
  · have hp := hp17.same (Same.drew w)
    refine dr_begin' (fun a w => Fr 33 a [(0, vl0), (6, .int .u8 q12.1)] ∧ Hp S w0 w (Res.loomX 75 5 vl0 vs15 (q12.2.1, q12.2.2.1, q12.2.2.2.1, (((IntKind.i64.wrap (q12.2.2.2.2 + (1 : Int)))).tmod q12.2.2.1)) :: ow)) (fun w' => ∃ l, Hp S16 w w' l) [13] (by kernel_rfl) ?_
    refine dr_takeP 0 (vl0) rfl (by kernel_rfl) (by kernel_rfl) (by kernel_rfl) rfl rfl hf (by decide) rfl (fun w => ?_) ?_
    · skip
      refine st_move hf rfl rfl (by decide) ?_
      clear hf; intro a ha hf
      exact st_nil hf (th_n ⟨ha, rfl⟩)
    clear hf; intro a hf
    refine dr_takeP 1 (vl0) rfl (by kernel_rfl) (by kernel_rfl) (by kernel_rfl) rfl rfl hf (by decide) rfl (fun w => ?_) ?_
    · skip
      refine st_move hf rfl rfl (by decide) ?_
      clear hf; intro a ha hf
      exact st_nil hf (th_n ⟨ha, rfl⟩)
    clear hf; intro a hf
    refine dr_nilV 2 rfl (by kernel_rfl) (by kernel_rfl) (by kernel_rfl) hf (by decide) rfl rfl rl21.shO ?_
    clear hf; intro a hf
    refine dr_takeP 3 (optr vl0 130) rfl (by kernel_rfl) (by kernel_rfl) (by kernel_rfl) rfl rfl hf (by decide) rfl (fun w => ?_) ?_
    · skip
      refine st_fa (o' := 130) hf (by decide) (off := 130) (sz := 1) (by kernel_rfl) (by decide) rfl rfl rl21.shO rfl ?_
      clear hf; intro a ha hf
      exact st_nil hf (th_n ⟨ha, rfl⟩)
    clear hf; intro a hf
    refine dr_take2 4 (.int .i64 q12.2.2.2.2) rfl (by kernel_rfl) (by kernel_rfl) (by kernel_rfl) (by kernel_rfl) (by kernel_rfl) rfl rfl hf (by decide) rfl (fun w hp => ?_) ⟨_, hp⟩ ?_
    · obtain ⟨_, hp⟩ := hp
      refine st_ldP hf (by decide) pl3 rfl rfl (rl21.obx hp).ld3 ?_
      clear hf; intro a ha hf
      exact st_nil hf (th_n ⟨ha, rfl⟩)
    clear hf; intro a hf
    refine dr_takeP 5 (.int .i64 (IntKind.i64.wrap (q12.2.2.2.2 + (1 : Int)))) rfl (by kernel_rfl) (by kernel_rfl) (by kernel_rfl) rfl rfl hf (by decide) rfl (fun w => ?_) ?_
    · skip
      refine st_iadd hf (by decide) rfl rfl rfl ?_
      clear hf; intro a ha hf
      exact st_nil hf (th_n ⟨ha, rfl⟩)
    clear hf; intro a hf
    refine dr_takeP 6 (vl0) rfl (by kernel_rfl) (by kernel_rfl) (by kernel_rfl) rfl rfl hf (by decide) rfl (fun w => ?_) ?_
    · skip
      refine st_move hf rfl rfl (by decide) ?_
      clear hf; intro a ha hf
      exact st_nil hf (th_n ⟨ha, rfl⟩)
    clear hf; intro a hf
    refine dr_nilV 7 rfl (by kernel_rfl) (by kernel_rfl) (by kernel_rfl) hf (by decide) rfl rfl rl21.shO ?_
    clear hf; intro a hf
    refine dr_takeP 8 (optr vl0 128) rfl (by kernel_rfl) (by kernel_rfl) (by kernel_rfl) rfl rfl hf (by decide) rfl (fun w => ?_) ?_
    · skip
      refine st_fa (o' := 128) hf (by decide) (off := 128) (sz := 1) (by kernel_rfl) (by decide) rfl rfl rl21.shO rfl ?_
      clear hf; intro a ha hf
      exact st_nil hf (th_n ⟨ha, rfl⟩)
    clear hf; intro a hf
    refine dr_take2 9 (.int .i64 q12.2.2.1) rfl (by kernel_rfl) (by kernel_rfl) (by kernel_rfl) (by kernel_rfl) (by kernel_rfl) rfl rfl hf (by decide) rfl (fun w hp => ?_) ⟨_, hp⟩ ?_
    · obtain ⟨_, hp⟩ := hp
      refine st_ldP hf (by decide) pl3 rfl rfl (rl21.obx hp).ld1 ?_
      clear hf; intro a ha hf
      exact st_nil hf (th_n ⟨ha, rfl⟩)
    clear hf; intro a hf
    refine dr_takeP 10 (.int .i64 (((IntKind.i64.wrap (q12.2.2.2.2 + (1 : Int)))).tmod q12.2.2.1)) rfl (by kernel_rfl) (by kernel_rfl) (by kernel_rfl) rfl rfl hf (by decide) rfl (fun w => ?_) ?_
    · skip
      refine st_irem hf (by decide) rfl rfl rfl hc22 ?_
      clear hf; intro a ha hf
      exact st_nil hf (th_n ⟨ha, rfl⟩)
    clear hf; intro a hf
    refine dr_nilV 11 rfl (by kernel_rfl) (by kernel_rfl) (by kernel_rfl) hf (by decide) rfl rfl rl21.shO ?_
    clear hf; intro a hf
    refine dr_takeP 12 (optr vl0 130) rfl (by kernel_rfl) (by kernel_rfl) (by kernel_rfl) rfl rfl hf (by decide) rfl (fun w => ?_) ?_
    · skip
      refine st_fa (o' := 130) hf (by decide) (off := 130) (sz := 1) (by kernel_rfl) (by decide) rfl rfl rl21.shO rfl ?_
      clear hf; intro a ha hf
      exact st_nil hf (th_n ⟨ha, rfl⟩)
    clear hf; intro a hf
    have hp := bk20 _ _ hp
    refine dr_one 13 rfl (by kernel_rfl) ?_
    refine st_loomTurn hf hp (by kernel_rfl) rfl rfl rfl ?_
    clear hf; intro a w hf hp0; clear hp; have hp := hp0; clear hp0
    replace hp : Hp _ _ _ (Res.loomX 75 5 vl0 vs15 (q12.2.1, q12.2.2.1, q12.2.2.2.1, (((IntKind.i64.wrap (q12.2.2.2.2 + (1 : Int)))).tmod q12.2.2.1)) :: ow) := hp
    refine st_nil hf (th_n ⟨fun hn => absurd hn (by decide), ?_⟩)
    refine dr_end (by kernel_rfl) ?_ _
    exact ⟨hf.sub ⟨rfl, rfl, trivial⟩, hp⟩
  rintro a w ⟨hf, hp⟩
  refine th_n ?_
  refine wp_seq ?_
  refine wp_reg ?_
  refine st_move hf rfl rfl (by decide) ?_
  clear hf; intro a ha hf; clear ha
  refine st_assign hf rfl rfl (by decide) ?_
  clear hf; intro a ha hf; clear ha
  refine st_assign hf rfl rfl (by decide) ?_
  clear hf; intro a ha hf; clear ha
  refine st_nil hf ?_
  refine th_n ?_
  refine wp_ret ?_
  replace hp : Hp _ _ _ (Res.opt (LoomK 75 5) vl0 (some (q12.2.1, q12.2.2.1, q12.2.2.2.1, (((IntKind.i64.wrap (q12.2.2.2.2 + (1 : Int)))).tmod q12.2.2.1))) :: ow) := Hp.loomOut hp
  obtain rfl := Option.some.inj h
  exact ⟨rfl, ⟨hf.sub ⟨rfl, rfl, trivial⟩, hp⟩⟩

noncomputable def f_foghornref17_Loom_Push (l0_Rows : (List (List Int))) (l0_Turn : Int) (l0_Steps : Int) (bx1 : Int) : Option (Int × ((List (List Int)) × Int × Int)) := (if (l0_Rows.length : Int) ≠ 0 then (if 0 ≤ l0_Turn ∧ l0_Turn < (l0_Rows.length : Int) then (if (([] : List Int).length + (gt l0_Rows l0_Turn).length) * 1 ≤ 140737488355328 then (if ((([] : List Int) ++ (gt l0_Rows l0_Turn)).length + ([bx1]).length) * 1 ≤ 140737488355328 then (if 0 ≤ (1 : Int) ∧ (1 : Int) ≤ (((([] : List Int) ++ (gt l0_Rows l0_Turn)) ++ [bx1]).length : Int) then (if 0 ≤ l0_Turn ∧ l0_Turn < (l0_Rows.length : Int) then (if 0 ≤ (0 : Int) ∧ (0 : Int) < (((([] : List Int) ++ (gt l0_Rows l0_Turn)) ++ [bx1]).length : Int) then (some ((gt ((([] : List Int) ++ (gt l0_Rows l0_Turn)) ++ [bx1]) (0 : Int)), ((l0_Rows.set (l0_Turn).toNat (((([] : List Int) ++ (gt l0_Rows l0_Turn)) ++ [bx1]).drop (((1 : Int)).toNat))), (((IntKind.i64.wrap (l0_Turn + (1 : Int)))).tmod (l0_Rows.length : Int)), l0_Steps))) else none) else none) else none) else none) else none) else none) else none)
theorem f_foghornref17_Loom_Push_c {S : Nat → Prop} {w0 w : World} {ow : List Res} (vl0_Rows : Value) (sl0_Rows : List Value) (l0_Rows : (List (List Int))) (l0_Turn : Int) (l0_Steps : Int) (ol0 : Value) (bx1 : Int) (hp : Hp S w0 w (Res.rows (RowK.sl (Ek.int .u8) 5) 59 vl0_Rows sl0_Rows l0_Rows :: Res.obj 70 ol0 [vl0_Rows, .int .i64 l0_Turn, .int .i64 l0_Steps] :: ow)) {r : (Int × ((List (List Int)) × Int × Int))} (h : f_foghornref17_Loom_Push l0_Rows l0_Turn l0_Steps bx1 = some r) :
    Calls Try.prog 31 #[ol0, .int .u8 bx1] w (fun e w' => ∃ (u0 : Value) (u1 : List Value), e = .returned (.int .u8 r.1) ∧ Hp S w0 w' (Res.rows (RowK.sl (Ek.int .u8) 5) 59 u0 u1 r.2.1 :: Res.obj 70 ol0 [u0, .int .i64 r.2.2.1, .int .i64 r.2.2.2] :: ow)) := by
  unfold f_foghornref17_Loom_Push at h
  refine enter (n := 45) (args := [ol0, .int .u8 bx1]) Try.func31 rfl rfl (Nat.le_of_ble_eq_true rfl) fun a hf => ?_
  replace hf : Fr 45 a [(0, ol0), (1, .int .u8 bx1)] := hf
  refine wp_mono (Q := fun e a w => e = .ret ∧ ∃ (u0 : Value) (u1 : List Value), Fr 45 a [(4, .int .u8 r.1)] ∧ Hp S w0 w (Res.rows (RowK.sl (Ek.int .u8) 5) 59 u0 u1 r.2.1 :: Res.obj 70 ol0 [u0, .int .i64 r.2.2.1, .int .i64 r.2.2.2] :: ow)) ?_ ?_
  rotate_left
  · rintro e a w ⟨rfl, x0, x1, hf, hp⟩
    exact ret1 hf rfl rfl ⟨x0, x1, rfl, hp⟩
  refine wp_seq ?_
  refine wp_reg ?_
  refine st_assign hf rfl rfl (by decide) ?_
  clear hf; intro a ha hf; clear ha
  refine st_nil hf ?_
  refine th_n ?_
  refine wp_seq ?_
  refine wp_reg ?_
  refine st_move hf rfl rfl (by decide) ?_
  clear hf; intro a ha hf; clear ha
  refine st_nilV hf (by decide) rfl rfl (hp.ob (i := 1) rfl) ?_
  clear hf; intro a ha hf; clear ha
  refine st_fa (o' := 1) hf (by decide) (off := 1) (sz := 1) (by kernel_rfl) (by decide) rfl rfl (hp.ob (i := 1) rfl) rfl ?_
  clear hf; intro a ha hf; clear ha
  refine st_ldO (u := .int .i64 l0_Turn) hf (by decide) pl3 rfl rfl (hp.ob (i := 1) rfl) rfl ?_
  clear hf; intro a ha hf; clear ha
  refine st_assign hf rfl rfl (by decide) ?_
  clear hf; intro a ha hf; clear ha
  refine st_nil hf ?_
  refine th_n ?_
  refine wp_seq ?_
  refine wp_reg ?_
  refine st_move hf rfl rfl (by decide) ?_
  clear hf; intro a ha hf; clear ha
  refine st_move hf rfl rfl (by decide) ?_
  clear hf; intro a ha hf; clear ha
  refine st_iadd hf (by decide) rfl rfl rfl ?_
  clear hf; intro a ha hf; clear ha
  refine st_move hf rfl rfl (by decide) ?_
  clear hf; intro a ha hf; clear ha
  refine st_nilV hf (by decide) rfl rfl (hp.ob (i := 1) rfl) ?_
  clear hf; intro a ha hf; clear ha
  refine st_fa (o' := 0) hf (by decide) (off := 0) (sz := 1) (by kernel_rfl) (by decide) rfl rfl (hp.ob (i := 1) rfl) rfl ?_
  clear hf; intro a ha hf; clear ha
  refine st_ldO (u := vl0_Rows) hf (by decide) pl68 rfl rfl (hp.ob (i := 1) rfl) rfl ?_
  clear hf; intro a ha hf; clear ha
  refine st_lenV hf (by decide) Try.underlying68 rfl rfl (hp.rd (i := 0) rfl).shapeVY ?_
  clear hf; intro a ha hf; clear ha
  obtain ⟨hc3, h⟩ := chk h
  refine st_irem hf (by decide) rfl rfl rfl hc3 ?_
  clear hf; intro a ha hf; clear ha
  refine st_nilV hf (by decide) rfl rfl (hp.ob (i := 1) rfl) ?_
  clear hf; intro a ha hf; clear ha
  refine st_fa (o' := 1) hf (by decide) (off := 1) (sz := 1) (by kernel_rfl) (by decide) rfl rfl (hp.ob (i := 1) rfl) rfl ?_
  clear hf; intro a ha hf; clear ha
  refine st_stO (us := [.int .i64 (((IntKind.i64.wrap (l0_Turn + (1 : Int)))).tmod (l0_Rows.length : Int))]) hf hp (i := 1) rfl rfl rfl rfl rfl (by rfl) (by kernel_rfl) (Nat.le_of_ble_eq_true rfl) ?_
  clear hf; intro a w hf hp0; clear hp; have hp := hp0; clear hp0
  replace hp : Hp _ _ _ (Res.rows (RowK.sl (Ek.int .u8) 5) 59 vl0_Rows sl0_Rows l0_Rows :: Res.obj 70 ol0 [vl0_Rows, .int .i64 (((IntKind.i64.wrap (l0_Turn + (1 : Int)))).tmod (l0_Rows.length : Int)), .int .i64 l0_Steps] :: ow) := hp
  refine st_nil hf ?_
  refine th_n ?_
  refine wp_seq ?_
  refine wp_reg ?_
  refine st_build0 (E := (Ek.int .u8)) hf (by decide) elt5 Try.underlying59 hp rfl ?_
  clear hf; intro a w v4 hf hp0; clear hp; have hp := hp0; clear hp0
  replace hp : Hp _ _ _ (Res.sl (Ek.int .u8) 5 v4 ([] : List Int) :: Res.rows (RowK.sl (Ek.int .u8) 5) 59 vl0_Rows sl0_Rows l0_Rows :: Res.obj 70 ol0 [vl0_Rows, .int .i64 (((IntKind.i64.wrap (l0_Turn + (1 : Int)))).tmod (l0_Rows.length : Int)), .int .i64 l0_Steps] :: ow) := hp
  refine st_move hf rfl rfl (by decide) ?_
  clear hf; intro a ha hf; clear ha
  refine st_nilV hf (by decide) rfl rfl (hp.ob (i := 2) rfl) ?_
  clear hf; intro a ha hf; clear ha
  refine st_fa (o' := 0) hf (by decide) (off := 0) (sz := 1) (by kernel_rfl) (by decide) rfl rfl (hp.ob (i := 2) rfl) rfl ?_
  clear hf; intro a ha hf; clear ha
  refine st_ldO (u := vl0_Rows) hf (by decide) pl68 rfl rfl (hp.ob (i := 2) rfl) rfl ?_
  clear hf; intro a ha hf; clear ha
  refine st_move hf rfl rfl (by decide) ?_
  clear hf; intro a ha hf; clear ha
  obtain ⟨hc6, h⟩ := chk h
  refine st_indexV (E := Ek.val) (m := l0_Rows.length) hf (by decide) Try.underlying68 eltv59 rfl rfl rfl (hp.rd (i := 1) rfl).shapeNY hc6.1 hc6.2 ?_
  clear hf; intro a ha hf; clear ha
  refine st_ldRY hf (by decide) pl59 rfl rfl (hp.rd (i := 1) rfl) hc6.1 hc6.2 ?_
  clear hf; intro a ha hf; clear ha
  obtain ⟨hc7, h⟩ := chk h
  refine st_append (E := (Ek.int .u8)) hf (by decide) elt5 Try.underlying59 (by decide) hp (i := 0) rfl rfl rfl rfl (RdR.rowS (hp.rd (i := 1) rfl) hc6.1 hc6.2) hc7 ?_
  clear hf; intro a w v8 hf hp0; clear hp; have hp := hp0; clear hp0
  replace hp : Hp _ _ _ (Res.sl (Ek.int .u8) 5 v8 (([] : List Int) ++ (gt l0_Rows l0_Turn)) :: Res.rows (RowK.sl (Ek.int .u8) 5) 59 vl0_Rows sl0_Rows l0_Rows :: Res.obj 70 ol0 [vl0_Rows, .int .i64 (((IntKind.i64.wrap (l0_Turn + (1 : Int)))).tmod (l0_Rows.length : Int)), .int .i64 l0_Steps] :: ow) := hp
  refine st_move hf rfl rfl (by decide) ?_
  clear hf; intro a ha hf; clear ha
  refine st_build (E := (Ek.int .u8)) (xs := [bx1]) hf (by decide) elt5 Try.underlying59 hp (vals := #[(0, .int .u8 bx1)]) (cells := #[.int .u8 bx1]) rfl (by simp [hf.ev (x := (Operand.tmp 31)) rfl]) (by decide) (by decide) (z := .int .u8 0) (by kernel_rfl) (by kernel_rfl) rfl (reps_cons (cs := [.int .u8 bx1]) rfl (reps_nil _)) ?_
  clear hf; intro a w v9 hf hp0; clear hp; have hp := hp0; clear hp0
  replace hp : Hp _ _ _ (Res.sl (Ek.int .u8) 5 v9 ([bx1]) :: Res.sl (Ek.int .u8) 5 v8 (([] : List Int) ++ (gt l0_Rows l0_Turn)) :: Res.rows (RowK.sl (Ek.int .u8) 5) 59 vl0_Rows sl0_Rows l0_Rows :: Res.obj 70 ol0 [vl0_Rows, .int .i64 (((IntKind.i64.wrap (l0_Turn + (1 : Int)))).tmod (l0_Rows.length : Int)), .int .i64 l0_Steps] :: ow) := hp
  obtain ⟨hc11, h⟩ := chk h
  refine st_append (E := (Ek.int .u8)) hf (by decide) elt5 Try.underlying59 (by decide) hp (i := 1) rfl rfl rfl rfl (hp.sl (i := 0) rfl) hc11 ?_
  clear hf; intro a w v12 hf hp0; clear hp; have hp := hp0; clear hp0
  replace hp : Hp _ _ _ (Res.sl (Ek.int .u8) 5 v9 ([bx1]) :: Res.sl (Ek.int .u8) 5 v12 ((([] : List Int) ++ (gt l0_Rows l0_Turn)) ++ [bx1]) :: Res.rows (RowK.sl (Ek.int .u8) 5) 59 vl0_Rows sl0_Rows l0_Rows :: Res.obj 70 ol0 [vl0_Rows, .int .i64 (((IntKind.i64.wrap (l0_Turn + (1 : Int)))).tmod (l0_Rows.length : Int)), .int .i64 l0_Steps] :: ow) := hp
  refine st_assign hf rfl rfl (by decide) ?_
  clear hf; intro a ha hf; clear ha
  refine st_nil hf ?_
  refine th_n ?_
  refine wp_seq ?_
  obtain ⟨S13, hp14, rd15, up16, bk17⟩ := Hp.lendO hp (i := 3) rfl
  obtain ⟨S18, hp19, rd20, up21, bk22⟩ := Hp.lendS hp14 (i := 1) rfl
  have rl23 := ((rd15.now hp14).mono up21)
  have rl24 := rd20
  have fx29 := hp.rd (i := 2) rfl
  obtain ⟨hc25, h⟩ := chk h
  have hc26 : ((1 : Int)).toNat ≤ ((([] : List Int) ++ (gt l0_Rows l0_Turn)) ++ [bx1]).length := by omega
  have hc27 : ((([] : List Int) ++ (gt l0_Rows l0_Turn)) ++ [bx1]).length ≤ ((([] : List Int) ++ (gt l0_Rows l0_Turn)) ++ [bx1]).length := by omega
  obtain ⟨hc28, h⟩ := chk h
  refine wp_cutN (fun a w => Fr 45 a [(0, ol0), (6, v12)] ∧ Hp S w0 w (Res.obj 70 ol0 [vl0_Rows, .int .i64 (((IntKind.i64.wrap (l0_Turn + (1 : Int)))).tmod (l0_Rows.length : Int)), .int .i64 l0_Steps] :: Res.sl (Ek.int .u8) 5 v12 ((([] : List Int) ++ (gt l0_Rows l0_Turn)) ++ [bx1]) :: Res.rowsH (RowK.sl (Ek.int .u8) 5) 59 vl0_Rows (sl0_Rows.set (l0_Turn).toNat (GL.cut v12 ((1 : Int)).toNat (((([] : List Int) ++ (gt l0_Rows l0_Turn)) ++ [bx1]).length) 1)) ((l0_Rows.map some).set (l0_Turn).toNat none) :: Res.sl (Ek.int .u8) 5 v9 ([bx1]) :: ow)) ?_ ?_
  · have hp := hp19.same (Same.drew w)
    refine dr_begin' (fun a w => Fr 45 a [(0, ol0), (6, v12)] ∧ Hp S w0 w (Res.obj 70 ol0 [vl0_Rows, .int .i64 (((IntKind.i64.wrap (l0_Turn + (1 : Int)))).tmod (l0_Rows.length : Int)), .int .i64 l0_Steps] :: Res.sl (Ek.int .u8) 5 v12 ((([] : List Int) ++ (gt l0_Rows l0_Turn)) ++ [bx1]) :: Res.rowsH (RowK.sl (Ek.int .u8) 5) 59 vl0_Rows (sl0_Rows.set (l0_Turn).toNat (GL.cut v12 ((1 : Int)).toNat (((([] : List Int) ++ (gt l0_Rows l0_Turn)) ++ [bx1]).length) 1)) ((l0_Rows.map some).set (l0_Turn).toNat none) :: Res.sl (Ek.int .u8) 5 v9 ([bx1]) :: ow)) (fun w' => ∃ l, Hp S18 w w' l) [] (by kernel_rfl) ?_
    refine dr_takeP 0 (ol0) rfl (by kernel_rfl) (by kernel_rfl) (by kernel_rfl) rfl rfl hf (by decide) rfl (fun w => ?_) ?_
    · skip
      refine st_move hf rfl rfl (by decide) ?_
      clear hf; intro a ha hf
      exact st_nil hf (th_n ⟨ha, rfl⟩)
    clear hf; intro a hf
    refine dr_nilV 1 rfl (by kernel_rfl) (by kernel_rfl) (by kernel_rfl) hf (by decide) rfl rfl (rl23.mono fun _ _ => trivial) ?_
    clear hf; intro a hf
    refine dr_takeP 2 (optr ol0 0) rfl (by kernel_rfl) (by kernel_rfl) (by kernel_rfl) rfl rfl hf (by decide) rfl (fun w => ?_) ?_
    · skip
      refine st_fa (o' := 0) hf (by decide) (off := 0) (sz := 1) (by kernel_rfl) (by decide) rfl rfl (rl23.mono fun _ _ => trivial) rfl ?_
      clear hf; intro a ha hf
      exact st_nil hf (th_n ⟨ha, rfl⟩)
    clear hf; intro a hf
    refine dr_take 3 (vl0_Rows) rfl (by kernel_rfl) (by kernel_rfl) (by kernel_rfl) (by kernel_rfl) rfl rfl hf (by decide) rfl (fun w hp => ?_) ⟨_, hp⟩ ?_
    · obtain ⟨_, hp⟩ := hp
      refine st_ldO (u := vl0_Rows) hf (by decide) pl68 rfl rfl (rl23.ob hp) rfl ?_
      clear hf; intro a ha hf
      exact st_nil hf (th_n ⟨ha, rfl⟩)
    clear hf; intro a hf
    refine dr_takeP 4 (.int .i64 l0_Turn) rfl (by kernel_rfl) (by kernel_rfl) (by kernel_rfl) rfl rfl hf (by decide) rfl (fun w => ?_) ?_
    · skip
      refine st_move hf rfl rfl (by decide) ?_
      clear hf; intro a ha hf
      exact st_nil hf (th_n ⟨ha, rfl⟩)
    clear hf; intro a hf
    refine dr_takeP 5 (v12) rfl (by kernel_rfl) (by kernel_rfl) (by kernel_rfl) rfl rfl hf (by decide) rfl (fun w => ?_) ?_
    · skip
      refine st_move hf rfl rfl (by decide) ?_
      clear hf; intro a ha hf
      exact st_nil hf (th_n ⟨ha, rfl⟩)
    clear hf; intro a hf
    refine dr_takeP 6 ((GL.cut v12 ((1 : Int)).toNat (((([] : List Int) ++ (gt l0_Rows l0_Turn)) ++ [bx1]).length) 1)) rfl (by kernel_rfl) (by kernel_rfl) (by kernel_rfl) rfl rfl hf (by decide) rfl (fun w => ?_) ?_
    · skip
      refine st_cutS (E := (Ek.int .u8)) hf (by decide) Try.underlying59 elt5 rfl rfl rl24.any (.inr ⟨_, _, rfl, evI rfl hc25.1⟩) (.inl ⟨rfl, rfl⟩) hc26 hc27 ?_
      clear hf; intro a ha hf
      exact st_nil hf (th_n ⟨ha, rfl⟩)
    clear hf; intro a hf
    refine dr_takeP 7 (eptr vl0_Rows l0_Turn 1) rfl (by kernel_rfl) (by kernel_rfl) (by kernel_rfl) rfl rfl hf (by decide) rfl (fun w => ?_) ?_
    · skip
      refine st_indexV (E := Ek.val) (m := l0_Rows.length) hf (by decide) Try.underlying68 eltv59 rfl rfl rfl fx29.shapeNY hc28.1 hc28.2 ?_
      clear hf; intro a ha hf
      exact st_nil hf (th_n ⟨ha, rfl⟩)
    clear hf; intro a hf
    refine dr_one 8 rfl (by kernel_rfl) ?_
    have hp : Hp _ _ _ (Res.rows (RowK.sl (Ek.int .u8) 5) 59 vl0_Rows sl0_Rows l0_Rows :: Res.sl (Ek.int .u8) 5 v9 ([bx1]) :: ow) := Hp.sel (pre := [Res.sl (Ek.int .u8) 5 v9 ([bx1]), Res.rows (RowK.sl (Ek.int .u8) 5) 59 vl0_Rows sl0_Rows l0_Rows]) (tail := ow) (rs' := [Res.rows (RowK.sl (Ek.int .u8) 5) 59 vl0_Rows sl0_Rows l0_Rows, Res.sl (Ek.int .u8) 5 v9 ([bx1])]) hp [1, 0] (by decide) (by simp) rfl
    refine st_storeH (K := (RowK.sl (Ek.int .u8) 5)) hf eltv59 hp ((RdS.cut rl24 hc26 hc27).sl hp).shapeV rfl rfl rfl hc28.1 (by rw [List.length_map]; exact hc28.2) ?_
    clear hf; intro a w hf hp0; clear hp; have hp := hp0; clear hp0
    replace hp : Hp _ _ _ (Res.rowsH (RowK.sl (Ek.int .u8) 5) 59 vl0_Rows (sl0_Rows.set (l0_Turn).toNat (GL.cut v12 ((1 : Int)).toNat (((([] : List Int) ++ (gt l0_Rows l0_Turn)) ++ [bx1]).length) 1)) ((l0_Rows.map some).set (l0_Turn).toNat none) :: Res.sl (Ek.int .u8) 5 v9 ([bx1]) :: ow) := hp
    refine st_nil hf (th_n ⟨fun _ _ => ⟨_, hp⟩, ?_⟩)
    refine dr_end (by kernel_rfl) ?_ _
    have hp := bk22 _ _ hp
    have hp := bk17 _ _ hp
    exact ⟨hf.sub ⟨rfl, rfl, trivial⟩, hp⟩
  rintro a w ⟨hf, hp⟩
  refine th_n ?_
  refine wp_seq ?_
  refine wp_reg ?_
  refine st_move hf rfl rfl (by decide) ?_
  clear hf; intro a ha hf; clear ha
  obtain ⟨hc30, h⟩ := chk h
  refine st_index (E := (Ek.int .u8)) hf (by decide) Try.underlying59 elt5 rfl rfl rfl (hp.sl (i := 1) rfl) hc30.1 hc30.2 ?_
  clear hf; intro a ha hf; clear ha
  refine st_ldI hf (by decide) pl5 rfl rfl (hp.sl (i := 1) rfl) hc30.1 hc30.2 ?_
  clear hf; intro a ha hf; clear ha
  refine st_assign hf rfl rfl (by decide) ?_
  clear hf; intro a ha hf; clear ha
  refine st_nil hf ?_
  refine th_n ?_
  refine wp_ret ?_
  have hp : Hp _ _ _ (Res.sl (Ek.int .u8) 5 v12 ((([] : List Int) ++ (gt l0_Rows l0_Turn)) ++ [bx1]) :: Res.rowsH (RowK.sl (Ek.int .u8) 5) 59 vl0_Rows (sl0_Rows.set (l0_Turn).toNat (GL.cut v12 ((1 : Int)).toNat (((([] : List Int) ++ (gt l0_Rows l0_Turn)) ++ [bx1]).length) 1)) ((l0_Rows.map some).set (l0_Turn).toNat none) :: Res.obj 70 ol0 [vl0_Rows, .int .i64 (((IntKind.i64.wrap (l0_Turn + (1 : Int)))).tmod (l0_Rows.length : Int)), .int .i64 l0_Steps] :: Res.sl (Ek.int .u8) 5 v9 ([bx1]) :: ow) := Hp.sel (pre := [Res.obj 70 ol0 [vl0_Rows, .int .i64 (((IntKind.i64.wrap (l0_Turn + (1 : Int)))).tmod (l0_Rows.length : Int)), .int .i64 l0_Steps], Res.sl (Ek.int .u8) 5 v12 ((([] : List Int) ++ (gt l0_Rows l0_Turn)) ++ [bx1]), Res.rowsH (RowK.sl (Ek.int .u8) 5) 59 vl0_Rows (sl0_Rows.set (l0_Turn).toNat (GL.cut v12 ((1 : Int)).toNat (((([] : List Int) ++ (gt l0_Rows l0_Turn)) ++ [bx1]).length) 1)) ((l0_Rows.map some).set (l0_Turn).toNat none), Res.sl (Ek.int .u8) 5 v9 ([bx1])]) (tail := ow) (rs' := [Res.sl (Ek.int .u8) 5 v12 ((([] : List Int) ++ (gt l0_Rows l0_Turn)) ++ [bx1]), Res.rowsH (RowK.sl (Ek.int .u8) 5) 59 vl0_Rows (sl0_Rows.set (l0_Turn).toNat (GL.cut v12 ((1 : Int)).toNat (((([] : List Int) ++ (gt l0_Rows l0_Turn)) ++ [bx1]).length) 1)) ((l0_Rows.map some).set (l0_Turn).toNat none), Res.obj 70 ol0 [vl0_Rows, .int .i64 (((IntKind.i64.wrap (l0_Turn + (1 : Int)))).tmod (l0_Rows.length : Int)), .int .i64 l0_Steps], Res.sl (Ek.int .u8) 5 v9 ([bx1])]) hp [1, 2, 0, 3] (by decide) (by simp) rfl
  replace hp : Hp _ _ _ (Res.sl (Ek.int .u8) 5 (GL.cut v12 ((1 : Int)).toNat ((([] : List Int) ++ (gt l0_Rows l0_Turn)) ++ [bx1]).length 1) (((([] : List Int) ++ (gt l0_Rows l0_Turn)) ++ [bx1]).drop (((1 : Int)).toNat)) :: Res.rowsH (RowK.sl (Ek.int .u8) 5) 59 vl0_Rows (sl0_Rows.set (l0_Turn).toNat (GL.cut v12 ((1 : Int)).toNat (((([] : List Int) ++ (gt l0_Rows l0_Turn)) ++ [bx1]).length) 1)) ((l0_Rows.map some).set (l0_Turn).toNat none) :: Res.obj 70 ol0 [vl0_Rows, .int .i64 (((IntKind.i64.wrap (l0_Turn + (1 : Int)))).tmod (l0_Rows.length : Int)), .int .i64 l0_Steps] :: Res.sl (Ek.int .u8) 5 v9 ([bx1]) :: ow) := hp.cutFront (i := 0) rfl hc26
  replace hp : Hp _ _ _ (Res.rows (RowK.sl (Ek.int .u8) 5) 59 vl0_Rows (sl0_Rows.set (l0_Turn).toNat (GL.cut v12 ((1 : Int)).toNat (((([] : List Int) ++ (gt l0_Rows l0_Turn)) ++ [bx1]).length) 1)) (l0_Rows.set (l0_Turn).toNat (((([] : List Int) ++ (gt l0_Rows l0_Turn)) ++ [bx1]).drop (((1 : Int)).toNat))) :: Res.obj 70 ol0 [vl0_Rows, .int .i64 (((IntKind.i64.wrap (l0_Turn + (1 : Int)))).tmod (l0_Rows.length : Int)), .int .i64 l0_Steps] :: Res.sl (Ek.int .u8) 5 v9 ([bx1]) :: ow) := Hp.rowsFill (K := (RowK.sl (Ek.int .u8) 5)) (k := l0_Turn) (X := l0_Rows) hc28.1 hc28.2 hp
  obtain rfl := Option.some.inj h
  have hp : Hp _ _ _ (Res.rows (RowK.sl (Ek.int .u8) 5) 59 vl0_Rows (sl0_Rows.set (l0_Turn).toNat (GL.cut v12 ((1 : Int)).toNat (((([] : List Int) ++ (gt l0_Rows l0_Turn)) ++ [bx1]).length) 1)) (l0_Rows.set (l0_Turn).toNat (((([] : List Int) ++ (gt l0_Rows l0_Turn)) ++ [bx1]).drop (((1 : Int)).toNat))) :: Res.obj 70 ol0 [vl0_Rows, .int .i64 (((IntKind.i64.wrap (l0_Turn + (1 : Int)))).tmod (l0_Rows.length : Int)), .int .i64 l0_Steps] :: ow) := Hp.sel (pre := [Res.rows (RowK.sl (Ek.int .u8) 5) 59 vl0_Rows (sl0_Rows.set (l0_Turn).toNat (GL.cut v12 ((1 : Int)).toNat (((([] : List Int) ++ (gt l0_Rows l0_Turn)) ++ [bx1]).length) 1)) (l0_Rows.set (l0_Turn).toNat (((([] : List Int) ++ (gt l0_Rows l0_Turn)) ++ [bx1]).drop (((1 : Int)).toNat))), Res.obj 70 ol0 [vl0_Rows, .int .i64 (((IntKind.i64.wrap (l0_Turn + (1 : Int)))).tmod (l0_Rows.length : Int)), .int .i64 l0_Steps], Res.sl (Ek.int .u8) 5 v9 ([bx1])]) (tail := ow) (rs' := [Res.rows (RowK.sl (Ek.int .u8) 5) 59 vl0_Rows (sl0_Rows.set (l0_Turn).toNat (GL.cut v12 ((1 : Int)).toNat (((([] : List Int) ++ (gt l0_Rows l0_Turn)) ++ [bx1]).length) 1)) (l0_Rows.set (l0_Turn).toNat (((([] : List Int) ++ (gt l0_Rows l0_Turn)) ++ [bx1]).drop (((1 : Int)).toNat))), Res.obj 70 ol0 [vl0_Rows, .int .i64 (((IntKind.i64.wrap (l0_Turn + (1 : Int)))).tmod (l0_Rows.length : Int)), .int .i64 l0_Steps]]) hp [0, 1] (by decide) (by simp) rfl
  exact ⟨rfl, ⟨_, _, hf.sub ⟨rfl, trivial⟩, hp⟩⟩

noncomputable def f_weave_Loom_Run.s1c (sx1 : ByteArray) (l0 : (Option LoomS)) (out6 : (List Int)) (t24 : Int) : Option (((Option LoomS) × (List Int) × Int) ⊕ ((Option LoomS) × (List Int))) := (if (decide (t24 < ((sbytes sx1).length : Int))) = true then (if 0 ≤ t24 ∧ t24 < ((sbytes sx1).length : Int) then ((f_weave_Loom_Push l0 (gt (sbytes sx1) t24)).bind fun q18 => (if (out6.length + ([q18.1]).length) * 1 ≤ 140737488355328 then (some (Sum.inl (q18.2.2, (out6 ++ [q18.1]), (IntKind.i64.wrap (t24 + (1 : Int)))))) else none)) else none) else (some (Sum.inr (l0, out6))))
noncomputable def f_weave_Loom_Run.s1 (sx1 : ByteArray) (s : ((Option LoomS) × (List Int) × Int)) : Option (((Option LoomS) × (List Int) × Int) ⊕ ((Option LoomS) × (List Int))) := f_weave_Loom_Run.s1c sx1 s.1 s.2.1 s.2.2
noncomputable def f_weave_Loom_Run (l0 : (Option LoomS)) (sx1 : ByteArray) : Option (ByteArray × Int × (Option LoomS)) := (if ((l0).isNone) = true then (some ((ByteArray.mk #[]), (2 : Int), l0)) else ((l0).bind fun s2 => (if (decide ((32768 : Int) < (sx1.size : Int))) = true then (some ((ByteArray.mk #[]), (1 : Int), (some s2))) else (if 0 ≤ (0 : Int) ∧ (0 : Int) ≤ (sx1.size : Int) ∧ (sx1.size : Int) * 1 ≤ 281474976710656 then (if sx1.size ≤ 140737488355328 then ((loop (f_weave_Loom_Run.s1 sx1) ((some s2), (List.replicate ((0 : Int)).toNat (0 : Int)), (0 : Int))).bind (fun q25 => (some ((bstr q25.2), (0 : Int), q25.1)))) else none) else none))))
theorem f_weave_Loom_Run_c {S : Nat → Prop} {w0 w : World} {ow : List Res} (vl0 : Value) (l0 : Option LoomS) (sx1 : ByteArray) (hp : Hp S w0 w (Res.opt (LoomK 75 5) vl0 l0 :: ow)) {r : (ByteArray × Int × (Option LoomS))} (h : f_weave_Loom_Run l0 sx1 = some r) :
    Calls Try.prog 32 #[vl0, .string sx1] w (fun e w' => e = .returned (.tuple #[.string r.1, .int .i64 r.2.1]) ∧ Hp S w0 w' (Res.opt (LoomK 75 5) vl0 r.2.2 :: ow)) := by
  unfold f_weave_Loom_Run at h
  refine enter (n := 41) (args := [vl0, .string sx1]) Try.func32 rfl rfl (Nat.le_of_ble_eq_true rfl) fun a hf => ?_
  replace hf : Fr 41 a [(0, vl0), (1, .string sx1)] := hf
  refine wp_mono (Q := fun e a w => e = .ret ∧ Fr 41 a [(4, .string r.1), (5, .int .i64 r.2.1)] ∧ Hp S w0 w (Res.opt (LoomK 75 5) vl0 r.2.2 :: ow)) ?_ ?_
  rotate_left
  · rintro e a w ⟨rfl, hf, hp⟩
    exact ret2 hf rfl rfl rfl ⟨rfl, hp⟩
  refine wp_seq ?_
  refine wp_reg ?_
  refine st_assign hf rfl rfl (by decide) ?_
  clear hf; intro a ha hf; clear ha
  refine st_assign hf rfl rfl (by decide) ?_
  clear hf; intro a ha hf; clear ha
  refine st_nil hf ?_
  refine th_n ?_
  refine wp_seq ?_
  refine wp_block ?_
  refine wp_seq ?_
  refine wp_reg ?_
  refine st_move hf rfl rfl (by decide) ?_
  clear hf; intro a ha hf; clear ha
  refine st_peql hf (by decide) Try.underlying45 rfl rfl rfl (hp.nilB (i := 0) rfl) ?_
  clear hf; intro a ha hf; clear ha
  refine st_assign hf rfl rfl (by decide) ?_
  clear hf; intro a ha hf; clear ha
  refine st_nil hf ?_
  refine th_n ?_
  refine wp_if hf rfl (fun hb => ?_) (fun hb => ?_)
  · replace h := ifT h hb
    refine wp_seq ?_
    refine wp_reg ?_
    refine st_assign hf rfl rfl (by decide) ?_
    clear hf; intro a ha hf; clear ha
    refine st_assign hf rfl rfl (by decide) ?_
    clear hf; intro a ha hf; clear ha
    refine st_nil hf ?_
    refine th_n ?_
    refine wp_ret ?_
    refine ib_r ?_
    refine th_r ?_
    obtain rfl := Option.some.inj h
    exact ⟨rfl, ⟨hf.sub ⟨rfl, rfl, trivial⟩, hp⟩⟩
  replace h := ifF h hb
  obtain ⟨s2, hs3, h⟩ := bnd h
  replace hp : Hp _ _ _ (Res.loom 75 5 vl0 s2 :: ow) := hp.optSome hs3
  obtain ⟨vs4, hp⟩ := Hp.loomIn hp
  replace hp : Hp _ _ _ (Res.loomX 75 5 vl0 vs4 s2 :: ow) := hp
  refine wp_seq ?_
  refine wp_reg ?_
  refine st_move hf rfl rfl (by decide) ?_
  clear hf; intro a ha hf; clear ha
  refine st_slen hf (by decide) Try.underlying9 rfl rfl ?_
  clear hf; intro a ha hf; clear ha
  refine st_igtr hf (by decide) rfl rfl rfl ?_
  clear hf; intro a ha hf; clear ha
  refine st_assign hf rfl rfl (by decide) ?_
  clear hf; intro a ha hf; clear ha
  refine st_nil hf ?_
  refine th_n ?_
  refine wp_if hf rfl (fun hb => ?_) (fun hb => ?_)
  · replace h := ifT h hb
    refine wp_seq ?_
    refine wp_reg ?_
    refine st_assign hf rfl rfl (by decide) ?_
    clear hf; intro a ha hf; clear ha
    refine st_assign hf rfl rfl (by decide) ?_
    clear hf; intro a ha hf; clear ha
    refine st_nil hf ?_
    refine th_n ?_
    refine wp_ret ?_
    refine ib_r ?_
    refine th_r ?_
    replace hp : Hp _ _ _ (Res.opt (LoomK 75 5) vl0 (some s2) :: ow) := Hp.loomOut hp
    obtain rfl := Option.some.inj h
    exact ⟨rfl, ⟨hf.sub ⟨rfl, rfl, trivial⟩, hp⟩⟩
  replace h := ifF h hb
  refine wp_skip ?_
  refine ib_n ?_
  refine th_n ?_
  refine wp_seq ?_
  refine wp_reg ?_
  refine st_move hf rfl rfl (by decide) ?_
  clear hf; intro a ha hf; clear ha
  refine st_slen hf (by decide) Try.underlying9 rfl rfl ?_
  clear hf; intro a ha hf; clear ha
  obtain ⟨hc5, h⟩ := chk h
  refine st_make (E := (Ek.int .u8)) hf (by decide) elt5 Try.underlying59 (by decide) hp rfl rfl rfl hc5.1 hc5.2.1 hc5.2.2 ?_
  clear hf; intro a w v6 hf hp0; clear hp; have hp := hp0; clear hp0
  replace hp : Hp _ _ _ (Res.sl (Ek.int .u8) 5 v6 (List.replicate ((0 : Int)).toNat (0 : Int)) :: Res.loomX 75 5 vl0 vs4 s2 :: ow) := hp
  refine st_assign hf rfl rfl (by decide) ?_
  clear hf; intro a ha hf; clear ha
  refine st_nil hf ?_
  refine th_n ?_
  refine wp_seq ?_
  refine wp_seq ?_
  refine wp_reg ?_
  refine st_move hf rfl rfl (by decide) ?_
  clear hf; intro a ha hf; clear ha
  obtain ⟨hc9, h⟩ := chk h
  refine st_convSB hf (by decide) Try.underlying9 Try.underlying59 Try.underlying5 hp rfl rfl hc9 ?_
  clear hf; intro a w v8 hf hp0; clear hp; have hp := hp0; clear hp0
  replace hp : Hp _ _ _ (Res.rsl (Ek.int .u8) v8 (sbytes sx1) :: Res.sl (Ek.int .u8) 5 v6 (List.replicate ((0 : Int)).toNat (0 : Int)) :: Res.loomX 75 5 vl0 vs4 s2 :: ow) := hp
  refine st_len (E := (Ek.int .u8)) hf (by decide) Try.underlying59 rfl rfl (hp.rsl (i := 0) rfl) ?_
  clear hf; intro a ha hf; clear ha
  refine st_move hf rfl rfl (by decide) ?_
  clear hf; intro a ha hf; clear ha
  refine st_nil hf ?_
  refine th_n ?_
  refine wp_block ?_
  obtain ⟨q25, hl, h⟩ := bnd h
  have hp : Hp _ _ _ (Res.loomX 75 5 vl0 vs4 s2 :: Res.rsl (Ek.int .u8) v8 (sbytes sx1) :: Res.sl (Ek.int .u8) 5 v6 (List.replicate ((0 : Int)).toNat (0 : Int)) :: ow) := Hp.sel (pre := [Res.rsl (Ek.int .u8) v8 (sbytes sx1), Res.sl (Ek.int .u8) 5 v6 (List.replicate ((0 : Int)).toNat (0 : Int)), Res.loomX 75 5 vl0 vs4 s2]) (tail := ow) (rs' := [Res.loomX 75 5 vl0 vs4 s2, Res.rsl (Ek.int .u8) v8 (sbytes sx1), Res.sl (Ek.int .u8) 5 v6 (List.replicate ((0 : Int)).toNat (0 : Int))]) hp [2, 0, 1] (by decide) (by simp) rfl
  replace hp : Hp _ _ _ (Res.opt (LoomK 75 5) vl0 (some s2) :: Res.rsl (Ek.int .u8) v8 (sbytes sx1) :: Res.sl (Ek.int .u8) 5 v6 (List.replicate ((0 : Int)).toNat (0 : Int)) :: ow) := Hp.loomOut hp
  have hp : Hp _ _ _ (Res.opt (LoomK 75 5) vl0 (some s2) :: Res.sl (Ek.int .u8) 5 v6 (List.replicate ((0 : Int)).toNat (0 : Int)) :: Res.rsl (Ek.int .u8) v8 (sbytes sx1) :: ow) := Hp.sel (pre := [Res.opt (LoomK 75 5) vl0 (some s2), Res.rsl (Ek.int .u8) v8 (sbytes sx1), Res.sl (Ek.int .u8) 5 v6 (List.replicate ((0 : Int)).toNat (0 : Int))]) (tail := ow) (rs' := [Res.opt (LoomK 75 5) vl0 (some s2), Res.sl (Ek.int .u8) 5 v6 (List.replicate ((0 : Int)).toNat (0 : Int)), Res.rsl (Ek.int .u8) v8 (sbytes sx1)]) hp [0, 2, 1] (by decide) (by simp) rfl
  refine wp_loop_pure (f := (f_weave_Loom_Run.s1 sx1)) (s := ((some s2), (List.replicate ((0 : Int)).toNat (0 : Int)), (0 : Int))) (fun s a w => ∃ (v12 : Value), Fr 41 a [(0, vl0), (6, v12), (22, v8), (23, .int .i64 ((sbytes sx1).length : Int)), (24, .int .i64 s.2.2)] ∧ Hp S w0 w (Res.opt (LoomK 75 5) vl0 s.1 :: Res.sl (Ek.int .u8) 5 v12 s.2.1 :: Res.rsl (Ek.int .u8) v8 (sbytes sx1) :: ow)) (fun q e a w => e = .exit 1 ∧ ∃ (v15 : Value), Fr 41 a [(0, vl0), (6, v15)] ∧ Hp S w0 w (Res.opt (LoomK 75 5) vl0 q.1 :: Res.sl (Ek.int .u8) 5 v15 q.2 :: ow)) ?_ hl ⟨_, hf.sub ⟨rfl, rfl, rfl, rfl, rfl, trivial⟩, hp⟩ ?_
  · clear hl hf hp
    intro s x a w h hI
    obtain ⟨l0, out6, t24⟩ := s
    obtain ⟨v12, hf, hp⟩ : ∃ (v12 : Value), Fr 41 a [(0, vl0), (6, v12), (22, v8), (23, .int .i64 ((sbytes sx1).length : Int)), (24, .int .i64 t24)] ∧ Hp S w0 w (Res.opt (LoomK 75 5) vl0 l0 :: Res.sl (Ek.int .u8) 5 v12 out6 :: Res.rsl (Ek.int .u8) v8 (sbytes sx1) :: ow) := hI
    replace h : f_weave_Loom_Run.s1c sx1 l0 out6 t24 = some x := h
    unfold f_weave_Loom_Run.s1c at h
    refine wp_seq ?_
    refine wp_reg ?_
    refine st_ilss hf (by decide) rfl rfl rfl ?_
    clear hf; intro a ha hf; clear ha
    refine st_nil hf ?_
    refine th_n ?_
    refine wp_seq ?_
    refine wp_if hf rfl (fun hb => ?_) (fun hb => ?_)
    · replace h := ifT h hb
      refine wp_skip ?_
      refine th_n ?_
      refine wp_seq ?_
      refine wp_block ?_
      refine wp_seq ?_
      refine wp_reg ?_
      obtain ⟨hc17, h⟩ := chk h
      refine st_index (E := (Ek.int .u8)) hf (by decide) Try.underlying59 elt5 rfl rfl rfl (hp.rsl (i := 2) rfl) hc17.1 hc17.2 ?_
      clear hf; intro a ha hf; clear ha
      refine st_ldI hf (by decide) pl5 rfl rfl (hp.rsl (i := 2) rfl) hc17.1 hc17.2 ?_
      clear hf; intro a ha hf; clear ha
      refine st_assign hf rfl rfl (by decide) ?_
      clear hf; intro a ha hf; clear ha
      refine st_nil hf ?_
      refine th_n ?_
      refine wp_seq ?_
      refine wp_reg ?_
      refine st_move hf rfl rfl (by decide) ?_
      clear hf; intro a ha hf; clear ha
      refine st_move hf rfl rfl (by decide) ?_
      clear hf; intro a ha hf; clear ha
      obtain ⟨q18, hcall19, h⟩ := bnd h
      have hp20 : Hp _ _ _ (Res.opt (LoomK 75 5) vl0 l0 :: Res.sl (Ek.int .u8) 5 v12 out6 :: Res.rsl (Ek.int .u8) v8 (sbytes sx1) :: ow) := Hp.sel (pre := [Res.opt (LoomK 75 5) vl0 l0, Res.sl (Ek.int .u8) 5 v12 out6, Res.rsl (Ek.int .u8) v8 (sbytes sx1)]) (tail := ow) (rs' := [Res.opt (LoomK 75 5) vl0 l0, Res.sl (Ek.int .u8) 5 v12 out6, Res.rsl (Ek.int .u8) v8 (sbytes sx1)]) hp [0, 1, 2] (by decide) (by simp) rfl
      refine st_call hf (by decide) Try.func30 rfl rfl rfl rfl rfl (f_weave_Loom_Push_c _ _ _ hp20 hcall19) ?_
      rintro _ w ⟨rfl, hp0⟩
      clear hp; have hp := hp0; clear hp0
      replace hp : Hp _ _ _ (Res.opt (LoomK 75 5) vl0 q18.2.2 :: Res.sl (Ek.int .u8) 5 v12 out6 :: Res.rsl (Ek.int .u8) v8 (sbytes sx1) :: ow) := hp
      refine ⟨_, rfl, ?_⟩
      clear hf; intro a hf
      refine st_move hf rfl rfl (by decide) ?_
      clear hf; intro a ha hf; clear ha
      refine st_extract hf (by decide) rfl rfl rfl ?_
      clear hf; intro a ha hf; clear ha
      refine st_extract hf (by decide) rfl rfl rfl ?_
      clear hf; intro a ha hf; clear ha
      refine st_assign hf rfl rfl (by decide) ?_
      clear hf; intro a ha hf; clear ha
      refine st_assign hf rfl rfl (by decide) ?_
      clear hf; intro a ha hf; clear ha
      refine st_nil hf ?_
      refine th_n ?_
      refine wp_reg ?_
      refine st_move hf rfl rfl (by decide) ?_
      clear hf; intro a ha hf; clear ha
      refine st_move hf rfl rfl (by decide) ?_
      clear hf; intro a ha hf; clear ha
      refine st_build (E := (Ek.int .u8)) (xs := [q18.1]) hf (by decide) elt5 Try.underlying59 hp (vals := #[(0, .int .u8 q18.1)]) (cells := #[.int .u8 q18.1]) rfl (by simp [hf.ev (x := (Operand.tmp 35)) rfl]) (by decide) (by decide) (z := .int .u8 0) (by kernel_rfl) (by kernel_rfl) rfl (reps_cons (cs := [.int .u8 q18.1]) rfl (reps_nil _)) ?_
      clear hf; intro a w v21 hf hp0; clear hp; have hp := hp0; clear hp0
      replace hp : Hp _ _ _ (Res.sl (Ek.int .u8) 5 v21 ([q18.1]) :: Res.opt (LoomK 75 5) vl0 q18.2.2 :: Res.sl (Ek.int .u8) 5 v12 out6 :: Res.rsl (Ek.int .u8) v8 (sbytes sx1) :: ow) := hp
      obtain ⟨hc23, h⟩ := chk h
      refine st_append (E := (Ek.int .u8)) hf (by decide) elt5 Try.underlying59 (by decide) hp (i := 2) rfl rfl rfl rfl (hp.sl (i := 0) rfl) hc23 ?_
      clear hf; intro a w v24 hf hp0; clear hp; have hp := hp0; clear hp0
      replace hp : Hp _ _ _ (Res.sl (Ek.int .u8) 5 v21 ([q18.1]) :: Res.opt (LoomK 75 5) vl0 q18.2.2 :: Res.sl (Ek.int .u8) 5 v24 (out6 ++ [q18.1]) :: Res.rsl (Ek.int .u8) v8 (sbytes sx1) :: ow) := hp
      refine st_assign hf rfl rfl (by decide) ?_
      clear hf; intro a ha hf; clear ha
      refine st_nil hf ?_
      refine ib_n ?_
      refine th_n ?_
      refine wp_reg ?_
      refine st_iadd hf (by decide) rfl rfl rfl ?_
      clear hf; intro a ha hf; clear ha
      refine st_move hf rfl rfl (by decide) ?_
      clear hf; intro a ha hf; clear ha
      refine st_nil hf ?_
      obtain rfl := Option.some.inj h
      have hp : Hp _ _ _ (Res.opt (LoomK 75 5) vl0 q18.2.2 :: Res.sl (Ek.int .u8) 5 v24 (out6 ++ [q18.1]) :: Res.rsl (Ek.int .u8) v8 (sbytes sx1) :: ow) := Hp.sel (pre := [Res.sl (Ek.int .u8) 5 v21 ([q18.1]), Res.opt (LoomK 75 5) vl0 q18.2.2, Res.sl (Ek.int .u8) 5 v24 (out6 ++ [q18.1]), Res.rsl (Ek.int .u8) v8 (sbytes sx1)]) (tail := ow) (rs' := [Res.opt (LoomK 75 5) vl0 q18.2.2, Res.sl (Ek.int .u8) 5 v24 (out6 ++ [q18.1]), Res.rsl (Ek.int .u8) v8 (sbytes sx1)]) hp [1, 2, 3] (by decide) (by simp) rfl
      exact rnd_l ⟨_, hf.sub ⟨rfl, rfl, rfl, rfl, rfl, trivial⟩, hp⟩
    replace h := ifF h hb
    refine wp_exit ?_
    refine th_e ?_
    obtain rfl := Option.some.inj h
    have hp : Hp _ _ _ (Res.opt (LoomK 75 5) vl0 l0 :: Res.sl (Ek.int .u8) 5 v12 out6 :: ow) := Hp.sel (pre := [Res.opt (LoomK 75 5) vl0 l0, Res.sl (Ek.int .u8) 5 v12 out6, Res.rsl (Ek.int .u8) v8 (sbytes sx1)]) (tail := ow) (rs' := [Res.opt (LoomK 75 5) vl0 l0, Res.sl (Ek.int .u8) 5 v12 out6]) hp [0, 1] (by decide) (by simp) rfl
    exact rnd_r (by simp) ⟨rfl, _, hf.sub ⟨rfl, rfl, trivial⟩, hp⟩
  clear hl hf hp
  intro e a w hne hO
  obtain ⟨rfl, v15, hf, hp⟩ := hO
  refine ib_same ?_
  refine th_n ?_
  refine wp_seq ?_
  refine wp_reg ?_
  refine st_move hf rfl rfl (by decide) ?_
  clear hf; intro a ha hf; clear ha
  refine st_convBS hf (by decide) Try.underlying59 Try.underlying5 Try.underlying9 rfl rfl (hp.sl (i := 1) rfl) ?_
  clear hf; intro a ha hf; clear ha
  refine st_assign hf rfl rfl (by decide) ?_
  clear hf; intro a ha hf; clear ha
  refine st_assign hf rfl rfl (by decide) ?_
  clear hf; intro a ha hf; clear ha
  refine st_nil hf ?_
  refine th_n ?_
  refine wp_ret ?_
  obtain rfl := Option.some.inj h
  have hp : Hp _ _ _ (Res.opt (LoomK 75 5) vl0 q25.1 :: ow) := Hp.sel (pre := [Res.opt (LoomK 75 5) vl0 q25.1, Res.sl (Ek.int .u8) 5 v15 q25.2]) (tail := ow) (rs' := [Res.opt (LoomK 75 5) vl0 q25.1]) hp [0] (by decide) (by simp) rfl
  exact ⟨rfl, ⟨hf.sub ⟨rfl, rfl, trivial⟩, hp⟩⟩

noncomputable def f_foghornref17_Loom_Run.s1c (sx1 : ByteArray) (l0c_0 : (List (List Int))) (l0c_1 : Int) (l0c_2 : Int) (out6 : (List Int)) (i7 : Int) : Option (((List (List Int)) × Int × Int × (List Int) × Int) ⊕ ((List (List Int)) × Int × Int × (List Int))) := (if (decide (i7 < (sx1.size : Int))) = true then (if 0 ≤ i7 ∧ i7 < (sx1.size : Int) then ((f_foghornref17_Loom_Push l0c_0 l0c_1 l0c_2 (bt sx1 i7)).bind fun q16 => (if (out6.length + ([q16.1]).length) * 1 ≤ 140737488355328 then (some (Sum.inl (q16.2.1, q16.2.2.1, q16.2.2.2, (out6 ++ [q16.1]), (IntKind.i64.wrap (i7 + (1 : Int)))))) else none)) else none) else (some (Sum.inr (l0c_0, l0c_1, l0c_2, out6))))
noncomputable def f_foghornref17_Loom_Run.s1 (sx1 : ByteArray) (s : ((List (List Int)) × Int × Int × (List Int) × Int)) : Option (((List (List Int)) × Int × Int × (List Int) × Int) ⊕ ((List (List Int)) × Int × Int × (List Int))) := f_foghornref17_Loom_Run.s1c sx1 s.1 s.2.1 s.2.2.1 s.2.2.2.1 s.2.2.2.2
noncomputable def f_foghornref17_Loom_Run (l0_Rows : (List (List Int))) (l0_Turn : Int) (l0_Steps : Int) (sx1 : ByteArray) : Option (ByteArray × Int × ((List (List Int)) × Int × Int)) := (if (decide ((32768 : Int) < (sx1.size : Int))) = true then (some ((ByteArray.mk #[]), (1 : Int), (l0_Rows, l0_Turn, l0_Steps))) else ((loop (f_foghornref17_Loom_Run.s1 sx1) (l0_Rows, l0_Turn, l0_Steps, [], (0 : Int))).bind (fun q26 => (some ((bstr q26.2.2.2), (0 : Int), (q26.1, q26.2.1, q26.2.2.1))))))
theorem f_foghornref17_Loom_Run_c {S : Nat → Prop} {w0 w : World} {ow : List Res} (vl0_Rows : Value) (sl0_Rows : List Value) (l0_Rows : (List (List Int))) (l0_Turn : Int) (l0_Steps : Int) (ol0 : Value) (sx1 : ByteArray) (hp : Hp S w0 w (Res.rows (RowK.sl (Ek.int .u8) 5) 59 vl0_Rows sl0_Rows l0_Rows :: Res.obj 70 ol0 [vl0_Rows, .int .i64 l0_Turn, .int .i64 l0_Steps] :: ow)) {r : (ByteArray × Int × ((List (List Int)) × Int × Int))} (h : f_foghornref17_Loom_Run l0_Rows l0_Turn l0_Steps sx1 = some r) :
    Calls Try.prog 33 #[ol0, .string sx1] w (fun e w' => ∃ (u0 : Value) (u1 : List Value), e = .returned (.tuple #[.string r.1, .int .i64 r.2.1]) ∧ Hp S w0 w' (Res.rows (RowK.sl (Ek.int .u8) 5) 59 u0 u1 r.2.2.1 :: Res.obj 70 ol0 [u0, .int .i64 r.2.2.2.1, .int .i64 r.2.2.2.2] :: ow)) := by
  unfold f_foghornref17_Loom_Run at h
  refine enter (n := 27) (args := [ol0, .string sx1]) Try.func33 rfl rfl (Nat.le_of_ble_eq_true rfl) fun a hf => ?_
  replace hf : Fr 27 a [(0, ol0), (1, .string sx1)] := hf
  refine wp_mono (Q := fun e a w => e = .ret ∧ ∃ (u0 : Value) (u1 : List Value), Fr 27 a [(4, .string r.1), (5, .int .i64 r.2.1)] ∧ Hp S w0 w (Res.rows (RowK.sl (Ek.int .u8) 5) 59 u0 u1 r.2.2.1 :: Res.obj 70 ol0 [u0, .int .i64 r.2.2.2.1, .int .i64 r.2.2.2.2] :: ow)) ?_ ?_
  rotate_left
  · rintro e a w ⟨rfl, x0, x1, hf, hp⟩
    exact ret2 hf rfl rfl rfl ⟨x0, x1, rfl, hp⟩
  refine wp_seq ?_
  refine wp_reg ?_
  refine st_assign hf rfl rfl (by decide) ?_
  clear hf; intro a ha hf; clear ha
  refine st_assign hf rfl rfl (by decide) ?_
  clear hf; intro a ha hf; clear ha
  refine st_nil hf ?_
  refine th_n ?_
  refine wp_seq ?_
  refine wp_seq ?_
  refine wp_reg ?_
  refine st_move hf rfl rfl (by decide) ?_
  clear hf; intro a ha hf; clear ha
  refine st_slen hf (by decide) Try.underlying9 rfl rfl ?_
  clear hf; intro a ha hf; clear ha
  refine st_igtr hf (by decide) rfl rfl rfl ?_
  clear hf; intro a ha hf; clear ha
  refine st_nil hf ?_
  refine th_n ?_
  refine wp_if hf rfl (fun hb => ?_) (fun hb => ?_)
  · replace h := ifT h hb
    refine wp_seq ?_
    refine wp_reg ?_
    refine st_assign hf rfl rfl (by decide) ?_
    clear hf; intro a ha hf; clear ha
    refine st_assign hf rfl rfl (by decide) ?_
    clear hf; intro a ha hf; clear ha
    refine st_nil hf ?_
    refine th_n ?_
    refine wp_ret ?_
    refine th_r ?_
    obtain rfl := Option.some.inj h
    exact ⟨rfl, ⟨_, _, hf.sub ⟨rfl, rfl, trivial⟩, hp⟩⟩
  replace h := ifF h hb
  refine wp_skip ?_
  refine th_n ?_
  refine wp_seq ?_
  refine wp_reg ?_
  refine st_assign hf rfl rfl (by decide) ?_
  clear hf; intro a ha hf; clear ha
  refine st_nil hf ?_
  refine th_n ?_
  refine wp_seq ?_
  refine wp_seq ?_
  refine wp_reg ?_
  refine st_assign hf rfl rfl (by decide) ?_
  clear hf; intro a ha hf; clear ha
  refine st_nil hf ?_
  refine th_n ?_
  refine wp_block ?_
  obtain ⟨q26, hl, h⟩ := bnd h
  have hp := hp.nil (Ek.int .u8) 5
  have hp : Hp _ _ _ (Res.rows (RowK.sl (Ek.int .u8) 5) 59 vl0_Rows sl0_Rows l0_Rows :: Res.obj 70 ol0 [vl0_Rows, .int .i64 l0_Turn, .int .i64 l0_Steps] :: Res.sl (Ek.int .u8) 5 (.slice none 0 0) ([]) :: ow) := Hp.sel (pre := [Res.sl (Ek.int .u8) 5 (.slice none 0 0) ([]), Res.rows (RowK.sl (Ek.int .u8) 5) 59 vl0_Rows sl0_Rows l0_Rows, Res.obj 70 ol0 [vl0_Rows, .int .i64 l0_Turn, .int .i64 l0_Steps]]) (tail := ow) (rs' := [Res.rows (RowK.sl (Ek.int .u8) 5) 59 vl0_Rows sl0_Rows l0_Rows, Res.obj 70 ol0 [vl0_Rows, .int .i64 l0_Turn, .int .i64 l0_Steps], Res.sl (Ek.int .u8) 5 (.slice none 0 0) ([])]) hp [1, 2, 0] (by decide) (by simp) rfl
  refine wp_loop_pure (f := (f_foghornref17_Loom_Run.s1 sx1)) (s := (l0_Rows, l0_Turn, l0_Steps, [], (0 : Int))) (fun s a w => ∃ (v3 : Value) (vs4 : List Value) (v7 : Value), Fr 27 a [(0, ol0), (1, .string sx1), (6, v7), (7, .int .i64 s.2.2.2.2)] ∧ Hp S w0 w (Res.rows (RowK.sl (Ek.int .u8) 5) 59 v3 vs4 s.1 :: Res.obj 70 ol0 [v3, .int .i64 s.2.1, .int .i64 s.2.2.1] :: Res.sl (Ek.int .u8) 5 v7 s.2.2.2.1 :: ow)) (fun q e a w => e = .exit 0 ∧ ∃ (v9 : Value) (vs10 : List Value) (v13 : Value), Fr 27 a [(0, ol0), (6, v13)] ∧ Hp S w0 w (Res.rows (RowK.sl (Ek.int .u8) 5) 59 v9 vs10 q.1 :: Res.obj 70 ol0 [v9, .int .i64 q.2.1, .int .i64 q.2.2.1] :: Res.sl (Ek.int .u8) 5 v13 q.2.2.2 :: ow)) ?_ hl ⟨_, _, _, hf.sub ⟨rfl, rfl, rfl, rfl, trivial⟩, hp⟩ ?_
  · clear hl hf hp
    intro s x a w h hI
    obtain ⟨l0c_0, l0c_1, l0c_2, out6, i7⟩ := s
    obtain ⟨v3, vs4, v7, hf, hp⟩ : ∃ (v3 : Value) (vs4 : List Value) (v7 : Value), Fr 27 a [(0, ol0), (1, .string sx1), (6, v7), (7, .int .i64 i7)] ∧ Hp S w0 w (Res.rows (RowK.sl (Ek.int .u8) 5) 59 v3 vs4 l0c_0 :: Res.obj 70 ol0 [v3, .int .i64 l0c_1, .int .i64 l0c_2] :: Res.sl (Ek.int .u8) 5 v7 out6 :: ow) := hI
    replace h : f_foghornref17_Loom_Run.s1c sx1 l0c_0 l0c_1 l0c_2 out6 i7 = some x := h
    unfold f_foghornref17_Loom_Run.s1c at h
    refine wp_seq ?_
    refine wp_seq ?_
    refine wp_reg ?_
    refine st_move hf rfl rfl (by decide) ?_
    clear hf; intro a ha hf; clear ha
    refine st_move hf rfl rfl (by decide) ?_
    clear hf; intro a ha hf; clear ha
    refine st_slen hf (by decide) Try.underlying9 rfl rfl ?_
    clear hf; intro a ha hf; clear ha
    refine st_ilss hf (by decide) rfl rfl rfl ?_
    clear hf; intro a ha hf; clear ha
    refine st_nil hf ?_
    refine th_n ?_
    refine wp_if hf rfl (fun hb => ?_) (fun hb => ?_)
    · replace h := ifT h hb
      refine wp_skip ?_
      refine th_n ?_
      refine wp_seq ?_
      refine wp_block ?_
      refine wp_reg ?_
      refine st_move hf rfl rfl (by decide) ?_
      clear hf; intro a ha hf; clear ha
      refine st_move hf rfl rfl (by decide) ?_
      clear hf; intro a ha hf; clear ha
      refine st_move hf rfl rfl (by decide) ?_
      clear hf; intro a ha hf; clear ha
      refine st_move hf rfl rfl (by decide) ?_
      clear hf; intro a ha hf; clear ha
      obtain ⟨hc15, h⟩ := chk h
      refine st_sidx hf (by decide) Try.underlying9 rfl rfl rfl hc15.1 hc15.2 ?_
      clear hf; intro a ha hf; clear ha
      obtain ⟨q16, hcall17, h⟩ := bnd h
      have hp18 : Hp _ _ _ (Res.rows (RowK.sl (Ek.int .u8) 5) 59 v3 vs4 l0c_0 :: Res.obj 70 ol0 [v3, .int .i64 l0c_1, .int .i64 l0c_2] :: Res.sl (Ek.int .u8) 5 v7 out6 :: ow) := Hp.sel (pre := [Res.rows (RowK.sl (Ek.int .u8) 5) 59 v3 vs4 l0c_0, Res.obj 70 ol0 [v3, .int .i64 l0c_1, .int .i64 l0c_2], Res.sl (Ek.int .u8) 5 v7 out6]) (tail := ow) (rs' := [Res.rows (RowK.sl (Ek.int .u8) 5) 59 v3 vs4 l0c_0, Res.obj 70 ol0 [v3, .int .i64 l0c_1, .int .i64 l0c_2], Res.sl (Ek.int .u8) 5 v7 out6]) hp [0, 1, 2] (by decide) (by simp) rfl
      refine st_call hf (by decide) Try.func31 rfl rfl rfl rfl rfl (f_foghornref17_Loom_Push_c _ _ _ _ _ _ _ hp18 hcall17) ?_
      rintro _ w ⟨v19, v20, rfl, hp0⟩
      clear hp; have hp := hp0; clear hp0
      replace hp : Hp _ _ _ (Res.rows (RowK.sl (Ek.int .u8) 5) 59 v19 v20 q16.2.1 :: Res.obj 70 ol0 [v19, .int .i64 q16.2.2.1, .int .i64 q16.2.2.2] :: Res.sl (Ek.int .u8) 5 v7 out6 :: ow) := hp
      refine ⟨_, rfl, ?_⟩
      clear hf; intro a hf
      refine st_build (E := (Ek.int .u8)) (xs := [q16.1]) hf (by decide) elt5 Try.underlying59 hp (vals := #[(0, .int .u8 q16.1)]) (cells := #[.int .u8 q16.1]) rfl (by simp [hf.ev (x := (Operand.tmp 22)) rfl]) (by decide) (by decide) (z := .int .u8 0) (by kernel_rfl) (by kernel_rfl) rfl (reps_cons (cs := [.int .u8 q16.1]) rfl (reps_nil _)) ?_
      clear hf; intro a w v22 hf hp0; clear hp; have hp := hp0; clear hp0
      replace hp : Hp _ _ _ (Res.sl (Ek.int .u8) 5 v22 ([q16.1]) :: Res.rows (RowK.sl (Ek.int .u8) 5) 59 v19 v20 q16.2.1 :: Res.obj 70 ol0 [v19, .int .i64 q16.2.2.1, .int .i64 q16.2.2.2] :: Res.sl (Ek.int .u8) 5 v7 out6 :: ow) := hp
      obtain ⟨hc24, h⟩ := chk h
      refine st_append (E := (Ek.int .u8)) hf (by decide) elt5 Try.underlying59 (by decide) hp (i := 3) rfl rfl rfl rfl (hp.sl (i := 0) rfl) hc24 ?_
      clear hf; intro a w v25 hf hp0; clear hp; have hp := hp0; clear hp0
      replace hp : Hp _ _ _ (Res.sl (Ek.int .u8) 5 v22 ([q16.1]) :: Res.rows (RowK.sl (Ek.int .u8) 5) 59 v19 v20 q16.2.1 :: Res.obj 70 ol0 [v19, .int .i64 q16.2.2.1, .int .i64 q16.2.2.2] :: Res.sl (Ek.int .u8) 5 v25 (out6 ++ [q16.1]) :: ow) := hp
      refine st_assign hf rfl rfl (by decide) ?_
      clear hf; intro a ha hf; clear ha
      refine st_nil hf ?_
      refine ib_n ?_
      refine th_n ?_
      refine wp_reg ?_
      refine st_move hf rfl rfl (by decide) ?_
      clear hf; intro a ha hf; clear ha
      refine st_iadd hf (by decide) rfl rfl rfl ?_
      clear hf; intro a ha hf; clear ha
      refine st_assign hf rfl rfl (by decide) ?_
      clear hf; intro a ha hf; clear ha
      refine st_nil hf ?_
      obtain rfl := Option.some.inj h
      have hp : Hp _ _ _ (Res.rows (RowK.sl (Ek.int .u8) 5) 59 v19 v20 q16.2.1 :: Res.obj 70 ol0 [v19, .int .i64 q16.2.2.1, .int .i64 q16.2.2.2] :: Res.sl (Ek.int .u8) 5 v25 (out6 ++ [q16.1]) :: ow) := Hp.sel (pre := [Res.sl (Ek.int .u8) 5 v22 ([q16.1]), Res.rows (RowK.sl (Ek.int .u8) 5) 59 v19 v20 q16.2.1, Res.obj 70 ol0 [v19, .int .i64 q16.2.2.1, .int .i64 q16.2.2.2], Res.sl (Ek.int .u8) 5 v25 (out6 ++ [q16.1])]) (tail := ow) (rs' := [Res.rows (RowK.sl (Ek.int .u8) 5) 59 v19 v20 q16.2.1, Res.obj 70 ol0 [v19, .int .i64 q16.2.2.1, .int .i64 q16.2.2.2], Res.sl (Ek.int .u8) 5 v25 (out6 ++ [q16.1])]) hp [1, 2, 3] (by decide) (by simp) rfl
      exact rnd_l ⟨_, _, _, hf.sub ⟨rfl, rfl, rfl, rfl, trivial⟩, hp⟩
    replace h := ifF h hb
    refine wp_exit ?_
    refine th_e ?_
    obtain rfl := Option.some.inj h
    exact rnd_r (by simp) ⟨rfl, _, _, _, hf.sub ⟨rfl, rfl, trivial⟩, hp⟩
  clear hl hf hp
  intro e a w hne hO
  obtain ⟨rfl, v9, vs10, v13, hf, hp⟩ := hO
  refine ib_same ?_
  refine th_n ?_
  refine wp_seq ?_
  refine wp_reg ?_
  refine st_move hf rfl rfl (by decide) ?_
  clear hf; intro a ha hf; clear ha
  refine st_convBS hf (by decide) Try.underlying59 Try.underlying5 Try.underlying9 rfl rfl (hp.sl (i := 2) rfl) ?_
  clear hf; intro a ha hf; clear ha
  refine st_assign hf rfl rfl (by decide) ?_
  clear hf; intro a ha hf; clear ha
  refine st_assign hf rfl rfl (by decide) ?_
  clear hf; intro a ha hf; clear ha
  refine st_nil hf ?_
  refine th_n ?_
  refine wp_ret ?_
  obtain rfl := Option.some.inj h
  have hp : Hp _ _ _ (Res.rows (RowK.sl (Ek.int .u8) 5) 59 v9 vs10 q26.1 :: Res.obj 70 ol0 [v9, .int .i64 q26.2.1, .int .i64 q26.2.2.1] :: ow) := Hp.sel (pre := [Res.rows (RowK.sl (Ek.int .u8) 5) 59 v9 vs10 q26.1, Res.obj 70 ol0 [v9, .int .i64 q26.2.1, .int .i64 q26.2.2.1], Res.sl (Ek.int .u8) 5 v13 q26.2.2.2]) (tail := ow) (rs' := [Res.rows (RowK.sl (Ek.int .u8) 5) 59 v9 vs10 q26.1, Res.obj 70 ol0 [v9, .int .i64 q26.2.1, .int .i64 q26.2.2.1]]) hp [0, 1] (by decide) (by simp) rfl
  exact ⟨rfl, ⟨_, _, hf.sub ⟨rfl, rfl, trivial⟩, hp⟩⟩

noncomputable def f_weave_Loom_Delay (l0 : (Option LoomS)) : Option Int := (if ((l0).isNone) = true then (some (0 : Int)) else ((l0).bind fun s2 => (some (IntKind.i64.wrap ((IntKind.i64.wrap (s2.2.1 * (IntKind.i64.wrap (s2.2.1 - (1 : Int))))) * s2.2.2.1)))))
theorem f_weave_Loom_Delay_c {S : Nat → Prop} {w0 w : World} {ow : List Res} (vl0 : Value) (l0 : Option LoomS) (hp : Hp S w0 w (Res.opt (LoomK 75 5) vl0 l0 :: ow)) {r : Int} (h : f_weave_Loom_Delay l0 = some r) :
    Calls Try.prog 34 #[vl0] w (fun e w' => e = .returned (.int .i64 r) ∧ Hp S w0 w' (Res.opt (LoomK 75 5) vl0 l0 :: ow)) := by
  unfold f_weave_Loom_Delay at h
  refine enter (n := 20) (args := [vl0]) Try.func34 rfl rfl (Nat.le_of_ble_eq_true rfl) fun a hf => ?_
  replace hf : Fr 20 a [(0, vl0)] := hf
  refine wp_mono (Q := fun e a w => e = .ret ∧ Fr 20 a [(2, .int .i64 r)] ∧ Hp S w0 w (Res.opt (LoomK 75 5) vl0 l0 :: ow)) ?_ ?_
  rotate_left
  · rintro e a w ⟨rfl, hf, hp⟩
    exact ret1 hf rfl rfl ⟨rfl, hp⟩
  refine wp_seq ?_
  refine wp_reg ?_
  refine st_assign hf rfl rfl (by decide) ?_
  clear hf; intro a ha hf; clear ha
  refine st_nil hf ?_
  refine th_n ?_
  refine wp_seq ?_
  refine wp_seq ?_
  refine wp_reg ?_
  refine st_move hf rfl rfl (by decide) ?_
  clear hf; intro a ha hf; clear ha
  refine st_peql hf (by decide) Try.underlying45 rfl rfl rfl (hp.nilB (i := 0) rfl) ?_
  clear hf; intro a ha hf; clear ha
  refine st_nil hf ?_
  refine th_n ?_
  refine wp_if hf rfl (fun hb => ?_) (fun hb => ?_)
  · replace h := ifT h hb
    refine wp_seq ?_
    refine wp_reg ?_
    refine st_assign hf rfl rfl (by decide) ?_
    clear hf; intro a ha hf; clear ha
    refine st_nil hf ?_
    refine th_n ?_
    refine wp_ret ?_
    refine th_r ?_
    obtain rfl := Option.some.inj h
    exact ⟨rfl, ⟨hf.sub ⟨rfl, trivial⟩, hp⟩⟩
  replace h := ifF h hb
  obtain ⟨s2, hs3, h⟩ := bnd h
  replace hp : Hp _ _ _ (Res.loom 75 5 vl0 s2 :: ow) := hp.optSome hs3
  obtain ⟨vs4, hp⟩ := Hp.loomIn hp
  replace hp : Hp _ _ _ (Res.loomX 75 5 vl0 vs4 s2 :: ow) := hp
  refine wp_skip ?_
  refine th_n ?_
  refine wp_seq ?_
  obtain ⟨S5, hp6, rd7, up8, bk9⟩ := Hp.lendL hp (i := 0) rfl
  have rl10 := rd7
  refine wp_cutN (fun a w => Fr 20 a [(0, vl0), (2, .int .i64 (IntKind.i64.wrap ((IntKind.i64.wrap (s2.2.1 * (IntKind.i64.wrap (s2.2.1 - (1 : Int))))) * s2.2.2.1)))] ∧ Hp S w0 w (Res.loomX 75 5 vl0 vs4 s2 :: ow)) ?_ ?_
  · have hp := hp6.same (Same.drew w)
    refine dr_begin' (fun a w => Fr 20 a [(0, vl0), (2, .int .i64 (IntKind.i64.wrap ((IntKind.i64.wrap (s2.2.1 * (IntKind.i64.wrap (s2.2.1 - (1 : Int))))) * s2.2.2.1)))] ∧ Hp S w0 w (Res.loomX 75 5 vl0 vs4 s2 :: ow)) (fun w' => ∃ l, Hp S5 w w' l) [] (by kernel_rfl) ?_
    refine dr_take 0 (vl0) rfl (by kernel_rfl) (by kernel_rfl) (by kernel_rfl) (by kernel_rfl) rfl rfl hf (by decide) rfl (fun w hp => ?_) ⟨_, hp⟩ ?_
    · obtain ⟨_, hp⟩ := hp
      refine st_move hf rfl rfl (by decide) ?_
      clear hf; intro a ha hf
      exact st_nil hf (th_n ⟨ha, rfl⟩)
    clear hf; intro a hf
    refine dr_nilV 1 rfl (by kernel_rfl) (by kernel_rfl) (by kernel_rfl) hf (by decide) rfl rfl rl10.shO ?_
    clear hf; intro a hf
    refine dr_take 2 (optr vl0 128) rfl (by kernel_rfl) (by kernel_rfl) (by kernel_rfl) (by kernel_rfl) rfl rfl hf (by decide) rfl (fun w hp => ?_) ⟨_, hp⟩ ?_
    · obtain ⟨_, hp⟩ := hp
      refine st_fa (o' := 128) hf (by decide) (off := 128) (sz := 1) (by kernel_rfl) (by decide) rfl rfl rl10.shO rfl ?_
      clear hf; intro a ha hf
      exact st_nil hf (th_n ⟨ha, rfl⟩)
    clear hf; intro a hf
    refine dr_take 3 (.int .i64 s2.2.1) rfl (by kernel_rfl) (by kernel_rfl) (by kernel_rfl) (by kernel_rfl) rfl rfl hf (by decide) rfl (fun w hp => ?_) ⟨_, hp⟩ ?_
    · obtain ⟨_, hp⟩ := hp
      refine st_ldP hf (by decide) pl3 rfl rfl (rl10.obx hp).ld1 ?_
      clear hf; intro a ha hf
      exact st_nil hf (th_n ⟨ha, rfl⟩)
    clear hf; intro a hf
    refine dr_take 4 (vl0) rfl (by kernel_rfl) (by kernel_rfl) (by kernel_rfl) (by kernel_rfl) rfl rfl hf (by decide) rfl (fun w hp => ?_) ⟨_, hp⟩ ?_
    · obtain ⟨_, hp⟩ := hp
      refine st_move hf rfl rfl (by decide) ?_
      clear hf; intro a ha hf
      exact st_nil hf (th_n ⟨ha, rfl⟩)
    clear hf; intro a hf
    refine dr_nilV 5 rfl (by kernel_rfl) (by kernel_rfl) (by kernel_rfl) hf (by decide) rfl rfl rl10.shO ?_
    clear hf; intro a hf
    refine dr_take 6 (optr vl0 128) rfl (by kernel_rfl) (by kernel_rfl) (by kernel_rfl) (by kernel_rfl) rfl rfl hf (by decide) rfl (fun w hp => ?_) ⟨_, hp⟩ ?_
    · obtain ⟨_, hp⟩ := hp
      refine st_fa (o' := 128) hf (by decide) (off := 128) (sz := 1) (by kernel_rfl) (by decide) rfl rfl rl10.shO rfl ?_
      clear hf; intro a ha hf
      exact st_nil hf (th_n ⟨ha, rfl⟩)
    clear hf; intro a hf
    refine dr_take 7 (.int .i64 s2.2.1) rfl (by kernel_rfl) (by kernel_rfl) (by kernel_rfl) (by kernel_rfl) rfl rfl hf (by decide) rfl (fun w hp => ?_) ⟨_, hp⟩ ?_
    · obtain ⟨_, hp⟩ := hp
      refine st_ldP hf (by decide) pl3 rfl rfl (rl10.obx hp).ld1 ?_
      clear hf; intro a ha hf
      exact st_nil hf (th_n ⟨ha, rfl⟩)
    clear hf; intro a hf
    refine dr_take 8 (.int .i64 (IntKind.i64.wrap (s2.2.1 - (1 : Int)))) rfl (by kernel_rfl) (by kernel_rfl) (by kernel_rfl) (by kernel_rfl) rfl rfl hf (by decide) rfl (fun w hp => ?_) ⟨_, hp⟩ ?_
    · obtain ⟨_, hp⟩ := hp
      refine st_isub hf (by decide) rfl rfl rfl ?_
      clear hf; intro a ha hf
      exact st_nil hf (th_n ⟨ha, rfl⟩)
    clear hf; intro a hf
    refine dr_take 9 (.int .i64 (IntKind.i64.wrap (s2.2.1 * (IntKind.i64.wrap (s2.2.1 - (1 : Int)))))) rfl (by kernel_rfl) (by kernel_rfl) (by kernel_rfl) (by kernel_rfl) rfl rfl hf (by decide) rfl (fun w hp => ?_) ⟨_, hp⟩ ?_
    · obtain ⟨_, hp⟩ := hp
      refine st_imul hf (by decide) rfl rfl rfl ?_
      clear hf; intro a ha hf
      exact st_nil hf (th_n ⟨ha, rfl⟩)
    clear hf; intro a hf
    refine dr_take 10 (vl0) rfl (by kernel_rfl) (by kernel_rfl) (by kernel_rfl) (by kernel_rfl) rfl rfl hf (by decide) rfl (fun w hp => ?_) ⟨_, hp⟩ ?_
    · obtain ⟨_, hp⟩ := hp
      refine st_move hf rfl rfl (by decide) ?_
      clear hf; intro a ha hf
      exact st_nil hf (th_n ⟨ha, rfl⟩)
    clear hf; intro a hf
    refine dr_nilV 11 rfl (by kernel_rfl) (by kernel_rfl) (by kernel_rfl) hf (by decide) rfl rfl rl10.shO ?_
    clear hf; intro a hf
    refine dr_take 12 (optr vl0 129) rfl (by kernel_rfl) (by kernel_rfl) (by kernel_rfl) (by kernel_rfl) rfl rfl hf (by decide) rfl (fun w hp => ?_) ⟨_, hp⟩ ?_
    · obtain ⟨_, hp⟩ := hp
      refine st_fa (o' := 129) hf (by decide) (off := 129) (sz := 1) (by kernel_rfl) (by decide) rfl rfl rl10.shO rfl ?_
      clear hf; intro a ha hf
      exact st_nil hf (th_n ⟨ha, rfl⟩)
    clear hf; intro a hf
    refine dr_take 13 (.int .i64 s2.2.2.1) rfl (by kernel_rfl) (by kernel_rfl) (by kernel_rfl) (by kernel_rfl) rfl rfl hf (by decide) rfl (fun w hp => ?_) ⟨_, hp⟩ ?_
    · obtain ⟨_, hp⟩ := hp
      refine st_ldP hf (by decide) pl3 rfl rfl (rl10.obx hp).ld2 ?_
      clear hf; intro a ha hf
      exact st_nil hf (th_n ⟨ha, rfl⟩)
    clear hf; intro a hf
    refine dr_take 14 (.int .i64 (IntKind.i64.wrap ((IntKind.i64.wrap (s2.2.1 * (IntKind.i64.wrap (s2.2.1 - (1 : Int))))) * s2.2.2.1))) rfl (by kernel_rfl) (by kernel_rfl) (by kernel_rfl) (by kernel_rfl) rfl rfl hf (by decide) rfl (fun w hp => ?_) ⟨_, hp⟩ ?_
    · obtain ⟨_, hp⟩ := hp
      refine st_imul hf (by decide) rfl rfl rfl ?_
      clear hf; intro a ha hf
      exact st_nil hf (th_n ⟨ha, rfl⟩)
    clear hf; intro a hf
    refine dr_take 15 (.int .i64 (IntKind.i64.wrap ((IntKind.i64.wrap (s2.2.1 * (IntKind.i64.wrap (s2.2.1 - (1 : Int))))) * s2.2.2.1))) rfl (by kernel_rfl) (by kernel_rfl) (by kernel_rfl) (by kernel_rfl) rfl rfl hf (by decide) rfl (fun w hp => ?_) ⟨_, hp⟩ ?_
    · obtain ⟨_, hp⟩ := hp
      refine st_assign hf rfl rfl (by decide) ?_
      clear hf; intro a ha hf
      exact st_nil hf (th_n ⟨ha, rfl⟩)
    clear hf; intro a hf
    refine dr_end (by kernel_rfl) ?_ _
    have hp := bk9 _ _ hp
    exact ⟨hf.sub ⟨rfl, rfl, trivial⟩, hp⟩
  rintro a w ⟨hf, hp⟩
  refine th_n ?_
  refine wp_ret ?_
  replace hp : Hp _ _ _ (Res.opt (LoomK 75 5) vl0 (some s2) :: ow) := Hp.loomOut hp
  replace hp : Hp _ _ _ (Res.opt (LoomK 75 5) vl0 l0 :: ow) := hp.optBack hs3
  obtain rfl := Option.some.inj h
  exact ⟨rfl, ⟨hf.sub ⟨rfl, trivial⟩, hp⟩⟩

noncomputable def f_foghornref17_Loom_Delay (l0_Rows : (List (List Int))) (l0_Turn : Int) (l0_Steps : Int) : Option Int := (some (IntKind.i64.wrap ((IntKind.i64.wrap ((l0_Rows.length : Int) * (IntKind.i64.wrap ((l0_Rows.length : Int) - (1 : Int))))) * l0_Steps)))
theorem f_foghornref17_Loom_Delay_c {S : Nat → Prop} {w0 w : World} {ow : List Res} (hp : Hp S w0 w ow) (vl0_Rows : Value) (sl0_Rows : List Value) (l0_Rows : (List (List Int))) (hl0_Rows : RdR (RowK.sl (Ek.int .u8) 5) S w0 vl0_Rows sl0_Rows (l0_Rows.map some)) (l0_Turn : Int) (l0_Steps : Int) (ol0 : Value) (hol0 : RdO S w0 ol0 [vl0_Rows, .int .i64 l0_Turn, .int .i64 l0_Steps]) {r : Int} (h : f_foghornref17_Loom_Delay l0_Rows l0_Turn l0_Steps = some r) :
    Calls Try.prog 35 #[ol0] w (fun e w' => e = .returned (.int .i64 r) ∧ Hp S w0 w' (ow)) := by
  unfold f_foghornref17_Loom_Delay at h
  refine enter (n := 20) (args := [ol0]) Try.func35 rfl rfl (Nat.le_of_ble_eq_true rfl) fun a hf => ?_
  replace hf : Fr 20 a [(0, ol0)] := hf
  refine wp_mono (Q := fun e a w => e = .ret ∧ Fr 20 a [(2, .int .i64 r)] ∧ Hp S w0 w (ow)) ?_ ?_
  rotate_left
  · rintro e a w ⟨rfl, hf, hp⟩
    exact ret1 hf rfl rfl ⟨rfl, hp⟩
  refine wp_seq ?_
  refine wp_reg ?_
  refine st_assign hf rfl rfl (by decide) ?_
  clear hf; intro a ha hf; clear ha
  refine st_nil hf ?_
  refine th_n ?_
  refine wp_seq ?_
  refine wp_cutN (fun a w => Fr 20 a [(2, .int .i64 (IntKind.i64.wrap ((IntKind.i64.wrap ((l0_Rows.length : Int) * (IntKind.i64.wrap ((l0_Rows.length : Int) - (1 : Int))))) * l0_Steps)))] ∧ Hp S w0 w (ow)) ?_ ?_
  · have hp := hp.same (Same.drew w)
    refine dr_begin' (fun a w => Fr 20 a [(2, .int .i64 (IntKind.i64.wrap ((IntKind.i64.wrap ((l0_Rows.length : Int) * (IntKind.i64.wrap ((l0_Rows.length : Int) - (1 : Int))))) * l0_Steps)))] ∧ Hp S w0 w (ow)) (fun w' => ∃ l, Hp S w0 w' l) [] (by kernel_rfl) ?_
    refine dr_take 0 (ol0) rfl (by kernel_rfl) (by kernel_rfl) (by kernel_rfl) (by kernel_rfl) rfl rfl hf (by decide) rfl (fun w hp => ?_) ⟨_, hp⟩ ?_
    · obtain ⟨_, hp⟩ := hp
      refine st_move hf rfl rfl (by decide) ?_
      clear hf; intro a ha hf
      exact st_nil hf (th_n ⟨ha, rfl⟩)
    clear hf; intro a hf
    refine dr_nilV 1 rfl (by kernel_rfl) (by kernel_rfl) (by kernel_rfl) hf (by decide) rfl rfl (hol0.ob hp) ?_
    clear hf; intro a hf
    refine dr_take 2 (optr ol0 0) rfl (by kernel_rfl) (by kernel_rfl) (by kernel_rfl) (by kernel_rfl) rfl rfl hf (by decide) rfl (fun w hp => ?_) ⟨_, hp⟩ ?_
    · obtain ⟨_, hp⟩ := hp
      refine st_fa (o' := 0) hf (by decide) (off := 0) (sz := 1) (by kernel_rfl) (by decide) rfl rfl (hol0.ob hp) rfl ?_
      clear hf; intro a ha hf
      exact st_nil hf (th_n ⟨ha, rfl⟩)
    clear hf; intro a hf
    refine dr_take 3 (vl0_Rows) rfl (by kernel_rfl) (by kernel_rfl) (by kernel_rfl) (by kernel_rfl) rfl rfl hf (by decide) rfl (fun w hp => ?_) ⟨_, hp⟩ ?_
    · obtain ⟨_, hp⟩ := hp
      refine st_ldO (u := vl0_Rows) hf (by decide) pl68 rfl rfl (hol0.ob hp) rfl ?_
      clear hf; intro a ha hf
      exact st_nil hf (th_n ⟨ha, rfl⟩)
    clear hf; intro a hf
    refine dr_take 4 (.int .i64 (l0_Rows.length : Int)) rfl (by kernel_rfl) (by kernel_rfl) (by kernel_rfl) (by kernel_rfl) rfl rfl hf (by decide) rfl (fun w hp => ?_) ⟨_, hp⟩ ?_
    · obtain ⟨_, hp⟩ := hp
      refine st_lenV hf (by decide) Try.underlying68 rfl rfl (hl0_Rows.ob hp).shapeVY ?_
      clear hf; intro a ha hf
      exact st_nil hf (th_n ⟨ha, rfl⟩)
    clear hf; intro a hf
    refine dr_take 5 (ol0) rfl (by kernel_rfl) (by kernel_rfl) (by kernel_rfl) (by kernel_rfl) rfl rfl hf (by decide) rfl (fun w hp => ?_) ⟨_, hp⟩ ?_
    · obtain ⟨_, hp⟩ := hp
      refine st_move hf rfl rfl (by decide) ?_
      clear hf; intro a ha hf
      exact st_nil hf (th_n ⟨ha, rfl⟩)
    clear hf; intro a hf
    refine dr_nilV 6 rfl (by kernel_rfl) (by kernel_rfl) (by kernel_rfl) hf (by decide) rfl rfl (hol0.ob hp) ?_
    clear hf; intro a hf
    refine dr_take 7 (optr ol0 0) rfl (by kernel_rfl) (by kernel_rfl) (by kernel_rfl) (by kernel_rfl) rfl rfl hf (by decide) rfl (fun w hp => ?_) ⟨_, hp⟩ ?_
    · obtain ⟨_, hp⟩ := hp
      refine st_fa (o' := 0) hf (by decide) (off := 0) (sz := 1) (by kernel_rfl) (by decide) rfl rfl (hol0.ob hp) rfl ?_
      clear hf; intro a ha hf
      exact st_nil hf (th_n ⟨ha, rfl⟩)
    clear hf; intro a hf
    refine dr_take 8 (vl0_Rows) rfl (by kernel_rfl) (by kernel_rfl) (by kernel_rfl) (by kernel_rfl) rfl rfl hf (by decide) rfl (fun w hp => ?_) ⟨_, hp⟩ ?_
    · obtain ⟨_, hp⟩ := hp
      refine st_ldO (u := vl0_Rows) hf (by decide) pl68 rfl rfl (hol0.ob hp) rfl ?_
      clear hf; intro a ha hf
      exact st_nil hf (th_n ⟨ha, rfl⟩)
    clear hf; intro a hf
    refine dr_take 9 (.int .i64 (l0_Rows.length : Int)) rfl (by kernel_rfl) (by kernel_rfl) (by kernel_rfl) (by kernel_rfl) rfl rfl hf (by decide) rfl (fun w hp => ?_) ⟨_, hp⟩ ?_
    · obtain ⟨_, hp⟩ := hp
      refine st_lenV hf (by decide) Try.underlying68 rfl rfl (hl0_Rows.ob hp).shapeVY ?_
      clear hf; intro a ha hf
      exact st_nil hf (th_n ⟨ha, rfl⟩)
    clear hf; intro a hf
    refine dr_take 10 (.int .i64 (IntKind.i64.wrap ((l0_Rows.length : Int) - (1 : Int)))) rfl (by kernel_rfl) (by kernel_rfl) (by kernel_rfl) (by kernel_rfl) rfl rfl hf (by decide) rfl (fun w hp => ?_) ⟨_, hp⟩ ?_
    · obtain ⟨_, hp⟩ := hp
      refine st_isub hf (by decide) rfl rfl rfl ?_
      clear hf; intro a ha hf
      exact st_nil hf (th_n ⟨ha, rfl⟩)
    clear hf; intro a hf
    refine dr_take 11 (.int .i64 (IntKind.i64.wrap ((l0_Rows.length : Int) * (IntKind.i64.wrap ((l0_Rows.length : Int) - (1 : Int)))))) rfl (by kernel_rfl) (by kernel_rfl) (by kernel_rfl) (by kernel_rfl) rfl rfl hf (by decide) rfl (fun w hp => ?_) ⟨_, hp⟩ ?_
    · obtain ⟨_, hp⟩ := hp
      refine st_imul hf (by decide) rfl rfl rfl ?_
      clear hf; intro a ha hf
      exact st_nil hf (th_n ⟨ha, rfl⟩)
    clear hf; intro a hf
    refine dr_take 12 (ol0) rfl (by kernel_rfl) (by kernel_rfl) (by kernel_rfl) (by kernel_rfl) rfl rfl hf (by decide) rfl (fun w hp => ?_) ⟨_, hp⟩ ?_
    · obtain ⟨_, hp⟩ := hp
      refine st_move hf rfl rfl (by decide) ?_
      clear hf; intro a ha hf
      exact st_nil hf (th_n ⟨ha, rfl⟩)
    clear hf; intro a hf
    refine dr_nilV 13 rfl (by kernel_rfl) (by kernel_rfl) (by kernel_rfl) hf (by decide) rfl rfl (hol0.ob hp) ?_
    clear hf; intro a hf
    refine dr_take 14 (optr ol0 2) rfl (by kernel_rfl) (by kernel_rfl) (by kernel_rfl) (by kernel_rfl) rfl rfl hf (by decide) rfl (fun w hp => ?_) ⟨_, hp⟩ ?_
    · obtain ⟨_, hp⟩ := hp
      refine st_fa (o' := 2) hf (by decide) (off := 2) (sz := 1) (by kernel_rfl) (by decide) rfl rfl (hol0.ob hp) rfl ?_
      clear hf; intro a ha hf
      exact st_nil hf (th_n ⟨ha, rfl⟩)
    clear hf; intro a hf
    refine dr_take 15 (.int .i64 l0_Steps) rfl (by kernel_rfl) (by kernel_rfl) (by kernel_rfl) (by kernel_rfl) rfl rfl hf (by decide) rfl (fun w hp => ?_) ⟨_, hp⟩ ?_
    · obtain ⟨_, hp⟩ := hp
      refine st_ldO (u := .int .i64 l0_Steps) hf (by decide) pl3 rfl rfl (hol0.ob hp) rfl ?_
      clear hf; intro a ha hf
      exact st_nil hf (th_n ⟨ha, rfl⟩)
    clear hf; intro a hf
    refine dr_take 16 (.int .i64 (IntKind.i64.wrap ((IntKind.i64.wrap ((l0_Rows.length : Int) * (IntKind.i64.wrap ((l0_Rows.length : Int) - (1 : Int))))) * l0_Steps))) rfl (by kernel_rfl) (by kernel_rfl) (by kernel_rfl) (by kernel_rfl) rfl rfl hf (by decide) rfl (fun w hp => ?_) ⟨_, hp⟩ ?_
    · obtain ⟨_, hp⟩ := hp
      refine st_imul hf (by decide) rfl rfl rfl ?_
      clear hf; intro a ha hf
      exact st_nil hf (th_n ⟨ha, rfl⟩)
    clear hf; intro a hf
    refine dr_take 17 (.int .i64 (IntKind.i64.wrap ((IntKind.i64.wrap ((l0_Rows.length : Int) * (IntKind.i64.wrap ((l0_Rows.length : Int) - (1 : Int))))) * l0_Steps))) rfl (by kernel_rfl) (by kernel_rfl) (by kernel_rfl) (by kernel_rfl) rfl rfl hf (by decide) rfl (fun w hp => ?_) ⟨_, hp⟩ ?_
    · obtain ⟨_, hp⟩ := hp
      refine st_assign hf rfl rfl (by decide) ?_
      clear hf; intro a ha hf
      exact st_nil hf (th_n ⟨ha, rfl⟩)
    clear hf; intro a hf
    refine dr_end (by kernel_rfl) ?_ _
    exact ⟨hf.sub ⟨rfl, trivial⟩, hp⟩
  rintro a w ⟨hf, hp⟩
  refine th_n ?_
  refine wp_ret ?_
  obtain rfl := Option.some.inj h
  exact ⟨rfl, ⟨hf.sub ⟨rfl, trivial⟩, hp⟩⟩

end Go.Proofs.Ythoigfonjpmibaa
