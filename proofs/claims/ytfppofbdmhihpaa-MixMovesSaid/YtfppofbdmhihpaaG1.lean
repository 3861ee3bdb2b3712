/- The functions foghorn foghornlaw08.MixMoves: what each answers, as a plain function, and that its call answers it; printed by gen.py. -/
import Derived.Test.YtfppofbdmhihpaaProg
import Derived.Test.YtfppofbdmhihpaaGlN
import Derived.KernelRfl
set_option linter.unusedVariables false
set_option maxRecDepth 100000
set_option maxHeartbeats 4000000
namespace Go.Proofs.Ytfppofbdmhihpaa
open GL
theorem elt36 : ElT Try.prog Ek.c128 36 16 (Fl.bits 0, Fl.bits 0) := ElT.of (z := .complex .f64 0 0) (by kernel_rfl) ⟨_, _, rfl, rfl, rfl⟩
theorem elt42 : ElT Try.prog (Ek.int .u64) 42 8 (0 : Int) := ElT.of (z := .int .u64 0) (by kernel_rfl) rfl
theorem pl36 : Plain Try.prog 36 := ⟨⟨_, Try.underlying36, trivial⟩⟩
theorem pl42 : Plain Try.prog 42 := ⟨⟨_, Try.underlying42, trivial⟩⟩
theorem pl57 : Plain Try.prog 57 := ⟨⟨_, Try.underlying57, trivial⟩⟩
noncomputable def f_foghornlaw08_numbers.s1c (l0 : (List Int)) (out3 : (List (Fl × Fl))) (i4 : Int) : Option (((List (Fl × Fl)) × Int) ⊕ (List (Fl × Fl))) := (if (decide ((IntKind.i64.wrap (i4 + (1 : Int))) < (l0.length : Int))) = true then (if 0 ≤ i4 ∧ i4 < (l0.length : Int) then (if 0 ≤ (IntKind.i64.wrap (i4 + (1 : Int))) ∧ (IntKind.i64.wrap (i4 + (1 : Int))) < (l0.length : Int) then (if (out3.length + ([((Fl.bits ((gt l0 i4)).toNat), (Fl.bits ((gt l0 (IntKind.i64.wrap (i4 + (1 : Int))))).toNat))]).length) * 16 ≤ 140737488355328 then (some (Sum.inl ((out3 ++ [((Fl.bits ((gt l0 i4)).toNat), (Fl.bits ((gt l0 (IntKind.i64.wrap (i4 + (1 : Int))))).toNat))]), (IntKind.i64.wrap (i4 + (2 : Int)))))) else none) else none) else none) else (some (Sum.inr out3)))
noncomputable def f_foghornlaw08_numbers.s1 (l0 : (List Int)) (s : ((List (Fl × Fl)) × Int)) : Option (((List (Fl × Fl)) × Int) ⊕ (List (Fl × Fl))) := f_foghornlaw08_numbers.s1c l0 s.1 s.2
noncomputable def f_foghornlaw08_numbers (l0 : (List Int)) : Option ((List (Fl × Fl)) × (List (Fl × Fl))) := ((loop (f_foghornlaw08_numbers.s1 l0) ([], (0 : Int))).bind (fun q11 => (if (q11.length + ([(Fl.bits 4651892959631900672, Fl.bits 0)]).length) * 16 ≤ 140737488355328 then (if 0 ≤ (q11.length : Int) ∧ (q11.length : Int) ≤ (((q11 ++ [(Fl.bits 4651892959631900672, Fl.bits 0)]) ++ ([] : List (Fl × Fl))).length : Int) then (some ((((q11 ++ [(Fl.bits 4651892959631900672, Fl.bits 0)]) ++ ([] : List (Fl × Fl))).take (((q11.length : Int)).toNat)), (((q11 ++ [(Fl.bits 4651892959631900672, Fl.bits 0)]) ++ ([] : List (Fl × Fl))).drop (((q11.length : Int)).toNat)))) else none) else none)))
theorem f_foghornlaw08_numbers_c {S : Nat → Prop} {w0 w : World} {ow : List Res} (hp : Hp S w0 w ow) (vl0 : Value) (l0 : (List Int)) (hl0 : RdS (Ek.int .u64) S w0 vl0 l0) {r : ((List (Fl × Fl)) × (List (Fl × Fl)))} (h : f_foghornlaw08_numbers l0 = some r) :
    Calls Try.prog 9 #[vl0] w (fun e w' => ∃ (u0 : Value), e = .returned (u0) ∧ Hp S w0 w' (Res.slx Ek.c128 36 u0 r.1 r.2 :: ow)) := by
  unfold f_foghornlaw08_numbers at h
  refine enter (n := 35) (args := [vl0]) Try.func9 rfl rfl (Nat.le_of_ble_eq_true rfl) fun a hf => ?_
  replace hf : Fr 35 a [(0, vl0)] := hf
  refine wp_mono (Q := fun e a w => e = .ret ∧ ∃ (u0 : Value), Fr 35 a [(2, u0)] ∧ Hp S w0 w (Res.slx Ek.c128 36 u0 r.1 r.2 :: ow)) ?_ ?_
  rotate_left
  · rintro e a w ⟨rfl, x0, hf, hp⟩
    exact ret1 hf rfl rfl ⟨x0, rfl, hp⟩
  refine wp_seq ?_
  refine wp_reg ?_
  refine st_assign hf rfl rfl (by decide) ?_
  clear hf; intro a ha hf; clear ha
  refine st_nil hf ?_
  refine th_n ?_
  refine wp_seq ?_
  refine wp_reg ?_
  refine st_assign hf rfl rfl (by decide) ?_
  clear hf; intro a ha hf; clear ha
  refine st_nil hf ?_
  refine th_n ?_
  refine wp_seq ?_
  refine wp_seq ?_
  refine wp_reg ?_
  refine st_assign hf rfl rfl (by decide) ?_
  clear hf; intro a ha hf; clear ha
  refine st_nil hf ?_
  refine th_n ?_
  refine wp_block ?_
  obtain ⟨q11, hl, h⟩ := bnd h
  have hp := hp.nil Ek.c128 36
  refine wp_loop_pure (f := (f_foghornlaw08_numbers.s1 l0)) (s := ([], (0 : Int))) (fun s a w => ∃ (v1 : Value), Fr 35 a [(0, vl0), (3, v1), (4, .int .i64 s.2)] ∧ Hp S w0 w (Res.sl Ek.c128 36 v1 s.1 :: ow)) (fun q e a w => e = .exit 0 ∧ ∃ (v3 : Value), Fr 35 a [(3, v3)] ∧ Hp S w0 w (Res.sl Ek.c128 36 v3 q :: ow)) ?_ hl ⟨_, hf.sub ⟨rfl, rfl, rfl, trivial⟩, hp⟩ ?_
  · clear hl hf hp
    intro s x a w h hI
    obtain ⟨out3, i4⟩ := s
    obtain ⟨v1, hf, hp⟩ : ∃ (v1 : Value), Fr 35 a [(0, vl0), (3, v1), (4, .int .i64 i4)] ∧ Hp S w0 w (Res.sl Ek.c128 36 v1 out3 :: ow) := hI
    replace h : f_foghornlaw08_numbers.s1c l0 out3 i4 = some x := h
    unfold f_foghornlaw08_numbers.s1c at h
    refine wp_seq ?_
    refine wp_seq ?_
    refine wp_reg ?_
    refine st_move hf rfl rfl (by decide) ?_
    clear hf; intro a ha hf; clear ha
    refine st_iadd hf (by decide) rfl rfl rfl ?_
    clear hf; intro a ha hf; clear ha
    refine st_move hf rfl rfl (by decide) ?_
    clear hf; intro a ha hf; clear ha
    refine st_len (E := (Ek.int .u64)) hf (by decide) Try.underlying22 rfl rfl (hl0.sl hp) ?_
    clear hf; intro a ha hf; clear ha
    refine st_ilss hf (by decide) rfl rfl rfl ?_
    clear hf; intro a ha hf; clear ha
    refine st_nil hf ?_
    refine th_n ?_
    refine wp_if hf rfl (fun hb => ?_) (fun hb => ?_)
    · replace h := ifT h hb
      refine wp_skip ?_
      refine th_n ?_
      refine wp_seq ?_
      refine wp_block ?_
      obtain ⟨hc5, h⟩ := chk h
      obtain ⟨hc6, h⟩ := chk h
      obtain ⟨hc9, h⟩ := chk h
      refine wp_cutN (fun a w => ∃ (v7 : Value) (v10 : Value), Fr 35 a [(0, vl0), (3, v10), (4, .int .i64 i4)] ∧ Hp S w0 w (Res.sl Ek.c128 36 v7 ([((Fl.bits ((gt l0 i4)).toNat), (Fl.bits ((gt l0 (IntKind.i64.wrap (i4 + (1 : Int))))).toNat))]) :: Res.sl Ek.c128 36 v10 (out3 ++ [((Fl.bits ((gt l0 i4)).toNat), (Fl.bits ((gt l0 (IntKind.i64.wrap (i4 + (1 : Int))))).toNat))]) :: ow)) ?_ ?_
      · have hp := hp.same (Same.drew w)
        refine dr_begin' (fun a w => ∃ (v7 : Value) (v10 : Value), Fr 35 a [(0, vl0), (3, v10), (4, .int .i64 i4)] ∧ Hp S w0 w (Res.sl Ek.c128 36 v7 ([((Fl.bits ((gt l0 i4)).toNat), (Fl.bits ((gt l0 (IntKind.i64.wrap (i4 + (1 : Int))))).toNat))]) :: Res.sl Ek.c128 36 v10 (out3 ++ [((Fl.bits ((gt l0 i4)).toNat), (Fl.bits ((gt l0 (IntKind.i64.wrap (i4 + (1 : Int))))).toNat))]) :: ow)) (fun w' => ∃ l, Hp S w0 w' l) [] (by kernel_rfl) ?_
        refine dr_take 0 (v1) rfl (by kernel_rfl) (by kernel_rfl) (by kernel_rfl) (by kernel_rfl) rfl rfl hf (by decide) rfl (fun w hp => ?_) ⟨_, hp⟩ ?_
        · obtain ⟨_, hp⟩ := hp
          refine st_move hf rfl rfl (by decide) ?_
          clear hf; intro a ha hf
          exact st_nil hf (th_n ⟨ha, rfl⟩)
        clear hf; intro a hf
        refine dr_take 1 (vl0) rfl (by kernel_rfl) (by kernel_rfl) (by kernel_rfl) (by kernel_rfl) rfl rfl hf (by decide) rfl (fun w hp => ?_) ⟨_, hp⟩ ?_
        · obtain ⟨_, hp⟩ := hp
          refine st_move hf rfl rfl (by decide) ?_
          clear hf; intro a ha hf
          exact st_nil hf (th_n ⟨ha, rfl⟩)
        clear hf; intro a hf
        refine dr_take 2 (.int .i64 i4) rfl (by kernel_rfl) (by kernel_rfl) (by kernel_rfl) (by kernel_rfl) rfl rfl hf (by decide) rfl (fun w hp => ?_) ⟨_, hp⟩ ?_
        · obtain ⟨_, hp⟩ := hp
          refine st_move hf rfl rfl (by decide) ?_
          clear hf; intro a ha hf
          exact st_nil hf (th_n ⟨ha, rfl⟩)
        clear hf; intro a hf
        refine dr_take 3 (eptr vl0 i4 1) rfl (by kernel_rfl) (by kernel_rfl) (by kernel_rfl) (by kernel_rfl) rfl rfl hf (by decide) rfl (fun w hp => ?_) ⟨_, hp⟩ ?_
        · obtain ⟨_, hp⟩ := hp
          refine st_index (E := (Ek.int .u64)) hf (by decide) Try.underlying22 elt42 rfl rfl rfl (hl0.sl hp) hc5.1 hc5.2 ?_
          clear hf; intro a ha hf
          exact st_nil hf (th_n ⟨ha, rfl⟩)
        clear hf; intro a hf
        refine dr_take 4 (.int .u64 (gt l0 i4)) rfl (by kernel_rfl) (by kernel_rfl) (by kernel_rfl) (by kernel_rfl) rfl rfl hf (by decide) rfl (fun w hp => ?_) ⟨_, hp⟩ ?_
        · obtain ⟨_, hp⟩ := hp
          refine st_ldI hf (by decide) pl42 rfl rfl (hl0.sl hp) hc5.1 hc5.2 ?_
          clear hf; intro a ha hf
          exact st_nil hf (th_n ⟨ha, rfl⟩)
        clear hf; intro a hf
        refine dr_take 6 (vl0) rfl (by kernel_rfl) (by kernel_rfl) (by kernel_rfl) (by kernel_rfl) rfl rfl hf (by decide) rfl (fun w hp => ?_) ⟨_, hp⟩ ?_
        · obtain ⟨_, hp⟩ := hp
          refine st_move hf rfl rfl (by decide) ?_
          clear hf; intro a ha hf
          exact st_nil hf (th_n ⟨ha, rfl⟩)
        clear hf; intro a hf
        refine dr_take 7 (.int .i64 i4) rfl (by kernel_rfl) (by kernel_rfl) (by kernel_rfl) (by kernel_rfl) rfl rfl hf (by decide) rfl (fun w hp => ?_) ⟨_, hp⟩ ?_
        · obtain ⟨_, hp⟩ := hp
          refine st_move hf rfl rfl (by decide) ?_
          clear hf; intro a ha hf
          exact st_nil hf (th_n ⟨ha, rfl⟩)
        clear hf; intro a hf
        refine dr_take 8 (.int .i64 (IntKind.i64.wrap (i4 + (1 : Int)))) rfl (by kernel_rfl) (by kernel_rfl) (by kernel_rfl) (by kernel_rfl) rfl rfl hf (by decide) rfl (fun w hp => ?_) ⟨_, hp⟩ ?_
        · obtain ⟨_, hp⟩ := hp
          refine st_iadd hf (by decide) rfl rfl rfl ?_
          clear hf; intro a ha hf
          exact st_nil hf (th_n ⟨ha, rfl⟩)
        clear hf; intro a hf
        refine dr_take 9 (eptr vl0 (IntKind.i64.wrap (i4 + (1 : Int))) 1) rfl (by kernel_rfl) (by kernel_rfl) (by kernel_rfl) (by kernel_rfl) rfl rfl hf (by decide) rfl (fun w hp => ?_) ⟨_, hp⟩ ?_
        · obtain ⟨_, hp⟩ := hp
          refine st_index (E := (Ek.int .u64)) hf (by decide) Try.underlying22 elt42 rfl rfl rfl (hl0.sl hp) hc6.1 hc6.2 ?_
          clear hf; intro a ha hf
          exact st_nil hf (th_n ⟨ha, rfl⟩)
        clear hf; intro a hf
        refine dr_take 10 (.int .u64 (gt l0 (IntKind.i64.wrap (i4 + (1 : Int))))) rfl (by kernel_rfl) (by kernel_rfl) (by kernel_rfl) (by kernel_rfl) rfl rfl hf (by decide) rfl (fun w hp => ?_) ⟨_, hp⟩ ?_
        · obtain ⟨_, hp⟩ := hp
          refine st_ldI hf (by decide) pl42 rfl rfl (hl0.sl hp) hc6.1 hc6.2 ?_
          clear hf; intro a ha hf
          exact st_nil hf (th_n ⟨ha, rfl⟩)
        clear hf; intro a hf
        refine dr_one 5 rfl (by kernel_rfl) ?_
        refine st_extern (ex := Extern.MathFloatBits.float64frombits) (r := .float .f64 ((gt l0 i4)).toNat) (f := 24) (vs := [.int .u64 (gt l0 i4)]) hf (by decide) Try.func24 rfl rfl (by kernel_rfl) (by kernel_rfl) rfl rfl rfl rfl ?_
        clear hf; intro a ha hf; clear ha
        refine st_nil hf (th_n ⟨fun _ => ⟨_, hp⟩, ?_⟩)
        refine dr_one 11 rfl (by kernel_rfl) ?_
        refine st_extern (ex := Extern.MathFloatBits.float64frombits) (r := .float .f64 ((gt l0 (IntKind.i64.wrap (i4 + (1 : Int))))).toNat) (f := 24) (vs := [.int .u64 (gt l0 (IntKind.i64.wrap (i4 + (1 : Int))))]) hf (by decide) Try.func24 rfl rfl (by kernel_rfl) (by kernel_rfl) rfl rfl rfl rfl ?_
        clear hf; intro a ha hf; clear ha
        refine st_nil hf (th_n ⟨fun _ => ⟨_, hp⟩, ?_⟩)
        refine dr_take 12 (.complex .f64 ((gt l0 i4)).toNat ((gt l0 (IntKind.i64.wrap (i4 + (1 : Int))))).toNat) rfl (by kernel_rfl) (by kernel_rfl) (by kernel_rfl) (by kernel_rfl) rfl rfl hf (by decide) rfl (fun w hp => ?_) ⟨_, hp⟩ ?_
        · obtain ⟨_, hp⟩ := hp
          refine st_complex hf (by decide) rfl rfl rfl ?_
          clear hf; intro a ha hf
          exact st_nil hf (th_n ⟨ha, rfl⟩)
        clear hf; intro a hf
        refine dr_one 13 rfl (by kernel_rfl) ?_
        refine st_build (E := Ek.c128) (xs := [((Fl.bits ((gt l0 i4)).toNat), (Fl.bits ((gt l0 (IntKind.i64.wrap (i4 + (1 : Int))))).toNat))]) hf (by decide) elt36 Try.underlying24 hp (vals := #[(0, .complex .f64 ((gt l0 i4)).toNat ((gt l0 (IntKind.i64.wrap (i4 + (1 : Int))))).toNat)]) (cells := #[.complex .f64 ((gt l0 i4)).toNat ((gt l0 (IntKind.i64.wrap (i4 + (1 : Int))))).toNat]) rfl (by simp [hf.ev (x := (Operand.tmp 25)) rfl]) (by decide) (by decide) (z := .complex .f64 0 0) (by kernel_rfl) (by kernel_rfl) rfl (reps_cons (cs := [.complex .f64 ((gt l0 i4)).toNat ((gt l0 (IntKind.i64.wrap (i4 + (1 : Int))))).toNat]) (show Ek.c128.rep [.complex .f64 ((gt l0 i4)).toNat ((gt l0 (IntKind.i64.wrap (i4 + (1 : Int))))).toNat] ((Fl.bits ((gt l0 i4)).toNat), (Fl.bits ((gt l0 (IntKind.i64.wrap (i4 + (1 : Int))))).toNat)) from ⟨_, _, rfl, rfl, rfl⟩) (reps_nil _)) ?_
        clear hf; intro a w v7 hf hp0; clear hp; have hp := hp0; clear hp0
        replace hp : Hp _ _ w (Res.sl Ek.c128 36 v7 ([((Fl.bits ((gt l0 i4)).toNat), (Fl.bits ((gt l0 (IntKind.i64.wrap (i4 + (1 : Int))))).toNat))]) :: Res.sl Ek.c128 36 v1 out3 :: ow) := hp
        refine st_nil hf (th_n ⟨fun _ => ⟨_, hp⟩, ?_⟩)
        refine dr_one 14 rfl (by kernel_rfl) ?_
        refine st_append (E := Ek.c128) hf (by decide) elt36 Try.underlying24 (by decide) hp (i := 1) rfl rfl rfl rfl (hp.sl (i := 0) rfl) hc9 ?_
        clear hf; intro a w v10 hf hp0; clear hp; have hp := hp0; clear hp0
        replace hp : Hp _ _ w (Res.sl Ek.c128 36 v7 ([((Fl.bits ((gt l0 i4)).toNat), (Fl.bits ((gt l0 (IntKind.i64.wrap (i4 + (1 : Int))))).toNat))]) :: Res.sl Ek.c128 36 v10 (out3 ++ [((Fl.bits ((gt l0 i4)).toNat), (Fl.bits ((gt l0 (IntKind.i64.wrap (i4 + (1 : Int))))).toNat))]) :: ow) := hp
        refine st_nil hf (th_n ⟨fun _ => ⟨_, hp⟩, ?_⟩)
        refine dr_take 15 (v10) rfl (by kernel_rfl) (by kernel_rfl) (by kernel_rfl) (by kernel_rfl) rfl rfl hf (by decide) rfl (fun w hp => ?_) ⟨_, hp⟩ ?_
        · obtain ⟨_, hp⟩ := hp
          refine st_assign hf rfl rfl (by decide) ?_
          clear hf; intro a ha hf
          exact st_nil hf (th_n ⟨ha, rfl⟩)
        clear hf; intro a hf
        refine dr_end (by kernel_rfl) ?_ _
        exact ⟨v7, v10, hf.sub ⟨rfl, rfl, rfl, trivial⟩, hp⟩
      · rintro a w ⟨v7, v10, hf, hp⟩
        refine ib_n ?_
        refine th_n ?_
        refine wp_reg ?_
        refine st_move hf rfl rfl (by decide) ?_
        clear hf; intro a ha hf; clear ha
        refine st_iadd hf (by decide) rfl rfl rfl ?_
        clear hf; intro a ha hf; clear ha
        refine st_assign hf rfl rfl (by decide) ?_
        clear hf; intro a ha hf; clear ha
        refine st_nil hf ?_
        obtain rfl := Option.some.inj h
        have hp : Hp _ _ w (Res.sl Ek.c128 36 v10 (out3 ++ [((Fl.bits ((gt l0 i4)).toNat), (Fl.bits ((gt l0 (IntKind.i64.wrap (i4 + (1 : Int))))).toNat))]) :: ow) := Hp.sel (pre := [Res.sl Ek.c128 36 v7 ([((Fl.bits ((gt l0 i4)).toNat), (Fl.bits ((gt l0 (IntKind.i64.wrap (i4 + (1 : Int))))).toNat))]), Res.sl Ek.c128 36 v10 (out3 ++ [((Fl.bits ((gt l0 i4)).toNat), (Fl.bits ((gt l0 (IntKind.i64.wrap (i4 + (1 : Int))))).toNat))])]) (tail := ow) (rs' := [Res.sl Ek.c128 36 v10 (out3 ++ [((Fl.bits ((gt l0 i4)).toNat), (Fl.bits ((gt l0 (IntKind.i64.wrap (i4 + (1 : Int))))).toNat))])]) hp [1] (by decide) (by simp) rfl
        exact rnd_l ⟨_, hf.sub ⟨rfl, rfl, rfl, trivial⟩, hp⟩
    · replace h := ifF h hb
      refine wp_exit ?_
      refine th_e ?_
      obtain rfl := Option.some.inj h
      exact rnd_r (by simp) ⟨rfl, _, hf.sub ⟨rfl, trivial⟩, hp⟩
  · clear hl hf hp
    intro e a w hne hO
    obtain ⟨rfl, v3, hf, hp⟩ := hO
    refine ib_same ?_
    refine th_n ?_
    refine wp_seq ?_
    refine wp_reg ?_
    refine st_move hf rfl rfl (by decide) ?_
    clear hf; intro a ha hf; clear ha
    refine st_len (E := Ek.c128) hf (by decide) Try.underlying24 rfl rfl (hp.sl (i := 0) rfl) ?_
    clear hf; intro a ha hf; clear ha
    refine st_assign hf rfl rfl (by decide) ?_
    clear hf; intro a ha hf; clear ha
    refine st_nil hf ?_
    refine th_n ?_
    refine wp_seq ?_
    refine wp_reg ?_
    refine st_move hf rfl rfl (by decide) ?_
    clear hf; intro a ha hf; clear ha
    refine st_build (E := Ek.c128) (xs := [(Fl.bits 4651892959631900672, Fl.bits 0)]) hf (by decide) elt36 Try.underlying24 hp (vals := #[(0, .complex .f64 4651892959631900672 0)]) (cells := #[.complex .f64 4651892959631900672 0]) rfl (by simp [hf.ev (x := (Operand.const (.complex .f64 4651892959631900672 0))) rfl]) (by decide) (by decide) (z := .complex .f64 0 0) (by kernel_rfl) (by kernel_rfl) rfl (reps_cons (cs := [.complex .f64 4651892959631900672 0]) (show Ek.c128.rep [.complex .f64 4651892959631900672 0] (Fl.bits 4651892959631900672, Fl.bits 0) from ⟨_, _, rfl, rfl, rfl⟩) (reps_nil _)) ?_
    clear hf; intro a w v13 hf hp0; clear hp; have hp := hp0; clear hp0
    replace hp : Hp _ _ w (Res.sl Ek.c128 36 v13 ([(Fl.bits 4651892959631900672, Fl.bits 0)]) :: Res.sl Ek.c128 36 v3 q11 :: ow) := hp
    obtain ⟨hc15, h⟩ := chk h
    refine st_append (E := Ek.c128) hf (by decide) elt36 Try.underlying24 (by decide) hp (i := 1) rfl rfl rfl rfl (hp.sl (i := 0) rfl) hc15 ?_
    clear hf; intro a w v16 hf hp0; clear hp; have hp := hp0; clear hp0
    replace hp : Hp _ _ w (Res.sl Ek.c128 36 v13 ([(Fl.bits 4651892959631900672, Fl.bits 0)]) :: Res.sl Ek.c128 36 v16 (q11 ++ [(Fl.bits 4651892959631900672, Fl.bits 0)]) :: ow) := hp
    refine st_move hf rfl rfl (by decide) ?_
    clear hf; intro a ha hf; clear ha
    obtain ⟨hc17, h⟩ := chk h
    have hc18 : 0 ≤ ((q11.length : Int)).toNat := by omega
    have hc19 : ((q11.length : Int)).toNat ≤ ((q11 ++ [(Fl.bits 4651892959631900672, Fl.bits 0)]) ++ ([] : List (Fl × Fl))).length := by omega
    refine st_cutX (E := Ek.c128) hf (by decide) Try.underlying24 elt36 hp (i := 1) rfl rfl rfl (.inl ⟨rfl, rfl⟩) (.inr ⟨_, _, rfl, evI rfl (by omega)⟩) hc18 hc19 ?_
    clear hf; intro a ha hf; clear ha
    replace hp : Hp _ _ w (Res.sl Ek.c128 36 v13 ([(Fl.bits 4651892959631900672, Fl.bits 0)]) :: Res.slx Ek.c128 36 (GL.cut v16 0 (((q11.length : Int)).toNat) 1) (((q11 ++ [(Fl.bits 4651892959631900672, Fl.bits 0)]) ++ ([] : List (Fl × Fl))).take (((q11.length : Int)).toNat)) (((q11 ++ [(Fl.bits 4651892959631900672, Fl.bits 0)]) ++ ([] : List (Fl × Fl))).drop (((q11.length : Int)).toNat)) :: ow) := hp.cutOwn (i := 1) rfl hc19
    refine st_assign hf rfl rfl (by decide) ?_
    clear hf; intro a ha hf; clear ha
    refine st_nil hf ?_
    refine th_n ?_
    refine wp_ret ?_
    obtain rfl := Option.some.inj h
    have hp : Hp _ _ w (Res.slx Ek.c128 36 (GL.cut v16 0 (((q11.length : Int)).toNat) 1) (((q11 ++ [(Fl.bits 4651892959631900672, Fl.bits 0)]) ++ ([] : List (Fl × Fl))).take (((q11.length : Int)).toNat)) (((q11 ++ [(Fl.bits 4651892959631900672, Fl.bits 0)]) ++ ([] : List (Fl × Fl))).drop (((q11.length : Int)).toNat)) :: ow) := Hp.sel (pre := [Res.sl Ek.c128 36 v13 ([(Fl.bits 4651892959631900672, Fl.bits 0)]), Res.slx Ek.c128 36 (GL.cut v16 0 (((q11.length : Int)).toNat) 1) (((q11 ++ [(Fl.bits 4651892959631900672, Fl.bits 0)]) ++ ([] : List (Fl × Fl))).take (((q11.length : Int)).toNat)) (((q11 ++ [(Fl.bits 4651892959631900672, Fl.bits 0)]) ++ ([] : List (Fl × Fl))).drop (((q11.length : Int)).toNat))]) (tail := ow) (rs' := [Res.slx Ek.c128 36 (GL.cut v16 0 (((q11.length : Int)).toNat) 1) (((q11 ++ [(Fl.bits 4651892959631900672, Fl.bits 0)]) ++ ([] : List (Fl × Fl))).take (((q11.length : Int)).toNat)) (((q11 ++ [(Fl.bits 4651892959631900672, Fl.bits 0)]) ++ ([] : List (Fl × Fl))).drop (((q11.length : Int)).toNat))]) hp [1] (by decide) (by simp) rfl
    exact ⟨rfl, ⟨_, hf.sub ⟨rfl, trivial⟩, hp⟩⟩

noncomputable def f_foghornref08_Turn.s1c (z0 : (Fl × Fl)) (k5 : Int) : Option (((Fl × Fl) × Int) ⊕ (Fl × Fl)) := (if (decide ((0 : Int) < k5)) = true then (some (Sum.inl (((fneg z0.2), z0.1), (IntKind.i64.wrap (k5 - (1 : Int)))))) else (some (Sum.inr z0)))
noncomputable def f_foghornref08_Turn.s1  (s : ((Fl × Fl) × Int)) : Option (((Fl × Fl) × Int) ⊕ (Fl × Fl)) := f_foghornref08_Turn.s1c s.1 s.2
noncomputable def f_foghornref08_Turn (z0 : (Fl × Fl)) (n1 : Int) : Option (Fl × Fl) := ((loop f_foghornref08_Turn.s1 (z0, (((IntKind.i64.wrap (((n1).tmod (4 : Int)) + (4 : Int)))).tmod (4 : Int)))).bind (fun q9 => (some q9)))
theorem f_foghornref08_Turn_c {S : Nat → Prop} {w0 w : World} {ow : List Res} (hp : Hp S w0 w ow) (bz0 cz0 : Nat) (z0 : Fl × Fl) (hz0 : z0.1.rep bz0) (kz0 : z0.2.rep cz0) (n1 : Int) {r : (Fl × Fl)} (h : f_foghornref08_Turn z0 n1 = some r) :
    Calls Try.prog 35 #[.complex .f64 bz0 cz0, .int .i64 n1] w (fun e w' => ∃ (b0 : Nat) (b1 : Nat), e = .returned (.complex .f64 b0 b1) ∧ Fl.rep b0 r.1 ∧ Fl.rep b1 r.2 ∧ Hp S w0 w' (ow)) := by
  unfold f_foghornref08_Turn at h
  refine enter (n := 21) (args := [.complex .f64 bz0 cz0, .int .i64 n1]) Try.func35 rfl rfl (Nat.le_of_ble_eq_true rfl) fun a hf => ?_
  replace hf : Fr 21 a [(0, .complex .f64 bz0 cz0), (1, .int .i64 n1)] := hf
  refine wp_mono (Q := fun e a w => e = .ret ∧ ∃ (b0 : Nat) (b1 : Nat), Fr 21 a [(4, .complex .f64 b0 b1)] ∧ Fl.rep b0 r.1 ∧ Fl.rep b1 r.2 ∧ Hp S w0 w (ow)) ?_ ?_
  rotate_left
  · rintro e a w ⟨rfl, x0, x1, hf, y0, y1, hp⟩
    exact ret1 hf rfl rfl ⟨x0, x1, rfl, y0, y1, hp⟩
  refine wp_seq ?_
  refine wp_reg ?_
  refine st_assign hf rfl rfl (by decide) ?_
  clear hf; intro a ha hf; clear ha
  refine st_nil hf ?_
  refine th_n ?_
  refine wp_seq ?_
  refine wp_seq ?_
  refine wp_reg ?_
  refine st_move hf rfl rfl (by decide) ?_
  clear hf; intro a ha hf; clear ha
  refine st_irem hf (by decide) rfl rfl rfl (by decide) ?_
  clear hf; intro a ha hf; clear ha
  refine st_iadd hf (by decide) rfl rfl rfl ?_
  clear hf; intro a ha hf; clear ha
  refine st_irem hf (by decide) rfl rfl rfl (by decide) ?_
  clear hf; intro a ha hf; clear ha
  refine st_assign hf rfl rfl (by decide) ?_
  clear hf; intro a ha hf; clear ha
  refine st_nil hf ?_
  refine th_n ?_
  refine wp_block ?_
  obtain ⟨q9, hl, h⟩ := bnd h
  refine wp_loop_pure (f := f_foghornref08_Turn.s1) (s := (z0, (((IntKind.i64.wrap (((n1).tmod (4 : Int)) + (4 : Int)))).tmod (4 : Int)))) (fun s a w => ∃ (b1 : Nat) (b2 : Nat), Fr 21 a [(0, .complex .f64 b1 b2), (5, .int .i64 s.2)] ∧ Fl.rep b1 s.1.1 ∧ Fl.rep b2 s.1.2 ∧ Hp S w0 w (ow)) (fun q e a w => e = .exit 0 ∧ ∃ (b5 : Nat) (b6 : Nat), Fr 21 a [(0, .complex .f64 b5 b6)] ∧ Fl.rep b5 q.1 ∧ Fl.rep b6 q.2 ∧ Hp S w0 w (ow)) ?_ hl ⟨_, _, hf.sub ⟨rfl, rfl, trivial⟩, hz0, kz0, hp⟩ ?_
  · clear hl hf hp
    intro s x a w h hI
    obtain ⟨z0, k5⟩ := s
    obtain ⟨b1, b2, hf, y3, y4, hp⟩ : ∃ (b1 : Nat) (b2 : Nat), Fr 21 a [(0, .complex .f64 b1 b2), (5, .int .i64 k5)] ∧ Fl.rep b1 z0.1 ∧ Fl.rep b2 z0.2 ∧ Hp S w0 w (ow) := hI
    replace h : f_foghornref08_Turn.s1c z0 k5 = some x := h
    unfold f_foghornref08_Turn.s1c at h
    refine wp_seq ?_
    refine wp_seq ?_
    refine wp_reg ?_
    refine st_move hf rfl rfl (by decide) ?_
    clear hf; intro a ha hf; clear ha
    refine st_igtr hf (by decide) rfl rfl rfl ?_
    clear hf; intro a ha hf; clear ha
    refine st_nil hf ?_
    refine th_n ?_
    refine wp_if hf rfl (fun hb => ?_) (fun hb => ?_)
    · replace h := ifT h hb
      refine wp_skip ?_
      refine th_n ?_
      refine wp_seq ?_
      refine wp_block ?_
      refine wp_reg ?_
      refine st_move hf rfl rfl (by decide) ?_
      clear hf; intro a ha hf; clear ha
      refine st_imag hf (by decide) rfl rfl ?_
      clear hf; intro a ha hf; clear ha
      refine st_fneg hf (by decide) rfl rfl ?_
      clear hf; intro a ha hf; clear ha
      refine st_move hf rfl rfl (by decide) ?_
      clear hf; intro a ha hf; clear ha
      refine st_real hf (by decide) rfl rfl ?_
      clear hf; intro a ha hf; clear ha
      refine st_complex hf (by decide) rfl rfl rfl ?_
      clear hf; intro a ha hf; clear ha
      refine st_assign hf rfl rfl (by decide) ?_
      clear hf; intro a ha hf; clear ha
      refine st_nil hf ?_
      refine ib_n ?_
      refine th_n ?_
      refine wp_reg ?_
      refine st_move hf rfl rfl (by decide) ?_
      clear hf; intro a ha hf; clear ha
      refine st_isub hf (by decide) rfl rfl rfl ?_
      clear hf; intro a ha hf; clear ha
      refine st_assign hf rfl rfl (by decide) ?_
      clear hf; intro a ha hf; clear ha
      refine st_nil hf ?_
      obtain rfl := Option.some.inj h
      exact rnd_l ⟨_, _, hf.sub ⟨rfl, rfl, trivial⟩, (fneg_rep y4), y3, hp⟩
    · replace h := ifF h hb
      refine wp_exit ?_
      refine th_e ?_
      obtain rfl := Option.some.inj h
      exact rnd_r (by simp) ⟨rfl, _, _, hf.sub ⟨rfl, trivial⟩, y3, y4, hp⟩
  · clear hl hf hp
    intro e a w hne hO
    obtain ⟨rfl, b5, b6, hf, y7, y8, hp⟩ := hO
    refine ib_same ?_
    refine th_n ?_
    refine wp_seq ?_
    refine wp_reg ?_
    refine st_move hf rfl rfl (by decide) ?_
    clear hf; intro a ha hf; clear ha
    refine st_assign hf rfl rfl (by decide) ?_
    clear hf; intro a ha hf; clear ha
    refine st_nil hf ?_
    refine th_n ?_
    refine wp_ret ?_
    obtain rfl := Option.some.inj h
    exact ⟨rfl, ⟨_, _, hf.sub ⟨rfl, trivial⟩, y7, y8, hp⟩⟩

noncomputable def f_foghornref08_Up.s1c (l0 : (List (Fl × Fl))) (quarters1 : Int) (out7 : (List (Fl × Fl))) (i8 : Int) : Option (((List (Fl × Fl)) × Int) ⊕ (List (Fl × Fl))) := (if (decide (i8 < (l0.length : Int))) = true then (if 0 ≤ i8 ∧ i8 < (l0.length : Int) then ((f_foghornref08_Turn (gt l0 i8) (IntKind.i64.wrap (((i8).tmod (4 : Int)) * (((IntKind.i64.wrap (((quarters1).tmod (4 : Int)) + (4 : Int)))).tmod (4 : Int))))).bind fun q11 => (if (out7.length + ([q11]).length) * 16 ≤ 140737488355328 then (some (Sum.inl ((out7 ++ [q11]), (IntKind.i64.wrap (i8 + (1 : Int)))))) else none)) else none) else (some (Sum.inr out7)))
noncomputable def f_foghornref08_Up.s1 (l0 : (List (Fl × Fl))) (quarters1 : Int) (s : ((List (Fl × Fl)) × Int)) : Option (((List (Fl × Fl)) × Int) ⊕ (List (Fl × Fl))) := f_foghornref08_Up.s1c l0 quarters1 s.1 s.2
noncomputable def f_foghornref08_Up (l0 : (List (Fl × Fl))) (quarters1 : Int) : Option ((List (Fl × Fl)) × Int) := (if (decide ((65536 : Int) < (l0.length : Int))) = true then (some ([], (1 : Int))) else ((loop (f_foghornref08_Up.s1 l0 quarters1) ([], (0 : Int))).bind (fun q21 => (some (q21, (0 : Int))))))
theorem f_foghornref08_Up_c {S : Nat → Prop} {w0 w : World} {ow : List Res} (hp : Hp S w0 w ow) (vl0 : Value) (l0 : (List (Fl × Fl))) (hl0 : RdS Ek.c128 S w0 vl0 l0) (quarters1 : Int) {r : ((List (Fl × Fl)) × Int)} (h : f_foghornref08_Up l0 quarters1 = some r) :
    Calls Try.prog 16 #[vl0, .int .i64 quarters1] w (fun e w' => ∃ (u0 : Value), e = .returned (.tuple #[u0, .int .i64 r.2]) ∧ Hp S w0 w' (Res.sl Ek.c128 36 u0 r.1 :: ow)) := by
  unfold f_foghornref08_Up at h
  refine enter (n := 35) (args := [vl0, .int .i64 quarters1]) Try.func16 rfl rfl (Nat.le_of_ble_eq_true rfl) fun a hf => ?_
  replace hf : Fr 35 a [(0, vl0), (1, .int .i64 quarters1)] := hf
  refine wp_mono (Q := fun e a w => e = .ret ∧ ∃ (u0 : Value), Fr 35 a [(4, u0), (5, .int .i64 r.2)] ∧ Hp S w0 w (Res.sl Ek.c128 36 u0 r.1 :: ow)) ?_ ?_
  rotate_left
  · rintro e a w ⟨rfl, x0, hf, hp⟩
    exact ret2 hf rfl rfl rfl ⟨x0, rfl, hp⟩
  refine wp_seq ?_
  refine wp_reg ?_
  refine st_assign hf rfl rfl (by decide) ?_
  clear hf; intro a ha hf; clear ha
  refine st_assign hf rfl rfl (by decide) ?_
  clear hf; intro a ha hf; clear ha
  refine st_nil hf ?_
  refine th_n ?_
  refine wp_seq ?_
  refine wp_seq ?_
  refine wp_reg ?_
  refine st_move hf rfl rfl (by decide) ?_
  clear hf; intro a ha hf; clear ha
  refine st_len (E := Ek.c128) hf (by decide) Try.underlying24 rfl rfl (hl0.sl hp) ?_
  clear hf; intro a ha hf; clear ha
  refine st_igtr hf (by decide) rfl rfl rfl ?_
  clear hf; intro a ha hf; clear ha
  refine st_nil hf ?_
  refine th_n ?_
  refine wp_if hf rfl (fun hb => ?_) (fun hb => ?_)
  · replace h := ifT h hb
    refine wp_seq ?_
    refine wp_reg ?_
    refine st_assign hf rfl rfl (by decide) ?_
    clear hf; intro a ha hf; clear ha
    refine st_assign hf rfl rfl (by decide) ?_
    clear hf; intro a ha hf; clear ha
    refine st_nil hf ?_
    refine th_n ?_
    refine wp_ret ?_
    refine th_r ?_
    obtain rfl := Option.some.inj h
    have hp := hp.nil Ek.c128 36
    exact ⟨rfl, ⟨_, hf.sub ⟨rfl, rfl, trivial⟩, hp⟩⟩
  · replace h := ifF h hb
    refine wp_skip ?_
    refine th_n ?_
    refine wp_seq ?_
    refine wp_reg ?_
    refine st_move hf rfl rfl (by decide) ?_
    clear hf; intro a ha hf; clear ha
    refine st_irem hf (by decide) rfl rfl rfl (by decide) ?_
    clear hf; intro a ha hf; clear ha
    refine st_iadd hf (by decide) rfl rfl rfl ?_
    clear hf; intro a ha hf; clear ha
    refine st_irem hf (by decide) rfl rfl rfl (by decide) ?_
    clear hf; intro a ha hf; clear ha
    refine st_assign hf rfl rfl (by decide) ?_
    clear hf; intro a ha hf; clear ha
    refine st_nil hf ?_
    refine th_n ?_
    refine wp_seq ?_
    refine wp_reg ?_
    refine st_assign hf rfl rfl (by decide) ?_
    clear hf; intro a ha hf; clear ha
    refine st_nil hf ?_
    refine th_n ?_
    refine wp_seq ?_
    refine wp_seq ?_
    refine wp_reg ?_
    refine st_assign hf rfl rfl (by decide) ?_
    clear hf; intro a ha hf; clear ha
    refine st_nil hf ?_
    refine th_n ?_
    refine wp_block ?_
    obtain ⟨q21, hl, h⟩ := bnd h
    have hp := hp.nil Ek.c128 36
    refine wp_loop_pure (f := (f_foghornref08_Up.s1 l0 quarters1)) (s := ([], (0 : Int))) (fun s a w => ∃ (v2 : Value), Fr 35 a [(0, vl0), (6, .int .i64 (((IntKind.i64.wrap (((quarters1).tmod (4 : Int)) + (4 : Int)))).tmod (4 : Int))), (7, v2), (8, .int .i64 s.2)] ∧ Hp S w0 w (Res.sl Ek.c128 36 v2 s.1 :: ow)) (fun q e a w => e = .exit 0 ∧ ∃ (v4 : Value), Fr 35 a [(7, v4)] ∧ Hp S w0 w (Res.sl Ek.c128 36 v4 q :: ow)) ?_ hl ⟨_, hf.sub ⟨rfl, rfl, rfl, rfl, trivial⟩, hp⟩ ?_
    · clear hl hf hp
      intro s x a w h hI
      obtain ⟨out7, i8⟩ := s
      obtain ⟨v2, hf, hp⟩ : ∃ (v2 : Value), Fr 35 a [(0, vl0), (6, .int .i64 (((IntKind.i64.wrap (((quarters1).tmod (4 : Int)) + (4 : Int)))).tmod (4 : Int))), (7, v2), (8, .int .i64 i8)] ∧ Hp S w0 w (Res.sl Ek.c128 36 v2 out7 :: ow) := hI
      replace h : f_foghornref08_Up.s1c l0 quarters1 out7 i8 = some x := h
      unfold f_foghornref08_Up.s1c at h
      refine wp_seq ?_
      refine wp_seq ?_
      refine wp_reg ?_
      refine st_move hf rfl rfl (by decide) ?_
      clear hf; intro a ha hf; clear ha
      refine st_move hf rfl rfl (by decide) ?_
      clear hf; intro a ha hf; clear ha
      refine st_len (E := Ek.c128) hf (by decide) Try.underlying24 rfl rfl (hl0.sl hp) ?_
      clear hf; intro a ha hf; clear ha
      refine st_ilss hf (by decide) rfl rfl rfl ?_
      clear hf; intro a ha hf; clear ha
      refine st_nil hf ?_
      refine th_n ?_
      refine wp_if hf rfl (fun hb => ?_) (fun hb => ?_)
      · replace h := ifT h hb
        refine wp_skip ?_
        refine th_n ?_
        refine wp_seq ?_
        refine wp_block ?_
        refine wp_reg ?_
        refine st_move hf rfl rfl (by decide) ?_
        clear hf; intro a ha hf; clear ha
        refine st_move hf rfl rfl (by decide) ?_
        clear hf; intro a ha hf; clear ha
        refine st_move hf rfl rfl (by decide) ?_
        clear hf; intro a ha hf; clear ha
        obtain ⟨hc6, h⟩ := chk h
        refine st_index (E := Ek.c128) hf (by decide) Try.underlying24 elt36 rfl rfl rfl (hl0.sl hp) hc6.1 hc6.2 ?_
        clear hf; intro a ha hf; clear ha
        refine st_ldC hf (by decide) pl36 rfl rfl (hl0.sl hp) hc6.1 hc6.2 ?_
        clear hf; intro a b7 b8 y9 y10 ha hf; clear ha
        refine st_move hf rfl rfl (by decide) ?_
        clear hf; intro a ha hf; clear ha
        refine st_irem hf (by decide) rfl rfl rfl (by decide) ?_
        clear hf; intro a ha hf; clear ha
        refine st_move hf rfl rfl (by decide) ?_
        clear hf; intro a ha hf; clear ha
        refine st_imul hf (by decide) rfl rfl rfl ?_
        clear hf; intro a ha hf; clear ha
        obtain ⟨q11, hcall12, h⟩ := bnd h
        refine st_call hf (by decide) Try.func35 rfl rfl rfl rfl rfl (f_foghornref08_Turn_c hp _ _ _ y9 y10 _ hcall12) ?_
        rintro _ w ⟨v13, v14, rfl, y15, y16, hp0⟩
        clear hp; have hp := hp0; clear hp0
        replace hp : Hp _ _ w (Res.sl Ek.c128 36 v2 out7 :: ow) := hp
        refine ⟨_, rfl, ?_⟩
        clear hf; intro a hf
        refine st_build (E := Ek.c128) (xs := [q11]) hf (by decide) elt36 Try.underlying24 hp (vals := #[(0, .complex .f64 v13 v14)]) (cells := #[.complex .f64 v13 v14]) rfl (by simp [hf.ev (x := (Operand.tmp 31)) rfl]) (by decide) (by decide) (z := .complex .f64 0 0) (by kernel_rfl) (by kernel_rfl) rfl (reps_cons (cs := [.complex .f64 v13 v14]) (show Ek.c128.rep [.complex .f64 v13 v14] q11 from ⟨_, _, rfl, y15, y16⟩) (reps_nil _)) ?_
        clear hf; intro a w v17 hf hp0; clear hp; have hp := hp0; clear hp0
        replace hp : Hp _ _ w (Res.sl Ek.c128 36 v17 ([q11]) :: Res.sl Ek.c128 36 v2 out7 :: ow) := hp
        obtain ⟨hc19, h⟩ := chk h
        refine st_append (E := Ek.c128) hf (by decide) elt36 Try.underlying24 (by decide) hp (i := 1) rfl rfl rfl rfl (hp.sl (i := 0) rfl) hc19 ?_
        clear hf; intro a w v20 hf hp0; clear hp; have hp := hp0; clear hp0
        replace hp : Hp _ _ w (Res.sl Ek.c128 36 v17 ([q11]) :: Res.sl Ek.c128 36 v20 (out7 ++ [q11]) :: ow) := hp
        refine st_assign hf rfl rfl (by decide) ?_
        clear hf; intro a ha hf; clear ha
        refine st_nil hf ?_
        refine ib_n ?_
        refine th_n ?_
        refine wp_reg ?_
        refine st_move hf rfl rfl (by decide) ?_
        clear hf; intro a ha hf; clear ha
        refine st_iadd hf (by decide) rfl rfl rfl ?_
        clear hf; intro a ha hf; clear ha
        refine st_assign hf rfl rfl (by decide) ?_
        clear hf; intro a ha hf; clear ha
        refine st_nil hf ?_
        obtain rfl := Option.some.inj h
        have hp : Hp _ _ w (Res.sl Ek.c128 36 v20 (out7 ++ [q11]) :: ow) := Hp.sel (pre := [Res.sl Ek.c128 36 v17 ([q11]), Res.sl Ek.c128 36 v20 (out7 ++ [q11])]) (tail := ow) (rs' := [Res.sl Ek.c128 36 v20 (out7 ++ [q11])]) hp [1] (by decide) (by simp) rfl
        exact rnd_l ⟨_, hf.sub ⟨rfl, rfl, rfl, rfl, trivial⟩, hp⟩
      · replace h := ifF h hb
        refine wp_exit ?_
        refine th_e ?_
        obtain rfl := Option.some.inj h
        exact rnd_r (by simp) ⟨rfl, _, hf.sub ⟨rfl, trivial⟩, hp⟩
    · clear hl hf hp
      intro e a w hne hO
      obtain ⟨rfl, v4, hf, hp⟩ := hO
      refine ib_same ?_
      refine th_n ?_
      refine wp_seq ?_
      refine wp_reg ?_
      refine st_move hf rfl rfl (by decide) ?_
      clear hf; intro a ha hf; clear ha
      refine st_assign hf rfl rfl (by decide) ?_
      clear hf; intro a ha hf; clear ha
      refine st_assign hf rfl rfl (by decide) ?_
      clear hf; intro a ha hf; clear ha
      refine st_nil hf ?_
      refine th_n ?_
      refine wp_ret ?_
      obtain rfl := Option.some.inj h
      exact ⟨rfl, ⟨_, hf.sub ⟨rfl, rfl, trivial⟩, hp⟩⟩

noncomputable def f_mix_fits (n0 : Int) : Option Bool := (some (decide (n0 ≤ (65536 : Int))))
theorem f_mix_fits_c {S : Nat → Prop} {w0 w : World} {ow : List Res} (hp : Hp S w0 w ow) (n0 : Int) {r : Bool} (h : f_mix_fits n0 = some r) :
    Calls Try.prog 34 #[.int .i64 n0] w (fun e w' => e = .returned (.bool r) ∧ Hp S w0 w' (ow)) := by
  unfold f_mix_fits at h
  refine enter (n := 5) (args := [.int .i64 n0]) Try.func34 rfl rfl (Nat.le_of_ble_eq_true rfl) fun a hf => ?_
  replace hf : Fr 5 a [(0, .int .i64 n0)] := hf
  refine wp_mono (Q := fun e a w => e = .ret ∧ Fr 5 a [(2, .bool r)] ∧ Hp S w0 w (ow)) ?_ ?_
  rotate_left
  · rintro e a w ⟨rfl, hf, hp⟩
    exact ret1 hf rfl rfl ⟨rfl, hp⟩
  refine wp_seq ?_
  refine wp_reg ?_
  refine st_assign hf rfl rfl (by decide) ?_
  clear hf; intro a ha hf; clear ha
  refine st_nil hf ?_
  refine th_n ?_
  refine wp_seq ?_
  refine wp_reg ?_
  refine st_move hf rfl rfl (by decide) ?_
  clear hf; intro a ha hf; clear ha
  refine st_ileq hf (by decide) rfl rfl rfl ?_
  clear hf; intro a ha hf; clear ha
  refine st_assign hf rfl rfl (by decide) ?_
  clear hf; intro a ha hf; clear ha
  refine st_nil hf ?_
  refine th_n ?_
  refine wp_ret ?_
  obtain rfl := Option.some.inj h
  exact ⟨rfl, ⟨hf.sub ⟨rfl, trivial⟩, hp⟩⟩

noncomputable def f_mix_turns  : Option Unit := (some ())
theorem f_mix_turns_c {S : Nat → Prop} {w0 w : World} {ow : List Res} (hp : Hp S w0 w ow) {r : Unit} (h : f_mix_turns = some r) :
    Calls Try.prog 36 #[] w (fun e w' => e = .returned (.agg #[.func (.func 39) #[] #[], .func (.func 40) #[] #[], .func (.func 41) #[] #[], .func (.func 42) #[] #[]]) ∧ Hp S w0 w' (ow)) := by
  unfold f_mix_turns at h
  refine enter (n := 6) (args := []) Try.func36 rfl rfl (Nat.le_of_ble_eq_true rfl) fun a hf => ?_
  replace hf : Fr 6 a [] := hf
  refine wp_mono (Q := fun e a w => e = .ret ∧ ∃ (c0 : Value), Fr 6 a [(0, optr c0 0)] ∧ Hp S w0 w (Res.obj 60 c0 [.func (.func 39) #[] #[], .func (.func 40) #[] #[], .func (.func 41) #[] #[], .func (.func 42) #[] #[]] :: ow)) ?_ ?_
  rotate_left
  · rintro e a w ⟨rfl, c0, hf, hp⟩
    exact retG1 hf rfl ⟨_, _, rfl, hp.ob (i := 0) rfl, .inr ⟨by kernel_rfl, rfl⟩⟩ ⟨rfl, hp.drop⟩
  refine wp_seq ?_
  refine wp_reg ?_
  refine st_alloc (cs := [.nilFunc, .nilFunc, .nilFunc, .nilFunc]) (zv := .agg #[.nilFunc, .nilFunc, .nilFunc, .nilFunc]) hf (by decide) (by kernel_rfl) rfl hp rfl ?_
  clear hf; intro a w v1 hf hp0; clear hp; have hp := hp0; clear hp0
  replace hp : Hp _ _ w (Res.obj 60 v1 [.nilFunc, .nilFunc, .nilFunc, .nilFunc] :: ow) := hp
  refine st_nil hf ?_
  refine th_n ?_
  refine wp_seq ?_
  refine wp_reg ?_
  refine st_buildA (vals := [(0, .func (.func 39) #[] #[])]) (cells := [.func (.func 39) #[] #[]]) hf (by decide) rfl (by simp [hf.ev (x := (Operand.func 39)) rfl]) (fun w => by kernel_rfl) ?_
  clear hf; intro a ha hf; clear ha
  refine st_buildA (vals := [(0, .func (.func 40) #[] #[])]) (cells := [.func (.func 40) #[] #[]]) hf (by decide) rfl (by simp [hf.ev (x := (Operand.func 40)) rfl]) (fun w => by kernel_rfl) ?_
  clear hf; intro a ha hf; clear ha
  refine st_buildA (vals := [(0, .func (.func 41) #[] #[])]) (cells := [.func (.func 41) #[] #[]]) hf (by decide) rfl (by simp [hf.ev (x := (Operand.func 41)) rfl]) (fun w => by kernel_rfl) ?_
  clear hf; intro a ha hf; clear ha
  refine st_buildA (vals := [(0, .func (.func 42) #[] #[])]) (cells := [.func (.func 42) #[] #[]]) hf (by decide) rfl (by simp [hf.ev (x := (Operand.func 42)) rfl]) (fun w => by kernel_rfl) ?_
  clear hf; intro a ha hf; clear ha
  refine st_buildA (vals := [(0, .agg #[.func (.func 39) #[] #[]]), (1, .agg #[.func (.func 40) #[] #[]]), (2, .agg #[.func (.func 41) #[] #[]]), (3, .agg #[.func (.func 42) #[] #[]])]) (cells := [.func (.func 39) #[] #[], .func (.func 40) #[] #[], .func (.func 41) #[] #[], .func (.func 42) #[] #[]]) hf (by decide) rfl (by simp [hf.ev (x := (Operand.tmp 1)) rfl, hf.ev (x := (Operand.tmp 2)) rfl, hf.ev (x := (Operand.tmp 3)) rfl, hf.ev (x := (Operand.tmp 4)) rfl]) (fun w => by kernel_rfl) ?_
  clear hf; intro a ha hf; clear ha
  refine st_stO (us := [.func (.func 39) #[] #[], .func (.func 40) #[] #[], .func (.func 41) #[] #[], .func (.func 42) #[] #[]]) hf hp (i := 0) rfl rfl rfl rfl rfl (by rfl) (by kernel_rfl) (by decide) ?_
  clear hf; intro a w hf hp0; clear hp; have hp := hp0; clear hp0
  replace hp : Hp _ _ w (Res.obj 60 v1 [.func (.func 39) #[] #[], .func (.func 40) #[] #[], .func (.func 41) #[] #[], .func (.func 42) #[] #[]] :: ow) := hp
  refine st_nil hf ?_
  refine th_n ?_
  refine wp_ret ?_
  obtain rfl := Option.some.inj h
  exact ⟨rfl, ⟨_, hf.sub ⟨rfl, trivial⟩, hp⟩⟩

noncomputable def f_mix_by (quarters0 : Int) : Option Int := (some (iand .i64 quarters0 (3 : Int)))
theorem f_mix_by_c {S : Nat → Prop} {w0 w : World} {ow : List Res} (hp : Hp S w0 w ow) (quarters0 : Int) {r : Int} (h : f_mix_by quarters0 = some r) :
    Calls Try.prog 37 #[.int .i64 quarters0] w (fun e w' => e = .returned (.int .i64 r) ∧ Hp S w0 w' (ow)) := by
  unfold f_mix_by at h
  refine enter (n := 5) (args := [.int .i64 quarters0]) Try.func37 rfl rfl (Nat.le_of_ble_eq_true rfl) fun a hf => ?_
  replace hf : Fr 5 a [(0, .int .i64 quarters0)] := hf
  refine wp_mono (Q := fun e a w => e = .ret ∧ Fr 5 a [(2, .int .i64 r)] ∧ Hp S w0 w (ow)) ?_ ?_
  rotate_left
  · rintro e a w ⟨rfl, hf, hp⟩
    exact ret1 hf rfl rfl ⟨rfl, hp⟩
  refine wp_seq ?_
  refine wp_reg ?_
  refine st_assign hf rfl rfl (by decide) ?_
  clear hf; intro a ha hf; clear ha
  refine st_nil hf ?_
  refine th_n ?_
  refine wp_seq ?_
  refine wp_reg ?_
  refine st_move hf rfl rfl (by decide) ?_
  clear hf; intro a ha hf; clear ha
  refine st_iand hf (by decide) rfl rfl rfl ?_
  clear hf; intro a ha hf; clear ha
  refine st_assign hf rfl rfl (by decide) ?_
  clear hf; intro a ha hf; clear ha
  refine st_nil hf ?_
  refine th_n ?_
  refine wp_ret ?_
  obtain rfl := Option.some.inj h
  exact ⟨rfl, ⟨hf.sub ⟨rfl, trivial⟩, hp⟩⟩

noncomputable def f_mix_turns_1 (z0 : (Fl × Fl)) : Option (Fl × Fl) := (some z0)
theorem f_mix_turns_1_c {S : Nat → Prop} {w0 w : World} {ow : List Res} (hp : Hp S w0 w ow) (bz0 cz0 : Nat) (z0 : Fl × Fl) (hz0 : z0.1.rep bz0) (kz0 : z0.2.rep cz0) {r : (Fl × Fl)} (h : f_mix_turns_1 z0 = some r) :
    Calls Try.prog 39 #[.complex .f64 bz0 cz0] w (fun e w' => ∃ (b0 : Nat) (b1 : Nat), e = .returned (.complex .f64 b0 b1) ∧ Fl.rep b0 r.1 ∧ Fl.rep b1 r.2 ∧ Hp S w0 w' (ow)) := by
  unfold f_mix_turns_1 at h
  refine enter (n := 4) (args := [.complex .f64 bz0 cz0]) Try.func39 rfl rfl (Nat.le_of_ble_eq_true rfl) fun a hf => ?_
  replace hf : Fr 4 a [(0, .complex .f64 bz0 cz0)] := hf
  refine wp_mono (Q := fun e a w => e = .ret ∧ ∃ (b0 : Nat) (b1 : Nat), Fr 4 a [(2, .complex .f64 b0 b1)] ∧ Fl.rep b0 r.1 ∧ Fl.rep b1 r.2 ∧ Hp S w0 w (ow)) ?_ ?_
  rotate_left
  · rintro e a w ⟨rfl, x0, x1, hf, y0, y1, hp⟩
    exact ret1 hf rfl rfl ⟨x0, x1, rfl, y0, y1, hp⟩
  refine wp_seq ?_
  refine wp_reg ?_
  refine st_assign hf rfl rfl (by decide) ?_
  clear hf; intro a ha hf; clear ha
  refine st_nil hf ?_
  refine th_n ?_
  refine wp_seq ?_
  refine wp_reg ?_
  refine st_move hf rfl rfl (by decide) ?_
  clear hf; intro a ha hf; clear ha
  refine st_assign hf rfl rfl (by decide) ?_
  clear hf; intro a ha hf; clear ha
  refine st_nil hf ?_
  refine th_n ?_
  refine wp_ret ?_
  obtain rfl := Option.some.inj h
  exact ⟨rfl, ⟨_, _, hf.sub ⟨rfl, trivial⟩, hz0, kz0, hp⟩⟩

noncomputable def f_mix_turns_2 (z0 : (Fl × Fl)) : Option (Fl × Fl) := (some ((fneg z0.2), z0.1))
theorem f_mix_turns_2_c {S : Nat → Prop} {w0 w : World} {ow : List Res} (hp : Hp S w0 w ow) (bz0 cz0 : Nat) (z0 : Fl × Fl) (hz0 : z0.1.rep bz0) (kz0 : z0.2.rep cz0) {r : (Fl × Fl)} (h : f_mix_turns_2 z0 = some r) :
    Calls Try.prog 40 #[.complex .f64 bz0 cz0] w (fun e w' => ∃ (b0 : Nat) (b1 : Nat), e = .returned (.complex .f64 b0 b1) ∧ Fl.rep b0 r.1 ∧ Fl.rep b1 r.2 ∧ Hp S w0 w' (ow)) := by
  unfold f_mix_turns_2 at h
  refine enter (n := 9) (args := [.complex .f64 bz0 cz0]) Try.func40 rfl rfl (Nat.le_of_ble_eq_true rfl) fun a hf => ?_
  replace hf : Fr 9 a [(0, .complex .f64 bz0 cz0)] := hf
  refine wp_mono (Q := fun e a w => e = .ret ∧ ∃ (b0 : Nat) (b1 : Nat), Fr 9 a [(2, .complex .f64 b0 b1)] ∧ Fl.rep b0 r.1 ∧ Fl.rep b1 r.2 ∧ Hp S w0 w (ow)) ?_ ?_
  rotate_left
  · rintro e a w ⟨rfl, x0, x1, hf, y0, y1, hp⟩
    exact ret1 hf rfl rfl ⟨x0, x1, rfl, y0, y1, hp⟩
  refine wp_seq ?_
  refine wp_reg ?_
  refine st_assign hf rfl rfl (by decide) ?_
  clear hf; intro a ha hf; clear ha
  refine st_nil hf ?_
  refine th_n ?_
  refine wp_seq ?_
  refine wp_reg ?_
  refine st_move hf rfl rfl (by decide) ?_
  clear hf; intro a ha hf; clear ha
  refine st_imag hf (by decide) rfl rfl ?_
  clear hf; intro a ha hf; clear ha
  refine st_fneg hf (by decide) rfl rfl ?_
  clear hf; intro a ha hf; clear ha
  refine st_move hf rfl rfl (by decide) ?_
  clear hf; intro a ha hf; clear ha
  refine st_real hf (by decide) rfl rfl ?_
  clear hf; intro a ha hf; clear ha
  refine st_complex hf (by decide) rfl rfl rfl ?_
  clear hf; intro a ha hf; clear ha
  refine st_assign hf rfl rfl (by decide) ?_
  clear hf; intro a ha hf; clear ha
  refine st_nil hf ?_
  refine th_n ?_
  refine wp_ret ?_
  obtain rfl := Option.some.inj h
  exact ⟨rfl, ⟨_, _, hf.sub ⟨rfl, trivial⟩, (fneg_rep kz0), hz0, hp⟩⟩

noncomputable def f_mix_turns_3 (z0 : (Fl × Fl)) : Option (Fl × Fl) := (some ((fneg z0.1), (fneg z0.2)))
theorem f_mix_turns_3_c {S : Nat → Prop} {w0 w : World} {ow : List Res} (hp : Hp S w0 w ow) (bz0 cz0 : Nat) (z0 : Fl × Fl) (hz0 : z0.1.rep bz0) (kz0 : z0.2.rep cz0) {r : (Fl × Fl)} (h : f_mix_turns_3 z0 = some r) :
    Calls Try.prog 41 #[.complex .f64 bz0 cz0] w (fun e w' => ∃ (b0 : Nat) (b1 : Nat), e = .returned (.complex .f64 b0 b1) ∧ Fl.rep b0 r.1 ∧ Fl.rep b1 r.2 ∧ Hp S w0 w' (ow)) := by
  unfold f_mix_turns_3 at h
  refine enter (n := 10) (args := [.complex .f64 bz0 cz0]) Try.func41 rfl rfl (Nat.le_of_ble_eq_true rfl) fun a hf => ?_
  replace hf : Fr 10 a [(0, .complex .f64 bz0 cz0)] := hf
  refine wp_mono (Q := fun e a w => e = .ret ∧ ∃ (b0 : Nat) (b1 : Nat), Fr 10 a [(2, .complex .f64 b0 b1)] ∧ Fl.rep b0 r.1 ∧ Fl.rep b1 r.2 ∧ Hp S w0 w (ow)) ?_ ?_
  rotate_left
  · rintro e a w ⟨rfl, x0, x1, hf, y0, y1, hp⟩
    exact ret1 hf rfl rfl ⟨x0, x1, rfl, y0, y1, hp⟩
  refine wp_seq ?_
  refine wp_reg ?_
  refine st_assign hf rfl rfl (by decide) ?_
  clear hf; intro a ha hf; clear ha
  refine st_nil hf ?_
  refine th_n ?_
  refine wp_seq ?_
  refine wp_reg ?_
  refine st_move hf rfl rfl (by decide) ?_
  clear hf; intro a ha hf; clear ha
  refine st_real hf (by decide) rfl rfl ?_
  clear hf; intro a ha hf; clear ha
  refine st_fneg hf (by decide) rfl rfl ?_
  clear hf; intro a ha hf; clear ha
  refine st_move hf rfl rfl (by decide) ?_
  clear hf; intro a ha hf; clear ha
  refine st_imag hf (by decide) rfl rfl ?_
  clear hf; intro a ha hf; clear ha
  refine st_fneg hf (by decide) rfl rfl ?_
  clear hf; intro a ha hf; clear ha
  refine st_complex hf (by decide) rfl rfl rfl ?_
  clear hf; intro a ha hf; clear ha
  refine st_assign hf rfl rfl (by decide) ?_
  clear hf; intro a ha hf; clear ha
  refine st_nil hf ?_
  refine th_n ?_
  refine wp_ret ?_
  obtain rfl := Option.some.inj h
  exact ⟨rfl, ⟨_, _, hf.sub ⟨rfl, trivial⟩, (fneg_rep hz0), (fneg_rep kz0), hp⟩⟩

noncomputable def f_mix_turns_4 (z0 : (Fl × Fl)) : Option (Fl × Fl) := (some (z0.2, (fneg z0.1)))
theorem f_mix_turns_4_c {S : Nat → Prop} {w0 w : World} {ow : List Res} (hp : Hp S w0 w ow) (bz0 cz0 : Nat) (z0 : Fl × Fl) (hz0 : z0.1.rep bz0) (kz0 : z0.2.rep cz0) {r : (Fl × Fl)} (h : f_mix_turns_4 z0 = some r) :
    Calls Try.prog 42 #[.complex .f64 bz0 cz0] w (fun e w' => ∃ (b0 : Nat) (b1 : Nat), e = .returned (.complex .f64 b0 b1) ∧ Fl.rep b0 r.1 ∧ Fl.rep b1 r.2 ∧ Hp S w0 w' (ow)) := by
  unfold f_mix_turns_4 at h
  refine enter (n := 9) (args := [.complex .f64 bz0 cz0]) Try.func42 rfl rfl (Nat.le_of_ble_eq_true rfl) fun a hf => ?_
  replace hf : Fr 9 a [(0, .complex .f64 bz0 cz0)] := hf
  refine wp_mono (Q := fun e a w => e = .ret ∧ ∃ (b0 : Nat) (b1 : Nat), Fr 9 a [(2, .complex .f64 b0 b1)] ∧ Fl.rep b0 r.1 ∧ Fl.rep b1 r.2 ∧ Hp S w0 w (ow)) ?_ ?_
  rotate_left
  · rintro e a w ⟨rfl, x0, x1, hf, y0, y1, hp⟩
    exact ret1 hf rfl rfl ⟨x0, x1, rfl, y0, y1, hp⟩
  refine wp_seq ?_
  refine wp_reg ?_
  refine st_assign hf rfl rfl (by decide) ?_
  clear hf; intro a ha hf; clear ha
  refine st_nil hf ?_
  refine th_n ?_
  refine wp_seq ?_
  refine wp_reg ?_
  refine st_move hf rfl rfl (by decide) ?_
  clear hf; intro a ha hf; clear ha
  refine st_imag hf (by decide) rfl rfl ?_
  clear hf; intro a ha hf; clear ha
  refine st_move hf rfl rfl (by decide) ?_
  clear hf; intro a ha hf; clear ha
  refine st_real hf (by decide) rfl rfl ?_
  clear hf; intro a ha hf; clear ha
  refine st_fneg hf (by decide) rfl rfl ?_
  clear hf; intro a ha hf; clear ha
  refine st_complex hf (by decide) rfl rfl rfl ?_
  clear hf; intro a ha hf; clear ha
  refine st_assign hf rfl rfl (by decide) ?_
  clear hf; intro a ha hf; clear ha
  refine st_nil hf ?_
  refine th_n ?_
  refine wp_ret ?_
  obtain rfl := Option.some.inj h
  exact ⟨rfl, ⟨_, _, hf.sub ⟨rfl, trivial⟩, kz0, (fneg_rep hz0), hp⟩⟩

noncomputable def f_mix_Up.s1c (l0 : (List (Fl × Fl))) (q8 : Int) (at8 : Int) (out9 : (List (Fl × Fl))) (t24 : Int) : Option ((Int × (List (Fl × Fl)) × Int) ⊕ (List (Fl × Fl))) := (if (decide (t24 < (l0.length : Int))) = true then (if 0 ≤ t24 ∧ t24 < (l0.length : Int) then (if 0 ≤ at8 ∧ at8 < (4 : Int) then (((if at8 = (0 : Int) then (f_mix_turns_1 (gt l0 t24)) else (if at8 = (1 : Int) then (f_mix_turns_2 (gt l0 t24)) else (if at8 = (2 : Int) then (f_mix_turns_3 (gt l0 t24)) else (f_mix_turns_4 (gt l0 t24)))))).bind fun q23 => (if (out9.length + ([q23]).length) * 16 ≤ 140737488355328 then ((f_mix_by (IntKind.i64.wrap (at8 + q8))).bind fun q34 => (some (Sum.inl (q34, (out9 ++ [q23]), (IntKind.i64.wrap (t24 + (1 : Int))))))) else none)) else none) else none) else (some (Sum.inr out9)))
noncomputable def f_mix_Up.s1 (l0 : (List (Fl × Fl))) (q8 : Int) (s : (Int × (List (Fl × Fl)) × Int)) : Option ((Int × (List (Fl × Fl)) × Int) ⊕ (List (Fl × Fl))) := f_mix_Up.s1c l0 q8 s.1 s.2.1 s.2.2
noncomputable def f_mix_Up (l0 : (List (Fl × Fl))) (quarters1 : Int) : Option ((List (Fl × Fl)) × Int) := ((f_mix_fits (l0.length : Int)).bind fun q1 => (if (!q1) = true then (some ([], (1 : Int))) else ((f_mix_turns).bind fun q4 => ((f_mix_by quarters1).bind fun q8 => (if 0 ≤ (0 : Int) ∧ (0 : Int) ≤ (l0.length : Int) ∧ (l0.length : Int) * 16 ≤ 281474976710656 then ((loop (f_mix_Up.s1 l0 q8) ((0 : Int), (List.replicate ((0 : Int)).toNat (Fl.bits 0, Fl.bits 0)), (0 : Int))).bind (fun q36 => (some (q36, (0 : Int))))) else none)))))
theorem f_mix_Up_c {S : Nat → Prop} {w0 w : World} {ow : List Res} (hp : Hp S w0 w ow) (vl0 : Value) (l0 : (List (Fl × Fl))) (hl0 : RdS Ek.c128 S w0 vl0 l0) (quarters1 : Int) {r : ((List (Fl × Fl)) × Int)} (h : f_mix_Up l0 quarters1 = some r) :
    Calls Try.prog 17 #[vl0, .int .i64 quarters1] w (fun e w' => ∃ (u0 : Value), e = .returned (.tuple #[u0, .int .i64 r.2]) ∧ Hp S w0 w' (Res.sl Ek.c128 36 u0 r.1 :: ow)) := by
  unfold f_mix_Up at h
  refine enter (n := 43) (args := [vl0, .int .i64 quarters1]) Try.func17 rfl rfl (Nat.le_of_ble_eq_true rfl) fun a hf => ?_
  replace hf : Fr 43 a [(0, vl0), (1, .int .i64 quarters1)] := hf
  refine wp_mono (Q := fun e a w => e = .ret ∧ ∃ (u0 : Value), Fr 43 a [(4, u0), (5, .int .i64 r.2)] ∧ Hp S w0 w (Res.sl Ek.c128 36 u0 r.1 :: ow)) ?_ ?_
  rotate_left
  · rintro e a w ⟨rfl, x0, hf, hp⟩
    exact ret2 hf rfl rfl rfl ⟨x0, rfl, hp⟩
  refine wp_seq ?_
  refine wp_reg ?_
  refine st_assign hf rfl rfl (by decide) ?_
  clear hf; intro a ha hf; clear ha
  refine st_assign hf rfl rfl (by decide) ?_
  clear hf; intro a ha hf; clear ha
  refine st_nil hf ?_
  refine th_n ?_
  refine wp_seq ?_
  refine wp_seq ?_
  refine wp_reg ?_
  refine st_move hf rfl rfl (by decide) ?_
  clear hf; intro a ha hf; clear ha
  refine st_len (E := Ek.c128) hf (by decide) Try.underlying24 rfl rfl (hl0.sl hp) ?_
  clear hf; intro a ha hf; clear ha
  obtain ⟨q1, hcall2, h⟩ := bnd h
  refine st_call hf (by decide) Try.func34 rfl rfl rfl rfl rfl (f_mix_fits_c hp _ hcall2) ?_
  rintro _ w ⟨rfl, hp0⟩
  clear hp; have hp := hp0; clear hp0
  replace hp : Hp _ _ w (ow) := hp
  refine ⟨_, rfl, ?_⟩
  clear hf; intro a hf
  refine st_not hf (by decide) rfl rfl ?_
  clear hf; intro a ha hf; clear ha
  refine st_nil hf ?_
  refine th_n ?_
  refine wp_if hf rfl (fun hb => ?_) (fun hb => ?_)
  · replace h := ifT h hb
    refine wp_seq ?_
    refine wp_reg ?_
    refine st_assign hf rfl rfl (by decide) ?_
    clear hf; intro a ha hf; clear ha
    refine st_assign hf rfl rfl (by decide) ?_
    clear hf; intro a ha hf; clear ha
    refine st_nil hf ?_
    refine th_n ?_
    refine wp_ret ?_
    refine th_r ?_
    obtain rfl := Option.some.inj h
    have hp := hp.nil Ek.c128 36
    exact ⟨rfl, ⟨_, hf.sub ⟨rfl, rfl, trivial⟩, hp⟩⟩
  · replace h := ifF h hb
    refine wp_skip ?_
    refine th_n ?_
    refine wp_seq ?_
    refine wp_reg ?_
    obtain ⟨q4, hcall5, h⟩ := bnd h
    refine st_call hf (by decide) Try.func36 rfl rfl rfl rfl rfl (f_mix_turns_c hp  hcall5) ?_
    rintro _ w ⟨rfl, hp0⟩
    clear hp; have hp := hp0; clear hp0
    replace hp : Hp _ _ w (ow) := hp
    refine ⟨_, rfl, ?_⟩
    clear hf; intro a hf
    refine st_alloc (cs := [.nilFunc, .nilFunc, .nilFunc, .nilFunc]) (zv := .agg #[.nilFunc, .nilFunc, .nilFunc, .nilFunc]) hf (by decide) (by kernel_rfl) rfl hp rfl ?_
    clear hf; intro a w v6 hf hp0; clear hp; have hp := hp0; clear hp0
    replace hp : Hp _ _ w (Res.obj 60 v6 [.nilFunc, .nilFunc, .nilFunc, .nilFunc] :: ow) := hp
    refine st_stO (us := [.func (.func 39) #[] #[], .func (.func 40) #[] #[], .func (.func 41) #[] #[], .func (.func 42) #[] #[]]) hf hp (i := 0) rfl rfl rfl rfl rfl (by rfl) (by kernel_rfl) (by decide) ?_
    clear hf; intro a w hf hp0; clear hp; have hp := hp0; clear hp0
    replace hp : Hp _ _ w (Res.obj 60 v6 [.func (.func 39) #[] #[], .func (.func 40) #[] #[], .func (.func 41) #[] #[], .func (.func 42) #[] #[]] :: ow) := hp
    refine st_nil hf ?_
    refine th_n ?_
    refine wp_seq ?_
    refine wp_reg ?_
    refine st_move hf rfl rfl (by decide) ?_
    clear hf; intro a ha hf; clear ha
    obtain ⟨q8, hcall9, h⟩ := bnd h
    refine st_call hf (by decide) Try.func37 rfl rfl rfl rfl rfl (f_mix_by_c hp _ hcall9) ?_
    rintro _ w ⟨rfl, hp0⟩
    clear hp; have hp := hp0; clear hp0
    replace hp : Hp _ _ w (Res.obj 60 v6 [.func (.func 39) #[] #[], .func (.func 40) #[] #[], .func (.func 41) #[] #[], .func (.func 42) #[] #[]] :: ow) := hp
    refine ⟨_, rfl, ?_⟩
    clear hf; intro a hf
    refine st_assign hf rfl rfl (by decide) ?_
    clear hf; intro a ha hf; clear ha
    refine st_assign hf rfl rfl (by decide) ?_
    clear hf; intro a ha hf; clear ha
    refine st_nil hf ?_
    refine th_n ?_
    refine wp_seq ?_
    refine wp_reg ?_
    refine st_move hf rfl rfl (by decide) ?_
    clear hf; intro a ha hf; clear ha
    refine st_len (E := Ek.c128) hf (by decide) Try.underlying24 rfl rfl (hl0.sl hp) ?_
    clear hf; intro a ha hf; clear ha
    obtain ⟨hc10, h⟩ := chk h
    refine st_make (E := Ek.c128) hf (by decide) elt36 Try.underlying24 (by decide) hp rfl rfl rfl hc10.1 hc10.2.1 hc10.2.2 ?_
    clear hf; intro a w v11 hf hp0; clear hp; have hp := hp0; clear hp0
    replace hp : Hp _ _ w (Res.sl Ek.c128 36 v11 (List.replicate ((0 : Int)).toNat (Fl.bits 0, Fl.bits 0)) :: Res.obj 60 v6 [.func (.func 39) #[] #[], .func (.func 40) #[] #[], .func (.func 41) #[] #[], .func (.func 42) #[] #[]] :: ow) := hp
    refine st_assign hf rfl rfl (by decide) ?_
    clear hf; intro a ha hf; clear ha
    refine st_nil hf ?_
    refine th_n ?_
    refine wp_seq ?_
    refine wp_seq ?_
    refine wp_reg ?_
    refine st_move hf rfl rfl (by decide) ?_
    clear hf; intro a ha hf; clear ha
    refine st_len (E := Ek.c128) hf (by decide) Try.underlying24 rfl rfl (hl0.sl hp) ?_
    clear hf; intro a ha hf; clear ha
    refine st_move hf rfl rfl (by decide) ?_
    clear hf; intro a ha hf; clear ha
    refine st_nil hf ?_
    refine th_n ?_
    refine wp_block ?_
    obtain ⟨q36, hl, h⟩ := bnd h
    refine wp_loop_pure (f := (f_mix_Up.s1 l0 q8)) (s := ((0 : Int), (List.replicate ((0 : Int)).toNat (Fl.bits 0, Fl.bits 0)), (0 : Int))) (fun s a w => ∃ (v13 : Value), Fr 43 a [(6, optr v6 0), (7, .int .i64 q8), (8, .int .i64 s.1), (9, v13), (22, vl0), (23, .int .i64 (l0.length : Int)), (24, .int .i64 s.2.2)] ∧ Hp S w0 w (Res.sl Ek.c128 36 v13 s.2.1 :: Res.obj 60 v6 [.func (.func 39) #[] #[], .func (.func 40) #[] #[], .func (.func 41) #[] #[], .func (.func 42) #[] #[]] :: ow)) (fun q e a w => e = .exit 0 ∧ ∃ (v15 : Value), Fr 43 a [(9, v15)] ∧ Hp S w0 w (Res.sl Ek.c128 36 v15 q :: ow)) ?_ hl ⟨_, hf.sub ⟨rfl, rfl, rfl, rfl, rfl, rfl, rfl, trivial⟩, hp⟩ ?_
    · clear hl hf hp
      intro s x a w h hI
      obtain ⟨at8, out9, t24⟩ := s
      obtain ⟨v13, hf, hp⟩ : ∃ (v13 : Value), Fr 43 a [(6, optr v6 0), (7, .int .i64 q8), (8, .int .i64 at8), (9, v13), (22, vl0), (23, .int .i64 (l0.length : Int)), (24, .int .i64 t24)] ∧ Hp S w0 w (Res.sl Ek.c128 36 v13 out9 :: Res.obj 60 v6 [.func (.func 39) #[] #[], .func (.func 40) #[] #[], .func (.func 41) #[] #[], .func (.func 42) #[] #[]] :: ow) := hI
      replace h : f_mix_Up.s1c l0 q8 at8 out9 t24 = some x := h
      unfold f_mix_Up.s1c at h
      refine wp_seq ?_
      refine wp_reg ?_
      refine st_ilss hf (by decide) rfl rfl rfl ?_
      clear hf; intro a ha hf; clear ha
      refine st_nil hf ?_
      refine th_n ?_
      refine wp_seq ?_
      refine wp_if hf rfl (fun hb => ?_) (fun hb => ?_)
      · replace h := ifT h hb
        refine wp_skip ?_
        refine th_n ?_
        refine wp_seq ?_
        refine wp_block ?_
        refine wp_seq ?_
        refine wp_reg ?_
        obtain ⟨hc17, h⟩ := chk h
        refine st_index (E := Ek.c128) hf (by decide) Try.underlying24 elt36 rfl rfl rfl (hl0.sl hp) hc17.1 hc17.2 ?_
        clear hf; intro a ha hf; clear ha
        refine st_ldC hf (by decide) pl36 rfl rfl (hl0.sl hp) hc17.1 hc17.2 ?_
        clear hf; intro a b18 b19 y20 y21 ha hf; clear ha
        refine st_assign hf rfl rfl (by decide) ?_
        clear hf; intro a ha hf; clear ha
        refine st_nil hf ?_
        refine th_n ?_
        refine wp_seq ?_
        refine wp_reg ?_
        refine st_move hf rfl rfl (by decide) ?_
        clear hf; intro a ha hf; clear ha
        refine st_move hf rfl rfl (by decide) ?_
        clear hf; intro a ha hf; clear ha
        obtain ⟨hc22, h⟩ := chk h
        refine st_ia (o' := 0 + (at8).toNat * 1) hf (by decide) Try.underlying60 (sz := 1) (by kernel_rfl) rfl rfl rfl (hp.ob (i := 1) rfl) hc22.1 hc22.2 rfl ?_
        clear hf; intro a ha hf; clear ha
        refine st_fa (o' := 0 + (at8).toNat * 1 + 0) hf (by decide) (off := 0) (sz := 1) (by kernel_rfl) (by decide) rfl rfl (hp.ob (i := 1) rfl) rfl ?_
        clear hf; intro a ha hf; clear ha
        refine st_ldO hf (by decide) pl57 rfl rfl (hp.ob (i := 1) rfl) (sel_get hc22) ?_
        clear hf; intro a ha hf; clear ha
        refine st_move hf rfl rfl (by decide) ?_
        clear hf; intro a ha hf; clear ha
        obtain ⟨q23, hcall24, h⟩ := bnd h
        have hs29 : ∃ f fn c, (([.func (.func 39) #[] #[], .func (.func 40) #[] #[], .func (.func 41) #[] #[], .func (.func 42) #[] #[]] : List Value).getD (at8).toNat undef) = .func (.func f) #[] #[] ∧ Try.prog.funcs[f]? = some fn ∧ (fn.name == "runtime.NumGoroutine") = false ∧ fn.body = some c ∧ Calls Try.prog f #[.complex .f64 b18 b19] w (fun e w' => ∃ (b0 : Nat) (b1 : Nat), e = .returned (.complex .f64 b0 b1) ∧ Fl.rep b0 q23.1 ∧ Fl.rep b1 q23.2 ∧ Hp S w0 w' (Res.sl Ek.c128 36 v13 out9 :: Res.obj 60 v6 [.func (.func 39) #[] #[], .func (.func 40) #[] #[], .func (.func 41) #[] #[], .func (.func 42) #[] #[]] :: ow)) := by
          have hsel : at8 = (0 : Int) ∨ at8 = (1 : Int) ∨ at8 = (2 : Int) ∨ at8 = (3 : Int) := by omega
          rcases hsel with hsel | hsel | hsel | hsel
          · exact ⟨39, _, _, by rw [hsel]; rfl, Try.func39, rfl, rfl, f_mix_turns_1_c hp _ _ _ y20 y21 (by simpa [hsel] using hcall24)⟩
          · exact ⟨40, _, _, by rw [hsel]; rfl, Try.func40, rfl, rfl, f_mix_turns_2_c hp _ _ _ y20 y21 (by simpa [hsel] using hcall24)⟩
          · exact ⟨41, _, _, by rw [hsel]; rfl, Try.func41, rfl, rfl, f_mix_turns_3_c hp _ _ _ y20 y21 (by simpa [hsel] using hcall24)⟩
          · exact ⟨42, _, _, by rw [hsel]; rfl, Try.func42, rfl, rfl, f_mix_turns_4_c hp _ _ _ y20 y21 (by simpa [hsel] using hcall24)⟩
        refine st_callW hf (by decide) rfl rfl rfl hs29 ?_
        rintro _ w ⟨v25, v26, rfl, y27, y28, hp0⟩
        clear hp hs29; have hp := hp0; clear hp0
        refine ⟨_, rfl, ?_⟩
        clear hf; intro a hf
        refine st_build (E := Ek.c128) (xs := [q23]) hf (by decide) elt36 Try.underlying24 hp (vals := #[(0, .complex .f64 v25 v26)]) (cells := #[.complex .f64 v25 v26]) rfl (by simp [hf.ev (x := (Operand.tmp 34)) rfl]) (by decide) (by decide) (z := .complex .f64 0 0) (by kernel_rfl) (by kernel_rfl) rfl (reps_cons (cs := [.complex .f64 v25 v26]) (show Ek.c128.rep [.complex .f64 v25 v26] q23 from ⟨_, _, rfl, y27, y28⟩) (reps_nil _)) ?_
        clear hf; intro a w v30 hf hp0; clear hp; have hp := hp0; clear hp0
        replace hp : Hp _ _ w (Res.sl Ek.c128 36 v30 ([q23]) :: Res.sl Ek.c128 36 v13 out9 :: Res.obj 60 v6 [.func (.func 39) #[] #[], .func (.func 40) #[] #[], .func (.func 41) #[] #[], .func (.func 42) #[] #[]] :: ow) := hp
        obtain ⟨hc32, h⟩ := chk h
        refine st_append (E := Ek.c128) hf (by decide) elt36 Try.underlying24 (by decide) hp (i := 1) rfl rfl rfl rfl (hp.sl (i := 0) rfl) hc32 ?_
        clear hf; intro a w v33 hf hp0; clear hp; have hp := hp0; clear hp0
        replace hp : Hp _ _ w (Res.sl Ek.c128 36 v30 ([q23]) :: Res.sl Ek.c128 36 v33 (out9 ++ [q23]) :: Res.obj 60 v6 [.func (.func 39) #[] #[], .func (.func 40) #[] #[], .func (.func 41) #[] #[], .func (.func 42) #[] #[]] :: ow) := hp
        refine st_assign hf rfl rfl (by decide) ?_
        clear hf; intro a ha hf; clear ha
        refine st_nil hf ?_
        refine th_n ?_
        refine wp_reg ?_
        refine st_move hf rfl rfl (by decide) ?_
        clear hf; intro a ha hf; clear ha
        refine st_move hf rfl rfl (by decide) ?_
        clear hf; intro a ha hf; clear ha
        refine st_iadd hf (by decide) rfl rfl rfl ?_
        clear hf; intro a ha hf; clear ha
        obtain ⟨q34, hcall35, h⟩ := bnd h
        refine st_call hf (by decide) Try.func37 rfl rfl rfl rfl rfl (f_mix_by_c hp _ hcall35) ?_
        rintro _ w ⟨rfl, hp0⟩
        clear hp; have hp := hp0; clear hp0
        replace hp : Hp _ _ w (Res.sl Ek.c128 36 v30 ([q23]) :: Res.sl Ek.c128 36 v33 (out9 ++ [q23]) :: Res.obj 60 v6 [.func (.func 39) #[] #[], .func (.func 40) #[] #[], .func (.func 41) #[] #[], .func (.func 42) #[] #[]] :: ow) := hp
        refine ⟨_, rfl, ?_⟩
        clear hf; intro a hf
        refine st_assign hf rfl rfl (by decide) ?_
        clear hf; intro a ha hf; clear ha
        refine st_nil hf ?_
        refine ib_n ?_
        refine th_n ?_
        refine wp_reg ?_
        refine st_iadd hf (by decide) rfl rfl rfl ?_
        clear hf; intro a ha hf; clear ha
        refine st_move hf rfl rfl (by decide) ?_
        clear hf; intro a ha hf; clear ha
        refine st_nil hf ?_
        obtain rfl := Option.some.inj h
        have hp : Hp _ _ w (Res.sl Ek.c128 36 v33 (out9 ++ [q23]) :: Res.obj 60 v6 [.func (.func 39) #[] #[], .func (.func 40) #[] #[], .func (.func 41) #[] #[], .func (.func 42) #[] #[]] :: ow) := Hp.sel (pre := [Res.sl Ek.c128 36 v30 ([q23]), Res.sl Ek.c128 36 v33 (out9 ++ [q23]), Res.obj 60 v6 [.func (.func 39) #[] #[], .func (.func 40) #[] #[], .func (.func 41) #[] #[], .func (.func 42) #[] #[]]]) (tail := ow) (rs' := [Res.sl Ek.c128 36 v33 (out9 ++ [q23]), Res.obj 60 v6 [.func (.func 39) #[] #[], .func (.func 40) #[] #[], .func (.func 41) #[] #[], .func (.func 42) #[] #[]]]) hp [1, 2] (by decide) (by simp) rfl
        exact rnd_l ⟨_, hf.sub ⟨rfl, rfl, rfl, rfl, rfl, rfl, rfl, trivial⟩, hp⟩
      · replace h := ifF h hb
        refine wp_exit ?_
        refine th_e ?_
        obtain rfl := Option.some.inj h
        have hp : Hp _ _ w (Res.sl Ek.c128 36 v13 out9 :: ow) := Hp.sel (pre := [Res.sl Ek.c128 36 v13 out9, Res.obj 60 v6 [.func (.func 39) #[] #[], .func (.func 40) #[] #[], .func (.func 41) #[] #[], .func (.func 42) #[] #[]]]) (tail := ow) (rs' := [Res.sl Ek.c128 36 v13 out9]) hp [0] (by decide) (by simp) rfl
        exact rnd_r (by simp) ⟨rfl, _, hf.sub ⟨rfl, trivial⟩, hp⟩
    · clear hl hf hp
      intro e a w hne hO
      obtain ⟨rfl, v15, hf, hp⟩ := hO
      refine ib_same ?_
      refine th_n ?_
      refine wp_seq ?_
      refine wp_reg ?_
      refine st_move hf rfl rfl (by decide) ?_
      clear hf; intro a ha hf; clear ha
      refine st_assign hf rfl rfl (by decide) ?_
      clear hf; intro a ha hf; clear ha
      refine st_assign hf rfl rfl (by decide) ?_
      clear hf; intro a ha hf; clear ha
      refine st_nil hf ?_
      refine th_n ?_
      refine wp_ret ?_
      obtain rfl := Option.some.inj h
      exact ⟨rfl, ⟨_, hf.sub ⟨rfl, rfl, trivial⟩, hp⟩⟩

noncomputable def f_foghornref08_Down (l0 : (List (Fl × Fl))) (quarters1 : Int) : Option ((List (Fl × Fl)) × Int) := ((f_foghornref08_Up l0 (IntKind.i64.wrap ((4 : Int) - (((IntKind.i64.wrap (((quarters1).tmod (4 : Int)) + (4 : Int)))).tmod (4 : Int))))).bind fun q1 => (some (q1.1, q1.2)))
theorem f_foghornref08_Down_c {S : Nat → Prop} {w0 w : World} {ow : List Res} (hp : Hp S w0 w ow) (vl0 : Value) (l0 : (List (Fl × Fl))) (hl0 : RdS Ek.c128 S w0 vl0 l0) (quarters1 : Int) {r : ((List (Fl × Fl)) × Int)} (h : f_foghornref08_Down l0 quarters1 = some r) :
    Calls Try.prog 18 #[vl0, .int .i64 quarters1] w (fun e w' => ∃ (u0 : Value), e = .returned (.tuple #[u0, .int .i64 r.2]) ∧ Hp S w0 w' (Res.sl Ek.c128 36 u0 r.1 :: ow)) := by
  unfold f_foghornref08_Down at h
  refine enter (n := 15) (args := [vl0, .int .i64 quarters1]) Try.func18 rfl rfl (Nat.le_of_ble_eq_true rfl) fun a hf => ?_
  replace hf : Fr 15 a [(0, vl0), (1, .int .i64 quarters1)] := hf
  refine wp_mono (Q := fun e a w => e = .ret ∧ ∃ (u0 : Value), Fr 15 a [(4, u0), (5, .int .i64 r.2)] ∧ Hp S w0 w (Res.sl Ek.c128 36 u0 r.1 :: ow)) ?_ ?_
  rotate_left
  · rintro e a w ⟨rfl, x0, hf, hp⟩
    exact ret2 hf rfl rfl rfl ⟨x0, rfl, hp⟩
  refine wp_seq ?_
  refine wp_reg ?_
  refine st_assign hf rfl rfl (by decide) ?_
  clear hf; intro a ha hf; clear ha
  refine st_assign hf rfl rfl (by decide) ?_
  clear hf; intro a ha hf; clear ha
  refine st_nil hf ?_
  refine th_n ?_
  refine wp_seq ?_
  refine wp_reg ?_
  refine st_move hf rfl rfl (by decide) ?_
  clear hf; intro a ha hf; clear ha
  refine st_move hf rfl rfl (by decide) ?_
  clear hf; intro a ha hf; clear ha
  refine st_irem hf (by decide) rfl rfl rfl (by decide) ?_
  clear hf; intro a ha hf; clear ha
  refine st_iadd hf (by decide) rfl rfl rfl ?_
  clear hf; intro a ha hf; clear ha
  refine st_irem hf (by decide) rfl rfl rfl (by decide) ?_
  clear hf; intro a ha hf; clear ha
  refine st_isub hf (by decide) rfl rfl rfl ?_
  clear hf; intro a ha hf; clear ha
  obtain ⟨q1, hcall2, h⟩ := bnd h
  refine st_call hf (by decide) Try.func16 rfl rfl rfl rfl rfl (f_foghornref08_Up_c hp _ _ hl0 _ hcall2) ?_
  rintro _ w ⟨v3, rfl, hp0⟩
  clear hp; have hp := hp0; clear hp0
  replace hp : Hp _ _ w (Res.sl Ek.c128 36 v3 q1.1 :: ow) := hp
  refine ⟨_, rfl, ?_⟩
  clear hf; intro a hf
  refine st_extract hf (by decide) rfl rfl rfl ?_
  clear hf; intro a ha hf; clear ha
  refine st_extract hf (by decide) rfl rfl rfl ?_
  clear hf; intro a ha hf; clear ha
  refine st_assign hf rfl rfl (by decide) ?_
  clear hf; intro a ha hf; clear ha
  refine st_assign hf rfl rfl (by decide) ?_
  clear hf; intro a ha hf; clear ha
  refine st_nil hf ?_
  refine th_n ?_
  refine wp_ret ?_
  obtain rfl := Option.some.inj h
  exact ⟨rfl, ⟨_, hf.sub ⟨rfl, rfl, trivial⟩, hp⟩⟩

noncomputable def f_mix_Down (l0 : (List (Fl × Fl))) (quarters1 : Int) : Option ((List (Fl × Fl)) × Int) := ((f_mix_by quarters1).bind fun q1 => ((f_mix_Up l0 (IntKind.i64.wrap (0 - q1))).bind fun q3 => (some (q3.1, q3.2))))
theorem f_mix_Down_c {S : Nat → Prop} {w0 w : World} {ow : List Res} (hp : Hp S w0 w ow) (vl0 : Value) (l0 : (List (Fl × Fl))) (hl0 : RdS Ek.c128 S w0 vl0 l0) (quarters1 : Int) {r : ((List (Fl × Fl)) × Int)} (h : f_mix_Down l0 quarters1 = some r) :
    Calls Try.prog 19 #[vl0, .int .i64 quarters1] w (fun e w' => ∃ (u0 : Value), e = .returned (.tuple #[u0, .int .i64 r.2]) ∧ Hp S w0 w' (Res.sl Ek.c128 36 u0 r.1 :: ow)) := by
  unfold f_mix_Down at h
  refine enter (n := 13) (args := [vl0, .int .i64 quarters1]) Try.func19 rfl rfl (Nat.le_of_ble_eq_true rfl) fun a hf => ?_
  replace hf : Fr 13 a [(0, vl0), (1, .int .i64 quarters1)] := hf
  refine wp_mono (Q := fun e a w => e = .ret ∧ ∃ (u0 : Value), Fr 13 a [(4, u0), (5, .int .i64 r.2)] ∧ Hp S w0 w (Res.sl Ek.c128 36 u0 r.1 :: ow)) ?_ ?_
  rotate_left
  · rintro e a w ⟨rfl, x0, hf, hp⟩
    exact ret2 hf rfl rfl rfl ⟨x0, rfl, hp⟩
  refine wp_seq ?_
  refine wp_reg ?_
  refine st_assign hf rfl rfl (by decide) ?_
  clear hf; intro a ha hf; clear ha
  refine st_assign hf rfl rfl (by decide) ?_
  clear hf; intro a ha hf; clear ha
  refine st_nil hf ?_
  refine th_n ?_
  refine wp_seq ?_
  refine wp_reg ?_
  refine st_move hf rfl rfl (by decide) ?_
  clear hf; intro a ha hf; clear ha
  refine st_move hf rfl rfl (by decide) ?_
  clear hf; intro a ha hf; clear ha
  obtain ⟨q1, hcall2, h⟩ := bnd h
  refine st_call hf (by decide) Try.func37 rfl rfl rfl rfl rfl (f_mix_by_c hp _ hcall2) ?_
  rintro _ w ⟨rfl, hp0⟩
  clear hp; have hp := hp0; clear hp0
  replace hp : Hp _ _ w (ow) := hp
  refine ⟨_, rfl, ?_⟩
  clear hf; intro a hf
  refine st_ineg hf (by decide) rfl rfl ?_
  clear hf; intro a ha hf; clear ha
  obtain ⟨q3, hcall4, h⟩ := bnd h
  refine st_call hf (by decide) Try.func17 rfl rfl rfl rfl rfl (f_mix_Up_c hp _ _ hl0 _ hcall4) ?_
  rintro _ w ⟨v5, rfl, hp0⟩
  clear hp; have hp := hp0; clear hp0
  replace hp : Hp _ _ w (Res.sl Ek.c128 36 v5 q3.1 :: ow) := hp
  refine ⟨_, rfl, ?_⟩
  clear hf; intro a hf
  refine st_extract hf (by decide) rfl rfl rfl ?_
  clear hf; intro a ha hf; clear ha
  refine st_extract hf (by decide) rfl rfl rfl ?_
  clear hf; intro a ha hf; clear ha
  refine st_assign hf rfl rfl (by decide) ?_
  clear hf; intro a ha hf; clear ha
  refine st_assign hf rfl rfl (by decide) ?_
  clear hf; intro a ha hf; clear ha
  refine st_nil hf ?_
  refine th_n ?_
  refine wp_ret ?_
  obtain rfl := Option.some.inj h
  exact ⟨rfl, ⟨_, hf.sub ⟨rfl, rfl, trivial⟩, hp⟩⟩

noncomputable def f_foghornref08_Mirror.s1c (l0 : (List (Fl × Fl))) (out4 : (List (Fl × Fl))) (i5 : Int) : Option (((List (Fl × Fl)) × Int) ⊕ (List (Fl × Fl))) := (if (decide (i5 < (l0.length : Int))) = true then (if 0 ≤ i5 ∧ i5 < (l0.length : Int) then (if 0 ≤ i5 ∧ i5 < (l0.length : Int) then (if (out4.length + ([((gt l0 i5).1, (fneg ((gt l0 i5).2)))]).length) * 16 ≤ 140737488355328 then (some (Sum.inl ((out4 ++ [((gt l0 i5).1, (fneg ((gt l0 i5).2)))]), (IntKind.i64.wrap (i5 + (1 : Int)))))) else none) else none) else none) else (some (Sum.inr out4)))
noncomputable def f_foghornref08_Mirror.s1 (l0 : (List (Fl × Fl))) (s : ((List (Fl × Fl)) × Int)) : Option (((List (Fl × Fl)) × Int) ⊕ (List (Fl × Fl))) := f_foghornref08_Mirror.s1c l0 s.1 s.2
noncomputable def f_foghornref08_Mirror (l0 : (List (Fl × Fl))) : Option ((List (Fl × Fl)) × Int) := (if (decide ((65536 : Int) < (l0.length : Int))) = true then (some ([], (1 : Int))) else ((loop (f_foghornref08_Mirror.s1 l0) ([], (0 : Int))).bind (fun q22 => (some (q22, (0 : Int))))))
theorem f_foghornref08_Mirror_c {S : Nat → Prop} {w0 w : World} {ow : List Res} (hp : Hp S w0 w ow) (vl0 : Value) (l0 : (List (Fl × Fl))) (hl0 : RdS Ek.c128 S w0 vl0 l0) {r : ((List (Fl × Fl)) × Int)} (h : f_foghornref08_Mirror l0 = some r) :
    Calls Try.prog 20 #[vl0] w (fun e w' => ∃ (u0 : Value), e = .returned (.tuple #[u0, .int .i64 r.2]) ∧ Hp S w0 w' (Res.sl Ek.c128 36 u0 r.1 :: ow)) := by
  unfold f_foghornref08_Mirror at h
  refine enter (n := 31) (args := [vl0]) Try.func20 rfl rfl (Nat.le_of_ble_eq_true rfl) fun a hf => ?_
  replace hf : Fr 31 a [(0, vl0)] := hf
  refine wp_mono (Q := fun e a w => e = .ret ∧ ∃ (u0 : Value), Fr 31 a [(2, u0), (3, .int .i64 r.2)] ∧ Hp S w0 w (Res.sl Ek.c128 36 u0 r.1 :: ow)) ?_ ?_
  rotate_left
  · rintro e a w ⟨rfl, x0, hf, hp⟩
    exact ret2 hf rfl rfl rfl ⟨x0, rfl, hp⟩
  refine wp_seq ?_
  refine wp_reg ?_
  refine st_assign hf rfl rfl (by decide) ?_
  clear hf; intro a ha hf; clear ha
  refine st_assign hf rfl rfl (by decide) ?_
  clear hf; intro a ha hf; clear ha
  refine st_nil hf ?_
  refine th_n ?_
  refine wp_seq ?_
  refine wp_seq ?_
  refine wp_reg ?_
  refine st_move hf rfl rfl (by decide) ?_
  clear hf; intro a ha hf; clear ha
  refine st_len (E := Ek.c128) hf (by decide) Try.underlying24 rfl rfl (hl0.sl hp) ?_
  clear hf; intro a ha hf; clear ha
  refine st_igtr hf (by decide) rfl rfl rfl ?_
  clear hf; intro a ha hf; clear ha
  refine st_nil hf ?_
  refine th_n ?_
  refine wp_if hf rfl (fun hb => ?_) (fun hb => ?_)
  · replace h := ifT h hb
    refine wp_seq ?_
    refine wp_reg ?_
    refine st_assign hf rfl rfl (by decide) ?_
    clear hf; intro a ha hf; clear ha
    refine st_assign hf rfl rfl (by decide) ?_
    clear hf; intro a ha hf; clear ha
    refine st_nil hf ?_
    refine th_n ?_
    refine wp_ret ?_
    refine th_r ?_
    obtain rfl := Option.some.inj h
    have hp := hp.nil Ek.c128 36
    exact ⟨rfl, ⟨_, hf.sub ⟨rfl, rfl, trivial⟩, hp⟩⟩
  · replace h := ifF h hb
    refine wp_skip ?_
    refine th_n ?_
    refine wp_seq ?_
    refine wp_reg ?_
    refine st_assign hf rfl rfl (by decide) ?_
    clear hf; intro a ha hf; clear ha
    refine st_nil hf ?_
    refine th_n ?_
    refine wp_seq ?_
    refine wp_seq ?_
    refine wp_reg ?_
    refine st_assign hf rfl rfl (by decide) ?_
    clear hf; intro a ha hf; clear ha
    refine st_nil hf ?_
    refine th_n ?_
    refine wp_block ?_
    obtain ⟨q22, hl, h⟩ := bnd h
    have hp := hp.nil Ek.c128 36
    refine wp_loop_pure (f := (f_foghornref08_Mirror.s1 l0)) (s := ([], (0 : Int))) (fun s a w => ∃ (v2 : Value), Fr 31 a [(0, vl0), (4, v2), (5, .int .i64 s.2)] ∧ Hp S w0 w (Res.sl Ek.c128 36 v2 s.1 :: ow)) (fun q e a w => e = .exit 0 ∧ ∃ (v4 : Value), Fr 31 a [(4, v4)] ∧ Hp S w0 w (Res.sl Ek.c128 36 v4 q :: ow)) ?_ hl ⟨_, hf.sub ⟨rfl, rfl, rfl, trivial⟩, hp⟩ ?_
    · clear hl hf hp
      intro s x a w h hI
      obtain ⟨out4, i5⟩ := s
      obtain ⟨v2, hf, hp⟩ : ∃ (v2 : Value), Fr 31 a [(0, vl0), (4, v2), (5, .int .i64 i5)] ∧ Hp S w0 w (Res.sl Ek.c128 36 v2 out4 :: ow) := hI
      replace h : f_foghornref08_Mirror.s1c l0 out4 i5 = some x := h
      unfold f_foghornref08_Mirror.s1c at h
      refine wp_seq ?_
      refine wp_seq ?_
      refine wp_reg ?_
      refine st_move hf rfl rfl (by decide) ?_
      clear hf; intro a ha hf; clear ha
      refine st_move hf rfl rfl (by decide) ?_
      clear hf; intro a ha hf; clear ha
      refine st_len (E := Ek.c128) hf (by decide) Try.underlying24 rfl rfl (hl0.sl hp) ?_
      clear hf; intro a ha hf; clear ha
      refine st_ilss hf (by decide) rfl rfl rfl ?_
      clear hf; intro a ha hf; clear ha
      refine st_nil hf ?_
      refine th_n ?_
      refine wp_if hf rfl (fun hb => ?_) (fun hb => ?_)
      · replace h := ifT h hb
        refine wp_skip ?_
        refine th_n ?_
        refine wp_seq ?_
        refine wp_block ?_
        obtain ⟨hc6, h⟩ := chk h
        obtain ⟨b8, b9, y10, y11, hl7⟩ := RdS.pinC (p := i5) hl0 hc6.1 hc6.2
        obtain ⟨hc12, h⟩ := chk h
        obtain ⟨b14, b15, y16, y17, hl13⟩ := RdS.pinC (p := i5) hl0 hc12.1 hc12.2
        obtain ⟨hc20, h⟩ := chk h
        refine wp_cutN (fun a w => ∃ (v18 : Value) (v21 : Value), Fr 31 a [(0, vl0), (4, v21), (5, .int .i64 i5)] ∧ Hp S w0 w (Res.sl Ek.c128 36 v18 ([((gt l0 i5).1, (fneg ((gt l0 i5).2)))]) :: Res.sl Ek.c128 36 v21 (out4 ++ [((gt l0 i5).1, (fneg ((gt l0 i5).2)))]) :: ow)) ?_ ?_
        · have hp := hp.same (Same.drew w)
          refine dr_begin' (fun a w => ∃ (v18 : Value) (v21 : Value), Fr 31 a [(0, vl0), (4, v21), (5, .int .i64 i5)] ∧ Hp S w0 w (Res.sl Ek.c128 36 v18 ([((gt l0 i5).1, (fneg ((gt l0 i5).2)))]) :: Res.sl Ek.c128 36 v21 (out4 ++ [((gt l0 i5).1, (fneg ((gt l0 i5).2)))]) :: ow)) (fun w' => ∃ l, Hp S w0 w' l) [] (by kernel_rfl) ?_
          refine dr_take 0 (v2) rfl (by kernel_rfl) (by kernel_rfl) (by kernel_rfl) (by kernel_rfl) rfl rfl hf (by decide) rfl (fun w hp => ?_) ⟨_, hp⟩ ?_
          · obtain ⟨_, hp⟩ := hp
            refine st_move hf rfl rfl (by decide) ?_
            clear hf; intro a ha hf
            exact st_nil hf (th_n ⟨ha, rfl⟩)
          clear hf; intro a hf
          refine dr_take 1 (vl0) rfl (by kernel_rfl) (by kernel_rfl) (by kernel_rfl) (by kernel_rfl) rfl rfl hf (by decide) rfl (fun w hp => ?_) ⟨_, hp⟩ ?_
          · obtain ⟨_, hp⟩ := hp
            refine st_move hf rfl rfl (by decide) ?_
            clear hf; intro a ha hf
            exact st_nil hf (th_n ⟨ha, rfl⟩)
          clear hf; intro a hf
          refine dr_take 2 (.int .i64 i5) rfl (by kernel_rfl) (by kernel_rfl) (by kernel_rfl) (by kernel_rfl) rfl rfl hf (by decide) rfl (fun w hp => ?_) ⟨_, hp⟩ ?_
          · obtain ⟨_, hp⟩ := hp
            refine st_move hf rfl rfl (by decide) ?_
            clear hf; intro a ha hf
            exact st_nil hf (th_n ⟨ha, rfl⟩)
          clear hf; intro a hf
          refine dr_take 3 (eptr vl0 i5 1) rfl (by kernel_rfl) (by kernel_rfl) (by kernel_rfl) (by kernel_rfl) rfl rfl hf (by decide) rfl (fun w hp => ?_) ⟨_, hp⟩ ?_
          · obtain ⟨_, hp⟩ := hp
            refine st_index (E := Ek.c128) hf (by decide) Try.underlying24 elt36 rfl rfl rfl (hl0.sl hp) hc6.1 hc6.2 ?_
            clear hf; intro a ha hf
            exact st_nil hf (th_n ⟨ha, rfl⟩)
          clear hf; intro a hf
          refine dr_take 4 (.complex .f64 b8 b9) rfl (by kernel_rfl) (by kernel_rfl) (by kernel_rfl) (by kernel_rfl) rfl rfl hf (by decide) rfl (fun w hp => ?_) ⟨_, hp⟩ ?_
          · obtain ⟨_, hp⟩ := hp
            refine st_ldP hf (by decide) pl36 rfl rfl (hl7 _ _ hp) ?_
            clear hf; intro a ha hf
            exact st_nil hf (th_n ⟨ha, rfl⟩)
          clear hf; intro a hf
          refine dr_take 5 (.float .f64 b8) rfl (by kernel_rfl) (by kernel_rfl) (by kernel_rfl) (by kernel_rfl) rfl rfl hf (by decide) rfl (fun w hp => ?_) ⟨_, hp⟩ ?_
          · obtain ⟨_, hp⟩ := hp
            refine st_real hf (by decide) rfl rfl ?_
            clear hf; intro a ha hf
            exact st_nil hf (th_n ⟨ha, rfl⟩)
          clear hf; intro a hf
          refine dr_take 6 (vl0) rfl (by kernel_rfl) (by kernel_rfl) (by kernel_rfl) (by kernel_rfl) rfl rfl hf (by decide) rfl (fun w hp => ?_) ⟨_, hp⟩ ?_
          · obtain ⟨_, hp⟩ := hp
            refine st_move hf rfl rfl (by decide) ?_
            clear hf; intro a ha hf
            exact st_nil hf (th_n ⟨ha, rfl⟩)
          clear hf; intro a hf
          refine dr_take 7 (.int .i64 i5) rfl (by kernel_rfl) (by kernel_rfl) (by kernel_rfl) (by kernel_rfl) rfl rfl hf (by decide) rfl (fun w hp => ?_) ⟨_, hp⟩ ?_
          · obtain ⟨_, hp⟩ := hp
            refine st_move hf rfl rfl (by decide) ?_
            clear hf; intro a ha hf
            exact st_nil hf (th_n ⟨ha, rfl⟩)
          clear hf; intro a hf
          refine dr_take 8 (eptr vl0 i5 1) rfl (by kernel_rfl) (by kernel_rfl) (by kernel_rfl) (by kernel_rfl) rfl rfl hf (by decide) rfl (fun w hp => ?_) ⟨_, hp⟩ ?_
          · obtain ⟨_, hp⟩ := hp
            refine st_index (E := Ek.c128) hf (by decide) Try.underlying24 elt36 rfl rfl rfl (hl0.sl hp) hc12.1 hc12.2 ?_
            clear hf; intro a ha hf
            exact st_nil hf (th_n ⟨ha, rfl⟩)
          clear hf; intro a hf
          refine dr_take 9 (.complex .f64 b14 b15) rfl (by kernel_rfl) (by kernel_rfl) (by kernel_rfl) (by kernel_rfl) rfl rfl hf (by decide) rfl (fun w hp => ?_) ⟨_, hp⟩ ?_
          · obtain ⟨_, hp⟩ := hp
            refine st_ldP hf (by decide) pl36 rfl rfl (hl13 _ _ hp) ?_
            clear hf; intro a ha hf
            exact st_nil hf (th_n ⟨ha, rfl⟩)
          clear hf; intro a hf
          refine dr_take 10 (.float .f64 b15) rfl (by kernel_rfl) (by kernel_rfl) (by kernel_rfl) (by kernel_rfl) rfl rfl hf (by decide) rfl (fun w hp => ?_) ⟨_, hp⟩ ?_
          · obtain ⟨_, hp⟩ := hp
            refine st_imag hf (by decide) rfl rfl ?_
            clear hf; intro a ha hf
            exact st_nil hf (th_n ⟨ha, rfl⟩)
          clear hf; intro a hf
          refine dr_take 11 (.float .f64 (Op.negFloat .f64 b15)) rfl (by kernel_rfl) (by kernel_rfl) (by kernel_rfl) (by kernel_rfl) rfl rfl hf (by decide) rfl (fun w hp => ?_) ⟨_, hp⟩ ?_
          · obtain ⟨_, hp⟩ := hp
            refine st_fneg hf (by decide) rfl rfl ?_
            clear hf; intro a ha hf
            exact st_nil hf (th_n ⟨ha, rfl⟩)
          clear hf; intro a hf
          refine dr_take 12 (.complex .f64 b8 (Op.negFloat .f64 b15)) rfl (by kernel_rfl) (by kernel_rfl) (by kernel_rfl) (by kernel_rfl) rfl rfl hf (by decide) rfl (fun w hp => ?_) ⟨_, hp⟩ ?_
          · obtain ⟨_, hp⟩ := hp
            refine st_complex hf (by decide) rfl rfl rfl ?_
            clear hf; intro a ha hf
            exact st_nil hf (th_n ⟨ha, rfl⟩)
          clear hf; intro a hf
          refine dr_one 13 rfl (by kernel_rfl) ?_
          refine st_build (E := Ek.c128) (xs := [((gt l0 i5).1, (fneg ((gt l0 i5).2)))]) hf (by decide) elt36 Try.underlying24 hp (vals := #[(0, .complex .f64 b8 (Op.negFloat .f64 b15))]) (cells := #[.complex .f64 b8 (Op.negFloat .f64 b15)]) rfl (by simp [hf.ev (x := (Operand.tmp 27)) rfl]) (by decide) (by decide) (z := .complex .f64 0 0) (by kernel_rfl) (by kernel_rfl) rfl (reps_cons (cs := [.complex .f64 b8 (Op.negFloat .f64 b15)]) (show Ek.c128.rep [.complex .f64 b8 (Op.negFloat .f64 b15)] ((gt l0 i5).1, (fneg ((gt l0 i5).2))) from ⟨_, _, rfl, y10, (fneg_rep y17)⟩) (reps_nil _)) ?_
          clear hf; intro a w v18 hf hp0; clear hp; have hp := hp0; clear hp0
          replace hp : Hp _ _ w (Res.sl Ek.c128 36 v18 ([((gt l0 i5).1, (fneg ((gt l0 i5).2)))]) :: Res.sl Ek.c128 36 v2 out4 :: ow) := hp
          refine st_nil hf (th_n ⟨fun _ => ⟨_, hp⟩, ?_⟩)
          refine dr_one 14 rfl (by kernel_rfl) ?_
          refine st_append (E := Ek.c128) hf (by decide) elt36 Try.underlying24 (by decide) hp (i := 1) rfl rfl rfl rfl (hp.sl (i := 0) rfl) hc20 ?_
          clear hf; intro a w v21 hf hp0; clear hp; have hp := hp0; clear hp0
          replace hp : Hp _ _ w (Res.sl Ek.c128 36 v18 ([((gt l0 i5).1, (fneg ((gt l0 i5).2)))]) :: Res.sl Ek.c128 36 v21 (out4 ++ [((gt l0 i5).1, (fneg ((gt l0 i5).2)))]) :: ow) := hp
          refine st_nil hf (th_n ⟨fun _ => ⟨_, hp⟩, ?_⟩)
          refine dr_take 15 (v21) rfl (by kernel_rfl) (by kernel_rfl) (by kernel_rfl) (by kernel_rfl) rfl rfl hf (by decide) rfl (fun w hp => ?_) ⟨_, hp⟩ ?_
          · obtain ⟨_, hp⟩ := hp
            refine st_assign hf rfl rfl (by decide) ?_
            clear hf; intro a ha hf
            exact st_nil hf (th_n ⟨ha, rfl⟩)
          clear hf; intro a hf
          refine dr_end (by kernel_rfl) ?_ _
          exact ⟨v18, v21, hf.sub ⟨rfl, rfl, rfl, trivial⟩, hp⟩
        · rintro a w ⟨v18, v21, hf, hp⟩
          refine ib_n ?_
          refine th_n ?_
          refine wp_reg ?_
          refine st_move hf rfl rfl (by decide) ?_
          clear hf; intro a ha hf; clear ha
          refine st_iadd hf (by decide) rfl rfl rfl ?_
          clear hf; intro a ha hf; clear ha
          refine st_assign hf rfl rfl (by decide) ?_
          clear hf; intro a ha hf; clear ha
          refine st_nil hf ?_
          obtain rfl := Option.some.inj h
          have hp : Hp _ _ w (Res.sl Ek.c128 36 v21 (out4 ++ [((gt l0 i5).1, (fneg ((gt l0 i5).2)))]) :: ow) := Hp.sel (pre := [Res.sl Ek.c128 36 v18 ([((gt l0 i5).1, (fneg ((gt l0 i5).2)))]), Res.sl Ek.c128 36 v21 (out4 ++ [((gt l0 i5).1, (fneg ((gt l0 i5).2)))])]) (tail := ow) (rs' := [Res.sl Ek.c128 36 v21 (out4 ++ [((gt l0 i5).1, (fneg ((gt l0 i5).2)))])]) hp [1] (by decide) (by simp) rfl
          exact rnd_l ⟨_, hf.sub ⟨rfl, rfl, rfl, trivial⟩, hp⟩
      · replace h := ifF h hb
        refine wp_exit ?_
        refine th_e ?_
        obtain rfl := Option.some.inj h
        exact rnd_r (by simp) ⟨rfl, _, hf.sub ⟨rfl, trivial⟩, hp⟩
    · clear hl hf hp
      intro e a w hne hO
      obtain ⟨rfl, v4, hf, hp⟩ := hO
      refine ib_same ?_
      refine th_n ?_
      refine wp_seq ?_
      refine wp_reg ?_
      refine st_move hf rfl rfl (by decide) ?_
      clear hf; intro a ha hf; clear ha
      refine st_assign hf rfl rfl (by decide) ?_
      clear hf; intro a ha hf; clear ha
      refine st_assign hf rfl rfl (by decide) ?_
      clear hf; intro a ha hf; clear ha
      refine st_nil hf ?_
      refine th_n ?_
      refine wp_ret ?_
      obtain rfl := Option.some.inj h
      exact ⟨rfl, ⟨_, hf.sub ⟨rfl, rfl, trivial⟩, hp⟩⟩

noncomputable def f_mix_Mirror.s1c (l0 : (List (Fl × Fl))) (out4 : (List (Fl × Fl))) (t16 : Int) : Option (((List (Fl × Fl)) × Int) ⊕ (List (Fl × Fl))) := (if (decide (t16 < (l0.length : Int))) = true then (if 0 ≤ t16 ∧ t16 < (l0.length : Int) then (if (out4.length + ([((gt l0 t16).1, (fneg ((gt l0 t16).2)))]).length) * 16 ≤ 140737488355328 then (some (Sum.inl ((out4 ++ [((gt l0 t16).1, (fneg ((gt l0 t16).2)))]), (IntKind.i64.wrap (t16 + (1 : Int)))))) else none) else none) else (some (Sum.inr out4)))
noncomputable def f_mix_Mirror.s1 (l0 : (List (Fl × Fl))) (s : ((List (Fl × Fl)) × Int)) : Option (((List (Fl × Fl)) × Int) ⊕ (List (Fl × Fl))) := f_mix_Mirror.s1c l0 s.1 s.2
noncomputable def f_mix_Mirror (l0 : (List (Fl × Fl))) : Option ((List (Fl × Fl)) × Int) := ((f_mix_fits (l0.length : Int)).bind fun q1 => (if (!q1) = true then (some ([], (1 : Int))) else (if 0 ≤ (0 : Int) ∧ (0 : Int) ≤ (l0.length : Int) ∧ (l0.length : Int) * 16 ≤ 281474976710656 then ((loop (f_mix_Mirror.s1 l0) ((List.replicate ((0 : Int)).toNat (Fl.bits 0, Fl.bits 0)), (0 : Int))).bind (fun q20 => (some (q20, (0 : Int))))) else none)))
theorem f_mix_Mirror_c {S : Nat → Prop} {w0 w : World} {ow : List Res} (hp : Hp S w0 w ow) (vl0 : Value) (l0 : (List (Fl × Fl))) (hl0 : RdS Ek.c128 S w0 vl0 l0) {r : ((List (Fl × Fl)) × Int)} (h : f_mix_Mirror l0 = some r) :
    Calls Try.prog 21 #[vl0] w (fun e w' => ∃ (u0 : Value), e = .returned (.tuple #[u0, .int .i64 r.2]) ∧ Hp S w0 w' (Res.sl Ek.c128 36 u0 r.1 :: ow)) := by
  unfold f_mix_Mirror at h
  refine enter (n := 31) (args := [vl0]) Try.func21 rfl rfl (Nat.le_of_ble_eq_true rfl) fun a hf => ?_
  replace hf : Fr 31 a [(0, vl0)] := hf
  refine wp_mono (Q := fun e a w => e = .ret ∧ ∃ (u0 : Value), Fr 31 a [(2, u0), (3, .int .i64 r.2)] ∧ Hp S w0 w (Res.sl Ek.c128 36 u0 r.1 :: ow)) ?_ ?_
  rotate_left
  · rintro e a w ⟨rfl, x0, hf, hp⟩
    exact ret2 hf rfl rfl rfl ⟨x0, rfl, hp⟩
  refine wp_seq ?_
  refine wp_reg ?_
  refine st_assign hf rfl rfl (by decide) ?_
  clear hf; intro a ha hf; clear ha
  refine st_assign hf rfl rfl (by decide) ?_
  clear hf; intro a ha hf; clear ha
  refine st_nil hf ?_
  refine th_n ?_
  refine wp_seq ?_
  refine wp_seq ?_
  refine wp_reg ?_
  refine st_move hf rfl rfl (by decide) ?_
  clear hf; intro a ha hf; clear ha
  refine st_len (E := Ek.c128) hf (by decide) Try.underlying24 rfl rfl (hl0.sl hp) ?_
  clear hf; intro a ha hf; clear ha
  obtain ⟨q1, hcall2, h⟩ := bnd h
  refine st_call hf (by decide) Try.func34 rfl rfl rfl rfl rfl (f_mix_fits_c hp _ hcall2) ?_
  rintro _ w ⟨rfl, hp0⟩
  clear hp; have hp := hp0; clear hp0
  replace hp : Hp _ _ w (ow) := hp
  refine ⟨_, rfl, ?_⟩
  clear hf; intro a hf
  refine st_not hf (by decide) rfl rfl ?_
  clear hf; intro a ha hf; clear ha
  refine st_nil hf ?_
  refine th_n ?_
  refine wp_if hf rfl (fun hb => ?_) (fun hb => ?_)
  · replace h := ifT h hb
    refine wp_seq ?_
    refine wp_reg ?_
    refine st_assign hf rfl rfl (by decide) ?_
    clear hf; intro a ha hf; clear ha
    refine st_assign hf rfl rfl (by decide) ?_
    clear hf; intro a ha hf; clear ha
    refine st_nil hf ?_
    refine th_n ?_
    refine wp_ret ?_
    refine th_r ?_
    obtain rfl := Option.some.inj h
    have hp := hp.nil Ek.c128 36
    exact ⟨rfl, ⟨_, hf.sub ⟨rfl, rfl, trivial⟩, hp⟩⟩
  · replace h := ifF h hb
    refine wp_skip ?_
    refine th_n ?_
    refine wp_seq ?_
    refine wp_reg ?_
    refine st_move hf rfl rfl (by decide) ?_
    clear hf; intro a ha hf; clear ha
    refine st_len (E := Ek.c128) hf (by decide) Try.underlying24 rfl rfl (hl0.sl hp) ?_
    clear hf; intro a ha hf; clear ha
    obtain ⟨hc4, h⟩ := chk h
    refine st_make (E := Ek.c128) hf (by decide) elt36 Try.underlying24 (by decide) hp rfl rfl rfl hc4.1 hc4.2.1 hc4.2.2 ?_
    clear hf; intro a w v5 hf hp0; clear hp; have hp := hp0; clear hp0
    replace hp : Hp _ _ w (Res.sl Ek.c128 36 v5 (List.replicate ((0 : Int)).toNat (Fl.bits 0, Fl.bits 0)) :: ow) := hp
    refine st_assign hf rfl rfl (by decide) ?_
    clear hf; intro a ha hf; clear ha
    refine st_nil hf ?_
    refine th_n ?_
    refine wp_seq ?_
    refine wp_seq ?_
    refine wp_reg ?_
    refine st_move hf rfl rfl (by decide) ?_
    clear hf; intro a ha hf; clear ha
    refine st_len (E := Ek.c128) hf (by decide) Try.underlying24 rfl rfl (hl0.sl hp) ?_
    clear hf; intro a ha hf; clear ha
    refine st_move hf rfl rfl (by decide) ?_
    clear hf; intro a ha hf; clear ha
    refine st_nil hf ?_
    refine th_n ?_
    refine wp_block ?_
    obtain ⟨q20, hl, h⟩ := bnd h
    refine wp_loop_pure (f := (f_mix_Mirror.s1 l0)) (s := ((List.replicate ((0 : Int)).toNat (Fl.bits 0, Fl.bits 0)), (0 : Int))) (fun s a w => ∃ (v7 : Value), Fr 31 a [(4, v7), (14, vl0), (15, .int .i64 (l0.length : Int)), (16, .int .i64 s.2)] ∧ Hp S w0 w (Res.sl Ek.c128 36 v7 s.1 :: ow)) (fun q e a w => e = .exit 0 ∧ ∃ (v9 : Value), Fr 31 a [(4, v9)] ∧ Hp S w0 w (Res.sl Ek.c128 36 v9 q :: ow)) ?_ hl ⟨_, hf.sub ⟨rfl, rfl, rfl, rfl, trivial⟩, hp⟩ ?_
    · clear hl hf hp
      intro s x a w h hI
      obtain ⟨out4, t16⟩ := s
      obtain ⟨v7, hf, hp⟩ : ∃ (v7 : Value), Fr 31 a [(4, v7), (14, vl0), (15, .int .i64 (l0.length : Int)), (16, .int .i64 t16)] ∧ Hp S w0 w (Res.sl Ek.c128 36 v7 out4 :: ow) := hI
      replace h : f_mix_Mirror.s1c l0 out4 t16 = some x := h
      unfold f_mix_Mirror.s1c at h
      refine wp_seq ?_
      refine wp_reg ?_
      refine st_ilss hf (by decide) rfl rfl rfl ?_
      clear hf; intro a ha hf; clear ha
      refine st_nil hf ?_
      refine th_n ?_
      refine wp_seq ?_
      refine wp_if hf rfl (fun hb => ?_) (fun hb => ?_)
      · replace h := ifT h hb
        refine wp_skip ?_
        refine th_n ?_
        refine wp_seq ?_
        refine wp_block ?_
        refine wp_seq ?_
        refine wp_reg ?_
        obtain ⟨hc11, h⟩ := chk h
        refine st_index (E := Ek.c128) hf (by decide) Try.underlying24 elt36 rfl rfl rfl (hl0.sl hp) hc11.1 hc11.2 ?_
        clear hf; intro a ha hf; clear ha
        refine st_ldC hf (by decide) pl36 rfl rfl (hl0.sl hp) hc11.1 hc11.2 ?_
        clear hf; intro a b12 b13 y14 y15 ha hf; clear ha
        refine st_assign hf rfl rfl (by decide) ?_
        clear hf; intro a ha hf; clear ha
        refine st_nil hf ?_
        refine th_n ?_
        refine wp_reg ?_
        refine st_move hf rfl rfl (by decide) ?_
        clear hf; intro a ha hf; clear ha
        refine st_move hf rfl rfl (by decide) ?_
        clear hf; intro a ha hf; clear ha
        refine st_real hf (by decide) rfl rfl ?_
        clear hf; intro a ha hf; clear ha
        refine st_move hf rfl rfl (by decide) ?_
        clear hf; intro a ha hf; clear ha
        refine st_imag hf (by decide) rfl rfl ?_
        clear hf; intro a ha hf; clear ha
        refine st_fneg hf (by decide) rfl rfl ?_
        clear hf; intro a ha hf; clear ha
        refine st_complex hf (by decide) rfl rfl rfl ?_
        clear hf; intro a ha hf; clear ha
        refine st_build (E := Ek.c128) (xs := [((gt l0 t16).1, (fneg ((gt l0 t16).2)))]) hf (by decide) elt36 Try.underlying24 hp (vals := #[(0, .complex .f64 b12 (Op.negFloat .f64 b13))]) (cells := #[.complex .f64 b12 (Op.negFloat .f64 b13)]) rfl (by simp [hf.ev (x := (Operand.tmp 26)) rfl]) (by decide) (by decide) (z := .complex .f64 0 0) (by kernel_rfl) (by kernel_rfl) rfl (reps_cons (cs := [.complex .f64 b12 (Op.negFloat .f64 b13)]) (show Ek.c128.rep [.complex .f64 b12 (Op.negFloat .f64 b13)] ((gt l0 t16).1, (fneg ((gt l0 t16).2))) from ⟨_, _, rfl, y14, (fneg_rep y15)⟩) (reps_nil _)) ?_
        clear hf; intro a w v16 hf hp0; clear hp; have hp := hp0; clear hp0
        replace hp : Hp _ _ w (Res.sl Ek.c128 36 v16 ([((gt l0 t16).1, (fneg ((gt l0 t16).2)))]) :: Res.sl Ek.c128 36 v7 out4 :: ow) := hp
        obtain ⟨hc18, h⟩ := chk h
        refine st_append (E := Ek.c128) hf (by decide) elt36 Try.underlying24 (by decide) hp (i := 1) rfl rfl rfl rfl (hp.sl (i := 0) rfl) hc18 ?_
        clear hf; intro a w v19 hf hp0; clear hp; have hp := hp0; clear hp0
        replace hp : Hp _ _ w (Res.sl Ek.c128 36 v16 ([((gt l0 t16).1, (fneg ((gt l0 t16).2)))]) :: Res.sl Ek.c128 36 v19 (out4 ++ [((gt l0 t16).1, (fneg ((gt l0 t16).2)))]) :: ow) := hp
        refine st_assign hf rfl rfl (by decide) ?_
        clear hf; intro a ha hf; clear ha
        refine st_nil hf ?_
        refine ib_n ?_
        refine th_n ?_
        refine wp_reg ?_
        refine st_iadd hf (by decide) rfl rfl rfl ?_
        clear hf; intro a ha hf; clear ha
        refine st_move hf rfl rfl (by decide) ?_
        clear hf; intro a ha hf; clear ha
        refine st_nil hf ?_
        obtain rfl := Option.some.inj h
        have hp : Hp _ _ w (Res.sl Ek.c128 36 v19 (out4 ++ [((gt l0 t16).1, (fneg ((gt l0 t16).2)))]) :: ow) := Hp.sel (pre := [Res.sl Ek.c128 36 v16 ([((gt l0 t16).1, (fneg ((gt l0 t16).2)))]), Res.sl Ek.c128 36 v19 (out4 ++ [((gt l0 t16).1, (fneg ((gt l0 t16).2)))])]) (tail := ow) (rs' := [Res.sl Ek.c128 36 v19 (out4 ++ [((gt l0 t16).1, (fneg ((gt l0 t16).2)))])]) hp [1] (by decide) (by simp) rfl
        exact rnd_l ⟨_, hf.sub ⟨rfl, rfl, rfl, rfl, trivial⟩, hp⟩
      · replace h := ifF h hb
        refine wp_exit ?_
        refine th_e ?_
        obtain rfl := Option.some.inj h
        exact rnd_r (by simp) ⟨rfl, _, hf.sub ⟨rfl, trivial⟩, hp⟩
    · clear hl hf hp
      intro e a w hne hO
      obtain ⟨rfl, v9, hf, hp⟩ := hO
      refine ib_same ?_
      refine th_n ?_
      refine wp_seq ?_
      refine wp_reg ?_
      refine st_move hf rfl rfl (by decide) ?_
      clear hf; intro a ha hf; clear ha
      refine st_assign hf rfl rfl (by decide) ?_
      clear hf; intro a ha hf; clear ha
      refine st_assign hf rfl rfl (by decide) ?_
      clear hf; intro a ha hf; clear ha
      refine st_nil hf ?_
      refine th_n ?_
      refine wp_ret ?_
      obtain rfl := Option.some.inj h
      exact ⟨rfl, ⟨_, hf.sub ⟨rfl, rfl, trivial⟩, hp⟩⟩

noncomputable def f_foghornref08_Float (a0 : Fl) (b1 : Fl) : Option Bool := (some ((feq a0 b1) || ((fne a0 a0) && (fne b1 b1))))
theorem f_foghornref08_Float_c {S : Nat → Prop} {w0 w : World} {ow : List Res} (hp : Hp S w0 w ow) (ba0 : Nat) (a0 : Fl) (ha0 : a0.rep ba0) (bb1 : Nat) (b1 : Fl) (hb1 : b1.rep bb1) {r : Bool} (h : f_foghornref08_Float a0 b1 = some r) :
    Calls Try.prog 38 #[.float .f64 ba0, .float .f64 bb1] w (fun e w' => e = .returned (.bool r) ∧ Hp S w0 w' (ow)) := by
  unfold f_foghornref08_Float at h
  refine enter (n := 18) (args := [.float .f64 ba0, .float .f64 bb1]) Try.func38 rfl rfl (Nat.le_of_ble_eq_true rfl) fun a hf => ?_
  replace hf : Fr 18 a [(0, .float .f64 ba0), (1, .float .f64 bb1)] := hf
  refine wp_mono (Q := fun e a w => e = .ret ∧ Fr 18 a [(4, .bool r)] ∧ Hp S w0 w (ow)) ?_ ?_
  rotate_left
  · rintro e a w ⟨rfl, hf, hp⟩
    exact ret1 hf rfl rfl ⟨rfl, hp⟩
  refine wp_seq ?_
  refine wp_reg ?_
  refine st_assign hf rfl rfl (by decide) ?_
  clear hf; intro a ha hf; clear ha
  refine st_nil hf ?_
  refine th_n ?_
  refine wp_seq ?_
  refine wp_reg ?_
  refine st_move hf rfl rfl (by decide) ?_
  clear hf; intro a ha hf; clear ha
  refine st_move hf rfl rfl (by decide) ?_
  clear hf; intro a ha hf; clear ha
  refine st_fcmp (r_feq (fx := a0) (fy := b1) ha0 hb1) hf (by decide) rfl rfl rfl ?_
  clear hf; intro a ha hf; clear ha
  refine st_move hf rfl rfl (by decide) ?_
  clear hf; intro a ha hf; clear ha
  refine wpList_cut 9 (fun a w => Fr 18 a [(17, .bool ((feq a0 b1) || ((fne a0 a0) && (fne b1 b1))))] ∧ Hp S w0 w (ow)) ?_ ?_
  · rcases Bool.eq_false_or_eq_true (feq a0 b1) with hb2 | hb2
    · skip
      refine st_skip hf (wantN hf rfl rfl hb2) rfl (by decide) ?_ rfl
      clear hf; intro a hf
      refine st_skip hf (wantN hf rfl rfl hb2) rfl (by decide) ?_ rfl
      clear hf; intro a hf
      refine st_skip hf (wantN hf rfl rfl hb2) rfl (by decide) ?_ rfl
      clear hf; intro a hf
      refine st_skipU hf (wantN hf rfl rfl hb2) rfl (by decide) ?_
      clear hf; intro a hf
      refine st_skip hf (wantU hf rfl rfl) rfl (by decide) ?_ rfl
      clear hf; intro a hf
      refine st_skip hf (wantU hf rfl rfl) rfl (by decide) ?_ rfl
      clear hf; intro a hf
      refine st_skip hf (wantU hf rfl rfl) rfl (by decide) ?_ rfl
      clear hf; intro a hf
      refine st_skip hf (wantN hf rfl rfl hb2) rfl (by decide) ?_ rfl
      clear hf; intro a hf
      refine st_pick (v := .bool true) hf rfl rfl (fun hb' => ?_) (fun hb' => ?_) (by decide) ?_
      · rfl
      · exact absurd (hb2.symm.trans hb') (by decide)
      clear hf; intro a ha hf; clear ha
      refine st_nil hf (th_n ?_)
      exact ⟨hf.sub ⟨(by rw [hb2]; rfl), trivial⟩, hp⟩
    · skip
      refine st_move hf (wantY hf rfl rfl hb2) rfl (by decide) ?_
      clear hf; intro a ha hf; clear ha
      refine st_move hf (wantY hf rfl rfl hb2) rfl (by decide) ?_
      clear hf; intro a ha hf; clear ha
      refine st_fcmp (r_fne (fx := a0) (fy := a0) ha0 ha0) hf (by decide) (wantY hf rfl rfl hb2) rfl rfl ?_
      clear hf; intro a ha hf; clear ha
      refine st_move hf (wantY hf rfl rfl hb2) rfl (by decide) ?_
      clear hf; intro a ha hf; clear ha
      refine wpList_cut 4 (fun a w => Fr 18 a [(8, .bool (feq a0 b1)), (16, .bool ((fne a0 a0) && (fne b1 b1)))] ∧ Hp S w0 w (ow)) ?_ ?_
      · rcases Bool.eq_false_or_eq_true (fne a0 a0) with hb4 | hb4
        · skip
          refine st_move hf (wantY hf rfl rfl hb4) rfl (by decide) ?_
          clear hf; intro a ha hf; clear ha
          refine st_move hf (wantY hf rfl rfl hb4) rfl (by decide) ?_
          clear hf; intro a ha hf; clear ha
          refine st_fcmp (r_fne (fx := b1) (fy := b1) hb1 hb1) hf (by decide) (wantY hf rfl rfl hb4) rfl rfl ?_
          clear hf; intro a ha hf; clear ha
          refine st_pick (v := .bool (fne b1 b1)) hf (wantY hf rfl rfl hb2) rfl (fun hb' => ?_) (fun hb' => ?_) (by decide) ?_
          · rfl
          · exact absurd (hb4.symm.trans hb') (by decide)
          clear hf; intro a ha hf; clear ha
          refine st_nil hf (th_n ?_)
          exact ⟨hf.sub ⟨rfl, (by rw [hb4]; rfl), trivial⟩, hp⟩
        · skip
          refine st_skip hf (wantN hf rfl rfl hb4) rfl (by decide) ?_ rfl
          clear hf; intro a hf
          refine st_skip hf (wantN hf rfl rfl hb4) rfl (by decide) ?_ rfl
          clear hf; intro a hf
          refine st_skip hf (wantN hf rfl rfl hb4) rfl (by decide) ?_ rfl
          clear hf; intro a hf
          refine st_pick (v := .bool false) hf (wantY hf rfl rfl hb2) rfl (fun hb' => ?_) (fun hb' => ?_) (by decide) ?_
          · exact absurd (hb4.symm.trans hb') (by decide)
          · rfl
          clear hf; intro a ha hf; clear ha
          refine st_nil hf (th_n ?_)
          exact ⟨hf.sub ⟨rfl, (by rw [hb4]; rfl), trivial⟩, hp⟩
      · rintro a w ⟨hf, hp⟩
        refine st_pick (v := .bool ((fne a0 a0) && (fne b1 b1))) hf rfl rfl (fun hb' => ?_) (fun hb' => ?_) (by decide) ?_
        · exact absurd (hb2.symm.trans hb') (by decide)
        · rfl
        clear hf; intro a ha hf; clear ha
        refine st_nil hf (th_n ?_)
        exact ⟨hf.sub ⟨(by rw [hb2]; rfl), trivial⟩, hp⟩
  · rintro a w ⟨hf, hp⟩
    refine st_assign hf rfl rfl (by decide) ?_
    clear hf; intro a ha hf; clear ha
    refine st_nil hf ?_
    refine th_n ?_
    refine wp_ret ?_
    obtain rfl := Option.some.inj h
    exact ⟨rfl, ⟨hf.sub ⟨rfl, trivial⟩, hp⟩⟩

noncomputable def f_foghornref08_Same.s1c (a0 : (List (Fl × Fl))) (b1 : (List (Fl × Fl))) (i5 : Int) : Option (Int ⊕ (Unit ⊕ Bool)) := (if (decide (i5 < (a0.length : Int))) = true then (if 0 ≤ i5 ∧ i5 < (a0.length : Int) then (if 0 ≤ i5 ∧ i5 < (b1.length : Int) then ((f_foghornref08_Float ((gt a0 i5).1) ((gt b1 i5).1)).bind fun q13 => ((if (!q13) = true then (some true) else (if 0 ≤ i5 ∧ i5 < (a0.length : Int) then (if 0 ≤ i5 ∧ i5 < (b1.length : Int) then ((f_foghornref08_Float ((gt a0 i5).2) ((gt b1 i5).2)).bind fun q28 => (some (!q28))) else none) else none)).bind fun z30 => (if z30 = true then (some (Sum.inr (Sum.inr false))) else (some (Sum.inl (IntKind.i64.wrap (i5 + (1 : Int)))))))) else none) else none) else (some (Sum.inr (Sum.inl ()))))
noncomputable def f_foghornref08_Same.s1 (a0 : (List (Fl × Fl))) (b1 : (List (Fl × Fl))) (s : Int) : Option (Int ⊕ (Unit ⊕ Bool)) := f_foghornref08_Same.s1c a0 b1 s
noncomputable def f_foghornref08_Same (a0 : (List (Fl × Fl))) (b1 : (List (Fl × Fl))) : Option Bool := (if ((a0.length : Int) != (b1.length : Int)) = true then (some false) else ((loop (f_foghornref08_Same.s1 a0 b1) (0 : Int)).bind (fun q31 => sm q31 (fun q32 => (some true)) (fun q33 => (some q33)))))
theorem f_foghornref08_Same_c {S : Nat → Prop} {w0 w : World} {ow : List Res} (hp : Hp S w0 w ow) (va0 : Value) (a0 : (List (Fl × Fl))) (ha0 : RdS Ek.c128 S w0 va0 a0) (vb1 : Value) (b1 : (List (Fl × Fl))) (hb1 : RdS Ek.c128 S w0 vb1 b1) {r : Bool} (h : f_foghornref08_Same a0 b1 = some r) :
    Calls Try.prog 33 #[va0, vb1] w (fun e w' => e = .returned (.bool r) ∧ Hp S w0 w' (ow)) := by
  unfold f_foghornref08_Same at h
  refine enter (n := 43) (args := [va0, vb1]) Try.func33 rfl rfl (Nat.le_of_ble_eq_true rfl) fun a hf => ?_
  replace hf : Fr 43 a [(0, va0), (1, vb1)] := hf
  refine wp_mono (Q := fun e a w => e = .ret ∧ Fr 43 a [(4, .bool r)] ∧ Hp S w0 w (ow)) ?_ ?_
  rotate_left
  · rintro e a w ⟨rfl, hf, hp⟩
    exact ret1 hf rfl rfl ⟨rfl, hp⟩
  refine wp_seq ?_
  refine wp_reg ?_
  refine st_assign hf rfl rfl (by decide) ?_
  clear hf; intro a ha hf; clear ha
  refine st_nil hf ?_
  refine th_n ?_
  refine wp_seq ?_
  refine wp_seq ?_
  refine wp_reg ?_
  refine st_move hf rfl rfl (by decide) ?_
  clear hf; intro a ha hf; clear ha
  refine st_len (E := Ek.c128) hf (by decide) Try.underlying24 rfl rfl (ha0.sl hp) ?_
  clear hf; intro a ha hf; clear ha
  refine st_move hf rfl rfl (by decide) ?_
  clear hf; intro a ha hf; clear ha
  refine st_len (E := Ek.c128) hf (by decide) Try.underlying24 rfl rfl (hb1.sl hp) ?_
  clear hf; intro a ha hf; clear ha
  refine st_ineq hf (by decide) rfl rfl rfl ?_
  clear hf; intro a ha hf; clear ha
  refine st_nil hf ?_
  refine th_n ?_
  refine wp_if hf rfl (fun hb => ?_) (fun hb => ?_)
  · replace h := ifT h hb
    refine wp_seq ?_
    refine wp_reg ?_
    refine st_assign hf rfl rfl (by decide) ?_
    clear hf; intro a ha hf; clear ha
    refine st_nil hf ?_
    refine th_n ?_
    refine wp_ret ?_
    refine th_r ?_
    obtain rfl := Option.some.inj h
    exact ⟨rfl, ⟨hf.sub ⟨rfl, trivial⟩, hp⟩⟩
  · replace h := ifF h hb
    refine wp_skip ?_
    refine th_n ?_
    refine wp_seq ?_
    refine wp_seq ?_
    refine wp_reg ?_
    refine st_assign hf rfl rfl (by decide) ?_
    clear hf; intro a ha hf; clear ha
    refine st_nil hf ?_
    refine th_n ?_
    refine wp_block ?_
    obtain ⟨q31, hl, h⟩ := bnd h
    refine wp_loop_pure (f := (f_foghornref08_Same.s1 a0 b1)) (s := (0 : Int)) (fun s a w => Fr 43 a [(0, va0), (1, vb1), (5, .int .i64 s)] ∧ Hp S w0 w (ow)) (fun q e a w => match q with | (Sum.inl q) => e = .exit 0 ∧ Fr 43 a [] ∧ Hp S w0 w (ow) | (Sum.inr q) => e = .ret ∧ Fr 43 a [(4, .bool q)] ∧ Hp S w0 w (ow)) ?_ hl ⟨hf.sub ⟨rfl, rfl, rfl, trivial⟩, hp⟩ ?_
    · clear hl hf hp
      intro s x a w h hI
      obtain ⟨i5, hs⟩ : ∃ z, z = s := ⟨s, rfl⟩; subst hs
      obtain ⟨hf, hp⟩ : Fr 43 a [(0, va0), (1, vb1), (5, .int .i64 i5)] ∧ Hp S w0 w (ow) := hI
      replace h : f_foghornref08_Same.s1c a0 b1 i5 = some x := h
      unfold f_foghornref08_Same.s1c at h
      refine wp_seq ?_
      refine wp_seq ?_
      refine wp_reg ?_
      refine st_move hf rfl rfl (by decide) ?_
      clear hf; intro a ha hf; clear ha
      refine st_move hf rfl rfl (by decide) ?_
      clear hf; intro a ha hf; clear ha
      refine st_len (E := Ek.c128) hf (by decide) Try.underlying24 rfl rfl (ha0.sl hp) ?_
      clear hf; intro a ha hf; clear ha
      refine st_ilss hf (by decide) rfl rfl rfl ?_
      clear hf; intro a ha hf; clear ha
      refine st_nil hf ?_
      refine th_n ?_
      refine wp_if hf rfl (fun hb => ?_) (fun hb => ?_)
      · replace h := ifT h hb
        refine wp_skip ?_
        refine th_n ?_
        refine wp_seq ?_
        refine wp_block ?_
        refine wp_seq ?_
        obtain ⟨hc1, h⟩ := chk h
        obtain ⟨b3, b4, y5, y6, hl2⟩ := RdS.pinC (p := i5) ha0 hc1.1 hc1.2
        obtain ⟨hc7, h⟩ := chk h
        obtain ⟨b9, b10, y11, y12, hl8⟩ := RdS.pinC (p := i5) hb1 hc7.1 hc7.2
        obtain ⟨q13, hcall14, h⟩ := bnd h
        obtain ⟨z30, hz15, h⟩ := bnd h
        refine wp_cutN (fun a w => Fr 43 a [(0, va0), (1, vb1), (5, .int .i64 i5), (42, .bool z30)] ∧ Hp S w0 w (ow)) ?_ ?_
        · have hp := hp.same (Same.drew w)
          rcases Bool.eq_false_or_eq_true (!q13) with hb13 | hb13
          · skip
            replace hz15 := ifT hz15 hb13
            replace hz15 := Option.some.inj hz15
            refine dr_begin' (fun a w => Fr 43 a [(0, va0), (1, vb1), (5, .int .i64 i5), (42, .bool z30)] ∧ Hp S w0 w (ow)) (fun w' => ∃ l, Hp S w0 w' l) [] (by kernel_rfl) ?_
            refine dr_take 0 (va0) rfl (by kernel_rfl) (by kernel_rfl) (by kernel_rfl) (by kernel_rfl) rfl rfl hf (by decide) rfl (fun w hp => ?_) ⟨_, hp⟩ ?_
            · obtain ⟨_, hp⟩ := hp
              refine st_move hf rfl rfl (by decide) ?_
              clear hf; intro a ha hf
              exact st_nil hf (th_n ⟨ha, rfl⟩)
            clear hf; intro a hf
            refine dr_take 1 (.int .i64 i5) rfl (by kernel_rfl) (by kernel_rfl) (by kernel_rfl) (by kernel_rfl) rfl rfl hf (by decide) rfl (fun w hp => ?_) ⟨_, hp⟩ ?_
            · obtain ⟨_, hp⟩ := hp
              refine st_move hf rfl rfl (by decide) ?_
              clear hf; intro a ha hf
              exact st_nil hf (th_n ⟨ha, rfl⟩)
            clear hf; intro a hf
            refine dr_take 2 (eptr va0 i5 1) rfl (by kernel_rfl) (by kernel_rfl) (by kernel_rfl) (by kernel_rfl) rfl rfl hf (by decide) rfl (fun w hp => ?_) ⟨_, hp⟩ ?_
            · obtain ⟨_, hp⟩ := hp
              refine st_index (E := Ek.c128) hf (by decide) Try.underlying24 elt36 rfl rfl rfl (ha0.sl hp) hc1.1 hc1.2 ?_
              clear hf; intro a ha hf
              exact st_nil hf (th_n ⟨ha, rfl⟩)
            clear hf; intro a hf
            refine dr_take 3 (.complex .f64 b3 b4) rfl (by kernel_rfl) (by kernel_rfl) (by kernel_rfl) (by kernel_rfl) rfl rfl hf (by decide) rfl (fun w hp => ?_) ⟨_, hp⟩ ?_
            · obtain ⟨_, hp⟩ := hp
              refine st_ldP hf (by decide) pl36 rfl rfl (hl2 _ _ hp) ?_
              clear hf; intro a ha hf
              exact st_nil hf (th_n ⟨ha, rfl⟩)
            clear hf; intro a hf
            refine dr_take 4 (.float .f64 b3) rfl (by kernel_rfl) (by kernel_rfl) (by kernel_rfl) (by kernel_rfl) rfl rfl hf (by decide) rfl (fun w hp => ?_) ⟨_, hp⟩ ?_
            · obtain ⟨_, hp⟩ := hp
              refine st_real hf (by decide) rfl rfl ?_
              clear hf; intro a ha hf
              exact st_nil hf (th_n ⟨ha, rfl⟩)
            clear hf; intro a hf
            refine dr_take 5 (vb1) rfl (by kernel_rfl) (by kernel_rfl) (by kernel_rfl) (by kernel_rfl) rfl rfl hf (by decide) rfl (fun w hp => ?_) ⟨_, hp⟩ ?_
            · obtain ⟨_, hp⟩ := hp
              refine st_move hf rfl rfl (by decide) ?_
              clear hf; intro a ha hf
              exact st_nil hf (th_n ⟨ha, rfl⟩)
            clear hf; intro a hf
            refine dr_take 6 (.int .i64 i5) rfl (by kernel_rfl) (by kernel_rfl) (by kernel_rfl) (by kernel_rfl) rfl rfl hf (by decide) rfl (fun w hp => ?_) ⟨_, hp⟩ ?_
            · obtain ⟨_, hp⟩ := hp
              refine st_move hf rfl rfl (by decide) ?_
              clear hf; intro a ha hf
              exact st_nil hf (th_n ⟨ha, rfl⟩)
            clear hf; intro a hf
            refine dr_take 7 (eptr vb1 i5 1) rfl (by kernel_rfl) (by kernel_rfl) (by kernel_rfl) (by kernel_rfl) rfl rfl hf (by decide) rfl (fun w hp => ?_) ⟨_, hp⟩ ?_
            · obtain ⟨_, hp⟩ := hp
              refine st_index (E := Ek.c128) hf (by decide) Try.underlying24 elt36 rfl rfl rfl (hb1.sl hp) hc7.1 hc7.2 ?_
              clear hf; intro a ha hf
              exact st_nil hf (th_n ⟨ha, rfl⟩)
            clear hf; intro a hf
            refine dr_take 8 (.complex .f64 b9 b10) rfl (by kernel_rfl) (by kernel_rfl) (by kernel_rfl) (by kernel_rfl) rfl rfl hf (by decide) rfl (fun w hp => ?_) ⟨_, hp⟩ ?_
            · obtain ⟨_, hp⟩ := hp
              refine st_ldP hf (by decide) pl36 rfl rfl (hl8 _ _ hp) ?_
              clear hf; intro a ha hf
              exact st_nil hf (th_n ⟨ha, rfl⟩)
            clear hf; intro a hf
            refine dr_take 9 (.float .f64 b9) rfl (by kernel_rfl) (by kernel_rfl) (by kernel_rfl) (by kernel_rfl) rfl rfl hf (by decide) rfl (fun w hp => ?_) ⟨_, hp⟩ ?_
            · obtain ⟨_, hp⟩ := hp
              refine st_real hf (by decide) rfl rfl ?_
              clear hf; intro a ha hf
              exact st_nil hf (th_n ⟨ha, rfl⟩)
            clear hf; intro a hf
            refine dr_one 10 rfl (by kernel_rfl) ?_
            refine st_call hf (by decide) Try.func38 rfl rfl rfl rfl rfl (f_foghornref08_Float_c hp _ _ y5 _ _ y11 hcall14) ?_
            rintro _ w ⟨rfl, hp0⟩
            clear hp; have hp := hp0; clear hp0
            replace hp : Hp _ _ w (ow) := hp
            refine ⟨_, rfl, ?_⟩
            clear hf; intro a hf
            refine st_nil hf (th_n ⟨fun _ => ⟨_, hp⟩, ?_⟩)
            refine dr_take 11 (.bool (!q13)) rfl (by kernel_rfl) (by kernel_rfl) (by kernel_rfl) (by kernel_rfl) rfl rfl hf (by decide) rfl (fun w hp => ?_) ⟨_, hp⟩ ?_
            · obtain ⟨_, hp⟩ := hp
              refine st_not hf (by decide) rfl rfl ?_
              clear hf; intro a ha hf
              exact st_nil hf (th_n ⟨ha, rfl⟩)
            clear hf; intro a hf
            refine dr_take 12 (.bool (!q13)) rfl (by kernel_rfl) (by kernel_rfl) (by kernel_rfl) (by kernel_rfl) rfl rfl hf (by decide) rfl (fun w hp => ?_) ⟨_, hp⟩ ?_
            · obtain ⟨_, hp⟩ := hp
              refine st_move hf rfl rfl (by decide) ?_
              clear hf; intro a ha hf
              exact st_nil hf (th_n ⟨ha, rfl⟩)
            clear hf; intro a hf
            refine dr_out 13 rfl (by kernel_rfl) (by kernel_rfl) (by kernel_rfl) (by kernel_rfl) rfl hf (by decide) rfl (wantN hf rfl rfl hb13) ⟨_, hp⟩ ?_
            clear hf; intro a hf
            refine dr_out 14 rfl (by kernel_rfl) (by kernel_rfl) (by kernel_rfl) (by kernel_rfl) rfl hf (by decide) rfl (wantN hf rfl rfl hb13) ⟨_, hp⟩ ?_
            clear hf; intro a hf
            refine dr_out 15 rfl (by kernel_rfl) (by kernel_rfl) (by kernel_rfl) (by kernel_rfl) rfl hf (by decide) rfl (wantN hf rfl rfl hb13) ⟨_, hp⟩ ?_
            clear hf; intro a hf
            refine dr_out 16 rfl (by kernel_rfl) (by kernel_rfl) (by kernel_rfl) (by kernel_rfl) rfl hf (by decide) rfl (wantN hf rfl rfl hb13) ⟨_, hp⟩ ?_
            clear hf; intro a hf
            refine dr_out 17 rfl (by kernel_rfl) (by kernel_rfl) (by kernel_rfl) (by kernel_rfl) rfl hf (by decide) rfl (wantN hf rfl rfl hb13) ⟨_, hp⟩ ?_
            clear hf; intro a hf
            refine dr_out 18 rfl (by kernel_rfl) (by kernel_rfl) (by kernel_rfl) (by kernel_rfl) rfl hf (by decide) rfl (wantN hf rfl rfl hb13) ⟨_, hp⟩ ?_
            clear hf; intro a hf
            refine dr_out 19 rfl (by kernel_rfl) (by kernel_rfl) (by kernel_rfl) (by kernel_rfl) rfl hf (by decide) rfl (wantN hf rfl rfl hb13) ⟨_, hp⟩ ?_
            clear hf; intro a hf
            refine dr_out 20 rfl (by kernel_rfl) (by kernel_rfl) (by kernel_rfl) (by kernel_rfl) rfl hf (by decide) rfl (wantN hf rfl rfl hb13) ⟨_, hp⟩ ?_
            clear hf; intro a hf
            refine dr_out 21 rfl (by kernel_rfl) (by kernel_rfl) (by kernel_rfl) (by kernel_rfl) rfl hf (by decide) rfl (wantN hf rfl rfl hb13) ⟨_, hp⟩ ?_
            clear hf; intro a hf
            refine dr_out 22 rfl (by kernel_rfl) (by kernel_rfl) (by kernel_rfl) (by kernel_rfl) rfl hf (by decide) rfl (wantN hf rfl rfl hb13) ⟨_, hp⟩ ?_
            clear hf; intro a hf
            refine dr_out 23 rfl (by kernel_rfl) (by kernel_rfl) (by kernel_rfl) (by kernel_rfl) rfl hf (by decide) rfl (wantN hf rfl rfl hb13) ⟨_, hp⟩ ?_
            clear hf; intro a hf
            refine dr_out 24 rfl (by kernel_rfl) (by kernel_rfl) (by kernel_rfl) (by kernel_rfl) rfl hf (by decide) rfl (wantN hf rfl rfl hb13) ⟨_, hp⟩ ?_
            clear hf; intro a hf
            refine dr_take 25 (.bool z30) rfl (by kernel_rfl) (by kernel_rfl) (by kernel_rfl) (by kernel_rfl) rfl rfl hf (by decide) rfl (fun w hp => ?_) ⟨_, hp⟩ ?_
            · obtain ⟨_, hp⟩ := hp
              refine st_pick (v := .bool z30) hf rfl rfl (fun _ => by rw [← hz15]; rfl) (fun hb' => absurd (hb13.symm.trans hb') (by decide)) (by decide) ?_
              clear hf; intro a ha hf
              exact st_nil hf (th_n ⟨ha, rfl⟩)
            clear hf; intro a hf
            refine dr_end (by kernel_rfl) ?_ _
            exact ⟨hf.sub ⟨rfl, rfl, rfl, rfl, trivial⟩, hp⟩
          · skip
            replace hz15 := ifF hz15 hb13
            obtain ⟨hc16, hz15⟩ := chk hz15
            obtain ⟨b18, b19, y20, y21, hl17⟩ := RdS.pinC (p := i5) ha0 hc16.1 hc16.2
            obtain ⟨hc22, hz15⟩ := chk hz15
            obtain ⟨b24, b25, y26, y27, hl23⟩ := RdS.pinC (p := i5) hb1 hc22.1 hc22.2
            obtain ⟨q28, hcall29, hz15⟩ := bnd hz15
            replace hz15 := Option.some.inj hz15
            refine dr_begin' (fun a w => Fr 43 a [(0, va0), (1, vb1), (5, .int .i64 i5), (42, .bool z30)] ∧ Hp S w0 w (ow)) (fun w' => ∃ l, Hp S w0 w' l) [] (by kernel_rfl) ?_
            refine dr_take 0 (va0) rfl (by kernel_rfl) (by kernel_rfl) (by kernel_rfl) (by kernel_rfl) rfl rfl hf (by decide) rfl (fun w hp => ?_) ⟨_, hp⟩ ?_
            · obtain ⟨_, hp⟩ := hp
              refine st_move hf rfl rfl (by decide) ?_
              clear hf; intro a ha hf
              exact st_nil hf (th_n ⟨ha, rfl⟩)
            clear hf; intro a hf
            refine dr_take 1 (.int .i64 i5) rfl (by kernel_rfl) (by kernel_rfl) (by kernel_rfl) (by kernel_rfl) rfl rfl hf (by decide) rfl (fun w hp => ?_) ⟨_, hp⟩ ?_
            · obtain ⟨_, hp⟩ := hp
              refine st_move hf rfl rfl (by decide) ?_
              clear hf; intro a ha hf
              exact st_nil hf (th_n ⟨ha, rfl⟩)
            clear hf; intro a hf
            refine dr_take 2 (eptr va0 i5 1) rfl (by kernel_rfl) (by kernel_rfl) (by kernel_rfl) (by kernel_rfl) rfl rfl hf (by decide) rfl (fun w hp => ?_) ⟨_, hp⟩ ?_
            · obtain ⟨_, hp⟩ := hp
              refine st_index (E := Ek.c128) hf (by decide) Try.underlying24 elt36 rfl rfl rfl (ha0.sl hp) hc1.1 hc1.2 ?_
              clear hf; intro a ha hf
              exact st_nil hf (th_n ⟨ha, rfl⟩)
            clear hf; intro a hf
            refine dr_take 3 (.complex .f64 b3 b4) rfl (by kernel_rfl) (by kernel_rfl) (by kernel_rfl) (by kernel_rfl) rfl rfl hf (by decide) rfl (fun w hp => ?_) ⟨_, hp⟩ ?_
            · obtain ⟨_, hp⟩ := hp
              refine st_ldP hf (by decide) pl36 rfl rfl (hl2 _ _ hp) ?_
              clear hf; intro a ha hf
              exact st_nil hf (th_n ⟨ha, rfl⟩)
            clear hf; intro a hf
            refine dr_take 4 (.float .f64 b3) rfl (by kernel_rfl) (by kernel_rfl) (by kernel_rfl) (by kernel_rfl) rfl rfl hf (by decide) rfl (fun w hp => ?_) ⟨_, hp⟩ ?_
            · obtain ⟨_, hp⟩ := hp
              refine st_real hf (by decide) rfl rfl ?_
              clear hf; intro a ha hf
              exact st_nil hf (th_n ⟨ha, rfl⟩)
            clear hf; intro a hf
            refine dr_take 5 (vb1) rfl (by kernel_rfl) (by kernel_rfl) (by kernel_rfl) (by kernel_rfl) rfl rfl hf (by decide) rfl (fun w hp => ?_) ⟨_, hp⟩ ?_
            · obtain ⟨_, hp⟩ := hp
              refine st_move hf rfl rfl (by decide) ?_
              clear hf; intro a ha hf
              exact st_nil hf (th_n ⟨ha, rfl⟩)
            clear hf; intro a hf
            refine dr_take 6 (.int .i64 i5) rfl (by kernel_rfl) (by kernel_rfl) (by kernel_rfl) (by kernel_rfl) rfl rfl hf (by decide) rfl (fun w hp => ?_) ⟨_, hp⟩ ?_
            · obtain ⟨_, hp⟩ := hp
              refine st_move hf rfl rfl (by decide) ?_
              clear hf; intro a ha hf
              exact st_nil hf (th_n ⟨ha, rfl⟩)
            clear hf; intro a hf
            refine dr_take 7 (eptr vb1 i5 1) rfl (by kernel_rfl) (by kernel_rfl) (by kernel_rfl) (by kernel_rfl) rfl rfl hf (by decide) rfl (fun w hp => ?_) ⟨_, hp⟩ ?_
            · obtain ⟨_, hp⟩ := hp
              refine st_index (E := Ek.c128) hf (by decide) Try.underlying24 elt36 rfl rfl rfl (hb1.sl hp) hc7.1 hc7.2 ?_
              clear hf; intro a ha hf
              exact st_nil hf (th_n ⟨ha, rfl⟩)
            clear hf; intro a hf
            refine dr_take 8 (.complex .f64 b9 b10) rfl (by kernel_rfl) (by kernel_rfl) (by kernel_rfl) (by kernel_rfl) rfl rfl hf (by decide) rfl (fun w hp => ?_) ⟨_, hp⟩ ?_
            · obtain ⟨_, hp⟩ := hp
              refine st_ldP hf (by decide) pl36 rfl rfl (hl8 _ _ hp) ?_
              clear hf; intro a ha hf
              exact st_nil hf (th_n ⟨ha, rfl⟩)
            clear hf; intro a hf
            refine dr_take 9 (.float .f64 b9) rfl (by kernel_rfl) (by kernel_rfl) (by kernel_rfl) (by kernel_rfl) rfl rfl hf (by decide) rfl (fun w hp => ?_) ⟨_, hp⟩ ?_
            · obtain ⟨_, hp⟩ := hp
              refine st_real hf (by decide) rfl rfl ?_
              clear hf; intro a ha hf
              exact st_nil hf (th_n ⟨ha, rfl⟩)
            clear hf; intro a hf
            refine dr_one 10 rfl (by kernel_rfl) ?_
            refine st_call hf (by decide) Try.func38 rfl rfl rfl rfl rfl (f_foghornref08_Float_c hp _ _ y5 _ _ y11 hcall14) ?_
            rintro _ w ⟨rfl, hp0⟩
            clear hp; have hp := hp0; clear hp0
            replace hp : Hp _ _ w (ow) := hp
            refine ⟨_, rfl, ?_⟩
            clear hf; intro a hf
            refine st_nil hf (th_n ⟨fun _ => ⟨_, hp⟩, ?_⟩)
            refine dr_take 11 (.bool (!q13)) rfl (by kernel_rfl) (by kernel_rfl) (by kernel_rfl) (by kernel_rfl) rfl rfl hf (by decide) rfl (fun w hp => ?_) ⟨_, hp⟩ ?_
            · obtain ⟨_, hp⟩ := hp
              refine st_not hf (by decide) rfl rfl ?_
              clear hf; intro a ha hf
              exact st_nil hf (th_n ⟨ha, rfl⟩)
            clear hf; intro a hf
            refine dr_take 12 (.bool (!q13)) rfl (by kernel_rfl) (by kernel_rfl) (by kernel_rfl) (by kernel_rfl) rfl rfl hf (by decide) rfl (fun w hp => ?_) ⟨_, hp⟩ ?_
            · obtain ⟨_, hp⟩ := hp
              refine st_move hf rfl rfl (by decide) ?_
              clear hf; intro a ha hf
              exact st_nil hf (th_n ⟨ha, rfl⟩)
            clear hf; intro a hf
            refine dr_take 13 (va0) rfl (by kernel_rfl) (by kernel_rfl) (by kernel_rfl) (by kernel_rfl) rfl rfl hf (by decide) (wantY hf rfl rfl hb13) (fun w hp => ?_) ⟨_, hp⟩ ?_
            · obtain ⟨_, hp⟩ := hp
              refine st_move hf (wantY hf rfl rfl hb13) rfl (by decide) ?_
              clear hf; intro a ha hf
              exact st_nil hf (th_n ⟨ha, rfl⟩)
            clear hf; intro a hf
            refine dr_take 14 (.int .i64 i5) rfl (by kernel_rfl) (by kernel_rfl) (by kernel_rfl) (by kernel_rfl) rfl rfl hf (by decide) (wantY hf rfl rfl hb13) (fun w hp => ?_) ⟨_, hp⟩ ?_
            · obtain ⟨_, hp⟩ := hp
              refine st_move hf (wantY hf rfl rfl hb13) rfl (by decide) ?_
              clear hf; intro a ha hf
              exact st_nil hf (th_n ⟨ha, rfl⟩)
            clear hf; intro a hf
            refine dr_take 15 (eptr va0 i5 1) rfl (by kernel_rfl) (by kernel_rfl) (by kernel_rfl) (by kernel_rfl) rfl rfl hf (by decide) (wantY hf rfl rfl hb13) (fun w hp => ?_) ⟨_, hp⟩ ?_
            · obtain ⟨_, hp⟩ := hp
              refine st_index (E := Ek.c128) hf (by decide) Try.underlying24 elt36 (wantY hf rfl rfl hb13) rfl rfl (ha0.sl hp) hc16.1 hc16.2 ?_
              clear hf; intro a ha hf
              exact st_nil hf (th_n ⟨ha, rfl⟩)
            clear hf; intro a hf
            refine dr_take 16 (.complex .f64 b18 b19) rfl (by kernel_rfl) (by kernel_rfl) (by kernel_rfl) (by kernel_rfl) rfl rfl hf (by decide) (wantY hf rfl rfl hb13) (fun w hp => ?_) ⟨_, hp⟩ ?_
            · obtain ⟨_, hp⟩ := hp
              refine st_ldP hf (by decide) pl36 (wantY hf rfl rfl hb13) rfl (hl17 _ _ hp) ?_
              clear hf; intro a ha hf
              exact st_nil hf (th_n ⟨ha, rfl⟩)
            clear hf; intro a hf
            refine dr_take 17 (.float .f64 b19) rfl (by kernel_rfl) (by kernel_rfl) (by kernel_rfl) (by kernel_rfl) rfl rfl hf (by decide) (wantY hf rfl rfl hb13) (fun w hp => ?_) ⟨_, hp⟩ ?_
            · obtain ⟨_, hp⟩ := hp
              refine st_imag hf (by decide) (wantY hf rfl rfl hb13) rfl ?_
              clear hf; intro a ha hf
              exact st_nil hf (th_n ⟨ha, rfl⟩)
            clear hf; intro a hf
            refine dr_take 18 (vb1) rfl (by kernel_rfl) (by kernel_rfl) (by kernel_rfl) (by kernel_rfl) rfl rfl hf (by decide) (wantY hf rfl rfl hb13) (fun w hp => ?_) ⟨_, hp⟩ ?_
            · obtain ⟨_, hp⟩ := hp
              refine st_move hf (wantY hf rfl rfl hb13) rfl (by decide) ?_
              clear hf; intro a ha hf
              exact st_nil hf (th_n ⟨ha, rfl⟩)
            clear hf; intro a hf
            refine dr_take 19 (.int .i64 i5) rfl (by kernel_rfl) (by kernel_rfl) (by kernel_rfl) (by kernel_rfl) rfl rfl hf (by decide) (wantY hf rfl rfl hb13) (fun w hp => ?_) ⟨_, hp⟩ ?_
            · obtain ⟨_, hp⟩ := hp
              refine st_move hf (wantY hf rfl rfl hb13) rfl (by decide) ?_
              clear hf; intro a ha hf
              exact st_nil hf (th_n ⟨ha, rfl⟩)
            clear hf; intro a hf
            refine dr_take 20 (eptr vb1 i5 1) rfl (by kernel_rfl) (by kernel_rfl) (by kernel_rfl) (by kernel_rfl) rfl rfl hf (by decide) (wantY hf rfl rfl hb13) (fun w hp => ?_) ⟨_, hp⟩ ?_
            · obtain ⟨_, hp⟩ := hp
              refine st_index (E := Ek.c128) hf (by decide) Try.underlying24 elt36 (wantY hf rfl rfl hb13) rfl rfl (hb1.sl hp) hc22.1 hc22.2 ?_
              clear hf; intro a ha hf
              exact st_nil hf (th_n ⟨ha, rfl⟩)
            clear hf; intro a hf
            refine dr_take 21 (.complex .f64 b24 b25) rfl (by kernel_rfl) (by kernel_rfl) (by kernel_rfl) (by kernel_rfl) rfl rfl hf (by decide) (wantY hf rfl rfl hb13) (fun w hp => ?_) ⟨_, hp⟩ ?_
            · obtain ⟨_, hp⟩ := hp
              refine st_ldP hf (by decide) pl36 (wantY hf rfl rfl hb13) rfl (hl23 _ _ hp) ?_
              clear hf; intro a ha hf
              exact st_nil hf (th_n ⟨ha, rfl⟩)
            clear hf; intro a hf
            refine dr_take 22 (.float .f64 b25) rfl (by kernel_rfl) (by kernel_rfl) (by kernel_rfl) (by kernel_rfl) rfl rfl hf (by decide) (wantY hf rfl rfl hb13) (fun w hp => ?_) ⟨_, hp⟩ ?_
            · obtain ⟨_, hp⟩ := hp
              refine st_imag hf (by decide) (wantY hf rfl rfl hb13) rfl ?_
              clear hf; intro a ha hf
              exact st_nil hf (th_n ⟨ha, rfl⟩)
            clear hf; intro a hf
            refine dr_one 23 rfl (by kernel_rfl) ?_
            refine st_call hf (by decide) Try.func38 rfl rfl (wantY hf rfl rfl hb13) rfl rfl (f_foghornref08_Float_c hp _ _ y21 _ _ y27 hcall29) ?_
            rintro _ w ⟨rfl, hp0⟩
            clear hp; have hp := hp0; clear hp0
            replace hp : Hp _ _ w (ow) := hp
            refine ⟨_, rfl, ?_⟩
            clear hf; intro a hf
            refine st_nil hf (th_n ⟨fun _ => ⟨_, hp⟩, ?_⟩)
            refine dr_take 24 (.bool (!q28)) rfl (by kernel_rfl) (by kernel_rfl) (by kernel_rfl) (by kernel_rfl) rfl rfl hf (by decide) (wantY hf rfl rfl hb13) (fun w hp => ?_) ⟨_, hp⟩ ?_
            · obtain ⟨_, hp⟩ := hp
              refine st_not hf (by decide) (wantY hf rfl rfl hb13) rfl ?_
              clear hf; intro a ha hf
              exact st_nil hf (th_n ⟨ha, rfl⟩)
            clear hf; intro a hf
            refine dr_take 25 (.bool z30) rfl (by kernel_rfl) (by kernel_rfl) (by kernel_rfl) (by kernel_rfl) rfl rfl hf (by decide) rfl (fun w hp => ?_) ⟨_, hp⟩ ?_
            · obtain ⟨_, hp⟩ := hp
              refine st_pick (v := .bool z30) hf rfl rfl (fun hb' => absurd (hb13.symm.trans hb') (by decide)) (fun _ => by rw [← hz15]; rfl) (by decide) ?_
              clear hf; intro a ha hf
              exact st_nil hf (th_n ⟨ha, rfl⟩)
            clear hf; intro a hf
            refine dr_end (by kernel_rfl) ?_ _
            exact ⟨hf.sub ⟨rfl, rfl, rfl, rfl, trivial⟩, hp⟩
        · rintro a w ⟨hf, hp⟩
          refine th_n ?_
          refine wp_if hf rfl (fun hb => ?_) (fun hb => ?_)
          · replace h := ifT h hb
            refine wp_seq ?_
            refine wp_reg ?_
            refine st_assign hf rfl rfl (by decide) ?_
            clear hf; intro a ha hf; clear ha
            refine st_nil hf ?_
            refine th_n ?_
            refine wp_ret ?_
            refine ib_r ?_
            refine th_r ?_
            obtain rfl := Option.some.inj h
            exact rnd_r (by simp) ⟨rfl, ⟨hf.sub ⟨rfl, trivial⟩, hp⟩⟩
          · replace h := ifF h hb
            refine wp_skip ?_
            refine ib_n ?_
            refine th_n ?_
            refine wp_reg ?_
            refine st_move hf rfl rfl (by decide) ?_
            clear hf; intro a ha hf; clear ha
            refine st_iadd hf (by decide) rfl rfl rfl ?_
            clear hf; intro a ha hf; clear ha
            refine st_assign hf rfl rfl (by decide) ?_
            clear hf; intro a ha hf; clear ha
            refine st_nil hf ?_
            obtain rfl := Option.some.inj h
            exact rnd_l ⟨hf.sub ⟨rfl, rfl, rfl, trivial⟩, hp⟩
      · replace h := ifF h hb
        refine wp_exit ?_
        refine th_e ?_
        obtain rfl := Option.some.inj h
        exact rnd_r (by simp) ⟨rfl, hf.sub trivial, hp⟩
    · clear hl hf hp
      intro e a w hne hO
      cases q31 with
      | inl q32 =>
        replace h := smL h
        obtain ⟨rfl, hf, hp⟩ := hO
        refine ib_same ?_
        refine th_n ?_
        refine wp_seq ?_
        refine wp_reg ?_
        refine st_assign hf rfl rfl (by decide) ?_
        clear hf; intro a ha hf; clear ha
        refine st_nil hf ?_
        refine th_n ?_
        refine wp_ret ?_
        obtain rfl := Option.some.inj h
        exact ⟨rfl, ⟨hf.sub ⟨rfl, trivial⟩, hp⟩⟩
      | inr q33 =>
        replace h := smR h
        obtain ⟨rfl, hf, hp⟩ := hO
        refine ib_r ?_
        refine th_r ?_
        obtain rfl := Option.some.inj h
        exact ⟨rfl, ⟨hf.sub ⟨rfl, trivial⟩, hp⟩⟩

noncomputable def f_foghornlaw08_fresh.s1c (one0 : (List (Fl × Fl))) (i7 : Int) : Option (((List (Fl × Fl)) × Int) ⊕ (List (Fl × Fl))) := (if (decide (i7 < (one0.length : Int))) = true then (if 0 ≤ i7 ∧ i7 < (one0.length : Int) then (some (Sum.inl ((one0.set (i7).toNat (Fl.bits 4617315517961601024, Fl.bits 0)), (IntKind.i64.wrap (i7 + (1 : Int)))))) else none) else (some (Sum.inr one0)))
noncomputable def f_foghornlaw08_fresh.s1  (s : ((List (Fl × Fl)) × Int)) : Option (((List (Fl × Fl)) × Int) ⊕ (List (Fl × Fl))) := f_foghornlaw08_fresh.s1c s.1 s.2
noncomputable def f_foghornlaw08_fresh.s2c (one0 : (List (Fl × Fl))) (k8 : Int) : Option (((List (Fl × Fl)) × Int) ⊕ (List (Fl × Fl))) := (if (decide (k8 < (20 : Int))) = true then (if (one0.length + ([(Fl.bits 4618441417868443648, Fl.bits 0)]).length) * 16 ≤ 140737488355328 then (some (Sum.inl ((one0 ++ [(Fl.bits 4618441417868443648, Fl.bits 0)]), (IntKind.i64.wrap (k8 + (1 : Int)))))) else none) else (some (Sum.inr one0)))
noncomputable def f_foghornlaw08_fresh.s2  (s : ((List (Fl × Fl)) × Int)) : Option (((List (Fl × Fl)) × Int) ⊕ (List (Fl × Fl))) := f_foghornlaw08_fresh.s2c s.1 s.2
noncomputable def f_foghornlaw08_fresh (one0 : (List (Fl × Fl))) (two1 : (List (Fl × Fl))) (want2 : (List (Fl × Fl))) : Option Bool := ((f_foghornref08_Same one0 want2).bind fun q2 => ((if (!q2) = true then (some true) else ((f_foghornref08_Same two1 want2).bind fun q12 => (some (!q12)))).bind fun z11 => (if z11 = true then (some false) else ((loop f_foghornlaw08_fresh.s1 (one0, (0 : Int))).bind (fun q19 => ((loop f_foghornlaw08_fresh.s2 (q19, (0 : Int))).bind (fun q28 => ((f_foghornref08_Same two1 want2).bind fun q29 => (some (q29 && ((q28.length : Int) == (IntKind.i64.wrap ((want2.length : Int) + (20 : Int))))))))))))))
theorem f_foghornlaw08_fresh_c {S : Nat → Prop} {w0 w : World} {ow : List Res} (vone0 : Value) (one0 : (List (Fl × Fl))) (vtwo1 : Value) (two1 : (List (Fl × Fl))) (htwo1 : RdS Ek.c128 S w0 vtwo1 two1) (vwant2 : Value) (want2 : (List (Fl × Fl))) (hwant2 : RdS Ek.c128 S w0 vwant2 want2) (hp : Hp S w0 w (Res.sl Ek.c128 36 vone0 one0 :: ow)) {r : Bool} (h : f_foghornlaw08_fresh one0 two1 want2 = some r) :
    Calls Try.prog 12 #[vone0, vtwo1, vwant2] w (fun e w' => e = .returned (.bool r) ∧ Hp S w0 w' (ow)) := by
  unfold f_foghornlaw08_fresh at h
  refine enter (n := 46) (args := [vone0, vtwo1, vwant2]) Try.func12 rfl rfl (Nat.le_of_ble_eq_true rfl) fun a hf => ?_
  replace hf : Fr 46 a [(0, vone0), (1, vtwo1), (2, vwant2)] := hf
  refine wp_mono (Q := fun e a w => e = .ret ∧ Fr 46 a [(6, .bool r)] ∧ Hp S w0 w (ow)) ?_ ?_
  rotate_left
  · rintro e a w ⟨rfl, hf, hp⟩
    exact ret1 hf rfl rfl ⟨rfl, hp⟩
  refine wp_seq ?_
  refine wp_reg ?_
  refine st_assign hf rfl rfl (by decide) ?_
  clear hf; intro a ha hf; clear ha
  refine st_nil hf ?_
  refine th_n ?_
  refine wp_seq ?_
  refine wp_seq ?_
  refine wp_reg ?_
  refine st_move hf rfl rfl (by decide) ?_
  clear hf; intro a ha hf; clear ha
  refine st_move hf rfl rfl (by decide) ?_
  clear hf; intro a ha hf; clear ha
  obtain ⟨q2, hcall3, h⟩ := bnd h
  obtain ⟨S4, hp5, rd6, up7, bk8⟩ := Hp.lendS hp (i := 0) rfl
  refine st_call hf (by decide) Try.func33 rfl rfl rfl rfl rfl (f_foghornref08_Same_c hp5 _ _ rd6 _ _ ((hwant2.now hp).mono up7) hcall3) ?_
  rintro _ w ⟨rfl, hp0⟩
  have hp0 := bk8 _ _ hp0
  clear hp; have hp := hp0; clear hp0
  replace hp : Hp _ _ w (Res.sl Ek.c128 36 vone0 one0 :: ow) := hp
  refine ⟨_, rfl, ?_⟩
  clear hf; intro a hf
  refine st_not hf (by decide) rfl rfl ?_
  clear hf; intro a ha hf; clear ha
  refine st_move hf rfl rfl (by decide) ?_
  clear hf; intro a ha hf; clear ha
  obtain ⟨z11, hz9, h⟩ := bnd h
  refine wpList_cut 5 (fun a w => Fr 46 a [(0, vone0), (1, vtwo1), (2, vwant2), (18, .bool z11)] ∧ Hp S w0 w (Res.sl Ek.c128 36 vone0 one0 :: ow)) ?_ ?_
  · rcases Bool.eq_false_or_eq_true (!q2) with hb10 | hb10
    · skip
      replace hz9 := ifT hz9 hb10
      refine st_skip hf (wantN hf rfl rfl hb10) rfl (by decide) ?_ rfl
      clear hf; intro a hf
      refine st_skip hf (wantN hf rfl rfl hb10) rfl (by decide) ?_ rfl
      clear hf; intro a hf
      refine st_skip hf (wantN hf rfl rfl hb10) rfl (by decide) ?_ rfl
      clear hf; intro a hf
      refine st_skip hf (wantN hf rfl rfl hb10) rfl (by decide) ?_ rfl
      clear hf; intro a hf
      obtain rfl := Option.some.inj hz9
      refine st_pick (v := .bool true) hf rfl rfl (fun hb' => ?_) (fun hb' => ?_) (by decide) ?_
      · rfl
      · exact absurd (hb10.symm.trans hb') (by decide)
      clear hf; intro a ha hf; clear ha
      refine st_nil hf (th_n ?_)
      exact ⟨hf.sub ⟨rfl, rfl, rfl, rfl, trivial⟩, hp⟩
    · skip
      replace hz9 := ifF hz9 hb10
      refine st_move hf (wantY hf rfl rfl hb10) rfl (by decide) ?_
      clear hf; intro a ha hf; clear ha
      refine st_move hf (wantY hf rfl rfl hb10) rfl (by decide) ?_
      clear hf; intro a ha hf; clear ha
      obtain ⟨q12, hcall13, hz9⟩ := bnd hz9
      refine st_call hf (by decide) Try.func33 rfl rfl (wantY hf rfl rfl hb10) rfl rfl (f_foghornref08_Same_c hp _ _ htwo1 _ _ hwant2 hcall13) ?_
      rintro _ w ⟨rfl, hp0⟩
      clear hp; have hp := hp0; clear hp0
      replace hp : Hp _ _ w (Res.sl Ek.c128 36 vone0 one0 :: ow) := hp
      refine ⟨_, rfl, ?_⟩
      clear hf; intro a hf
      refine st_not hf (by decide) (wantY hf rfl rfl hb10) rfl ?_
      clear hf; intro a ha hf; clear ha
      obtain rfl := Option.some.inj hz9
      refine st_pick (v := .bool (!q12)) hf rfl rfl (fun hb' => ?_) (fun hb' => ?_) (by decide) ?_
      · exact absurd (hb10.symm.trans hb') (by decide)
      · rfl
      clear hf; intro a ha hf; clear ha
      refine st_nil hf (th_n ?_)
      exact ⟨hf.sub ⟨rfl, rfl, rfl, rfl, trivial⟩, hp⟩
  · rintro a w ⟨hf, hp⟩
    refine st_nil hf ?_
    refine th_n ?_
    refine wp_if hf rfl (fun hb => ?_) (fun hb => ?_)
    · replace h := ifT h hb
      refine wp_seq ?_
      refine wp_reg ?_
      refine st_assign hf rfl rfl (by decide) ?_
      clear hf; intro a ha hf; clear ha
      refine st_nil hf ?_
      refine th_n ?_
      refine wp_ret ?_
      refine th_r ?_
      obtain rfl := Option.some.inj h
      have hp : Hp _ _ w (ow) := Hp.sel (pre := [Res.sl Ek.c128 36 vone0 one0]) (tail := ow) (rs' := []) hp [] (by decide) (by simp) rfl
      exact ⟨rfl, ⟨hf.sub ⟨rfl, trivial⟩, hp⟩⟩
    · replace h := ifF h hb
      refine wp_skip ?_
      refine th_n ?_
      refine wp_seq ?_
      refine wp_seq ?_
      refine wp_reg ?_
      refine st_assign hf rfl rfl (by decide) ?_
      clear hf; intro a ha hf; clear ha
      refine st_nil hf ?_
      refine th_n ?_
      refine wp_block ?_
      obtain ⟨q19, hl, h⟩ := bnd h
      refine wp_loop_pure (f := f_foghornlaw08_fresh.s1) (s := (one0, (0 : Int))) (fun s a w => ∃ (v14 : Value), Fr 46 a [(0, v14), (1, vtwo1), (2, vwant2), (7, .int .i64 s.2)] ∧ Hp S w0 w (Res.sl Ek.c128 36 v14 s.1 :: ow)) (fun q e a w => e = .exit 0 ∧ ∃ (v16 : Value), Fr 46 a [(0, v16), (1, vtwo1), (2, vwant2)] ∧ Hp S w0 w (Res.sl Ek.c128 36 v16 q :: ow)) ?_ hl ⟨_, hf.sub ⟨rfl, rfl, rfl, rfl, trivial⟩, hp⟩ ?_
      · clear hl hf hp
        intro s x a w h hI
        obtain ⟨one0, i7⟩ := s
        obtain ⟨v14, hf, hp⟩ : ∃ (v14 : Value), Fr 46 a [(0, v14), (1, vtwo1), (2, vwant2), (7, .int .i64 i7)] ∧ Hp S w0 w (Res.sl Ek.c128 36 v14 one0 :: ow) := hI
        replace h : f_foghornlaw08_fresh.s1c one0 i7 = some x := h
        unfold f_foghornlaw08_fresh.s1c at h
        refine wp_seq ?_
        refine wp_seq ?_
        refine wp_reg ?_
        refine st_move hf rfl rfl (by decide) ?_
        clear hf; intro a ha hf; clear ha
        refine st_move hf rfl rfl (by decide) ?_
        clear hf; intro a ha hf; clear ha
        refine st_len (E := Ek.c128) hf (by decide) Try.underlying24 rfl rfl (hp.sl (i := 0) rfl) ?_
        clear hf; intro a ha hf; clear ha
        refine st_ilss hf (by decide) rfl rfl rfl ?_
        clear hf; intro a ha hf; clear ha
        refine st_nil hf ?_
        refine th_n ?_
        refine wp_if hf rfl (fun hb => ?_) (fun hb => ?_)
        · replace h := ifT h hb
          refine wp_skip ?_
          refine th_n ?_
          refine wp_seq ?_
          refine wp_block ?_
          refine wp_reg ?_
          refine st_move hf rfl rfl (by decide) ?_
          clear hf; intro a ha hf; clear ha
          refine st_move hf rfl rfl (by decide) ?_
          clear hf; intro a ha hf; clear ha
          obtain ⟨hc18, h⟩ := chk h
          refine st_index (E := Ek.c128) hf (by decide) Try.underlying24 elt36 rfl rfl rfl (hp.sl (i := 0) rfl) hc18.1 hc18.2 ?_
          clear hf; intro a ha hf; clear ha
          refine st_store (E := Ek.c128) hf elt36 hp (i := 0) rfl rfl rfl rfl (show Ek.c128.rep [.complex .f64 4617315517961601024 0] (Fl.bits 4617315517961601024, Fl.bits 0) from ⟨_, _, rfl, rfl, rfl⟩) hc18.1 hc18.2 ?_
          clear hf; intro a w hf hp0; clear hp; have hp := hp0; clear hp0
          replace hp : Hp _ _ w (Res.sl Ek.c128 36 v14 (one0.set (i7).toNat (Fl.bits 4617315517961601024, Fl.bits 0)) :: ow) := hp
          refine st_nil hf ?_
          refine ib_n ?_
          refine th_n ?_
          refine wp_reg ?_
          refine st_move hf rfl rfl (by decide) ?_
          clear hf; intro a ha hf; clear ha
          refine st_iadd hf (by decide) rfl rfl rfl ?_
          clear hf; intro a ha hf; clear ha
          refine st_assign hf rfl rfl (by decide) ?_
          clear hf; intro a ha hf; clear ha
          refine st_nil hf ?_
          obtain rfl := Option.some.inj h
          exact rnd_l ⟨_, hf.sub ⟨rfl, rfl, rfl, rfl, trivial⟩, hp⟩
        · replace h := ifF h hb
          refine wp_exit ?_
          refine th_e ?_
          obtain rfl := Option.some.inj h
          exact rnd_r (by simp) ⟨rfl, _, hf.sub ⟨rfl, rfl, rfl, trivial⟩, hp⟩
      · clear hl hf hp
        intro e a w hne hO
        obtain ⟨rfl, v16, hf, hp⟩ := hO
        refine ib_same ?_
        refine th_n ?_
        refine wp_seq ?_
        refine wp_seq ?_
        refine wp_reg ?_
        refine st_assign hf rfl rfl (by decide) ?_
        clear hf; intro a ha hf; clear ha
        refine st_nil hf ?_
        refine th_n ?_
        refine wp_block ?_
        obtain ⟨q28, hl, h⟩ := bnd h
        refine wp_loop_pure (f := f_foghornlaw08_fresh.s2) (s := (q19, (0 : Int))) (fun s a w => ∃ (v20 : Value), Fr 46 a [(0, v20), (1, vtwo1), (2, vwant2), (8, .int .i64 s.2)] ∧ Hp S w0 w (Res.sl Ek.c128 36 v20 s.1 :: ow)) (fun q e a w => e = .exit 2 ∧ ∃ (v22 : Value), Fr 46 a [(0, v22), (1, vtwo1), (2, vwant2)] ∧ Hp S w0 w (Res.sl Ek.c128 36 v22 q :: ow)) ?_ hl ⟨_, hf.sub ⟨rfl, rfl, rfl, rfl, trivial⟩, hp⟩ ?_
        · clear hl hf hp
          intro s x a w h hI
          obtain ⟨one0, k8⟩ := s
          obtain ⟨v20, hf, hp⟩ : ∃ (v20 : Value), Fr 46 a [(0, v20), (1, vtwo1), (2, vwant2), (8, .int .i64 k8)] ∧ Hp S w0 w (Res.sl Ek.c128 36 v20 one0 :: ow) := hI
          replace h : f_foghornlaw08_fresh.s2c one0 k8 = some x := h
          unfold f_foghornlaw08_fresh.s2c at h
          refine wp_seq ?_
          refine wp_seq ?_
          refine wp_reg ?_
          refine st_move hf rfl rfl (by decide) ?_
          clear hf; intro a ha hf; clear ha
          refine st_ilss hf (by decide) rfl rfl rfl ?_
          clear hf; intro a ha hf; clear ha
          refine st_nil hf ?_
          refine th_n ?_
          refine wp_if hf rfl (fun hb => ?_) (fun hb => ?_)
          · replace h := ifT h hb
            refine wp_skip ?_
            refine th_n ?_
            refine wp_seq ?_
            refine wp_block ?_
            refine wp_reg ?_
            refine st_move hf rfl rfl (by decide) ?_
            clear hf; intro a ha hf; clear ha
            refine st_build (E := Ek.c128) (xs := [(Fl.bits 4618441417868443648, Fl.bits 0)]) hf (by decide) elt36 Try.underlying24 hp (vals := #[(0, .complex .f64 4618441417868443648 0)]) (cells := #[.complex .f64 4618441417868443648 0]) rfl (by simp [hf.ev (x := (Operand.const (.complex .f64 4618441417868443648 0))) rfl]) (by decide) (by decide) (z := .complex .f64 0 0) (by kernel_rfl) (by kernel_rfl) rfl (reps_cons (cs := [.complex .f64 4618441417868443648 0]) (show Ek.c128.rep [.complex .f64 4618441417868443648 0] (Fl.bits 4618441417868443648, Fl.bits 0) from ⟨_, _, rfl, rfl, rfl⟩) (reps_nil _)) ?_
            clear hf; intro a w v24 hf hp0; clear hp; have hp := hp0; clear hp0
            replace hp : Hp _ _ w (Res.sl Ek.c128 36 v24 ([(Fl.bits 4618441417868443648, Fl.bits 0)]) :: Res.sl Ek.c128 36 v20 one0 :: ow) := hp
            obtain ⟨hc26, h⟩ := chk h
            refine st_append (E := Ek.c128) hf (by decide) elt36 Try.underlying24 (by decide) hp (i := 1) rfl rfl rfl rfl (hp.sl (i := 0) rfl) hc26 ?_
            clear hf; intro a w v27 hf hp0; clear hp; have hp := hp0; clear hp0
            replace hp : Hp _ _ w (Res.sl Ek.c128 36 v24 ([(Fl.bits 4618441417868443648, Fl.bits 0)]) :: Res.sl Ek.c128 36 v27 (one0 ++ [(Fl.bits 4618441417868443648, Fl.bits 0)]) :: ow) := hp
            refine st_assign hf rfl rfl (by decide) ?_
            clear hf; intro a ha hf; clear ha
            refine st_nil hf ?_
            refine ib_n ?_
            refine th_n ?_
            refine wp_reg ?_
            refine st_move hf rfl rfl (by decide) ?_
            clear hf; intro a ha hf; clear ha
            refine st_iadd hf (by decide) rfl rfl rfl ?_
            clear hf; intro a ha hf; clear ha
            refine st_assign hf rfl rfl (by decide) ?_
            clear hf; intro a ha hf; clear ha
            refine st_nil hf ?_
            obtain rfl := Option.some.inj h
            have hp : Hp _ _ w (Res.sl Ek.c128 36 v27 (one0 ++ [(Fl.bits 4618441417868443648, Fl.bits 0)]) :: ow) := Hp.sel (pre := [Res.sl Ek.c128 36 v24 ([(Fl.bits 4618441417868443648, Fl.bits 0)]), Res.sl Ek.c128 36 v27 (one0 ++ [(Fl.bits 4618441417868443648, Fl.bits 0)])]) (tail := ow) (rs' := [Res.sl Ek.c128 36 v27 (one0 ++ [(Fl.bits 4618441417868443648, Fl.bits 0)])]) hp [1] (by decide) (by simp) rfl
            exact rnd_l ⟨_, hf.sub ⟨rfl, rfl, rfl, rfl, trivial⟩, hp⟩
          · replace h := ifF h hb
            refine wp_exit ?_
            refine th_e ?_
            obtain rfl := Option.some.inj h
            exact rnd_r (by simp) ⟨rfl, _, hf.sub ⟨rfl, rfl, rfl, trivial⟩, hp⟩
        · clear hl hf hp
          intro e a w hne hO
          obtain ⟨rfl, v22, hf, hp⟩ := hO
          refine ib_same ?_
          refine th_n ?_
          refine wp_seq ?_
          refine wp_reg ?_
          refine st_move hf rfl rfl (by decide) ?_
          clear hf; intro a ha hf; clear ha
          refine st_move hf rfl rfl (by decide) ?_
          clear hf; intro a ha hf; clear ha
          obtain ⟨q29, hcall30, h⟩ := bnd h
          refine st_call hf (by decide) Try.func33 rfl rfl rfl rfl rfl (f_foghornref08_Same_c hp _ _ htwo1 _ _ hwant2 hcall30) ?_
          rintro _ w ⟨rfl, hp0⟩
          clear hp; have hp := hp0; clear hp0
          replace hp : Hp _ _ w (Res.sl Ek.c128 36 v22 q28 :: ow) := hp
          refine ⟨_, rfl, ?_⟩
          clear hf; intro a hf
          refine st_move hf rfl rfl (by decide) ?_
          clear hf; intro a ha hf; clear ha
          refine wpList_cut 7 (fun a w => Fr 46 a [(45, .bool (q29 && ((q28.length : Int) == (IntKind.i64.wrap ((want2.length : Int) + (20 : Int))))))] ∧ Hp S w0 w (Res.sl Ek.c128 36 v22 q28 :: ow)) ?_ ?_
          · rcases Bool.eq_false_or_eq_true q29 with hb32 | hb32
            · skip
              refine st_move hf (wantY hf rfl rfl hb32) rfl (by decide) ?_
              clear hf; intro a ha hf; clear ha
              refine st_len (E := Ek.c128) hf (by decide) Try.underlying24 (wantY hf rfl rfl hb32) rfl (hp.sl (i := 0) rfl) ?_
              clear hf; intro a ha hf; clear ha
              refine st_move hf (wantY hf rfl rfl hb32) rfl (by decide) ?_
              clear hf; intro a ha hf; clear ha
              refine st_len (E := Ek.c128) hf (by decide) Try.underlying24 (wantY hf rfl rfl hb32) rfl (hwant2.sl hp) ?_
              clear hf; intro a ha hf; clear ha
              refine st_iadd hf (by decide) (wantY hf rfl rfl hb32) rfl rfl ?_
              clear hf; intro a ha hf; clear ha
              refine st_ieql hf (by decide) (wantY hf rfl rfl hb32) rfl rfl ?_
              clear hf; intro a ha hf; clear ha
              refine st_pick (v := .bool ((q28.length : Int) == (IntKind.i64.wrap ((want2.length : Int) + (20 : Int))))) hf rfl rfl (fun hb' => ?_) (fun hb' => ?_) (by decide) ?_
              · rfl
              · exact absurd (hb32.symm.trans hb') (by decide)
              clear hf; intro a ha hf; clear ha
              refine st_nil hf (th_n ?_)
              exact ⟨hf.sub ⟨(by rw [hb32]; rfl), trivial⟩, hp⟩
            · skip
              refine st_skip hf (wantN hf rfl rfl hb32) rfl (by decide) ?_ rfl
              clear hf; intro a hf
              refine st_skip hf (wantN hf rfl rfl hb32) rfl (by decide) ?_ rfl
              clear hf; intro a hf
              refine st_skip hf (wantN hf rfl rfl hb32) rfl (by decide) ?_ rfl
              clear hf; intro a hf
              refine st_skip hf (wantN hf rfl rfl hb32) rfl (by decide) ?_ rfl
              clear hf; intro a hf
              refine st_skip hf (wantN hf rfl rfl hb32) rfl (by decide) ?_ rfl
              clear hf; intro a hf
              refine st_skip hf (wantN hf rfl rfl hb32) rfl (by decide) ?_ rfl
              clear hf; intro a hf
              refine st_pick (v := .bool false) hf rfl rfl (fun hb' => ?_) (fun hb' => ?_) (by decide) ?_
              · exact absurd (hb32.symm.trans hb') (by decide)
              · rfl
              clear hf; intro a ha hf; clear ha
              refine st_nil hf (th_n ?_)
              exact ⟨hf.sub ⟨(by rw [hb32]; rfl), trivial⟩, hp⟩
          · rintro a w ⟨hf, hp⟩
            refine st_assign hf rfl rfl (by decide) ?_
            clear hf; intro a ha hf; clear ha
            refine st_nil hf ?_
            refine th_n ?_
            refine wp_ret ?_
            obtain rfl := Option.some.inj h
            have hp : Hp _ _ w (ow) := Hp.sel (pre := [Res.sl Ek.c128 36 v22 q28]) (tail := ow) (rs' := []) hp [] (by decide) (by simp) rfl
            exact ⟨rfl, ⟨hf.sub ⟨rfl, trivial⟩, hp⟩⟩

noncomputable def f_foghornlaw08_kept.s1c (z0 : (List (Fl × Fl))) (l1 : (List Int)) (i6 : Int) : Option (Int ⊕ (Unit ⊕ Bool)) := (if (decide (i6 < (z0.length : Int))) = true then (if 0 ≤ i6 ∧ i6 < (z0.length : Int) then ((fbits ((gt z0 i6).1)).bind fun q18 => (if 0 ≤ (IntKind.i64.wrap ((2 : Int) * i6)) ∧ (IntKind.i64.wrap ((2 : Int) * i6)) < (l1.length : Int) then ((if (q18 != (gt l1 (IntKind.i64.wrap ((2 : Int) * i6)))) = true then (some true) else (if 0 ≤ i6 ∧ i6 < (z0.length : Int) then ((fbits ((gt z0 i6).2)).bind fun q29 => (if 0 ≤ (IntKind.i64.wrap ((IntKind.i64.wrap ((2 : Int) * i6)) + (1 : Int))) ∧ (IntKind.i64.wrap ((IntKind.i64.wrap ((2 : Int) * i6)) + (1 : Int))) < (l1.length : Int) then (some (q29 != (gt l1 (IntKind.i64.wrap ((IntKind.i64.wrap ((2 : Int) * i6)) + (1 : Int)))))) else none)) else none)).bind fun z33 => (if z33 = true then (some (Sum.inr (Sum.inr false))) else (some (Sum.inl (IntKind.i64.wrap (i6 + (1 : Int))))))) else none)) else none) else (some (Sum.inr (Sum.inl ()))))
noncomputable def f_foghornlaw08_kept.s1 (z0 : (List (Fl × Fl))) (l1 : (List Int)) (s : Int) : Option (Int ⊕ (Unit ⊕ Bool)) := f_foghornlaw08_kept.s1c z0 l1 s
noncomputable def f_foghornlaw08_kept (z0 : (List (Fl × Fl))) (z0S : (List (Fl × Fl))) (l1 : (List Int)) : Option Bool := ((if ((z0.length : Int) != (IntKind.i64.wrap (((l1.length : Int)).tdiv (2 : Int)))) = true then (some true) else (if 0 ≤ (IntKind.i64.wrap ((z0.length : Int) + (1 : Int))) ∧ (IntKind.i64.wrap ((z0.length : Int) + (1 : Int))) ≤ ((z0 ++ z0S).length : Int) then (if 0 ≤ (z0.length : Int) ∧ (z0.length : Int) < (((z0 ++ z0S).take (((IntKind.i64.wrap ((z0.length : Int) + (1 : Int)))).toNat)).length : Int) then (some (!ceq (gt ((z0 ++ z0S).take (((IntKind.i64.wrap ((z0.length : Int) + (1 : Int)))).toNat)) (z0.length : Int)) (Fl.bits 4651892959631900672, Fl.bits 0))) else none) else none)).bind fun z3 => (if z3 = true then (some false) else ((loop (f_foghornlaw08_kept.s1 z0 l1) (0 : Int)).bind (fun q34 => sm q34 (fun q35 => (some true)) (fun q36 => (some q36))))))
theorem f_foghornlaw08_kept_c {S : Nat → Prop} {w0 w : World} {ow : List Res} (hp : Hp S w0 w ow) (vz0 : Value) (z0 : (List (Fl × Fl))) (z0S : (List (Fl × Fl))) (hz0 : RdX Ek.c128 S w0 vz0 z0 z0S) (vl1 : Value) (l1 : (List Int)) (hl1 : RdS (Ek.int .u64) S w0 vl1 l1) {r : Bool} (h : f_foghornlaw08_kept z0 z0S l1 = some r) :
    Calls Try.prog 13 #[vz0, vl1] w (fun e w' => e = .returned (.bool r) ∧ Hp S w0 w' (ow)) := by
  unfold f_foghornlaw08_kept at h
  refine enter (n := 56) (args := [vz0, vl1]) Try.func13 rfl rfl (Nat.le_of_ble_eq_true rfl) fun a hf => ?_
  replace hf : Fr 56 a [(0, vz0), (1, vl1)] := hf
  refine wp_mono (Q := fun e a w => e = .ret ∧ Fr 56 a [(4, .bool r)] ∧ Hp S w0 w (ow)) ?_ ?_
  rotate_left
  · rintro e a w ⟨rfl, hf, hp⟩
    exact ret1 hf rfl rfl ⟨rfl, hp⟩
  refine wp_seq ?_
  refine wp_reg ?_
  refine st_assign hf rfl rfl (by decide) ?_
  clear hf; intro a ha hf; clear ha
  refine st_nil hf ?_
  refine th_n ?_
  refine wp_seq ?_
  refine wp_reg ?_
  refine st_move hf rfl rfl (by decide) ?_
  clear hf; intro a ha hf; clear ha
  refine st_len (E := Ek.c128) hf (by decide) Try.underlying24 rfl rfl (hz0.rd.sl hp) ?_
  clear hf; intro a ha hf; clear ha
  refine st_assign hf rfl rfl (by decide) ?_
  clear hf; intro a ha hf; clear ha
  refine st_nil hf ?_
  refine th_n ?_
  refine wp_seq ?_
  refine wp_seq ?_
  refine wp_reg ?_
  refine st_move hf rfl rfl (by decide) ?_
  clear hf; intro a ha hf; clear ha
  refine st_move hf rfl rfl (by decide) ?_
  clear hf; intro a ha hf; clear ha
  refine st_len (E := (Ek.int .u64)) hf (by decide) Try.underlying22 rfl rfl (hl1.sl hp) ?_
  clear hf; intro a ha hf; clear ha
  refine st_iquo hf (by decide) rfl rfl rfl (by decide) ?_
  clear hf; intro a ha hf; clear ha
  refine st_ineq hf (by decide) rfl rfl rfl ?_
  clear hf; intro a ha hf; clear ha
  refine st_move hf rfl rfl (by decide) ?_
  clear hf; intro a ha hf; clear ha
  obtain ⟨z3, hz1, h⟩ := bnd h
  refine wpList_cut 9 (fun a w => Fr 56 a [(0, vz0), (1, vl1), (5, .int .i64 (z0.length : Int)), (23, .bool z3)] ∧ Hp S w0 w (ow)) ?_ ?_
  · rcases Bool.eq_false_or_eq_true ((z0.length : Int) != (IntKind.i64.wrap (((l1.length : Int)).tdiv (2 : Int)))) with hb2 | hb2
    · skip
      replace hz1 := ifT hz1 hb2
      refine st_skip hf (wantN hf rfl rfl hb2) rfl (by decide) ?_ rfl
      clear hf; intro a hf
      refine st_skip hf (wantN hf rfl rfl hb2) rfl (by decide) ?_ rfl
      clear hf; intro a hf
      refine st_skip hf (wantN hf rfl rfl hb2) rfl (by decide) ?_ rfl
      clear hf; intro a hf
      refine st_skip hf (wantN hf rfl rfl hb2) rfl (by decide) ?_ rfl
      clear hf; intro a hf
      refine st_skip hf (wantN hf rfl rfl hb2) rfl (by decide) ?_ rfl
      clear hf; intro a hf
      refine st_skip hf (wantN hf rfl rfl hb2) rfl (by decide) ?_ rfl
      clear hf; intro a hf
      refine st_skip hf (wantN hf rfl rfl hb2) rfl (by decide) ?_ rfl
      clear hf; intro a hf
      refine st_skip hf (wantN hf rfl rfl hb2) rfl (by decide) ?_ rfl
      clear hf; intro a hf
      obtain rfl := Option.some.inj hz1
      refine st_pick (v := .bool true) hf rfl rfl (fun hb' => ?_) (fun hb' => ?_) (by decide) ?_
      · rfl
      · exact absurd (hb2.symm.trans hb') (by decide)
      clear hf; intro a ha hf; clear ha
      refine st_nil hf (th_n ?_)
      exact ⟨hf.sub ⟨rfl, rfl, rfl, rfl, trivial⟩, hp⟩
    · skip
      replace hz1 := ifF hz1 hb2
      refine st_move hf (wantY hf rfl rfl hb2) rfl (by decide) ?_
      clear hf; intro a ha hf; clear ha
      refine st_move hf (wantY hf rfl rfl hb2) rfl (by decide) ?_
      clear hf; intro a ha hf; clear ha
      refine st_iadd hf (by decide) (wantY hf rfl rfl hb2) rfl rfl ?_
      clear hf; intro a ha hf; clear ha
      obtain ⟨hc4, hz1⟩ := chk hz1
      have hc5 : 0 ≤ ((IntKind.i64.wrap ((z0.length : Int) + (1 : Int)))).toNat := by omega
      have hc6 : ((IntKind.i64.wrap ((z0.length : Int) + (1 : Int)))).toNat ≤ (z0 ++ z0S).length := by omega
      refine st_cutXr (E := Ek.c128) hf (by decide) Try.underlying24 elt36 (hz0.now hp) (wantY hf rfl rfl hb2) rfl (.inl ⟨rfl, rfl⟩) (.inr ⟨_, _, rfl, evI rfl (by omega)⟩) hc5 hc6 ?_
      clear hf; intro a ha hf; clear ha
      refine st_move hf (wantY hf rfl rfl hb2) rfl (by decide) ?_
      clear hf; intro a ha hf; clear ha
      obtain ⟨hc7, hz1⟩ := chk hz1
      refine st_index (E := Ek.c128) hf (by decide) Try.underlying24 elt36 (wantY hf rfl rfl hb2) rfl rfl ((RdX.take hz0 hc6).sl hp) hc7.1 hc7.2 ?_
      clear hf; intro a ha hf; clear ha
      refine st_ldC hf (by decide) pl36 (wantY hf rfl rfl hb2) rfl ((RdX.take hz0 hc6).sl hp) hc7.1 hc7.2 ?_
      clear hf; intro a b8 b9 y10 y11 ha hf; clear ha
      refine st_ccmp (r_cne (x := (gt ((z0 ++ z0S).take (((IntKind.i64.wrap ((z0.length : Int) + (1 : Int)))).toNat)) (z0.length : Int))) (y := (Fl.bits 4651892959631900672, Fl.bits 0)) y10 y11 rfl rfl) hf (by decide) (wantY hf rfl rfl hb2) rfl rfl ?_
      clear hf; intro a ha hf; clear ha
      obtain rfl := Option.some.inj hz1
      refine st_pick (v := .bool (!ceq (gt ((z0 ++ z0S).take (((IntKind.i64.wrap ((z0.length : Int) + (1 : Int)))).toNat)) (z0.length : Int)) (Fl.bits 4651892959631900672, Fl.bits 0))) hf rfl rfl (fun hb' => ?_) (fun hb' => ?_) (by decide) ?_
      · exact absurd (hb2.symm.trans hb') (by decide)
      · rfl
      clear hf; intro a ha hf; clear ha
      refine st_nil hf (th_n ?_)
      exact ⟨hf.sub ⟨rfl, rfl, rfl, rfl, trivial⟩, hp⟩
  · rintro a w ⟨hf, hp⟩
    refine st_nil hf ?_
    refine th_n ?_
    refine wp_if hf rfl (fun hb => ?_) (fun hb => ?_)
    · replace h := ifT h hb
      refine wp_seq ?_
      refine wp_reg ?_
      refine st_assign hf rfl rfl (by decide) ?_
      clear hf; intro a ha hf; clear ha
      refine st_nil hf ?_
      refine th_n ?_
      refine wp_ret ?_
      refine th_r ?_
      obtain rfl := Option.some.inj h
      exact ⟨rfl, ⟨hf.sub ⟨rfl, trivial⟩, hp⟩⟩
    · replace h := ifF h hb
      refine wp_skip ?_
      refine th_n ?_
      refine wp_seq ?_
      refine wp_seq ?_
      refine wp_reg ?_
      refine st_assign hf rfl rfl (by decide) ?_
      clear hf; intro a ha hf; clear ha
      refine st_nil hf ?_
      refine th_n ?_
      refine wp_block ?_
      obtain ⟨q34, hl, h⟩ := bnd h
      refine wp_loop_pure (f := (f_foghornlaw08_kept.s1 z0 l1)) (s := (0 : Int)) (fun s a w => Fr 56 a [(0, vz0), (1, vl1), (5, .int .i64 (z0.length : Int)), (6, .int .i64 s)] ∧ Hp S w0 w (ow)) (fun q e a w => match q with | (Sum.inl q) => e = .exit 0 ∧ Fr 56 a [] ∧ Hp S w0 w (ow) | (Sum.inr q) => e = .ret ∧ Fr 56 a [(4, .bool q)] ∧ Hp S w0 w (ow)) ?_ hl ⟨hf.sub ⟨rfl, rfl, rfl, rfl, trivial⟩, hp⟩ ?_
      · clear hl hf hp
        intro s x a w h hI
        obtain ⟨i6, hs⟩ : ∃ z, z = s := ⟨s, rfl⟩; subst hs
        obtain ⟨hf, hp⟩ : Fr 56 a [(0, vz0), (1, vl1), (5, .int .i64 (z0.length : Int)), (6, .int .i64 i6)] ∧ Hp S w0 w (ow) := hI
        replace h : f_foghornlaw08_kept.s1c z0 l1 i6 = some x := h
        unfold f_foghornlaw08_kept.s1c at h
        refine wp_seq ?_
        refine wp_seq ?_
        refine wp_reg ?_
        refine st_move hf rfl rfl (by decide) ?_
        clear hf; intro a ha hf; clear ha
        refine st_move hf rfl rfl (by decide) ?_
        clear hf; intro a ha hf; clear ha
        refine st_ilss hf (by decide) rfl rfl rfl ?_
        clear hf; intro a ha hf; clear ha
        refine st_nil hf ?_
        refine th_n ?_
        refine wp_if hf rfl (fun hb => ?_) (fun hb => ?_)
        · replace h := ifT h hb
          refine wp_skip ?_
          refine th_n ?_
          refine wp_seq ?_
          refine wp_block ?_
          refine wp_seq ?_
          obtain ⟨hc12, h⟩ := chk h
          obtain ⟨b14, b15, y16, y17, hl13⟩ := RdS.pinC (p := i6) hz0.rd hc12.1 hc12.2
          obtain ⟨q18, hq19, h⟩ := bnd h
          obtain ⟨hc21, h⟩ := chk h
          obtain ⟨z33, hz22, h⟩ := bnd h
          refine wp_cutN (fun a w => Fr 56 a [(0, vz0), (1, vl1), (5, .int .i64 (z0.length : Int)), (6, .int .i64 i6), (55, .bool z33)] ∧ Hp S w0 w (ow)) ?_ ?_
          · have hp := hp.same (Same.drew w)
            rcases Bool.eq_false_or_eq_true (q18 != (gt l1 (IntKind.i64.wrap ((2 : Int) * i6)))) with hb13 | hb13
            · skip
              replace hz22 := ifT hz22 hb13
              replace hz22 := Option.some.inj hz22
              refine dr_begin' (fun a w => Fr 56 a [(0, vz0), (1, vl1), (5, .int .i64 (z0.length : Int)), (6, .int .i64 i6), (55, .bool z33)] ∧ Hp S w0 w (ow)) (fun w' => ∃ l, Hp S w0 w' l) [] (by kernel_rfl) ?_
              refine dr_take 0 (vz0) rfl (by kernel_rfl) (by kernel_rfl) (by kernel_rfl) (by kernel_rfl) rfl rfl hf (by decide) rfl (fun w hp => ?_) ⟨_, hp⟩ ?_
              · obtain ⟨_, hp⟩ := hp
                refine st_move hf rfl rfl (by decide) ?_
                clear hf; intro a ha hf
                exact st_nil hf (th_n ⟨ha, rfl⟩)
              clear hf; intro a hf
              refine dr_take 1 (.int .i64 i6) rfl (by kernel_rfl) (by kernel_rfl) (by kernel_rfl) (by kernel_rfl) rfl rfl hf (by decide) rfl (fun w hp => ?_) ⟨_, hp⟩ ?_
              · obtain ⟨_, hp⟩ := hp
                refine st_move hf rfl rfl (by decide) ?_
                clear hf; intro a ha hf
                exact st_nil hf (th_n ⟨ha, rfl⟩)
              clear hf; intro a hf
              refine dr_take 2 (eptr vz0 i6 1) rfl (by kernel_rfl) (by kernel_rfl) (by kernel_rfl) (by kernel_rfl) rfl rfl hf (by decide) rfl (fun w hp => ?_) ⟨_, hp⟩ ?_
              · obtain ⟨_, hp⟩ := hp
                refine st_index (E := Ek.c128) hf (by decide) Try.underlying24 elt36 rfl rfl rfl (hz0.rd.sl hp) hc12.1 hc12.2 ?_
                clear hf; intro a ha hf
                exact st_nil hf (th_n ⟨ha, rfl⟩)
              clear hf; intro a hf
              refine dr_take 3 (.complex .f64 b14 b15) rfl (by kernel_rfl) (by kernel_rfl) (by kernel_rfl) (by kernel_rfl) rfl rfl hf (by decide) rfl (fun w hp => ?_) ⟨_, hp⟩ ?_
              · obtain ⟨_, hp⟩ := hp
                refine st_ldP hf (by decide) pl36 rfl rfl (hl13 _ _ hp) ?_
                clear hf; intro a ha hf
                exact st_nil hf (th_n ⟨ha, rfl⟩)
              clear hf; intro a hf
              refine dr_take 4 (.float .f64 b14) rfl (by kernel_rfl) (by kernel_rfl) (by kernel_rfl) (by kernel_rfl) rfl rfl hf (by decide) rfl (fun w hp => ?_) ⟨_, hp⟩ ?_
              · obtain ⟨_, hp⟩ := hp
                refine st_real hf (by decide) rfl rfl ?_
                clear hf; intro a ha hf
                exact st_nil hf (th_n ⟨ha, rfl⟩)
              clear hf; intro a hf
              refine dr_take 6 (vl1) rfl (by kernel_rfl) (by kernel_rfl) (by kernel_rfl) (by kernel_rfl) rfl rfl hf (by decide) rfl (fun w hp => ?_) ⟨_, hp⟩ ?_
              · obtain ⟨_, hp⟩ := hp
                refine st_move hf rfl rfl (by decide) ?_
                clear hf; intro a ha hf
                exact st_nil hf (th_n ⟨ha, rfl⟩)
              clear hf; intro a hf
              refine dr_take 7 (.int .i64 i6) rfl (by kernel_rfl) (by kernel_rfl) (by kernel_rfl) (by kernel_rfl) rfl rfl hf (by decide) rfl (fun w hp => ?_) ⟨_, hp⟩ ?_
              · obtain ⟨_, hp⟩ := hp
                refine st_move hf rfl rfl (by decide) ?_
                clear hf; intro a ha hf
                exact st_nil hf (th_n ⟨ha, rfl⟩)
              clear hf; intro a hf
              refine dr_take 8 (.int .i64 (IntKind.i64.wrap ((2 : Int) * i6))) rfl (by kernel_rfl) (by kernel_rfl) (by kernel_rfl) (by kernel_rfl) rfl rfl hf (by decide) rfl (fun w hp => ?_) ⟨_, hp⟩ ?_
              · obtain ⟨_, hp⟩ := hp
                refine st_imul hf (by decide) rfl rfl rfl ?_
                clear hf; intro a ha hf
                exact st_nil hf (th_n ⟨ha, rfl⟩)
              clear hf; intro a hf
              refine dr_take 9 (eptr vl1 (IntKind.i64.wrap ((2 : Int) * i6)) 1) rfl (by kernel_rfl) (by kernel_rfl) (by kernel_rfl) (by kernel_rfl) rfl rfl hf (by decide) rfl (fun w hp => ?_) ⟨_, hp⟩ ?_
              · obtain ⟨_, hp⟩ := hp
                refine st_index (E := (Ek.int .u64)) hf (by decide) Try.underlying22 elt42 rfl rfl rfl (hl1.sl hp) hc21.1 hc21.2 ?_
                clear hf; intro a ha hf
                exact st_nil hf (th_n ⟨ha, rfl⟩)
              clear hf; intro a hf
              refine dr_take 10 (.int .u64 (gt l1 (IntKind.i64.wrap ((2 : Int) * i6)))) rfl (by kernel_rfl) (by kernel_rfl) (by kernel_rfl) (by kernel_rfl) rfl rfl hf (by decide) rfl (fun w hp => ?_) ⟨_, hp⟩ ?_
              · obtain ⟨_, hp⟩ := hp
                refine st_ldI hf (by decide) pl42 rfl rfl (hl1.sl hp) hc21.1 hc21.2 ?_
                clear hf; intro a ha hf
                exact st_nil hf (th_n ⟨ha, rfl⟩)
              clear hf; intro a hf
              refine dr_one 5 rfl (by kernel_rfl) ?_
              refine st_extern (ex := Extern.MathFloatBits.float64bits) (r := .int .u64 (b14 : Int)) (f := 30) (vs := [.float .f64 b14]) hf (by decide) Try.func30 rfl rfl (by kernel_rfl) (by kernel_rfl) rfl rfl rfl rfl ?_
              clear hf; intro a ha hf; clear ha
              have he20 := fbits_rep y16 hq19; rw [← he20] at hf
              refine st_nil hf (th_n ⟨fun _ => ⟨_, hp⟩, ?_⟩)
              refine dr_take 11 (.bool (q18 != (gt l1 (IntKind.i64.wrap ((2 : Int) * i6))))) rfl (by kernel_rfl) (by kernel_rfl) (by kernel_rfl) (by kernel_rfl) rfl rfl hf (by decide) rfl (fun w hp => ?_) ⟨_, hp⟩ ?_
              · obtain ⟨_, hp⟩ := hp
                refine st_ineq hf (by decide) rfl rfl rfl ?_
                clear hf; intro a ha hf
                exact st_nil hf (th_n ⟨ha, rfl⟩)
              clear hf; intro a hf
              refine dr_take 12 (.bool (q18 != (gt l1 (IntKind.i64.wrap ((2 : Int) * i6))))) rfl (by kernel_rfl) (by kernel_rfl) (by kernel_rfl) (by kernel_rfl) rfl rfl hf (by decide) rfl (fun w hp => ?_) ⟨_, hp⟩ ?_
              · obtain ⟨_, hp⟩ := hp
                refine st_move hf rfl rfl (by decide) ?_
                clear hf; intro a ha hf
                exact st_nil hf (th_n ⟨ha, rfl⟩)
              clear hf; intro a hf
              refine dr_out 13 rfl (by kernel_rfl) (by kernel_rfl) (by kernel_rfl) (by kernel_rfl) rfl hf (by decide) rfl (wantN hf rfl rfl hb13) ⟨_, hp⟩ ?_
              clear hf; intro a hf
              refine dr_out 14 rfl (by kernel_rfl) (by kernel_rfl) (by kernel_rfl) (by kernel_rfl) rfl hf (by decide) rfl (wantN hf rfl rfl hb13) ⟨_, hp⟩ ?_
              clear hf; intro a hf
              refine dr_out 15 rfl (by kernel_rfl) (by kernel_rfl) (by kernel_rfl) (by kernel_rfl) rfl hf (by decide) rfl (wantN hf rfl rfl hb13) ⟨_, hp⟩ ?_
              clear hf; intro a hf
              refine dr_out 16 rfl (by kernel_rfl) (by kernel_rfl) (by kernel_rfl) (by kernel_rfl) rfl hf (by decide) rfl (wantN hf rfl rfl hb13) ⟨_, hp⟩ ?_
              clear hf; intro a hf
              refine dr_out 17 rfl (by kernel_rfl) (by kernel_rfl) (by kernel_rfl) (by kernel_rfl) rfl hf (by decide) rfl (wantN hf rfl rfl hb13) ⟨_, hp⟩ ?_
              clear hf; intro a hf
              refine dr_out 18 rfl (by kernel_rfl) (by kernel_rfl) (by kernel_rfl) (by kernel_rfl) rfl hf (by decide) rfl (wantN hf rfl rfl hb13) ⟨_, hp⟩ ?_
              clear hf; intro a hf
              refine dr_out 19 rfl (by kernel_rfl) (by kernel_rfl) (by kernel_rfl) (by kernel_rfl) rfl hf (by decide) rfl (wantN hf rfl rfl hb13) ⟨_, hp⟩ ?_
              clear hf; intro a hf
              refine dr_out 20 rfl (by kernel_rfl) (by kernel_rfl) (by kernel_rfl) (by kernel_rfl) rfl hf (by decide) rfl (wantN hf rfl rfl hb13) ⟨_, hp⟩ ?_
              clear hf; intro a hf
              refine dr_out 21 rfl (by kernel_rfl) (by kernel_rfl) (by kernel_rfl) (by kernel_rfl) rfl hf (by decide) rfl (wantN hf rfl rfl hb13) ⟨_, hp⟩ ?_
              clear hf; intro a hf
              refine dr_out 22 rfl (by kernel_rfl) (by kernel_rfl) (by kernel_rfl) (by kernel_rfl) rfl hf (by decide) rfl (wantN hf rfl rfl hb13) ⟨_, hp⟩ ?_
              clear hf; intro a hf
              refine dr_out 23 rfl (by kernel_rfl) (by kernel_rfl) (by kernel_rfl) (by kernel_rfl) rfl hf (by decide) rfl (wantN hf rfl rfl hb13) ⟨_, hp⟩ ?_
              clear hf; intro a hf
              refine dr_out 24 rfl (by kernel_rfl) (by kernel_rfl) (by kernel_rfl) (by kernel_rfl) rfl hf (by decide) rfl (wantN hf rfl rfl hb13) ⟨_, hp⟩ ?_
              clear hf; intro a hf
              refine dr_out 25 rfl (by kernel_rfl) (by kernel_rfl) (by kernel_rfl) (by kernel_rfl) rfl hf (by decide) rfl (wantN hf rfl rfl hb13) ⟨_, hp⟩ ?_
              clear hf; intro a hf
              refine dr_take 26 (.bool z33) rfl (by kernel_rfl) (by kernel_rfl) (by kernel_rfl) (by kernel_rfl) rfl rfl hf (by decide) rfl (fun w hp => ?_) ⟨_, hp⟩ ?_
              · obtain ⟨_, hp⟩ := hp
                refine st_pick (v := .bool z33) hf rfl rfl (fun _ => by rw [← hz22]; rfl) (fun hb' => absurd (hb13.symm.trans hb') (by decide)) (by decide) ?_
                clear hf; intro a ha hf
                exact st_nil hf (th_n ⟨ha, rfl⟩)
              clear hf; intro a hf
              refine dr_end (by kernel_rfl) ?_ _
              exact ⟨hf.sub ⟨rfl, rfl, rfl, rfl, rfl, trivial⟩, hp⟩
            · skip
              replace hz22 := ifF hz22 hb13
              obtain ⟨hc23, hz22⟩ := chk hz22
              obtain ⟨b25, b26, y27, y28, hl24⟩ := RdS.pinC (p := i6) hz0.rd hc23.1 hc23.2
              obtain ⟨q29, hq30, hz22⟩ := bnd hz22
              obtain ⟨hc32, hz22⟩ := chk hz22
              replace hz22 := Option.some.inj hz22
              refine dr_begin' (fun a w => Fr 56 a [(0, vz0), (1, vl1), (5, .int .i64 (z0.length : Int)), (6, .int .i64 i6), (55, .bool z33)] ∧ Hp S w0 w (ow)) (fun w' => ∃ l, Hp S w0 w' l) [] (by kernel_rfl) ?_
              refine dr_take 0 (vz0) rfl (by kernel_rfl) (by kernel_rfl) (by kernel_rfl) (by kernel_rfl) rfl rfl hf (by decide) rfl (fun w hp => ?_) ⟨_, hp⟩ ?_
              · obtain ⟨_, hp⟩ := hp
                refine st_move hf rfl rfl (by decide) ?_
                clear hf; intro a ha hf
                exact st_nil hf (th_n ⟨ha, rfl⟩)
              clear hf; intro a hf
              refine dr_take 1 (.int .i64 i6) rfl (by kernel_rfl) (by kernel_rfl) (by kernel_rfl) (by kernel_rfl) rfl rfl hf (by decide) rfl (fun w hp => ?_) ⟨_, hp⟩ ?_
              · obtain ⟨_, hp⟩ := hp
                refine st_move hf rfl rfl (by decide) ?_
                clear hf; intro a ha hf
                exact st_nil hf (th_n ⟨ha, rfl⟩)
              clear hf; intro a hf
              refine dr_take 2 (eptr vz0 i6 1) rfl (by kernel_rfl) (by kernel_rfl) (by kernel_rfl) (by kernel_rfl) rfl rfl hf (by decide) rfl (fun w hp => ?_) ⟨_, hp⟩ ?_
              · obtain ⟨_, hp⟩ := hp
                refine st_index (E := Ek.c128) hf (by decide) Try.underlying24 elt36 rfl rfl rfl (hz0.rd.sl hp) hc12.1 hc12.2 ?_
                clear hf; intro a ha hf
                exact st_nil hf (th_n ⟨ha, rfl⟩)
              clear hf; intro a hf
              refine dr_take 3 (.complex .f64 b14 b15) rfl (by kernel_rfl) (by kernel_rfl) (by kernel_rfl) (by kernel_rfl) rfl rfl hf (by decide) rfl (fun w hp => ?_) ⟨_, hp⟩ ?_
              · obtain ⟨_, hp⟩ := hp
                refine st_ldP hf (by decide) pl36 rfl rfl (hl13 _ _ hp) ?_
                clear hf; intro a ha hf
                exact st_nil hf (th_n ⟨ha, rfl⟩)
              clear hf; intro a hf
              refine dr_take 4 (.float .f64 b14) rfl (by kernel_rfl) (by kernel_rfl) (by kernel_rfl) (by kernel_rfl) rfl rfl hf (by decide) rfl (fun w hp => ?_) ⟨_, hp⟩ ?_
              · obtain ⟨_, hp⟩ := hp
                refine st_real hf (by decide) rfl rfl ?_
                clear hf; intro a ha hf
                exact st_nil hf (th_n ⟨ha, rfl⟩)
              clear hf; intro a hf
              refine dr_take 6 (vl1) rfl (by kernel_rfl) (by kernel_rfl) (by kernel_rfl) (by kernel_rfl) rfl rfl hf (by decide) rfl (fun w hp => ?_) ⟨_, hp⟩ ?_
              · obtain ⟨_, hp⟩ := hp
                refine st_move hf rfl rfl (by decide) ?_
                clear hf; intro a ha hf
                exact st_nil hf (th_n ⟨ha, rfl⟩)
              clear hf; intro a hf
              refine dr_take 7 (.int .i64 i6) rfl (by kernel_rfl) (by kernel_rfl) (by kernel_rfl) (by kernel_rfl) rfl rfl hf (by decide) rfl (fun w hp => ?_) ⟨_, hp⟩ ?_
              · obtain ⟨_, hp⟩ := hp
                refine st_move hf rfl rfl (by decide) ?_
                clear hf; intro a ha hf
                exact st_nil hf (th_n ⟨ha, rfl⟩)
              clear hf; intro a hf
              refine dr_take 8 (.int .i64 (IntKind.i64.wrap ((2 : Int) * i6))) rfl (by kernel_rfl) (by kernel_rfl) (by kernel_rfl) (by kernel_rfl) rfl rfl hf (by decide) rfl (fun w hp => ?_) ⟨_, hp⟩ ?_
              · obtain ⟨_, hp⟩ := hp
                refine st_imul hf (by decide) rfl rfl rfl ?_
                clear hf; intro a ha hf
                exact st_nil hf (th_n ⟨ha, rfl⟩)
              clear hf; intro a hf
              refine dr_take 9 (eptr vl1 (IntKind.i64.wrap ((2 : Int) * i6)) 1) rfl (by kernel_rfl) (by kernel_rfl) (by kernel_rfl) (by kernel_rfl) rfl rfl hf (by decide) rfl (fun w hp => ?_) ⟨_, hp⟩ ?_
              · obtain ⟨_, hp⟩ := hp
                refine st_index (E := (Ek.int .u64)) hf (by decide) Try.underlying22 elt42 rfl rfl rfl (hl1.sl hp) hc21.1 hc21.2 ?_
                clear hf; intro a ha hf
                exact st_nil hf (th_n ⟨ha, rfl⟩)
              clear hf; intro a hf
              refine dr_take 10 (.int .u64 (gt l1 (IntKind.i64.wrap ((2 : Int) * i6)))) rfl (by kernel_rfl) (by kernel_rfl) (by kernel_rfl) (by kernel_rfl) rfl rfl hf (by decide) rfl (fun w hp => ?_) ⟨_, hp⟩ ?_
              · obtain ⟨_, hp⟩ := hp
                refine st_ldI hf (by decide) pl42 rfl rfl (hl1.sl hp) hc21.1 hc21.2 ?_
                clear hf; intro a ha hf
                exact st_nil hf (th_n ⟨ha, rfl⟩)
              clear hf; intro a hf
              refine dr_one 5 rfl (by kernel_rfl) ?_
              refine st_extern (ex := Extern.MathFloatBits.float64bits) (r := .int .u64 (b14 : Int)) (f := 30) (vs := [.float .f64 b14]) hf (by decide) Try.func30 rfl rfl (by kernel_rfl) (by kernel_rfl) rfl rfl rfl rfl ?_
              clear hf; intro a ha hf; clear ha
              have he20 := fbits_rep y16 hq19; rw [← he20] at hf
              refine st_nil hf (th_n ⟨fun _ => ⟨_, hp⟩, ?_⟩)
              refine dr_take 11 (.bool (q18 != (gt l1 (IntKind.i64.wrap ((2 : Int) * i6))))) rfl (by kernel_rfl) (by kernel_rfl) (by kernel_rfl) (by kernel_rfl) rfl rfl hf (by decide) rfl (fun w hp => ?_) ⟨_, hp⟩ ?_
              · obtain ⟨_, hp⟩ := hp
                refine st_ineq hf (by decide) rfl rfl rfl ?_
                clear hf; intro a ha hf
                exact st_nil hf (th_n ⟨ha, rfl⟩)
              clear hf; intro a hf
              refine dr_take 12 (.bool (q18 != (gt l1 (IntKind.i64.wrap ((2 : Int) * i6))))) rfl (by kernel_rfl) (by kernel_rfl) (by kernel_rfl) (by kernel_rfl) rfl rfl hf (by decide) rfl (fun w hp => ?_) ⟨_, hp⟩ ?_
              · obtain ⟨_, hp⟩ := hp
                refine st_move hf rfl rfl (by decide) ?_
                clear hf; intro a ha hf
                exact st_nil hf (th_n ⟨ha, rfl⟩)
              clear hf; intro a hf
              refine dr_take 13 (vz0) rfl (by kernel_rfl) (by kernel_rfl) (by kernel_rfl) (by kernel_rfl) rfl rfl hf (by decide) (wantY hf rfl rfl hb13) (fun w hp => ?_) ⟨_, hp⟩ ?_
              · obtain ⟨_, hp⟩ := hp
                refine st_move hf (wantY hf rfl rfl hb13) rfl (by decide) ?_
                clear hf; intro a ha hf
                exact st_nil hf (th_n ⟨ha, rfl⟩)
              clear hf; intro a hf
              refine dr_take 14 (.int .i64 i6) rfl (by kernel_rfl) (by kernel_rfl) (by kernel_rfl) (by kernel_rfl) rfl rfl hf (by decide) (wantY hf rfl rfl hb13) (fun w hp => ?_) ⟨_, hp⟩ ?_
              · obtain ⟨_, hp⟩ := hp
                refine st_move hf (wantY hf rfl rfl hb13) rfl (by decide) ?_
                clear hf; intro a ha hf
                exact st_nil hf (th_n ⟨ha, rfl⟩)
              clear hf; intro a hf
              refine dr_take 15 (eptr vz0 i6 1) rfl (by kernel_rfl) (by kernel_rfl) (by kernel_rfl) (by kernel_rfl) rfl rfl hf (by decide) (wantY hf rfl rfl hb13) (fun w hp => ?_) ⟨_, hp⟩ ?_
              · obtain ⟨_, hp⟩ := hp
                refine st_index (E := Ek.c128) hf (by decide) Try.underlying24 elt36 (wantY hf rfl rfl hb13) rfl rfl (hz0.rd.sl hp) hc23.1 hc23.2 ?_
                clear hf; intro a ha hf
                exact st_nil hf (th_n ⟨ha, rfl⟩)
              clear hf; intro a hf
              refine dr_take 16 (.complex .f64 b25 b26) rfl (by kernel_rfl) (by kernel_rfl) (by kernel_rfl) (by kernel_rfl) rfl rfl hf (by decide) (wantY hf rfl rfl hb13) (fun w hp => ?_) ⟨_, hp⟩ ?_
              · obtain ⟨_, hp⟩ := hp
                refine st_ldP hf (by decide) pl36 (wantY hf rfl rfl hb13) rfl (hl24 _ _ hp) ?_
                clear hf; intro a ha hf
                exact st_nil hf (th_n ⟨ha, rfl⟩)
              clear hf; intro a hf
              refine dr_take 17 (.float .f64 b26) rfl (by kernel_rfl) (by kernel_rfl) (by kernel_rfl) (by kernel_rfl) rfl rfl hf (by decide) (wantY hf rfl rfl hb13) (fun w hp => ?_) ⟨_, hp⟩ ?_
              · obtain ⟨_, hp⟩ := hp
                refine st_imag hf (by decide) (wantY hf rfl rfl hb13) rfl ?_
                clear hf; intro a ha hf
                exact st_nil hf (th_n ⟨ha, rfl⟩)
              clear hf; intro a hf
              refine dr_take 19 (vl1) rfl (by kernel_rfl) (by kernel_rfl) (by kernel_rfl) (by kernel_rfl) rfl rfl hf (by decide) (wantY hf rfl rfl hb13) (fun w hp => ?_) ⟨_, hp⟩ ?_
              · obtain ⟨_, hp⟩ := hp
                refine st_move hf (wantY hf rfl rfl hb13) rfl (by decide) ?_
                clear hf; intro a ha hf
                exact st_nil hf (th_n ⟨ha, rfl⟩)
              clear hf; intro a hf
              refine dr_take 20 (.int .i64 i6) rfl (by kernel_rfl) (by kernel_rfl) (by kernel_rfl) (by kernel_rfl) rfl rfl hf (by decide) (wantY hf rfl rfl hb13) (fun w hp => ?_) ⟨_, hp⟩ ?_
              · obtain ⟨_, hp⟩ := hp
                refine st_move hf (wantY hf rfl rfl hb13) rfl (by decide) ?_
                clear hf; intro a ha hf
                exact st_nil hf (th_n ⟨ha, rfl⟩)
              clear hf; intro a hf
              refine dr_take 21 (.int .i64 (IntKind.i64.wrap ((2 : Int) * i6))) rfl (by kernel_rfl) (by kernel_rfl) (by kernel_rfl) (by kernel_rfl) rfl rfl hf (by decide) (wantY hf rfl rfl hb13) (fun w hp => ?_) ⟨_, hp⟩ ?_
              · obtain ⟨_, hp⟩ := hp
                refine st_imul hf (by decide) (wantY hf rfl rfl hb13) rfl rfl ?_
                clear hf; intro a ha hf
                exact st_nil hf (th_n ⟨ha, rfl⟩)
              clear hf; intro a hf
              refine dr_take 22 (.int .i64 (IntKind.i64.wrap ((IntKind.i64.wrap ((2 : Int) * i6)) + (1 : Int)))) rfl (by kernel_rfl) (by kernel_rfl) (by kernel_rfl) (by kernel_rfl) rfl rfl hf (by decide) (wantY hf rfl rfl hb13) (fun w hp => ?_) ⟨_, hp⟩ ?_
              · obtain ⟨_, hp⟩ := hp
                refine st_iadd hf (by decide) (wantY hf rfl rfl hb13) rfl rfl ?_
                clear hf; intro a ha hf
                exact st_nil hf (th_n ⟨ha, rfl⟩)
              clear hf; intro a hf
              refine dr_take 23 (eptr vl1 (IntKind.i64.wrap ((IntKind.i64.wrap ((2 : Int) * i6)) + (1 : Int))) 1) rfl (by kernel_rfl) (by kernel_rfl) (by kernel_rfl) (by kernel_rfl) rfl rfl hf (by decide) (wantY hf rfl rfl hb13) (fun w hp => ?_) ⟨_, hp⟩ ?_
              · obtain ⟨_, hp⟩ := hp
                refine st_index (E := (Ek.int .u64)) hf (by decide) Try.underlying22 elt42 (wantY hf rfl rfl hb13) rfl rfl (hl1.sl hp) hc32.1 hc32.2 ?_
                clear hf; intro a ha hf
                exact st_nil hf (th_n ⟨ha, rfl⟩)
              clear hf; intro a hf
              refine dr_take 24 (.int .u64 (gt l1 (IntKind.i64.wrap ((IntKind.i64.wrap ((2 : Int) * i6)) + (1 : Int))))) rfl (by kernel_rfl) (by kernel_rfl) (by kernel_rfl) (by kernel_rfl) rfl rfl hf (by decide) (wantY hf rfl rfl hb13) (fun w hp => ?_) ⟨_, hp⟩ ?_
              · obtain ⟨_, hp⟩ := hp
                refine st_ldI hf (by decide) pl42 (wantY hf rfl rfl hb13) rfl (hl1.sl hp) hc32.1 hc32.2 ?_
                clear hf; intro a ha hf
                exact st_nil hf (th_n ⟨ha, rfl⟩)
              clear hf; intro a hf
              refine dr_one 18 rfl (by kernel_rfl) ?_
              refine st_extern (ex := Extern.MathFloatBits.float64bits) (r := .int .u64 (b26 : Int)) (f := 30) (vs := [.float .f64 b26]) hf (by decide) Try.func30 rfl rfl (by kernel_rfl) (by kernel_rfl) (wantY hf rfl rfl hb13) rfl rfl rfl ?_
              clear hf; intro a ha hf; clear ha
              have he31 := fbits_rep y28 hq30; rw [← he31] at hf
              refine st_nil hf (th_n ⟨fun _ => ⟨_, hp⟩, ?_⟩)
              refine dr_take 25 (.bool (q29 != (gt l1 (IntKind.i64.wrap ((IntKind.i64.wrap ((2 : Int) * i6)) + (1 : Int)))))) rfl (by kernel_rfl) (by kernel_rfl) (by kernel_rfl) (by kernel_rfl) rfl rfl hf (by decide) (wantY hf rfl rfl hb13) (fun w hp => ?_) ⟨_, hp⟩ ?_
              · obtain ⟨_, hp⟩ := hp
                refine st_ineq hf (by decide) (wantY hf rfl rfl hb13) rfl rfl ?_
                clear hf; intro a ha hf
                exact st_nil hf (th_n ⟨ha, rfl⟩)
              clear hf; intro a hf
              refine dr_take 26 (.bool z33) rfl (by kernel_rfl) (by kernel_rfl) (by kernel_rfl) (by kernel_rfl) rfl rfl hf (by decide) rfl (fun w hp => ?_) ⟨_, hp⟩ ?_
              · obtain ⟨_, hp⟩ := hp
                refine st_pick (v := .bool z33) hf rfl rfl (fun hb' => absurd (hb13.symm.trans hb') (by decide)) (fun _ => by rw [← hz22]; rfl) (by decide) ?_
                clear hf; intro a ha hf
                exact st_nil hf (th_n ⟨ha, rfl⟩)
              clear hf; intro a hf
              refine dr_end (by kernel_rfl) ?_ _
              exact ⟨hf.sub ⟨rfl, rfl, rfl, rfl, rfl, trivial⟩, hp⟩
          · rintro a w ⟨hf, hp⟩
            refine th_n ?_
            refine wp_if hf rfl (fun hb => ?_) (fun hb => ?_)
            · replace h := ifT h hb
              refine wp_seq ?_
              refine wp_reg ?_
              refine st_assign hf rfl rfl (by decide) ?_
              clear hf; intro a ha hf; clear ha
              refine st_nil hf ?_
              refine th_n ?_
              refine wp_ret ?_
              refine ib_r ?_
              refine th_r ?_
              obtain rfl := Option.some.inj h
              exact rnd_r (by simp) ⟨rfl, ⟨hf.sub ⟨rfl, trivial⟩, hp⟩⟩
            · replace h := ifF h hb
              refine wp_skip ?_
              refine ib_n ?_
              refine th_n ?_
              refine wp_reg ?_
              refine st_move hf rfl rfl (by decide) ?_
              clear hf; intro a ha hf; clear ha
              refine st_iadd hf (by decide) rfl rfl rfl ?_
              clear hf; intro a ha hf; clear ha
              refine st_assign hf rfl rfl (by decide) ?_
              clear hf; intro a ha hf; clear ha
              refine st_nil hf ?_
              obtain rfl := Option.some.inj h
              exact rnd_l ⟨hf.sub ⟨rfl, rfl, rfl, rfl, trivial⟩, hp⟩
        · replace h := ifF h hb
          refine wp_exit ?_
          refine th_e ?_
          obtain rfl := Option.some.inj h
          exact rnd_r (by simp) ⟨rfl, hf.sub trivial, hp⟩
      · clear hl hf hp
        intro e a w hne hO
        cases q34 with
        | inl q35 =>
          replace h := smL h
          obtain ⟨rfl, hf, hp⟩ := hO
          refine ib_same ?_
          refine th_n ?_
          refine wp_seq ?_
          refine wp_reg ?_
          refine st_assign hf rfl rfl (by decide) ?_
          clear hf; intro a ha hf; clear ha
          refine st_nil hf ?_
          refine th_n ?_
          refine wp_ret ?_
          obtain rfl := Option.some.inj h
          exact ⟨rfl, ⟨hf.sub ⟨rfl, trivial⟩, hp⟩⟩
        | inr q36 =>
          replace h := smR h
          obtain ⟨rfl, hf, hp⟩ := hO
          refine ib_r ?_
          refine th_r ?_
          obtain rfl := Option.some.inj h
          exact ⟨rfl, ⟨hf.sub ⟨rfl, trivial⟩, hp⟩⟩

noncomputable def f_foghornref08_Carrier.s1c (n1 : Int) (l6 : (List (Fl × Fl))) (i7 : Int) : Option (((List (Fl × Fl)) × Int) ⊕ (List (Fl × Fl))) := (if (decide (i7 < n1)) = true then (if (l6.length + ([(Fl.bits 4607182418800017408, Fl.bits 0)]).length) * 16 ≤ 140737488355328 then (some (Sum.inl ((l6 ++ [(Fl.bits 4607182418800017408, Fl.bits 0)]), (IntKind.i64.wrap (i7 + (1 : Int)))))) else none) else (some (Sum.inr l6)))
noncomputable def f_foghornref08_Carrier.s1 (n1 : Int) (s : ((List (Fl × Fl)) × Int)) : Option (((List (Fl × Fl)) × Int) ⊕ (List (Fl × Fl))) := f_foghornref08_Carrier.s1c n1 s.1 s.2
noncomputable def f_foghornref08_Carrier (quarters0 : Int) (n1 : Int) : Option ((List (Fl × Fl)) × Int) := (if ((decide (n1 < (0 : Int))) || (decide ((65536 : Int) < n1))) = true then (some ([], (1 : Int))) else ((loop (f_foghornref08_Carrier.s1 n1) ([], (0 : Int))).bind (fun q12 => ((f_foghornref08_Up q12 quarters0).bind fun q14 => (some (q14.1, q14.2))))))
theorem f_foghornref08_Carrier_c {S : Nat → Prop} {w0 w : World} {ow : List Res} (hp : Hp S w0 w ow) (quarters0 : Int) (n1 : Int) {r : ((List (Fl × Fl)) × Int)} (h : f_foghornref08_Carrier quarters0 n1 = some r) :
    Calls Try.prog 22 #[.int .i64 quarters0, .int .i64 n1] w (fun e w' => ∃ (u0 : Value), e = .returned (.tuple #[u0, .int .i64 r.2]) ∧ Hp S w0 w' (Res.sl Ek.c128 36 u0 r.1 :: ow)) := by
  unfold f_foghornref08_Carrier at h
  refine enter (n := 27) (args := [.int .i64 quarters0, .int .i64 n1]) Try.func22 rfl rfl (Nat.le_of_ble_eq_true rfl) fun a hf => ?_
  replace hf : Fr 27 a [(0, .int .i64 quarters0), (1, .int .i64 n1)] := hf
  refine wp_mono (Q := fun e a w => e = .ret ∧ ∃ (u0 : Value), Fr 27 a [(4, u0), (5, .int .i64 r.2)] ∧ Hp S w0 w (Res.sl Ek.c128 36 u0 r.1 :: ow)) ?_ ?_
  rotate_left
  · rintro e a w ⟨rfl, x0, hf, hp⟩
    exact ret2 hf rfl rfl rfl ⟨x0, rfl, hp⟩
  refine wp_seq ?_
  refine wp_reg ?_
  refine st_assign hf rfl rfl (by decide) ?_
  clear hf; intro a ha hf; clear ha
  refine st_assign hf rfl rfl (by decide) ?_
  clear hf; intro a ha hf; clear ha
  refine st_nil hf ?_
  refine th_n ?_
  refine wp_seq ?_
  refine wp_seq ?_
  refine wp_reg ?_
  refine st_move hf rfl rfl (by decide) ?_
  clear hf; intro a ha hf; clear ha
  refine st_ilss hf (by decide) rfl rfl rfl ?_
  clear hf; intro a ha hf; clear ha
  refine st_move hf rfl rfl (by decide) ?_
  clear hf; intro a ha hf; clear ha
  refine wpList_cut 3 (fun a w => Fr 27 a [(0, .int .i64 quarters0), (1, .int .i64 n1), (13, .bool ((decide (n1 < (0 : Int))) || (decide ((65536 : Int) < n1))))] ∧ Hp S w0 w (ow)) ?_ ?_
  · rcases Bool.eq_false_or_eq_true (decide (n1 < (0 : Int))) with hb2 | hb2
    · skip
      refine st_skip hf (wantN hf rfl rfl hb2) rfl (by decide) ?_ rfl
      clear hf; intro a hf
      refine st_skip hf (wantN hf rfl rfl hb2) rfl (by decide) ?_ rfl
      clear hf; intro a hf
      refine st_pick (v := .bool true) hf rfl rfl (fun hb' => ?_) (fun hb' => ?_) (by decide) ?_
      · rfl
      · exact absurd (hb2.symm.trans hb') (by decide)
      clear hf; intro a ha hf; clear ha
      refine st_nil hf (th_n ?_)
      exact ⟨hf.sub ⟨rfl, rfl, (by rw [hb2]; rfl), trivial⟩, hp⟩
    · skip
      refine st_move hf (wantY hf rfl rfl hb2) rfl (by decide) ?_
      clear hf; intro a ha hf; clear ha
      refine st_igtr hf (by decide) (wantY hf rfl rfl hb2) rfl rfl ?_
      clear hf; intro a ha hf; clear ha
      refine st_pick (v := .bool (decide ((65536 : Int) < n1))) hf rfl rfl (fun hb' => ?_) (fun hb' => ?_) (by decide) ?_
      · exact absurd (hb2.symm.trans hb') (by decide)
      · rfl
      clear hf; intro a ha hf; clear ha
      refine st_nil hf (th_n ?_)
      exact ⟨hf.sub ⟨rfl, rfl, (by rw [hb2]; rfl), trivial⟩, hp⟩
  · rintro a w ⟨hf, hp⟩
    refine st_nil hf ?_
    refine th_n ?_
    refine wp_if hf rfl (fun hb => ?_) (fun hb => ?_)
    · replace h := ifT h hb
      refine wp_seq ?_
      refine wp_reg ?_
      refine st_assign hf rfl rfl (by decide) ?_
      clear hf; intro a ha hf; clear ha
      refine st_assign hf rfl rfl (by decide) ?_
      clear hf; intro a ha hf; clear ha
      refine st_nil hf ?_
      refine th_n ?_
      refine wp_ret ?_
      refine th_r ?_
      obtain rfl := Option.some.inj h
      have hp := hp.nil Ek.c128 36
      exact ⟨rfl, ⟨_, hf.sub ⟨rfl, rfl, trivial⟩, hp⟩⟩
    · replace h := ifF h hb
      refine wp_skip ?_
      refine th_n ?_
      refine wp_seq ?_
      refine wp_reg ?_
      refine st_assign hf rfl rfl (by decide) ?_
      clear hf; intro a ha hf; clear ha
      refine st_nil hf ?_
      refine th_n ?_
      refine wp_seq ?_
      refine wp_seq ?_
      refine wp_reg ?_
      refine st_assign hf rfl rfl (by decide) ?_
      clear hf; intro a ha hf; clear ha
      refine st_nil hf ?_
      refine th_n ?_
      refine wp_block ?_
      obtain ⟨q12, hl, h⟩ := bnd h
      have hp := hp.nil Ek.c128 36
      refine wp_loop_pure (f := (f_foghornref08_Carrier.s1 n1)) (s := ([], (0 : Int))) (fun s a w => ∃ (v4 : Value), Fr 27 a [(0, .int .i64 quarters0), (1, .int .i64 n1), (6, v4), (7, .int .i64 s.2)] ∧ Hp S w0 w (Res.sl Ek.c128 36 v4 s.1 :: ow)) (fun q e a w => e = .exit 0 ∧ ∃ (v6 : Value), Fr 27 a [(0, .int .i64 quarters0), (6, v6)] ∧ Hp S w0 w (Res.sl Ek.c128 36 v6 q :: ow)) ?_ hl ⟨_, hf.sub ⟨rfl, rfl, rfl, rfl, trivial⟩, hp⟩ ?_
      · clear hl hf hp
        intro s x a w h hI
        obtain ⟨l6, i7⟩ := s
        obtain ⟨v4, hf, hp⟩ : ∃ (v4 : Value), Fr 27 a [(0, .int .i64 quarters0), (1, .int .i64 n1), (6, v4), (7, .int .i64 i7)] ∧ Hp S w0 w (Res.sl Ek.c128 36 v4 l6 :: ow) := hI
        replace h : f_foghornref08_Carrier.s1c n1 l6 i7 = some x := h
        unfold f_foghornref08_Carrier.s1c at h
        refine wp_seq ?_
        refine wp_seq ?_
        refine wp_reg ?_
        refine st_move hf rfl rfl (by decide) ?_
        clear hf; intro a ha hf; clear ha
        refine st_move hf rfl rfl (by decide) ?_
        clear hf; intro a ha hf; clear ha
        refine st_ilss hf (by decide) rfl rfl rfl ?_
        clear hf; intro a ha hf; clear ha
        refine st_nil hf ?_
        refine th_n ?_
        refine wp_if hf rfl (fun hb => ?_) (fun hb => ?_)
        · replace h := ifT h hb
          refine wp_skip ?_
          refine th_n ?_
          refine wp_seq ?_
          refine wp_block ?_
          refine wp_reg ?_
          refine st_move hf rfl rfl (by decide) ?_
          clear hf; intro a ha hf; clear ha
          refine st_build (E := Ek.c128) (xs := [(Fl.bits 4607182418800017408, Fl.bits 0)]) hf (by decide) elt36 Try.underlying24 hp (vals := #[(0, .complex .f64 4607182418800017408 0)]) (cells := #[.complex .f64 4607182418800017408 0]) rfl (by simp [hf.ev (x := (Operand.const (.complex .f64 4607182418800017408 0))) rfl]) (by decide) (by decide) (z := .complex .f64 0 0) (by kernel_rfl) (by kernel_rfl) rfl (reps_cons (cs := [.complex .f64 4607182418800017408 0]) (show Ek.c128.rep [.complex .f64 4607182418800017408 0] (Fl.bits 4607182418800017408, Fl.bits 0) from ⟨_, _, rfl, rfl, rfl⟩) (reps_nil _)) ?_
          clear hf; intro a w v8 hf hp0; clear hp; have hp := hp0; clear hp0
          replace hp : Hp _ _ w (Res.sl Ek.c128 36 v8 ([(Fl.bits 4607182418800017408, Fl.bits 0)]) :: Res.sl Ek.c128 36 v4 l6 :: ow) := hp
          obtain ⟨hc10, h⟩ := chk h
          refine st_append (E := Ek.c128) hf (by decide) elt36 Try.underlying24 (by decide) hp (i := 1) rfl rfl rfl rfl (hp.sl (i := 0) rfl) hc10 ?_
          clear hf; intro a w v11 hf hp0; clear hp; have hp := hp0; clear hp0
          replace hp : Hp _ _ w (Res.sl Ek.c128 36 v8 ([(Fl.bits 4607182418800017408, Fl.bits 0)]) :: Res.sl Ek.c128 36 v11 (l6 ++ [(Fl.bits 4607182418800017408, Fl.bits 0)]) :: ow) := hp
          refine st_assign hf rfl rfl (by decide) ?_
          clear hf; intro a ha hf; clear ha
          refine st_nil hf ?_
          refine ib_n ?_
          refine th_n ?_
          refine wp_reg ?_
          refine st_move hf rfl rfl (by decide) ?_
          clear hf; intro a ha hf; clear ha
          refine st_iadd hf (by decide) rfl rfl rfl ?_
          clear hf; intro a ha hf; clear ha
          refine st_assign hf rfl rfl (by decide) ?_
          clear hf; intro a ha hf; clear ha
          refine st_nil hf ?_
          obtain rfl := Option.some.inj h
          have hp : Hp _ _ w (Res.sl Ek.c128 36 v11 (l6 ++ [(Fl.bits 4607182418800017408, Fl.bits 0)]) :: ow) := Hp.sel (pre := [Res.sl Ek.c128 36 v8 ([(Fl.bits 4607182418800017408, Fl.bits 0)]), Res.sl Ek.c128 36 v11 (l6 ++ [(Fl.bits 4607182418800017408, Fl.bits 0)])]) (tail := ow) (rs' := [Res.sl Ek.c128 36 v11 (l6 ++ [(Fl.bits 4607182418800017408, Fl.bits 0)])]) hp [1] (by decide) (by simp) rfl
          exact rnd_l ⟨_, hf.sub ⟨rfl, rfl, rfl, rfl, trivial⟩, hp⟩
        · replace h := ifF h hb
          refine wp_exit ?_
          refine th_e ?_
          obtain rfl := Option.some.inj h
          exact rnd_r (by simp) ⟨rfl, _, hf.sub ⟨rfl, rfl, trivial⟩, hp⟩
      · clear hl hf hp
        intro e a w hne hO
        obtain ⟨rfl, v6, hf, hp⟩ := hO
        refine ib_same ?_
        refine th_n ?_
        refine wp_seq ?_
        refine wp_reg ?_
        refine st_move hf rfl rfl (by decide) ?_
        clear hf; intro a ha hf; clear ha
        refine st_move hf rfl rfl (by decide) ?_
        clear hf; intro a ha hf; clear ha
        obtain ⟨q14, hcall15, h⟩ := bnd h
        obtain ⟨S16, hp17, rd18, up19, bk20⟩ := Hp.lendS hp (i := 0) rfl
        refine st_call hf (by decide) Try.func16 rfl rfl rfl rfl rfl (f_foghornref08_Up_c hp17 _ _ rd18 _ hcall15) ?_
        rintro _ w ⟨v21, rfl, hp0⟩
        have hp0 := bk20 _ _ hp0
        clear hp; have hp := hp0; clear hp0
        replace hp : Hp _ _ w (Res.sl Ek.c128 36 v6 q12 :: Res.sl Ek.c128 36 v21 q14.1 :: ow) := hp
        refine ⟨_, rfl, ?_⟩
        clear hf; intro a hf
        refine st_extract hf (by decide) rfl rfl rfl ?_
        clear hf; intro a ha hf; clear ha
        refine st_extract hf (by decide) rfl rfl rfl ?_
        clear hf; intro a ha hf; clear ha
        refine st_assign hf rfl rfl (by decide) ?_
        clear hf; intro a ha hf; clear ha
        refine st_assign hf rfl rfl (by decide) ?_
        clear hf; intro a ha hf; clear ha
        refine st_nil hf ?_
        refine th_n ?_
        refine wp_ret ?_
        obtain rfl := Option.some.inj h
        have hp : Hp _ _ w (Res.sl Ek.c128 36 v21 q14.1 :: ow) := Hp.sel (pre := [Res.sl Ek.c128 36 v6 q12, Res.sl Ek.c128 36 v21 q14.1]) (tail := ow) (rs' := [Res.sl Ek.c128 36 v21 q14.1]) hp [1] (by decide) (by simp) rfl
        exact ⟨rfl, ⟨_, hf.sub ⟨rfl, rfl, trivial⟩, hp⟩⟩

noncomputable def f_mix_Carrier.s1c (n1 : Int) (l6 : (List (Fl × Fl))) (t19 : Int) : Option (((List (Fl × Fl)) × Int) ⊕ (List (Fl × Fl))) := (if (decide (t19 < ((List.replicate (n1).toNat (Fl.bits 0, Fl.bits 0)).length : Int))) = true then (if 0 ≤ t19 ∧ t19 < (l6.length : Int) then (some (Sum.inl ((l6.set (t19).toNat (Fl.bits 4607182418800017408, Fl.bits 0)), (IntKind.i64.wrap (t19 + (1 : Int)))))) else none) else (some (Sum.inr l6)))
noncomputable def f_mix_Carrier.s1 (n1 : Int) (s : ((List (Fl × Fl)) × Int)) : Option (((List (Fl × Fl)) × Int) ⊕ (List (Fl × Fl))) := f_mix_Carrier.s1c n1 s.1 s.2
noncomputable def f_mix_Carrier (quarters0 : Int) (n1 : Int) : Option ((List (Fl × Fl)) × Int) := ((if (decide (n1 < (0 : Int))) = true then (some true) else ((f_mix_fits n1).bind fun q4 => (some (!q4)))).bind fun z3 => (if z3 = true then (some ([], (1 : Int))) else (if 0 ≤ n1 ∧ n1 ≤ n1 ∧ n1 * 16 ≤ 281474976710656 then ((loop (f_mix_Carrier.s1 n1) ((List.replicate (n1).toNat (Fl.bits 0, Fl.bits 0)), (0 : Int))).bind (fun q15 => ((f_mix_Up q15 quarters0).bind fun q16 => (some (q16.1, q16.2))))) else none)))
theorem f_mix_Carrier_c {S : Nat → Prop} {w0 w : World} {ow : List Res} (hp : Hp S w0 w ow) (quarters0 : Int) (n1 : Int) {r : ((List (Fl × Fl)) × Int)} (h : f_mix_Carrier quarters0 n1 = some r) :
    Calls Try.prog 23 #[.int .i64 quarters0, .int .i64 n1] w (fun e w' => ∃ (u0 : Value), e = .returned (.tuple #[u0, .int .i64 r.2]) ∧ Hp S w0 w' (Res.sl Ek.c128 36 u0 r.1 :: ow)) := by
  unfold f_mix_Carrier at h
  refine enter (n := 31) (args := [.int .i64 quarters0, .int .i64 n1]) Try.func23 rfl rfl (Nat.le_of_ble_eq_true rfl) fun a hf => ?_
  replace hf : Fr 31 a [(0, .int .i64 quarters0), (1, .int .i64 n1)] := hf
  refine wp_mono (Q := fun e a w => e = .ret ∧ ∃ (u0 : Value), Fr 31 a [(4, u0), (5, .int .i64 r.2)] ∧ Hp S w0 w (Res.sl Ek.c128 36 u0 r.1 :: ow)) ?_ ?_
  rotate_left
  · rintro e a w ⟨rfl, x0, hf, hp⟩
    exact ret2 hf rfl rfl rfl ⟨x0, rfl, hp⟩
  refine wp_seq ?_
  refine wp_reg ?_
  refine st_assign hf rfl rfl (by decide) ?_
  clear hf; intro a ha hf; clear ha
  refine st_assign hf rfl rfl (by decide) ?_
  clear hf; intro a ha hf; clear ha
  refine st_nil hf ?_
  refine th_n ?_
  refine wp_seq ?_
  refine wp_seq ?_
  refine wp_reg ?_
  refine st_move hf rfl rfl (by decide) ?_
  clear hf; intro a ha hf; clear ha
  refine st_ilss hf (by decide) rfl rfl rfl ?_
  clear hf; intro a ha hf; clear ha
  refine st_move hf rfl rfl (by decide) ?_
  clear hf; intro a ha hf; clear ha
  obtain ⟨z3, hz1, h⟩ := bnd h
  refine wpList_cut 4 (fun a w => Fr 31 a [(0, .int .i64 quarters0), (1, .int .i64 n1), (14, .bool z3)] ∧ Hp S w0 w (ow)) ?_ ?_
  · rcases Bool.eq_false_or_eq_true (decide (n1 < (0 : Int))) with hb2 | hb2
    · skip
      replace hz1 := ifT hz1 hb2
      refine st_skip hf (wantN hf rfl rfl hb2) rfl (by decide) ?_ rfl
      clear hf; intro a hf
      refine st_skip hf (wantN hf rfl rfl hb2) rfl (by decide) ?_ rfl
      clear hf; intro a hf
      refine st_skip hf (wantN hf rfl rfl hb2) rfl (by decide) ?_ rfl
      clear hf; intro a hf
      obtain rfl := Option.some.inj hz1
      refine st_pick (v := .bool true) hf rfl rfl (fun hb' => ?_) (fun hb' => ?_) (by decide) ?_
      · rfl
      · exact absurd (hb2.symm.trans hb') (by decide)
      clear hf; intro a ha hf; clear ha
      refine st_nil hf (th_n ?_)
      exact ⟨hf.sub ⟨rfl, rfl, rfl, trivial⟩, hp⟩
    · skip
      replace hz1 := ifF hz1 hb2
      refine st_move hf (wantY hf rfl rfl hb2) rfl (by decide) ?_
      clear hf; intro a ha hf; clear ha
      obtain ⟨q4, hcall5, hz1⟩ := bnd hz1
      refine st_call hf (by decide) Try.func34 rfl rfl (wantY hf rfl rfl hb2) rfl rfl (f_mix_fits_c hp _ hcall5) ?_
      rintro _ w ⟨rfl, hp0⟩
      clear hp; have hp := hp0; clear hp0
      replace hp : Hp _ _ w (ow) := hp
      refine ⟨_, rfl, ?_⟩
      clear hf; intro a hf
      refine st_not hf (by decide) (wantY hf rfl rfl hb2) rfl ?_
      clear hf; intro a ha hf; clear ha
      obtain rfl := Option.some.inj hz1
      refine st_pick (v := .bool (!q4)) hf rfl rfl (fun hb' => ?_) (fun hb' => ?_) (by decide) ?_
      · exact absurd (hb2.symm.trans hb') (by decide)
      · rfl
      clear hf; intro a ha hf; clear ha
      refine st_nil hf (th_n ?_)
      exact ⟨hf.sub ⟨rfl, rfl, rfl, trivial⟩, hp⟩
  · rintro a w ⟨hf, hp⟩
    refine st_nil hf ?_
    refine th_n ?_
    refine wp_if hf rfl (fun hb => ?_) (fun hb => ?_)
    · replace h := ifT h hb
      refine wp_seq ?_
      refine wp_reg ?_
      refine st_assign hf rfl rfl (by decide) ?_
      clear hf; intro a ha hf; clear ha
      refine st_assign hf rfl rfl (by decide) ?_
      clear hf; intro a ha hf; clear ha
      refine st_nil hf ?_
      refine th_n ?_
      refine wp_ret ?_
      refine th_r ?_
      obtain rfl := Option.some.inj h
      have hp := hp.nil Ek.c128 36
      exact ⟨rfl, ⟨_, hf.sub ⟨rfl, rfl, trivial⟩, hp⟩⟩
    · replace h := ifF h hb
      refine wp_skip ?_
      refine th_n ?_
      refine wp_seq ?_
      refine wp_reg ?_
      refine st_move hf rfl rfl (by decide) ?_
      clear hf; intro a ha hf; clear ha
      obtain ⟨hc7, h⟩ := chk h
      refine st_make (E := Ek.c128) hf (by decide) elt36 Try.underlying24 (by decide) hp rfl rfl rfl hc7.1 hc7.2.1 hc7.2.2 ?_
      clear hf; intro a w v8 hf hp0; clear hp; have hp := hp0; clear hp0
      replace hp : Hp _ _ w (Res.sl Ek.c128 36 v8 (List.replicate (n1).toNat (Fl.bits 0, Fl.bits 0)) :: ow) := hp
      refine st_assign hf rfl rfl (by decide) ?_
      clear hf; intro a ha hf; clear ha
      refine st_nil hf ?_
      refine th_n ?_
      refine wp_seq ?_
      refine wp_seq ?_
      refine wp_reg ?_
      refine st_move hf rfl rfl (by decide) ?_
      clear hf; intro a ha hf; clear ha
      refine st_len (E := Ek.c128) hf (by decide) Try.underlying24 rfl rfl (hp.sl (i := 0) rfl) ?_
      clear hf; intro a ha hf; clear ha
      refine st_move hf rfl rfl (by decide) ?_
      clear hf; intro a ha hf; clear ha
      refine st_nil hf ?_
      refine th_n ?_
      refine wp_block ?_
      obtain ⟨q15, hl, h⟩ := bnd h
      refine wp_loop_pure (f := (f_mix_Carrier.s1 n1)) (s := ((List.replicate (n1).toNat (Fl.bits 0, Fl.bits 0)), (0 : Int))) (fun s a w => ∃ (v10 : Value), Fr 31 a [(0, .int .i64 quarters0), (6, v10), (18, .int .i64 ((List.replicate (n1).toNat (Fl.bits 0, Fl.bits 0)).length : Int)), (19, .int .i64 s.2)] ∧ Hp S w0 w (Res.sl Ek.c128 36 v10 s.1 :: ow)) (fun q e a w => e = .exit 0 ∧ ∃ (v12 : Value), Fr 31 a [(0, .int .i64 quarters0), (6, v12)] ∧ Hp S w0 w (Res.sl Ek.c128 36 v12 q :: ow)) ?_ hl ⟨_, hf.sub ⟨rfl, rfl, rfl, rfl, trivial⟩, hp⟩ ?_
      · clear hl hf hp
        intro s x a w h hI
        obtain ⟨l6, t19⟩ := s
        obtain ⟨v10, hf, hp⟩ : ∃ (v10 : Value), Fr 31 a [(0, .int .i64 quarters0), (6, v10), (18, .int .i64 ((List.replicate (n1).toNat (Fl.bits 0, Fl.bits 0)).length : Int)), (19, .int .i64 t19)] ∧ Hp S w0 w (Res.sl Ek.c128 36 v10 l6 :: ow) := hI
        replace h : f_mix_Carrier.s1c n1 l6 t19 = some x := h
        unfold f_mix_Carrier.s1c at h
        refine wp_seq ?_
        refine wp_reg ?_
        refine st_ilss hf (by decide) rfl rfl rfl ?_
        clear hf; intro a ha hf; clear ha
        refine st_nil hf ?_
        refine th_n ?_
        refine wp_seq ?_
        refine wp_if hf rfl (fun hb => ?_) (fun hb => ?_)
        · replace h := ifT h hb
          refine wp_skip ?_
          refine th_n ?_
          refine wp_seq ?_
          refine wp_block ?_
          refine wp_seq ?_
          refine wp_reg ?_
          refine st_move hf rfl rfl (by decide) ?_
          clear hf; intro a ha hf; clear ha
          refine st_assign hf rfl rfl (by decide) ?_
          clear hf; intro a ha hf; clear ha
          refine st_nil hf ?_
          refine th_n ?_
          refine wp_reg ?_
          refine st_move hf rfl rfl (by decide) ?_
          clear hf; intro a ha hf; clear ha
          refine st_move hf rfl rfl (by decide) ?_
          clear hf; intro a ha hf; clear ha
          obtain ⟨hc14, h⟩ := chk h
          refine st_index (E := Ek.c128) hf (by decide) Try.underlying24 elt36 rfl rfl rfl (hp.sl (i := 0) rfl) hc14.1 hc14.2 ?_
          clear hf; intro a ha hf; clear ha
          refine st_store (E := Ek.c128) hf elt36 hp (i := 0) rfl rfl rfl rfl (show Ek.c128.rep [.complex .f64 4607182418800017408 0] (Fl.bits 4607182418800017408, Fl.bits 0) from ⟨_, _, rfl, rfl, rfl⟩) hc14.1 hc14.2 ?_
          clear hf; intro a w hf hp0; clear hp; have hp := hp0; clear hp0
          replace hp : Hp _ _ w (Res.sl Ek.c128 36 v10 (l6.set (t19).toNat (Fl.bits 4607182418800017408, Fl.bits 0)) :: ow) := hp
          refine st_nil hf ?_
          refine ib_n ?_
          refine th_n ?_
          refine wp_reg ?_
          refine st_iadd hf (by decide) rfl rfl rfl ?_
          clear hf; intro a ha hf; clear ha
          refine st_move hf rfl rfl (by decide) ?_
          clear hf; intro a ha hf; clear ha
          refine st_nil hf ?_
          obtain rfl := Option.some.inj h
          exact rnd_l ⟨_, hf.sub ⟨rfl, rfl, rfl, rfl, trivial⟩, hp⟩
        · replace h := ifF h hb
          refine wp_exit ?_
          refine th_e ?_
          obtain rfl := Option.some.inj h
          exact rnd_r (by simp) ⟨rfl, _, hf.sub ⟨rfl, rfl, trivial⟩, hp⟩
      · clear hl hf hp
        intro e a w hne hO
        obtain ⟨rfl, v12, hf, hp⟩ := hO
        refine ib_same ?_
        refine th_n ?_
        refine wp_seq ?_
        refine wp_reg ?_
        refine st_move hf rfl rfl (by decide) ?_
        clear hf; intro a ha hf; clear ha
        refine st_move hf rfl rfl (by decide) ?_
        clear hf; intro a ha hf; clear ha
        obtain ⟨q16, hcall17, h⟩ := bnd h
        obtain ⟨S18, hp19, rd20, up21, bk22⟩ := Hp.lendS hp (i := 0) rfl
        refine st_call hf (by decide) Try.func17 rfl rfl rfl rfl rfl (f_mix_Up_c hp19 _ _ rd20 _ hcall17) ?_
        rintro _ w ⟨v23, rfl, hp0⟩
        have hp0 := bk22 _ _ hp0
        clear hp; have hp := hp0; clear hp0
        replace hp : Hp _ _ w (Res.sl Ek.c128 36 v12 q15 :: Res.sl Ek.c128 36 v23 q16.1 :: ow) := hp
        refine ⟨_, rfl, ?_⟩
        clear hf; intro a hf
        refine st_extract hf (by decide) rfl rfl rfl ?_
        clear hf; intro a ha hf; clear ha
        refine st_extract hf (by decide) rfl rfl rfl ?_
        clear hf; intro a ha hf; clear ha
        refine st_assign hf rfl rfl (by decide) ?_
        clear hf; intro a ha hf; clear ha
        refine st_assign hf rfl rfl (by decide) ?_
        clear hf; intro a ha hf; clear ha
        refine st_nil hf ?_
        refine th_n ?_
        refine wp_ret ?_
        obtain rfl := Option.some.inj h
        have hp : Hp _ _ w (Res.sl Ek.c128 36 v23 q16.1 :: ow) := Hp.sel (pre := [Res.sl Ek.c128 36 v12 q15, Res.sl Ek.c128 36 v23 q16.1]) (tail := ow) (rs' := [Res.sl Ek.c128 36 v23 q16.1]) hp [1] (by decide) (by simp) rfl
        exact ⟨rfl, ⟨_, hf.sub ⟨rfl, rfl, trivial⟩, hp⟩⟩

noncomputable def f_foghornlaw08_MixMoves.s2c (z7 : (List (Fl × Fl))) (i27 : Int) : Option (((List (Fl × Fl)) × Int) ⊕ (List (Fl × Fl))) := (if (decide (i27 < (z7.length : Int))) = true then (if 0 ≤ i27 ∧ i27 < (z7.length : Int) then (if 0 ≤ i27 ∧ i27 < (z7.length : Int) then (some (Sum.inl ((z7.set (i27).toNat ((gt z7 i27).2, (Fl.bits 4613937818241073152))), (IntKind.i64.wrap (i27 + (1 : Int)))))) else none) else none) else (some (Sum.inr z7)))
noncomputable def f_foghornlaw08_MixMoves.s2  (s : ((List (Fl × Fl)) × Int)) : Option (((List (Fl × Fl)) × Int) ⊕ (List (Fl × Fl))) := f_foghornlaw08_MixMoves.s2c s.1 s.2
noncomputable def f_foghornlaw08_MixMoves.s1c (l0 : (List Int)) (quarters1 : Int) (q1 : ((List (Fl × Fl)) × (List (Fl × Fl)))) (z7 : (List (Fl × Fl))) (round8 : Int) : Option (((List (Fl × Fl)) × Int) ⊕ (Unit ⊕ Bool)) := (if (decide (round8 < (2 : Int))) = true then ((f_foghornref08_Up z7 quarters1).bind fun q7 => ((f_mix_Up z7 quarters1).bind fun q16 => ((f_mix_Up z7 quarters1).bind fun q25 => ((f_foghornref08_Down z7 quarters1).bind fun q34 => ((f_mix_Down z7 quarters1).bind fun q43 => ((f_mix_Down z7 quarters1).bind fun q52 => ((f_foghornref08_Mirror z7).bind fun q61 => ((f_mix_Mirror z7).bind fun q70 => ((f_mix_Mirror z7).bind fun q79 => ((if (((q16.2 != q7.2) || (q43.2 != q7.2)) || (q70.2 != q7.2)) = true then (some true) else ((f_foghornlaw08_fresh q16.1 q25.1 q7.1).bind fun q95 => (some (!q95)))).bind fun z94 => ((if z94 = true then (some true) else ((f_foghornlaw08_fresh q43.1 q52.1 q34.1).bind fun q111 => (some (!q111)))).bind fun z110 => ((if z110 = true then (some true) else ((f_foghornlaw08_fresh q70.1 q79.1 q61.1).bind fun q127 => (some (!q127)))).bind fun z126 => ((if z126 = true then (some true) else ((if (round8 == (0 : Int)) = true then ((f_foghornlaw08_kept z7 q1.2 l0).bind fun q146 => (some (!q146))) else (some false)).bind fun z145 => (some z145))).bind fun z142 => (if z142 = true then (some (Sum.inr (Sum.inr false))) else ((loop f_foghornlaw08_MixMoves.s2 (z7, (0 : Int))).bind (fun q163 => (some (Sum.inl (q163, (IntKind.i64.wrap (round8 + (1 : Int)))))))))))))))))))))) else (some (Sum.inr (Sum.inl ()))))
noncomputable def f_foghornlaw08_MixMoves.s1 (l0 : (List Int)) (quarters1 : Int) (q1 : ((List (Fl × Fl)) × (List (Fl × Fl)))) (s : ((List (Fl × Fl)) × Int)) : Option (((List (Fl × Fl)) × Int) ⊕ (Unit ⊕ Bool)) := f_foghornlaw08_MixMoves.s1c l0 quarters1 q1 s.1 s.2
noncomputable def f_foghornlaw08_MixMoves (l0 : (List Int)) (quarters1 : Int) (n2 : Int) : Option Bool := ((f_foghornlaw08_numbers l0).bind fun q1 => ((loop (f_foghornlaw08_MixMoves.s1 l0 quarters1 q1) (q1.1, (0 : Int))).bind (fun q164 => sm q164 (fun q165 => ((f_foghornref08_Carrier quarters1 n2).bind fun q167 => ((f_mix_Carrier quarters1 n2).bind fun q171 => ((f_mix_Carrier quarters1 n2).bind fun q175 => ((if (q171.2 == q167.2) = true then ((f_foghornlaw08_fresh q171.1 q175.1 q167.1).bind fun q182 => (some q182)) else (some false)).bind fun z181 => (some z181)))))) (fun q166 => (some q166)))))
theorem f_foghornlaw08_MixMoves_c {S : Nat → Prop} {w0 w : World} {ow : List Res} (hp : Hp S w0 w ow) (vl0 : Value) (l0 : (List Int)) (hl0 : RdS (Ek.int .u64) S w0 vl0 l0) (quarters1 : Int) (n2 : Int) {r : Bool} (h : f_foghornlaw08_MixMoves l0 quarters1 n2 = some r) :
    Calls Try.prog 4 #[vl0, .int .i64 quarters1, .int .i64 n2] w (fun e w' => e = .returned (.bool r) ∧ Hp S w0 w' (ow)) := by
  unfold f_foghornlaw08_MixMoves at h
  refine enter (n := 177) (args := [vl0, .int .i64 quarters1, .int .i64 n2]) Try.func4 rfl rfl (Nat.le_of_ble_eq_true rfl) fun a hf => ?_
  replace hf : Fr 177 a [(0, vl0), (1, .int .i64 quarters1), (2, .int .i64 n2)] := hf
  refine wp_mono (Q := fun e a w => e = .ret ∧ Fr 177 a [(6, .bool r)] ∧ Hp S w0 w (ow)) ?_ ?_
  rotate_left
  · rintro e a w ⟨rfl, hf, hp⟩
    exact ret1 hf rfl rfl ⟨rfl, hp⟩
  refine wp_seq ?_
  refine wp_reg ?_
  refine st_assign hf rfl rfl (by decide) ?_
  clear hf; intro a ha hf; clear ha
  refine st_nil hf ?_
  refine th_n ?_
  refine wp_seq ?_
  refine wp_reg ?_
  refine st_move hf rfl rfl (by decide) ?_
  clear hf; intro a ha hf; clear ha
  obtain ⟨q1, hcall2, h⟩ := bnd h
  refine st_call hf (by decide) Try.func9 rfl rfl rfl rfl rfl (f_foghornlaw08_numbers_c hp _ _ hl0 hcall2) ?_
  rintro _ w ⟨v3, rfl, hp0⟩
  clear hp; have hp := hp0; clear hp0
  replace hp : Hp _ _ w (Res.slx Ek.c128 36 v3 q1.1 q1.2 :: ow) := hp
  refine ⟨_, rfl, ?_⟩
  clear hf; intro a hf
  refine st_assign hf rfl rfl (by decide) ?_
  clear hf; intro a ha hf; clear ha
  refine st_nil hf ?_
  refine th_n ?_
  refine wp_seq ?_
  refine wp_seq ?_
  refine wp_reg ?_
  refine st_assign hf rfl rfl (by decide) ?_
  clear hf; intro a ha hf; clear ha
  refine st_nil hf ?_
  refine th_n ?_
  refine wp_block ?_
  obtain ⟨q164, hl, h⟩ := bnd h
  refine wp_loop_pure (f := (f_foghornlaw08_MixMoves.s1 l0 quarters1 q1)) (s := (q1.1, (0 : Int))) (fun s a w => ∃ (v5 : Value), Fr 177 a [(0, vl0), (1, .int .i64 quarters1), (2, .int .i64 n2), (7, v5), (8, .int .i64 s.2)] ∧ Hp S w0 w (Res.slx Ek.c128 36 v5 s.1 q1.2 :: ow)) (fun q e a w => match q with | (Sum.inl q) => e = .exit 0 ∧ Fr 177 a [(1, .int .i64 quarters1), (2, .int .i64 n2)] ∧ Hp S w0 w (ow) | (Sum.inr q) => e = .ret ∧ Fr 177 a [(6, .bool q)] ∧ Hp S w0 w (ow)) ?_ hl ⟨_, hf.sub ⟨rfl, rfl, rfl, rfl, rfl, trivial⟩, hp⟩ ?_
  · clear hl hf hp
    intro s x a w h hI
    obtain ⟨z7, round8⟩ := s
    obtain ⟨v5, hf, hp⟩ : ∃ (v5 : Value), Fr 177 a [(0, vl0), (1, .int .i64 quarters1), (2, .int .i64 n2), (7, v5), (8, .int .i64 round8)] ∧ Hp S w0 w (Res.slx Ek.c128 36 v5 z7 q1.2 :: ow) := hI
    replace h : f_foghornlaw08_MixMoves.s1c l0 quarters1 q1 z7 round8 = some x := h
    unfold f_foghornlaw08_MixMoves.s1c at h
    refine wp_seq ?_
    refine wp_seq ?_
    refine wp_reg ?_
    refine st_move hf rfl rfl (by decide) ?_
    clear hf; intro a ha hf; clear ha
    refine st_ilss hf (by decide) rfl rfl rfl ?_
    clear hf; intro a ha hf; clear ha
    refine st_nil hf ?_
    refine th_n ?_
    refine wp_if hf rfl (fun hb => ?_) (fun hb => ?_)
    · replace h := ifT h hb
      refine wp_skip ?_
      refine th_n ?_
      refine wp_seq ?_
      refine wp_block ?_
      refine wp_seq ?_
      refine wp_reg ?_
      refine st_move hf rfl rfl (by decide) ?_
      clear hf; intro a ha hf; clear ha
      refine st_move hf rfl rfl (by decide) ?_
      clear hf; intro a ha hf; clear ha
      obtain ⟨q7, hcall8, h⟩ := bnd h
      obtain ⟨S9, hp10, rd11, up12, bk13⟩ := Hp.lendS hp (i := 0) rfl
      refine st_call hf (by decide) Try.func16 rfl rfl rfl rfl rfl (f_foghornref08_Up_c hp10 _ _ rd11 _ hcall8) ?_
      rintro _ w ⟨v14, rfl, hp0⟩
      have hp0 := bk13 _ _ hp0
      clear hp; have hp := hp0; clear hp0
      replace hp : Hp _ _ w (Res.slx Ek.c128 36 v5 z7 q1.2 :: Res.sl Ek.c128 36 v14 q7.1 :: ow) := hp
      refine ⟨_, rfl, ?_⟩
      clear hf; intro a hf
      refine st_move hf rfl rfl (by decide) ?_
      clear hf; intro a ha hf; clear ha
      refine st_extract hf (by decide) rfl rfl rfl ?_
      clear hf; intro a ha hf; clear ha
      refine st_extract hf (by decide) rfl rfl rfl ?_
      clear hf; intro a ha hf; clear ha
      refine st_assign hf rfl rfl (by decide) ?_
      clear hf; intro a ha hf; clear ha
      refine st_assign hf rfl rfl (by decide) ?_
      clear hf; intro a ha hf; clear ha
      refine st_nil hf ?_
      refine th_n ?_
      refine wp_seq ?_
      refine wp_reg ?_
      refine st_move hf rfl rfl (by decide) ?_
      clear hf; intro a ha hf; clear ha
      refine st_move hf rfl rfl (by decide) ?_
      clear hf; intro a ha hf; clear ha
      obtain ⟨q16, hcall17, h⟩ := bnd h
      obtain ⟨S18, hp19, rd20, up21, bk22⟩ := Hp.lendS hp (i := 0) rfl
      refine st_call hf (by decide) Try.func17 rfl rfl rfl rfl rfl (f_mix_Up_c hp19 _ _ rd20 _ hcall17) ?_
      rintro _ w ⟨v23, rfl, hp0⟩
      have hp0 := bk22 _ _ hp0
      clear hp; have hp := hp0; clear hp0
      replace hp : Hp _ _ w (Res.slx Ek.c128 36 v5 z7 q1.2 :: Res.sl Ek.c128 36 v23 q16.1 :: Res.sl Ek.c128 36 v14 q7.1 :: ow) := hp
      refine ⟨_, rfl, ?_⟩
      clear hf; intro a hf
      refine st_move hf rfl rfl (by decide) ?_
      clear hf; intro a ha hf; clear ha
      refine st_extract hf (by decide) rfl rfl rfl ?_
      clear hf; intro a ha hf; clear ha
      refine st_extract hf (by decide) rfl rfl rfl ?_
      clear hf; intro a ha hf; clear ha
      refine st_assign hf rfl rfl (by decide) ?_
      clear hf; intro a ha hf; clear ha
      refine st_assign hf rfl rfl (by decide) ?_
      clear hf; intro a ha hf; clear ha
      refine st_nil hf ?_
      refine th_n ?_
      refine wp_seq ?_
      refine wp_reg ?_
      refine st_move hf rfl rfl (by decide) ?_
      clear hf; intro a ha hf; clear ha
      refine st_move hf rfl rfl (by decide) ?_
      clear hf; intro a ha hf; clear ha
      obtain ⟨q25, hcall26, h⟩ := bnd h
      obtain ⟨S27, hp28, rd29, up30, bk31⟩ := Hp.lendS hp (i := 0) rfl
      refine st_call hf (by decide) Try.func17 rfl rfl rfl rfl rfl (f_mix_Up_c hp28 _ _ rd29 _ hcall26) ?_
      rintro _ w ⟨v32, rfl, hp0⟩
      have hp0 := bk31 _ _ hp0
      clear hp; have hp := hp0; clear hp0
      replace hp : Hp _ _ w (Res.slx Ek.c128 36 v5 z7 q1.2 :: Res.sl Ek.c128 36 v32 q25.1 :: Res.sl Ek.c128 36 v23 q16.1 :: Res.sl Ek.c128 36 v14 q7.1 :: ow) := hp
      refine ⟨_, rfl, ?_⟩
      clear hf; intro a hf
      refine st_move hf rfl rfl (by decide) ?_
      clear hf; intro a ha hf; clear ha
      refine st_extract hf (by decide) rfl rfl rfl ?_
      clear hf; intro a ha hf; clear ha
      refine st_extract hf (by decide) rfl rfl rfl ?_
      clear hf; intro a ha hf; clear ha
      refine st_assign hf rfl rfl (by decide) ?_
      clear hf; intro a ha hf; clear ha
      refine st_assign hf rfl rfl (by decide) ?_
      clear hf; intro a ha hf; clear ha
      refine st_nil hf ?_
      refine th_n ?_
      refine wp_seq ?_
      refine wp_reg ?_
      refine st_move hf rfl rfl (by decide) ?_
      clear hf; intro a ha hf; clear ha
      refine st_move hf rfl rfl (by decide) ?_
      clear hf; intro a ha hf; clear ha
      obtain ⟨q34, hcall35, h⟩ := bnd h
      obtain ⟨S36, hp37, rd38, up39, bk40⟩ := Hp.lendS hp (i := 0) rfl
      refine st_call hf (by decide) Try.func18 rfl rfl rfl rfl rfl (f_foghornref08_Down_c hp37 _ _ rd38 _ hcall35) ?_
      rintro _ w ⟨v41, rfl, hp0⟩
      have hp0 := bk40 _ _ hp0
      clear hp; have hp := hp0; clear hp0
      replace hp : Hp _ _ w (Res.slx Ek.c128 36 v5 z7 q1.2 :: Res.sl Ek.c128 36 v41 q34.1 :: Res.sl Ek.c128 36 v32 q25.1 :: Res.sl Ek.c128 36 v23 q16.1 :: Res.sl Ek.c128 36 v14 q7.1 :: ow) := hp
      refine ⟨_, rfl, ?_⟩
      clear hf; intro a hf
      refine st_move hf rfl rfl (by decide) ?_
      clear hf; intro a ha hf; clear ha
      refine st_extract hf (by decide) rfl rfl rfl ?_
      clear hf; intro a ha hf; clear ha
      refine st_extract hf (by decide) rfl rfl rfl ?_
      clear hf; intro a ha hf; clear ha
      refine st_assign hf rfl rfl (by decide) ?_
      clear hf; intro a ha hf; clear ha
      refine st_assign hf rfl rfl (by decide) ?_
      clear hf; intro a ha hf; clear ha
      refine st_nil hf ?_
      refine th_n ?_
      refine wp_seq ?_
      refine wp_reg ?_
      refine st_move hf rfl rfl (by decide) ?_
      clear hf; intro a ha hf; clear ha
      refine st_move hf rfl rfl (by decide) ?_
      clear hf; intro a ha hf; clear ha
      obtain ⟨q43, hcall44, h⟩ := bnd h
      obtain ⟨S45, hp46, rd47, up48, bk49⟩ := Hp.lendS hp (i := 0) rfl
      refine st_call hf (by decide) Try.func19 rfl rfl rfl rfl rfl (f_mix_Down_c hp46 _ _ rd47 _ hcall44) ?_
      rintro _ w ⟨v50, rfl, hp0⟩
      have hp0 := bk49 _ _ hp0
      clear hp; have hp := hp0; clear hp0
      replace hp : Hp _ _ w (Res.slx Ek.c128 36 v5 z7 q1.2 :: Res.sl Ek.c128 36 v50 q43.1 :: Res.sl Ek.c128 36 v41 q34.1 :: Res.sl Ek.c128 36 v32 q25.1 :: Res.sl Ek.c128 36 v23 q16.1 :: Res.sl Ek.c128 36 v14 q7.1 :: ow) := hp
      refine ⟨_, rfl, ?_⟩
      clear hf; intro a hf
      refine st_move hf rfl rfl (by decide) ?_
      clear hf; intro a ha hf; clear ha
      refine st_extract hf (by decide) rfl rfl rfl ?_
      clear hf; intro a ha hf; clear ha
      refine st_extract hf (by decide) rfl rfl rfl ?_
      clear hf; intro a ha hf; clear ha
      refine st_assign hf rfl rfl (by decide) ?_
      clear hf; intro a ha hf; clear ha
      refine st_assign hf rfl rfl (by decide) ?_
      clear hf; intro a ha hf; clear ha
      refine st_nil hf ?_
      refine th_n ?_
      refine wp_seq ?_
      refine wp_reg ?_
      refine st_move hf rfl rfl (by decide) ?_
      clear hf; intro a ha hf; clear ha
      refine st_move hf rfl rfl (by decide) ?_
      clear hf; intro a ha hf; clear ha
      obtain ⟨q52, hcall53, h⟩ := bnd h
      obtain ⟨S54, hp55, rd56, up57, bk58⟩ := Hp.lendS hp (i := 0) rfl
      refine st_call hf (by decide) Try.func19 rfl rfl rfl rfl rfl (f_mix_Down_c hp55 _ _ rd56 _ hcall53) ?_
      rintro _ w ⟨v59, rfl, hp0⟩
      have hp0 := bk58 _ _ hp0
      clear hp; have hp := hp0; clear hp0
      replace hp : Hp _ _ w (Res.slx Ek.c128 36 v5 z7 q1.2 :: Res.sl Ek.c128 36 v59 q52.1 :: Res.sl Ek.c128 36 v50 q43.1 :: Res.sl Ek.c128 36 v41 q34.1 :: Res.sl Ek.c128 36 v32 q25.1 :: Res.sl Ek.c128 36 v23 q16.1 :: Res.sl Ek.c128 36 v14 q7.1 :: ow) := hp
      refine ⟨_, rfl, ?_⟩
      clear hf; intro a hf
      refine st_move hf rfl rfl (by decide) ?_
      clear hf; intro a ha hf; clear ha
      refine st_extract hf (by decide) rfl rfl rfl ?_
      clear hf; intro a ha hf; clear ha
      refine st_extract hf (by decide) rfl rfl rfl ?_
      clear hf; intro a ha hf; clear ha
      refine st_assign hf rfl rfl (by decide) ?_
      clear hf; intro a ha hf; clear ha
      refine st_assign hf rfl rfl (by decide) ?_
      clear hf; intro a ha hf; clear ha
      refine st_nil hf ?_
      refine th_n ?_
      refine wp_seq ?_
      refine wp_reg ?_
      refine st_move hf rfl rfl (by decide) ?_
      clear hf; intro a ha hf; clear ha
      obtain ⟨q61, hcall62, h⟩ := bnd h
      obtain ⟨S63, hp64, rd65, up66, bk67⟩ := Hp.lendS hp (i := 0) rfl
      refine st_call hf (by decide) Try.func20 rfl rfl rfl rfl rfl (f_foghornref08_Mirror_c hp64 _ _ rd65 hcall62) ?_
      rintro _ w ⟨v68, rfl, hp0⟩
      have hp0 := bk67 _ _ hp0
      clear hp; have hp := hp0; clear hp0
      replace hp : Hp _ _ w (Res.slx Ek.c128 36 v5 z7 q1.2 :: Res.sl Ek.c128 36 v68 q61.1 :: Res.sl Ek.c128 36 v59 q52.1 :: Res.sl Ek.c128 36 v50 q43.1 :: Res.sl Ek.c128 36 v41 q34.1 :: Res.sl Ek.c128 36 v32 q25.1 :: Res.sl Ek.c128 36 v23 q16.1 :: Res.sl Ek.c128 36 v14 q7.1 :: ow) := hp
      refine ⟨_, rfl, ?_⟩
      clear hf; intro a hf
      refine st_move hf rfl rfl (by decide) ?_
      clear hf; intro a ha hf; clear ha
      refine st_extract hf (by decide) rfl rfl rfl ?_
      clear hf; intro a ha hf; clear ha
      refine st_extract hf (by decide) rfl rfl rfl ?_
      clear hf; intro a ha hf; clear ha
      refine st_assign hf rfl rfl (by decide) ?_
      clear hf; intro a ha hf; clear ha
      refine st_assign hf rfl rfl (by decide) ?_
      clear hf; intro a ha hf; clear ha
      refine st_nil hf ?_
      refine th_n ?_
      refine wp_seq ?_
      refine wp_reg ?_
      refine st_move hf rfl rfl (by decide) ?_
      clear hf; intro a ha hf; clear ha
      obtain ⟨q70, hcall71, h⟩ := bnd h
      obtain ⟨S72, hp73, rd74, up75, bk76⟩ := Hp.lendS hp (i := 0) rfl
      refine st_call hf (by decide) Try.func21 rfl rfl rfl rfl rfl (f_mix_Mirror_c hp73 _ _ rd74 hcall71) ?_
      rintro _ w ⟨v77, rfl, hp0⟩
      have hp0 := bk76 _ _ hp0
      clear hp; have hp := hp0; clear hp0
      replace hp : Hp _ _ w (Res.slx Ek.c128 36 v5 z7 q1.2 :: Res.sl Ek.c128 36 v77 q70.1 :: Res.sl Ek.c128 36 v68 q61.1 :: Res.sl Ek.c128 36 v59 q52.1 :: Res.sl Ek.c128 36 v50 q43.1 :: Res.sl Ek.c128 36 v41 q34.1 :: Res.sl Ek.c128 36 v32 q25.1 :: Res.sl Ek.c128 36 v23 q16.1 :: Res.sl Ek.c128 36 v14 q7.1 :: ow) := hp
      refine ⟨_, rfl, ?_⟩
      clear hf; intro a hf
      refine st_move hf rfl rfl (by decide) ?_
      clear hf; intro a ha hf; clear ha
      refine st_extract hf (by decide) rfl rfl rfl ?_
      clear hf; intro a ha hf; clear ha
      refine st_extract hf (by decide) rfl rfl rfl ?_
      clear hf; intro a ha hf; clear ha
      refine st_assign hf rfl rfl (by decide) ?_
      clear hf; intro a ha hf; clear ha
      refine st_assign hf rfl rfl (by decide) ?_
      clear hf; intro a ha hf; clear ha
      refine st_nil hf ?_
      refine th_n ?_
      refine wp_seq ?_
      refine wp_reg ?_
      refine st_move hf rfl rfl (by decide) ?_
      clear hf; intro a ha hf; clear ha
      obtain ⟨q79, hcall80, h⟩ := bnd h
      obtain ⟨S81, hp82, rd83, up84, bk85⟩ := Hp.lendS hp (i := 0) rfl
      refine st_call hf (by decide) Try.func21 rfl rfl rfl rfl rfl (f_mix_Mirror_c hp82 _ _ rd83 hcall80) ?_
      rintro _ w ⟨v86, rfl, hp0⟩
      have hp0 := bk85 _ _ hp0
      clear hp; have hp := hp0; clear hp0
      replace hp : Hp _ _ w (Res.slx Ek.c128 36 v5 z7 q1.2 :: Res.sl Ek.c128 36 v86 q79.1 :: Res.sl Ek.c128 36 v77 q70.1 :: Res.sl Ek.c128 36 v68 q61.1 :: Res.sl Ek.c128 36 v59 q52.1 :: Res.sl Ek.c128 36 v50 q43.1 :: Res.sl Ek.c128 36 v41 q34.1 :: Res.sl Ek.c128 36 v32 q25.1 :: Res.sl Ek.c128 36 v23 q16.1 :: Res.sl Ek.c128 36 v14 q7.1 :: ow) := hp
      refine ⟨_, rfl, ?_⟩
      clear hf; intro a hf
      refine st_move hf rfl rfl (by decide) ?_
      clear hf; intro a ha hf; clear ha
      refine st_extract hf (by decide) rfl rfl rfl ?_
      clear hf; intro a ha hf; clear ha
      refine st_extract hf (by decide) rfl rfl rfl ?_
      clear hf; intro a ha hf; clear ha
      refine st_assign hf rfl rfl (by decide) ?_
      clear hf; intro a ha hf; clear ha
      refine st_assign hf rfl rfl (by decide) ?_
      clear hf; intro a ha hf; clear ha
      refine st_nil hf ?_
      refine th_n ?_
      refine wp_seq ?_
      refine wp_seq ?_
      refine wp_reg ?_
      refine st_move hf rfl rfl (by decide) ?_
      clear hf; intro a ha hf; clear ha
      refine st_move hf rfl rfl (by decide) ?_
      clear hf; intro a ha hf; clear ha
      refine st_ineq hf (by decide) rfl rfl rfl ?_
      clear hf; intro a ha hf; clear ha
      refine st_move hf rfl rfl (by decide) ?_
      clear hf; intro a ha hf; clear ha
      refine wpList_cut 4 (fun a w => Fr 177 a [(0, vl0), (1, .int .i64 quarters1), (2, .int .i64 n2), (7, v5), (8, .int .i64 round8), (9, v14), (10, .int .i64 q7.2), (11, v23), (13, v32), (15, v41), (17, v50), (19, v59), (21, v68), (23, v77), (24, .int .i64 q70.2), (25, v86), (98, .bool ((q16.2 != q7.2) || (q43.2 != q7.2)))] ∧ Hp S w0 w (Res.slx Ek.c128 36 v5 z7 q1.2 :: Res.sl Ek.c128 36 v86 q79.1 :: Res.sl Ek.c128 36 v77 q70.1 :: Res.sl Ek.c128 36 v68 q61.1 :: Res.sl Ek.c128 36 v59 q52.1 :: Res.sl Ek.c128 36 v50 q43.1 :: Res.sl Ek.c128 36 v41 q34.1 :: Res.sl Ek.c128 36 v32 q25.1 :: Res.sl Ek.c128 36 v23 q16.1 :: Res.sl Ek.c128 36 v14 q7.1 :: ow)) ?_ ?_
      · rcases Bool.eq_false_or_eq_true (q16.2 != q7.2) with hb89 | hb89
        · skip
          refine st_skip hf (wantN hf rfl rfl hb89) rfl (by decide) ?_ rfl
          clear hf; intro a hf
          refine st_skip hf (wantN hf rfl rfl hb89) rfl (by decide) ?_ rfl
          clear hf; intro a hf
          refine st_skip hf (wantN hf rfl rfl hb89) rfl (by decide) ?_ rfl
          clear hf; intro a hf
          refine st_pick (v := .bool true) hf rfl rfl (fun hb' => ?_) (fun hb' => ?_) (by decide) ?_
          · rfl
          · exact absurd (hb89.symm.trans hb') (by decide)
          clear hf; intro a ha hf; clear ha
          refine st_nil hf (th_n ?_)
          exact ⟨hf.sub ⟨rfl, rfl, rfl, rfl, rfl, rfl, rfl, rfl, rfl, rfl, rfl, rfl, rfl, rfl, rfl, rfl, (by rw [hb89]; rfl), trivial⟩, hp⟩
        · skip
          refine st_move hf (wantY hf rfl rfl hb89) rfl (by decide) ?_
          clear hf; intro a ha hf; clear ha
          refine st_move hf (wantY hf rfl rfl hb89) rfl (by decide) ?_
          clear hf; intro a ha hf; clear ha
          refine st_ineq hf (by decide) (wantY hf rfl rfl hb89) rfl rfl ?_
          clear hf; intro a ha hf; clear ha
          refine st_pick (v := .bool (q43.2 != q7.2)) hf rfl rfl (fun hb' => ?_) (fun hb' => ?_) (by decide) ?_
          · exact absurd (hb89.symm.trans hb') (by decide)
          · rfl
          clear hf; intro a ha hf; clear ha
          refine st_nil hf (th_n ?_)
          exact ⟨hf.sub ⟨rfl, rfl, rfl, rfl, rfl, rfl, rfl, rfl, rfl, rfl, rfl, rfl, rfl, rfl, rfl, rfl, (by rw [hb89]; rfl), trivial⟩, hp⟩
      · rintro a w ⟨hf, hp⟩
        refine st_move hf rfl rfl (by decide) ?_
        clear hf; intro a ha hf; clear ha
        refine wpList_cut 4 (fun a w => Fr 177 a [(0, vl0), (1, .int .i64 quarters1), (2, .int .i64 n2), (7, v5), (8, .int .i64 round8), (9, v14), (11, v23), (13, v32), (15, v41), (17, v50), (19, v59), (21, v68), (23, v77), (25, v86), (103, .bool (((q16.2 != q7.2) || (q43.2 != q7.2)) || (q70.2 != q7.2)))] ∧ Hp S w0 w (Res.slx Ek.c128 36 v5 z7 q1.2 :: Res.sl Ek.c128 36 v86 q79.1 :: Res.sl Ek.c128 36 v77 q70.1 :: Res.sl Ek.c128 36 v68 q61.1 :: Res.sl Ek.c128 36 v59 q52.1 :: Res.sl Ek.c128 36 v50 q43.1 :: Res.sl Ek.c128 36 v41 q34.1 :: Res.sl Ek.c128 36 v32 q25.1 :: Res.sl Ek.c128 36 v23 q16.1 :: Res.sl Ek.c128 36 v14 q7.1 :: ow)) ?_ ?_
        · rcases Bool.eq_false_or_eq_true ((q16.2 != q7.2) || (q43.2 != q7.2)) with hb91 | hb91
          · skip
            refine st_skip hf (wantN hf rfl rfl hb91) rfl (by decide) ?_ rfl
            clear hf; intro a hf
            refine st_skip hf (wantN hf rfl rfl hb91) rfl (by decide) ?_ rfl
            clear hf; intro a hf
            refine st_skip hf (wantN hf rfl rfl hb91) rfl (by decide) ?_ rfl
            clear hf; intro a hf
            refine st_pick (v := .bool true) hf rfl rfl (fun hb' => ?_) (fun hb' => ?_) (by decide) ?_
            · rfl
            · exact absurd (hb91.symm.trans hb') (by decide)
            clear hf; intro a ha hf; clear ha
            refine st_nil hf (th_n ?_)
            exact ⟨hf.sub ⟨rfl, rfl, rfl, rfl, rfl, rfl, rfl, rfl, rfl, rfl, rfl, rfl, rfl, rfl, (by rw [hb91]; rfl), trivial⟩, hp⟩
          · skip
            refine st_move hf (wantY hf rfl rfl hb91) rfl (by decide) ?_
            clear hf; intro a ha hf; clear ha
            refine st_move hf (wantY hf rfl rfl hb91) rfl (by decide) ?_
            clear hf; intro a ha hf; clear ha
            refine st_ineq hf (by decide) (wantY hf rfl rfl hb91) rfl rfl ?_
            clear hf; intro a ha hf; clear ha
            refine st_pick (v := .bool (q70.2 != q7.2)) hf rfl rfl (fun hb' => ?_) (fun hb' => ?_) (by decide) ?_
            · exact absurd (hb91.symm.trans hb') (by decide)
            · rfl
            clear hf; intro a ha hf; clear ha
            refine st_nil hf (th_n ?_)
            exact ⟨hf.sub ⟨rfl, rfl, rfl, rfl, rfl, rfl, rfl, rfl, rfl, rfl, rfl, rfl, rfl, rfl, (by rw [hb91]; rfl), trivial⟩, hp⟩
        · rintro a w ⟨hf, hp⟩
          refine st_move hf rfl rfl (by decide) ?_
          clear hf; intro a ha hf; clear ha
          obtain ⟨z94, hz92, h⟩ := bnd h
          refine wpList_cut 6 (fun a w => Fr 177 a [(0, vl0), (1, .int .i64 quarters1), (2, .int .i64 n2), (7, v5), (8, .int .i64 round8), (15, v41), (17, v50), (19, v59), (21, v68), (23, v77), (25, v86), (110, .bool z94)] ∧ Hp S w0 w (Res.slx Ek.c128 36 v5 z7 q1.2 :: Res.sl Ek.c128 36 v86 q79.1 :: Res.sl Ek.c128 36 v77 q70.1 :: Res.sl Ek.c128 36 v68 q61.1 :: Res.sl Ek.c128 36 v59 q52.1 :: Res.sl Ek.c128 36 v50 q43.1 :: Res.sl Ek.c128 36 v41 q34.1 :: Res.sl Ek.c128 36 v32 q25.1 :: Res.sl Ek.c128 36 v14 q7.1 :: ow)) ?_ ?_
          · rcases Bool.eq_false_or_eq_true (((q16.2 != q7.2) || (q43.2 != q7.2)) || (q70.2 != q7.2)) with hb93 | hb93
            · skip
              replace hz92 := ifT hz92 hb93
              refine st_skip hf (wantN hf rfl rfl hb93) rfl (by decide) ?_ rfl
              clear hf; intro a hf
              refine st_skip hf (wantN hf rfl rfl hb93) rfl (by decide) ?_ rfl
              clear hf; intro a hf
              refine st_skip hf (wantN hf rfl rfl hb93) rfl (by decide) ?_ rfl
              clear hf; intro a hf
              refine st_skip hf (wantN hf rfl rfl hb93) rfl (by decide) ?_ rfl
              clear hf; intro a hf
              refine st_skip hf (wantN hf rfl rfl hb93) rfl (by decide) ?_ rfl
              clear hf; intro a hf
              obtain rfl := Option.some.inj hz92
              refine st_pick (v := .bool true) hf rfl rfl (fun hb' => ?_) (fun hb' => ?_) (by decide) ?_
              · rfl
              · exact absurd (hb93.symm.trans hb') (by decide)
              clear hf; intro a ha hf; clear ha
              refine st_nil hf (th_n ?_)
              have hp : Hp _ _ w (Res.slx Ek.c128 36 v5 z7 q1.2 :: Res.sl Ek.c128 36 v86 q79.1 :: Res.sl Ek.c128 36 v77 q70.1 :: Res.sl Ek.c128 36 v68 q61.1 :: Res.sl Ek.c128 36 v59 q52.1 :: Res.sl Ek.c128 36 v50 q43.1 :: Res.sl Ek.c128 36 v41 q34.1 :: Res.sl Ek.c128 36 v32 q25.1 :: Res.sl Ek.c128 36 v14 q7.1 :: ow) := Hp.sel (pre := [Res.slx Ek.c128 36 v5 z7 q1.2, Res.sl Ek.c128 36 v86 q79.1, Res.sl Ek.c128 36 v77 q70.1, Res.sl Ek.c128 36 v68 q61.1, Res.sl Ek.c128 36 v59 q52.1, Res.sl Ek.c128 36 v50 q43.1, Res.sl Ek.c128 36 v41 q34.1, Res.sl Ek.c128 36 v32 q25.1, Res.sl Ek.c128 36 v23 q16.1, Res.sl Ek.c128 36 v14 q7.1]) (tail := ow) (rs' := [Res.slx Ek.c128 36 v5 z7 q1.2, Res.sl Ek.c128 36 v86 q79.1, Res.sl Ek.c128 36 v77 q70.1, Res.sl Ek.c128 36 v68 q61.1, Res.sl Ek.c128 36 v59 q52.1, Res.sl Ek.c128 36 v50 q43.1, Res.sl Ek.c128 36 v41 q34.1, Res.sl Ek.c128 36 v32 q25.1, Res.sl Ek.c128 36 v14 q7.1]) hp [0, 1, 2, 3, 4, 5, 6, 7, 9] (by decide) (by simp) rfl
              exact ⟨hf.sub ⟨rfl, rfl, rfl, rfl, rfl, rfl, rfl, rfl, rfl, rfl, rfl, rfl, trivial⟩, hp⟩
            · skip
              replace hz92 := ifF hz92 hb93
              refine st_move hf (wantY hf rfl rfl hb93) rfl (by decide) ?_
              clear hf; intro a ha hf; clear ha
              refine st_move hf (wantY hf rfl rfl hb93) rfl (by decide) ?_
              clear hf; intro a ha hf; clear ha
              refine st_move hf (wantY hf rfl rfl hb93) rfl (by decide) ?_
              clear hf; intro a ha hf; clear ha
              obtain ⟨q95, hcall96, hz92⟩ := bnd hz92
              obtain ⟨S97, hp98, rd99, up100, bk101⟩ := Hp.lendS hp (i := 7) rfl
              obtain ⟨S102, hp103, rd104, up105, bk106⟩ := Hp.lendS hp98 (i := 8) rfl
              have hp107 : Hp _ _ w (Res.sl Ek.c128 36 v23 q16.1 :: Res.slx Ek.c128 36 v5 z7 q1.2 :: Res.sl Ek.c128 36 v86 q79.1 :: Res.sl Ek.c128 36 v77 q70.1 :: Res.sl Ek.c128 36 v68 q61.1 :: Res.sl Ek.c128 36 v59 q52.1 :: Res.sl Ek.c128 36 v50 q43.1 :: Res.sl Ek.c128 36 v41 q34.1 :: ow) := Hp.sel (pre := [Res.slx Ek.c128 36 v5 z7 q1.2, Res.sl Ek.c128 36 v86 q79.1, Res.sl Ek.c128 36 v77 q70.1, Res.sl Ek.c128 36 v68 q61.1, Res.sl Ek.c128 36 v59 q52.1, Res.sl Ek.c128 36 v50 q43.1, Res.sl Ek.c128 36 v41 q34.1, Res.sl Ek.c128 36 v23 q16.1]) (tail := ow) (rs' := [Res.sl Ek.c128 36 v23 q16.1, Res.slx Ek.c128 36 v5 z7 q1.2, Res.sl Ek.c128 36 v86 q79.1, Res.sl Ek.c128 36 v77 q70.1, Res.sl Ek.c128 36 v68 q61.1, Res.sl Ek.c128 36 v59 q52.1, Res.sl Ek.c128 36 v50 q43.1, Res.sl Ek.c128 36 v41 q34.1]) hp103 [7, 0, 1, 2, 3, 4, 5, 6] (by decide) (by simp) rfl
              refine st_call hf (by decide) Try.func12 rfl rfl (wantY hf rfl rfl hb93) rfl rfl (f_foghornlaw08_fresh_c _ _ _ _ ((rd99.now hp98).mono up105) _ _ rd104 hp107 hcall96) ?_
              rintro _ w ⟨rfl, hp0⟩
              have hp0 := bk106 _ _ hp0
              have hp0 := bk101 _ _ hp0
              clear hp; have hp := hp0; clear hp0
              replace hp : Hp _ _ w (Res.sl Ek.c128 36 v32 q25.1 :: Res.sl Ek.c128 36 v14 q7.1 :: Res.slx Ek.c128 36 v5 z7 q1.2 :: Res.sl Ek.c128 36 v86 q79.1 :: Res.sl Ek.c128 36 v77 q70.1 :: Res.sl Ek.c128 36 v68 q61.1 :: Res.sl Ek.c128 36 v59 q52.1 :: Res.sl Ek.c128 36 v50 q43.1 :: Res.sl Ek.c128 36 v41 q34.1 :: ow) := hp
              refine ⟨_, rfl, ?_⟩
              clear hf; intro a hf
              refine st_not hf (by decide) (wantY hf rfl rfl hb93) rfl ?_
              clear hf; intro a ha hf; clear ha
              obtain rfl := Option.some.inj hz92
              refine st_pick (v := .bool (!q95)) hf rfl rfl (fun hb' => ?_) (fun hb' => ?_) (by decide) ?_
              · exact absurd (hb93.symm.trans hb') (by decide)
              · rfl
              clear hf; intro a ha hf; clear ha
              refine st_nil hf (th_n ?_)
              have hp : Hp _ _ w (Res.slx Ek.c128 36 v5 z7 q1.2 :: Res.sl Ek.c128 36 v86 q79.1 :: Res.sl Ek.c128 36 v77 q70.1 :: Res.sl Ek.c128 36 v68 q61.1 :: Res.sl Ek.c128 36 v59 q52.1 :: Res.sl Ek.c128 36 v50 q43.1 :: Res.sl Ek.c128 36 v41 q34.1 :: Res.sl Ek.c128 36 v32 q25.1 :: Res.sl Ek.c128 36 v14 q7.1 :: ow) := Hp.sel (pre := [Res.sl Ek.c128 36 v32 q25.1, Res.sl Ek.c128 36 v14 q7.1, Res.slx Ek.c128 36 v5 z7 q1.2, Res.sl Ek.c128 36 v86 q79.1, Res.sl Ek.c128 36 v77 q70.1, Res.sl Ek.c128 36 v68 q61.1, Res.sl Ek.c128 36 v59 q52.1, Res.sl Ek.c128 36 v50 q43.1, Res.sl Ek.c128 36 v41 q34.1]) (tail := ow) (rs' := [Res.slx Ek.c128 36 v5 z7 q1.2, Res.sl Ek.c128 36 v86 q79.1, Res.sl Ek.c128 36 v77 q70.1, Res.sl Ek.c128 36 v68 q61.1, Res.sl Ek.c128 36 v59 q52.1, Res.sl Ek.c128 36 v50 q43.1, Res.sl Ek.c128 36 v41 q34.1, Res.sl Ek.c128 36 v32 q25.1, Res.sl Ek.c128 36 v14 q7.1]) hp [2, 3, 4, 5, 6, 7, 8, 0, 1] (by decide) (by simp) rfl
              exact ⟨hf.sub ⟨rfl, rfl, rfl, rfl, rfl, rfl, rfl, rfl, rfl, rfl, rfl, rfl, trivial⟩, hp⟩
          · rintro a w ⟨hf, hp⟩
            refine st_move hf rfl rfl (by decide) ?_
            clear hf; intro a ha hf; clear ha
            obtain ⟨z110, hz108, h⟩ := bnd h
            refine wpList_cut 6 (fun a w => Fr 177 a [(0, vl0), (1, .int .i64 quarters1), (2, .int .i64 n2), (7, v5), (8, .int .i64 round8), (21, v68), (23, v77), (25, v86), (117, .bool z110)] ∧ Hp S w0 w (Res.slx Ek.c128 36 v5 z7 q1.2 :: Res.sl Ek.c128 36 v86 q79.1 :: Res.sl Ek.c128 36 v77 q70.1 :: Res.sl Ek.c128 36 v68 q61.1 :: Res.sl Ek.c128 36 v59 q52.1 :: Res.sl Ek.c128 36 v41 q34.1 :: Res.sl Ek.c128 36 v32 q25.1 :: Res.sl Ek.c128 36 v14 q7.1 :: ow)) ?_ ?_
            · rcases Bool.eq_false_or_eq_true z94 with hb109 | hb109
              · skip
                replace hz108 := ifT hz108 hb109
                refine st_skip hf (wantN hf rfl rfl hb109) rfl (by decide) ?_ rfl
                clear hf; intro a hf
                refine st_skip hf (wantN hf rfl rfl hb109) rfl (by decide) ?_ rfl
                clear hf; intro a hf
                refine st_skip hf (wantN hf rfl rfl hb109) rfl (by decide) ?_ rfl
                clear hf; intro a hf
                refine st_skip hf (wantN hf rfl rfl hb109) rfl (by decide) ?_ rfl
                clear hf; intro a hf
                refine st_skip hf (wantN hf rfl rfl hb109) rfl (by decide) ?_ rfl
                clear hf; intro a hf
                obtain rfl := Option.some.inj hz108
                refine st_pick (v := .bool true) hf rfl rfl (fun hb' => ?_) (fun hb' => ?_) (by decide) ?_
                · rfl
                · exact absurd (hb109.symm.trans hb') (by decide)
                clear hf; intro a ha hf; clear ha
                refine st_nil hf (th_n ?_)
                have hp : Hp _ _ w (Res.slx Ek.c128 36 v5 z7 q1.2 :: Res.sl Ek.c128 36 v86 q79.1 :: Res.sl Ek.c128 36 v77 q70.1 :: Res.sl Ek.c128 36 v68 q61.1 :: Res.sl Ek.c128 36 v59 q52.1 :: Res.sl Ek.c128 36 v41 q34.1 :: Res.sl Ek.c128 36 v32 q25.1 :: Res.sl Ek.c128 36 v14 q7.1 :: ow) := Hp.sel (pre := [Res.slx Ek.c128 36 v5 z7 q1.2, Res.sl Ek.c128 36 v86 q79.1, Res.sl Ek.c128 36 v77 q70.1, Res.sl Ek.c128 36 v68 q61.1, Res.sl Ek.c128 36 v59 q52.1, Res.sl Ek.c128 36 v50 q43.1, Res.sl Ek.c128 36 v41 q34.1, Res.sl Ek.c128 36 v32 q25.1, Res.sl Ek.c128 36 v14 q7.1]) (tail := ow) (rs' := [Res.slx Ek.c128 36 v5 z7 q1.2, Res.sl Ek.c128 36 v86 q79.1, Res.sl Ek.c128 36 v77 q70.1, Res.sl Ek.c128 36 v68 q61.1, Res.sl Ek.c128 36 v59 q52.1, Res.sl Ek.c128 36 v41 q34.1, Res.sl Ek.c128 36 v32 q25.1, Res.sl Ek.c128 36 v14 q7.1]) hp [0, 1, 2, 3, 4, 6, 7, 8] (by decide) (by simp) rfl
                exact ⟨hf.sub ⟨rfl, rfl, rfl, rfl, rfl, rfl, rfl, rfl, rfl, trivial⟩, hp⟩
              · skip
                replace hz108 := ifF hz108 hb109
                refine st_move hf (wantY hf rfl rfl hb109) rfl (by decide) ?_
                clear hf; intro a ha hf; clear ha
                refine st_move hf (wantY hf rfl rfl hb109) rfl (by decide) ?_
                clear hf; intro a ha hf; clear ha
                refine st_move hf (wantY hf rfl rfl hb109) rfl (by decide) ?_
                clear hf; intro a ha hf; clear ha
                obtain ⟨q111, hcall112, hz108⟩ := bnd hz108
                obtain ⟨S113, hp114, rd115, up116, bk117⟩ := Hp.lendS hp (i := 4) rfl
                obtain ⟨S118, hp119, rd120, up121, bk122⟩ := Hp.lendS hp114 (i := 5) rfl
                have hp123 : Hp _ _ w (Res.sl Ek.c128 36 v50 q43.1 :: Res.slx Ek.c128 36 v5 z7 q1.2 :: Res.sl Ek.c128 36 v86 q79.1 :: Res.sl Ek.c128 36 v77 q70.1 :: Res.sl Ek.c128 36 v68 q61.1 :: Res.sl Ek.c128 36 v32 q25.1 :: Res.sl Ek.c128 36 v14 q7.1 :: ow) := Hp.sel (pre := [Res.slx Ek.c128 36 v5 z7 q1.2, Res.sl Ek.c128 36 v86 q79.1, Res.sl Ek.c128 36 v77 q70.1, Res.sl Ek.c128 36 v68 q61.1, Res.sl Ek.c128 36 v50 q43.1, Res.sl Ek.c128 36 v32 q25.1, Res.sl Ek.c128 36 v14 q7.1]) (tail := ow) (rs' := [Res.sl Ek.c128 36 v50 q43.1, Res.slx Ek.c128 36 v5 z7 q1.2, Res.sl Ek.c128 36 v86 q79.1, Res.sl Ek.c128 36 v77 q70.1, Res.sl Ek.c128 36 v68 q61.1, Res.sl Ek.c128 36 v32 q25.1, Res.sl Ek.c128 36 v14 q7.1]) hp119 [4, 0, 1, 2, 3, 5, 6] (by decide) (by simp) rfl
                refine st_call hf (by decide) Try.func12 rfl rfl (wantY hf rfl rfl hb109) rfl rfl (f_foghornlaw08_fresh_c _ _ _ _ ((rd115.now hp114).mono up121) _ _ rd120 hp123 hcall112) ?_
                rintro _ w ⟨rfl, hp0⟩
                have hp0 := bk122 _ _ hp0
                have hp0 := bk117 _ _ hp0
                clear hp; have hp := hp0; clear hp0
                replace hp : Hp _ _ w (Res.sl Ek.c128 36 v59 q52.1 :: Res.sl Ek.c128 36 v41 q34.1 :: Res.slx Ek.c128 36 v5 z7 q1.2 :: Res.sl Ek.c128 36 v86 q79.1 :: Res.sl Ek.c128 36 v77 q70.1 :: Res.sl Ek.c128 36 v68 q61.1 :: Res.sl Ek.c128 36 v32 q25.1 :: Res.sl Ek.c128 36 v14 q7.1 :: ow) := hp
                refine ⟨_, rfl, ?_⟩
                clear hf; intro a hf
                refine st_not hf (by decide) (wantY hf rfl rfl hb109) rfl ?_
                clear hf; intro a ha hf; clear ha
                obtain rfl := Option.some.inj hz108
                refine st_pick (v := .bool (!q111)) hf rfl rfl (fun hb' => ?_) (fun hb' => ?_) (by decide) ?_
                · exact absurd (hb109.symm.trans hb') (by decide)
                · rfl
                clear hf; intro a ha hf; clear ha
                refine st_nil hf (th_n ?_)
                have hp : Hp _ _ w (Res.slx Ek.c128 36 v5 z7 q1.2 :: Res.sl Ek.c128 36 v86 q79.1 :: Res.sl Ek.c128 36 v77 q70.1 :: Res.sl Ek.c128 36 v68 q61.1 :: Res.sl Ek.c128 36 v59 q52.1 :: Res.sl Ek.c128 36 v41 q34.1 :: Res.sl Ek.c128 36 v32 q25.1 :: Res.sl Ek.c128 36 v14 q7.1 :: ow) := Hp.sel (pre := [Res.sl Ek.c128 36 v59 q52.1, Res.sl Ek.c128 36 v41 q34.1, Res.slx Ek.c128 36 v5 z7 q1.2, Res.sl Ek.c128 36 v86 q79.1, Res.sl Ek.c128 36 v77 q70.1, Res.sl Ek.c128 36 v68 q61.1, Res.sl Ek.c128 36 v32 q25.1, Res.sl Ek.c128 36 v14 q7.1]) (tail := ow) (rs' := [Res.slx Ek.c128 36 v5 z7 q1.2, Res.sl Ek.c128 36 v86 q79.1, Res.sl Ek.c128 36 v77 q70.1, Res.sl Ek.c128 36 v68 q61.1, Res.sl Ek.c128 36 v59 q52.1, Res.sl Ek.c128 36 v41 q34.1, Res.sl Ek.c128 36 v32 q25.1, Res.sl Ek.c128 36 v14 q7.1]) hp [2, 3, 4, 5, 0, 1, 6, 7] (by decide) (by simp) rfl
                exact ⟨hf.sub ⟨rfl, rfl, rfl, rfl, rfl, rfl, rfl, rfl, rfl, trivial⟩, hp⟩
            · rintro a w ⟨hf, hp⟩
              refine st_move hf rfl rfl (by decide) ?_
              clear hf; intro a ha hf; clear ha
              obtain ⟨z126, hz124, h⟩ := bnd h
              refine wpList_cut 6 (fun a w => Fr 177 a [(0, vl0), (1, .int .i64 quarters1), (2, .int .i64 n2), (7, v5), (8, .int .i64 round8), (124, .bool z126)] ∧ Hp S w0 w (Res.slx Ek.c128 36 v5 z7 q1.2 :: Res.sl Ek.c128 36 v86 q79.1 :: Res.sl Ek.c128 36 v68 q61.1 :: Res.sl Ek.c128 36 v59 q52.1 :: Res.sl Ek.c128 36 v41 q34.1 :: Res.sl Ek.c128 36 v32 q25.1 :: Res.sl Ek.c128 36 v14 q7.1 :: ow)) ?_ ?_
              · rcases Bool.eq_false_or_eq_true z110 with hb125 | hb125
                · skip
                  replace hz124 := ifT hz124 hb125
                  refine st_skip hf (wantN hf rfl rfl hb125) rfl (by decide) ?_ rfl
                  clear hf; intro a hf
                  refine st_skip hf (wantN hf rfl rfl hb125) rfl (by decide) ?_ rfl
                  clear hf; intro a hf
                  refine st_skip hf (wantN hf rfl rfl hb125) rfl (by decide) ?_ rfl
                  clear hf; intro a hf
                  refine st_skip hf (wantN hf rfl rfl hb125) rfl (by decide) ?_ rfl
                  clear hf; intro a hf
                  refine st_skip hf (wantN hf rfl rfl hb125) rfl (by decide) ?_ rfl
                  clear hf; intro a hf
                  obtain rfl := Option.some.inj hz124
                  refine st_pick (v := .bool true) hf rfl rfl (fun hb' => ?_) (fun hb' => ?_) (by decide) ?_
                  · rfl
                  · exact absurd (hb125.symm.trans hb') (by decide)
                  clear hf; intro a ha hf; clear ha
                  refine st_nil hf (th_n ?_)
                  have hp : Hp _ _ w (Res.slx Ek.c128 36 v5 z7 q1.2 :: Res.sl Ek.c128 36 v86 q79.1 :: Res.sl Ek.c128 36 v68 q61.1 :: Res.sl Ek.c128 36 v59 q52.1 :: Res.sl Ek.c128 36 v41 q34.1 :: Res.sl Ek.c128 36 v32 q25.1 :: Res.sl Ek.c128 36 v14 q7.1 :: ow) := Hp.sel (pre := [Res.slx Ek.c128 36 v5 z7 q1.2, Res.sl Ek.c128 36 v86 q79.1, Res.sl Ek.c128 36 v77 q70.1, Res.sl Ek.c128 36 v68 q61.1, Res.sl Ek.c128 36 v59 q52.1, Res.sl Ek.c128 36 v41 q34.1, Res.sl Ek.c128 36 v32 q25.1, Res.sl Ek.c128 36 v14 q7.1]) (tail := ow) (rs' := [Res.slx Ek.c128 36 v5 z7 q1.2, Res.sl Ek.c128 36 v86 q79.1, Res.sl Ek.c128 36 v68 q61.1, Res.sl Ek.c128 36 v59 q52.1, Res.sl Ek.c128 36 v41 q34.1, Res.sl Ek.c128 36 v32 q25.1, Res.sl Ek.c128 36 v14 q7.1]) hp [0, 1, 3, 4, 5, 6, 7] (by decide) (by simp) rfl
                  exact ⟨hf.sub ⟨rfl, rfl, rfl, rfl, rfl, rfl, trivial⟩, hp⟩
                · skip
                  replace hz124 := ifF hz124 hb125
                  refine st_move hf (wantY hf rfl rfl hb125) rfl (by decide) ?_
                  clear hf; intro a ha hf; clear ha
                  refine st_move hf (wantY hf rfl rfl hb125) rfl (by decide) ?_
                  clear hf; intro a ha hf; clear ha
                  refine st_move hf (wantY hf rfl rfl hb125) rfl (by decide) ?_
                  clear hf; intro a ha hf; clear ha
                  obtain ⟨q127, hcall128, hz124⟩ := bnd hz124
                  obtain ⟨S129, hp130, rd131, up132, bk133⟩ := Hp.lendS hp (i := 1) rfl
                  obtain ⟨S134, hp135, rd136, up137, bk138⟩ := Hp.lendS hp130 (i := 2) rfl
                  have hp139 : Hp _ _ w (Res.sl Ek.c128 36 v77 q70.1 :: Res.slx Ek.c128 36 v5 z7 q1.2 :: Res.sl Ek.c128 36 v59 q52.1 :: Res.sl Ek.c128 36 v41 q34.1 :: Res.sl Ek.c128 36 v32 q25.1 :: Res.sl Ek.c128 36 v14 q7.1 :: ow) := Hp.sel (pre := [Res.slx Ek.c128 36 v5 z7 q1.2, Res.sl Ek.c128 36 v77 q70.1, Res.sl Ek.c128 36 v59 q52.1, Res.sl Ek.c128 36 v41 q34.1, Res.sl Ek.c128 36 v32 q25.1, Res.sl Ek.c128 36 v14 q7.1]) (tail := ow) (rs' := [Res.sl Ek.c128 36 v77 q70.1, Res.slx Ek.c128 36 v5 z7 q1.2, Res.sl Ek.c128 36 v59 q52.1, Res.sl Ek.c128 36 v41 q34.1, Res.sl Ek.c128 36 v32 q25.1, Res.sl Ek.c128 36 v14 q7.1]) hp135 [1, 0, 2, 3, 4, 5] (by decide) (by simp) rfl
                  refine st_call hf (by decide) Try.func12 rfl rfl (wantY hf rfl rfl hb125) rfl rfl (f_foghornlaw08_fresh_c _ _ _ _ ((rd131.now hp130).mono up137) _ _ rd136 hp139 hcall128) ?_
                  rintro _ w ⟨rfl, hp0⟩
                  have hp0 := bk138 _ _ hp0
                  have hp0 := bk133 _ _ hp0
                  clear hp; have hp := hp0; clear hp0
                  replace hp : Hp _ _ w (Res.sl Ek.c128 36 v86 q79.1 :: Res.sl Ek.c128 36 v68 q61.1 :: Res.slx Ek.c128 36 v5 z7 q1.2 :: Res.sl Ek.c128 36 v59 q52.1 :: Res.sl Ek.c128 36 v41 q34.1 :: Res.sl Ek.c128 36 v32 q25.1 :: Res.sl Ek.c128 36 v14 q7.1 :: ow) := hp
                  refine ⟨_, rfl, ?_⟩
                  clear hf; intro a hf
                  refine st_not hf (by decide) (wantY hf rfl rfl hb125) rfl ?_
                  clear hf; intro a ha hf; clear ha
                  obtain rfl := Option.some.inj hz124
                  refine st_pick (v := .bool (!q127)) hf rfl rfl (fun hb' => ?_) (fun hb' => ?_) (by decide) ?_
                  · exact absurd (hb125.symm.trans hb') (by decide)
                  · rfl
                  clear hf; intro a ha hf; clear ha
                  refine st_nil hf (th_n ?_)
                  have hp : Hp _ _ w (Res.slx Ek.c128 36 v5 z7 q1.2 :: Res.sl Ek.c128 36 v86 q79.1 :: Res.sl Ek.c128 36 v68 q61.1 :: Res.sl Ek.c128 36 v59 q52.1 :: Res.sl Ek.c128 36 v41 q34.1 :: Res.sl Ek.c128 36 v32 q25.1 :: Res.sl Ek.c128 36 v14 q7.1 :: ow) := Hp.sel (pre := [Res.sl Ek.c128 36 v86 q79.1, Res.sl Ek.c128 36 v68 q61.1, Res.slx Ek.c128 36 v5 z7 q1.2, Res.sl Ek.c128 36 v59 q52.1, Res.sl Ek.c128 36 v41 q34.1, Res.sl Ek.c128 36 v32 q25.1, Res.sl Ek.c128 36 v14 q7.1]) (tail := ow) (rs' := [Res.slx Ek.c128 36 v5 z7 q1.2, Res.sl Ek.c128 36 v86 q79.1, Res.sl Ek.c128 36 v68 q61.1, Res.sl Ek.c128 36 v59 q52.1, Res.sl Ek.c128 36 v41 q34.1, Res.sl Ek.c128 36 v32 q25.1, Res.sl Ek.c128 36 v14 q7.1]) hp [2, 0, 1, 3, 4, 5, 6] (by decide) (by simp) rfl
                  exact ⟨hf.sub ⟨rfl, rfl, rfl, rfl, rfl, rfl, trivial⟩, hp⟩
              · rintro a w ⟨hf, hp⟩
                refine st_move hf rfl rfl (by decide) ?_
                clear hf; intro a ha hf; clear ha
                obtain ⟨z142, hz140, h⟩ := bnd h
                refine wpList_cut 9 (fun a w => Fr 177 a [(0, vl0), (1, .int .i64 quarters1), (2, .int .i64 n2), (7, v5), (8, .int .i64 round8), (134, .bool z142)] ∧ Hp S w0 w (Res.slx Ek.c128 36 v5 z7 q1.2 :: Res.sl Ek.c128 36 v86 q79.1 :: Res.sl Ek.c128 36 v68 q61.1 :: Res.sl Ek.c128 36 v59 q52.1 :: Res.sl Ek.c128 36 v41 q34.1 :: Res.sl Ek.c128 36 v32 q25.1 :: Res.sl Ek.c128 36 v14 q7.1 :: ow)) ?_ ?_
                · rcases Bool.eq_false_or_eq_true z126 with hb141 | hb141
                  · skip
                    replace hz140 := ifT hz140 hb141
                    refine st_skip hf (wantN hf rfl rfl hb141) rfl (by decide) ?_ rfl
                    clear hf; intro a hf
                    refine st_skip hf (wantN hf rfl rfl hb141) rfl (by decide) ?_ rfl
                    clear hf; intro a hf
                    refine st_skipU hf (wantN hf rfl rfl hb141) rfl (by decide) ?_
                    clear hf; intro a hf
                    refine st_skip hf (wantU hf rfl rfl) rfl (by decide) ?_ rfl
                    clear hf; intro a hf
                    refine st_skip hf (wantU hf rfl rfl) rfl (by decide) ?_ rfl
                    clear hf; intro a hf
                    refine st_skip hf (wantU hf rfl rfl) rfl (by decide) ?_ rfl
                    clear hf; intro a hf
                    refine st_skip hf (wantU hf rfl rfl) rfl (by decide) ?_ rfl
                    clear hf; intro a hf
                    refine st_skip hf (wantN hf rfl rfl hb141) rfl (by decide) ?_ rfl
                    clear hf; intro a hf
                    obtain rfl := Option.some.inj hz140
                    refine st_pick (v := .bool true) hf rfl rfl (fun hb' => ?_) (fun hb' => ?_) (by decide) ?_
                    · rfl
                    · exact absurd (hb141.symm.trans hb') (by decide)
                    clear hf; intro a ha hf; clear ha
                    refine st_nil hf (th_n ?_)
                    exact ⟨hf.sub ⟨rfl, rfl, rfl, rfl, rfl, rfl, trivial⟩, hp⟩
                  · skip
                    replace hz140 := ifF hz140 hb141
                    refine st_move hf (wantY hf rfl rfl hb141) rfl (by decide) ?_
                    clear hf; intro a ha hf; clear ha
                    refine st_ieql hf (by decide) (wantY hf rfl rfl hb141) rfl rfl ?_
                    clear hf; intro a ha hf; clear ha
                    refine st_move hf (wantY hf rfl rfl hb141) rfl (by decide) ?_
                    clear hf; intro a ha hf; clear ha
                    obtain ⟨z145, hz143, hz140⟩ := bnd hz140
                    refine wpList_cut 5 (fun a w => Fr 177 a [(0, vl0), (1, .int .i64 quarters1), (2, .int .i64 n2), (7, v5), (8, .int .i64 round8), (125, .bool z126), (133, .bool z145)] ∧ Hp S w0 w (Res.slx Ek.c128 36 v5 z7 q1.2 :: Res.sl Ek.c128 36 v86 q79.1 :: Res.sl Ek.c128 36 v68 q61.1 :: Res.sl Ek.c128 36 v59 q52.1 :: Res.sl Ek.c128 36 v41 q34.1 :: Res.sl Ek.c128 36 v32 q25.1 :: Res.sl Ek.c128 36 v14 q7.1 :: ow)) ?_ ?_
                    · rcases Bool.eq_false_or_eq_true (round8 == (0 : Int)) with hb144 | hb144
                      · skip
                        replace hz143 := ifT hz143 hb144
                        refine st_move hf (wantY hf rfl rfl hb144) rfl (by decide) ?_
                        clear hf; intro a ha hf; clear ha
                        refine st_move hf (wantY hf rfl rfl hb144) rfl (by decide) ?_
                        clear hf; intro a ha hf; clear ha
                        obtain ⟨q146, hcall147, hz143⟩ := bnd hz143
                        obtain ⟨S148, hp149, rd150, up151, bk152⟩ := Hp.lendX hp (i := 0) rfl
                        refine st_call hf (by decide) Try.func13 rfl rfl (wantY hf rfl rfl hb144) rfl rfl (f_foghornlaw08_kept_c hp149 _ _ _ rd150 _ _ ((hl0.now hp).mono up151) hcall147) ?_
                        rintro _ w ⟨rfl, hp0⟩
                        have hp0 := bk152 _ _ hp0
                        clear hp; have hp := hp0; clear hp0
                        replace hp : Hp _ _ w (Res.slx Ek.c128 36 v5 z7 q1.2 :: Res.sl Ek.c128 36 v86 q79.1 :: Res.sl Ek.c128 36 v68 q61.1 :: Res.sl Ek.c128 36 v59 q52.1 :: Res.sl Ek.c128 36 v41 q34.1 :: Res.sl Ek.c128 36 v32 q25.1 :: Res.sl Ek.c128 36 v14 q7.1 :: ow) := hp
                        refine ⟨_, rfl, ?_⟩
                        clear hf; intro a hf
                        refine st_not hf (by decide) (wantY hf rfl rfl hb144) rfl ?_
                        clear hf; intro a ha hf; clear ha
                        obtain rfl := Option.some.inj hz143
                        refine st_pick (v := .bool (!q146)) hf (wantY hf rfl rfl hb141) rfl (fun hb' => ?_) (fun hb' => ?_) (by decide) ?_
                        · rfl
                        · exact absurd (hb144.symm.trans hb') (by decide)
                        clear hf; intro a ha hf; clear ha
                        refine st_nil hf (th_n ?_)
                        exact ⟨hf.sub ⟨rfl, rfl, rfl, rfl, rfl, rfl, rfl, trivial⟩, hp⟩
                      · skip
                        replace hz143 := ifF hz143 hb144
                        refine st_skip hf (wantN hf rfl rfl hb144) rfl (by decide) ?_ rfl
                        clear hf; intro a hf
                        refine st_skip hf (wantN hf rfl rfl hb144) rfl (by decide) ?_ rfl
                        clear hf; intro a hf
                        refine st_skip hf (wantN hf rfl rfl hb144) rfl (by decide) ?_ rfl
                        clear hf; intro a hf
                        refine st_skip hf (wantN hf rfl rfl hb144) rfl (by decide) ?_ rfl
                        clear hf; intro a hf
                        obtain rfl := Option.some.inj hz143
                        refine st_pick (v := .bool false) hf (wantY hf rfl rfl hb141) rfl (fun hb' => ?_) (fun hb' => ?_) (by decide) ?_
                        · exact absurd (hb144.symm.trans hb') (by decide)
                        · rfl
                        clear hf; intro a ha hf; clear ha
                        refine st_nil hf (th_n ?_)
                        exact ⟨hf.sub ⟨rfl, rfl, rfl, rfl, rfl, rfl, rfl, trivial⟩, hp⟩
                    · rintro a w ⟨hf, hp⟩
                      obtain rfl := Option.some.inj hz140
                      refine st_pick (v := .bool z145) hf rfl rfl (fun hb' => ?_) (fun hb' => ?_) (by decide) ?_
                      · exact absurd (hb141.symm.trans hb') (by decide)
                      · rfl
                      clear hf; intro a ha hf; clear ha
                      refine st_nil hf (th_n ?_)
                      exact ⟨hf.sub ⟨rfl, rfl, rfl, rfl, rfl, rfl, trivial⟩, hp⟩
                · rintro a w ⟨hf, hp⟩
                  refine st_nil hf ?_
                  refine th_n ?_
                  refine wp_if hf rfl (fun hb => ?_) (fun hb => ?_)
                  · replace h := ifT h hb
                    refine wp_seq ?_
                    refine wp_reg ?_
                    refine st_assign hf rfl rfl (by decide) ?_
                    clear hf; intro a ha hf; clear ha
                    refine st_nil hf ?_
                    refine th_n ?_
                    refine wp_ret ?_
                    refine th_r ?_
                    refine ib_r ?_
                    refine th_r ?_
                    obtain rfl := Option.some.inj h
                    have hp : Hp _ _ w (ow) := Hp.sel (pre := [Res.slx Ek.c128 36 v5 z7 q1.2, Res.sl Ek.c128 36 v86 q79.1, Res.sl Ek.c128 36 v68 q61.1, Res.sl Ek.c128 36 v59 q52.1, Res.sl Ek.c128 36 v41 q34.1, Res.sl Ek.c128 36 v32 q25.1, Res.sl Ek.c128 36 v14 q7.1]) (tail := ow) (rs' := []) hp [] (by decide) (by simp) rfl
                    exact rnd_r (by simp) ⟨rfl, ⟨hf.sub ⟨rfl, trivial⟩, hp⟩⟩
                  · replace h := ifF h hb
                    refine wp_skip ?_
                    refine th_n ?_
                    refine wp_seq ?_
                    refine wp_reg ?_
                    refine st_assign hf rfl rfl (by decide) ?_
                    clear hf; intro a ha hf; clear ha
                    refine st_nil hf ?_
                    refine th_n ?_
                    refine wp_block ?_
                    obtain ⟨q163, hl, h⟩ := bnd h
                    have hp : Hp _ _ w (Res.slx Ek.c128 36 v5 z7 q1.2 :: ow) := Hp.sel (pre := [Res.slx Ek.c128 36 v5 z7 q1.2, Res.sl Ek.c128 36 v86 q79.1, Res.sl Ek.c128 36 v68 q61.1, Res.sl Ek.c128 36 v59 q52.1, Res.sl Ek.c128 36 v41 q34.1, Res.sl Ek.c128 36 v32 q25.1, Res.sl Ek.c128 36 v14 q7.1]) (tail := ow) (rs' := [Res.slx Ek.c128 36 v5 z7 q1.2]) hp [0] (by decide) (by simp) rfl
                    refine wp_loop_pure (f := f_foghornlaw08_MixMoves.s2) (s := (z7, (0 : Int))) (fun s a w => ∃ (v153 : Value), Fr 177 a [(0, vl0), (1, .int .i64 quarters1), (2, .int .i64 n2), (7, v153), (8, .int .i64 round8), (27, .int .i64 s.2)] ∧ Hp S w0 w (Res.slx Ek.c128 36 v153 s.1 q1.2 :: ow)) (fun q e a w => e = .exit 2 ∧ ∃ (v155 : Value), Fr 177 a [(0, vl0), (1, .int .i64 quarters1), (2, .int .i64 n2), (7, v155), (8, .int .i64 round8)] ∧ Hp S w0 w (Res.slx Ek.c128 36 v155 q q1.2 :: ow)) ?_ hl ⟨_, hf.sub ⟨rfl, rfl, rfl, rfl, rfl, rfl, trivial⟩, hp⟩ ?_
                    · clear hl hf hp
                      intro s x a w h hI
                      obtain ⟨z7, i27⟩ := s
                      obtain ⟨v153, hf, hp⟩ : ∃ (v153 : Value), Fr 177 a [(0, vl0), (1, .int .i64 quarters1), (2, .int .i64 n2), (7, v153), (8, .int .i64 round8), (27, .int .i64 i27)] ∧ Hp S w0 w (Res.slx Ek.c128 36 v153 z7 q1.2 :: ow) := hI
                      replace h : f_foghornlaw08_MixMoves.s2c z7 i27 = some x := h
                      unfold f_foghornlaw08_MixMoves.s2c at h
                      refine wp_seq ?_
                      refine wp_seq ?_
                      refine wp_reg ?_
                      refine st_move hf rfl rfl (by decide) ?_
                      clear hf; intro a ha hf; clear ha
                      refine st_move hf rfl rfl (by decide) ?_
                      clear hf; intro a ha hf; clear ha
                      refine st_len (E := Ek.c128) hf (by decide) Try.underlying24 rfl rfl (hp.sl (i := 0) rfl) ?_
                      clear hf; intro a ha hf; clear ha
                      refine st_ilss hf (by decide) rfl rfl rfl ?_
                      clear hf; intro a ha hf; clear ha
                      refine st_nil hf ?_
                      refine th_n ?_
                      refine wp_if hf rfl (fun hb => ?_) (fun hb => ?_)
                      · replace h := ifT h hb
                        refine wp_skip ?_
                        refine th_n ?_
                        refine wp_seq ?_
                        refine wp_block ?_
                        refine wp_reg ?_
                        refine st_move hf rfl rfl (by decide) ?_
                        clear hf; intro a ha hf; clear ha
                        refine st_move hf rfl rfl (by decide) ?_
                        clear hf; intro a ha hf; clear ha
                        refine st_move hf rfl rfl (by decide) ?_
                        clear hf; intro a ha hf; clear ha
                        refine st_move hf rfl rfl (by decide) ?_
                        clear hf; intro a ha hf; clear ha
                        obtain ⟨hc157, h⟩ := chk h
                        refine st_index (E := Ek.c128) hf (by decide) Try.underlying24 elt36 rfl rfl rfl (hp.sl (i := 0) rfl) hc157.1 hc157.2 ?_
                        clear hf; intro a ha hf; clear ha
                        refine st_ldC hf (by decide) pl36 rfl rfl (hp.sl (i := 0) rfl) hc157.1 hc157.2 ?_
                        clear hf; intro a b158 b159 y160 y161 ha hf; clear ha
                        refine st_imag hf (by decide) rfl rfl ?_
                        clear hf; intro a ha hf; clear ha
                        refine st_complex hf (by decide) rfl rfl rfl ?_
                        clear hf; intro a ha hf; clear ha
                        obtain ⟨hc162, h⟩ := chk h
                        refine st_index (E := Ek.c128) hf (by decide) Try.underlying24 elt36 rfl rfl rfl (hp.sl (i := 0) rfl) hc162.1 hc162.2 ?_
                        clear hf; intro a ha hf; clear ha
                        refine st_store (E := Ek.c128) hf elt36 hp (i := 0) rfl rfl rfl rfl (show Ek.c128.rep [.complex .f64 b159 4613937818241073152] ((gt z7 i27).2, (Fl.bits 4613937818241073152)) from ⟨_, _, rfl, y161, rfl⟩) hc162.1 hc162.2 ?_
                        clear hf; intro a w hf hp0; clear hp; have hp := hp0; clear hp0
                        replace hp : Hp _ _ w (Res.slx Ek.c128 36 v153 (z7.set (i27).toNat ((gt z7 i27).2, (Fl.bits 4613937818241073152))) q1.2 :: ow) := hp
                        refine st_nil hf ?_
                        refine ib_n ?_
                        refine th_n ?_
                        refine wp_reg ?_
                        refine st_move hf rfl rfl (by decide) ?_
                        clear hf; intro a ha hf; clear ha
                        refine st_iadd hf (by decide) rfl rfl rfl ?_
                        clear hf; intro a ha hf; clear ha
                        refine st_assign hf rfl rfl (by decide) ?_
                        clear hf; intro a ha hf; clear ha
                        refine st_nil hf ?_
                        obtain rfl := Option.some.inj h
                        exact rnd_l ⟨_, hf.sub ⟨rfl, rfl, rfl, rfl, rfl, rfl, trivial⟩, hp⟩
                      · replace h := ifF h hb
                        refine wp_exit ?_
                        refine th_e ?_
                        obtain rfl := Option.some.inj h
                        exact rnd_r (by simp) ⟨rfl, _, hf.sub ⟨rfl, rfl, rfl, rfl, rfl, trivial⟩, hp⟩
                    · clear hl hf hp
                      intro e a w hne hO
                      obtain ⟨rfl, v155, hf, hp⟩ := hO
                      refine ib_same ?_
                      refine ib_n ?_
                      refine th_n ?_
                      refine wp_reg ?_
                      refine st_move hf rfl rfl (by decide) ?_
                      clear hf; intro a ha hf; clear ha
                      refine st_iadd hf (by decide) rfl rfl rfl ?_
                      clear hf; intro a ha hf; clear ha
                      refine st_assign hf rfl rfl (by decide) ?_
                      clear hf; intro a ha hf; clear ha
                      refine st_nil hf ?_
                      obtain rfl := Option.some.inj h
                      exact rnd_l ⟨_, hf.sub ⟨rfl, rfl, rfl, rfl, rfl, trivial⟩, hp⟩
    · replace h := ifF h hb
      refine wp_exit ?_
      refine th_e ?_
      obtain rfl := Option.some.inj h
      have hp : Hp _ _ w (ow) := Hp.sel (pre := [Res.slx Ek.c128 36 v5 z7 q1.2]) (tail := ow) (rs' := []) hp [] (by decide) (by simp) rfl
      exact rnd_r (by simp) ⟨rfl, hf.sub ⟨rfl, rfl, trivial⟩, hp⟩
  · clear hl hf hp
    intro e a w hne hO
    cases q164 with
    | inl q165 =>
      replace h := smL h
      obtain ⟨rfl, hf, hp⟩ := hO
      refine ib_same ?_
      refine th_n ?_
      refine wp_seq ?_
      refine wp_reg ?_
      refine st_move hf rfl rfl (by decide) ?_
      clear hf; intro a ha hf; clear ha
      refine st_move hf rfl rfl (by decide) ?_
      clear hf; intro a ha hf; clear ha
      obtain ⟨q167, hcall168, h⟩ := bnd h
      refine st_call hf (by decide) Try.func22 rfl rfl rfl rfl rfl (f_foghornref08_Carrier_c hp _ _ hcall168) ?_
      rintro _ w ⟨v169, rfl, hp0⟩
      clear hp; have hp := hp0; clear hp0
      replace hp : Hp _ _ w (Res.sl Ek.c128 36 v169 q167.1 :: ow) := hp
      refine ⟨_, rfl, ?_⟩
      clear hf; intro a hf
      refine st_move hf rfl rfl (by decide) ?_
      clear hf; intro a ha hf; clear ha
      refine st_extract hf (by decide) rfl rfl rfl ?_
      clear hf; intro a ha hf; clear ha
      refine st_extract hf (by decide) rfl rfl rfl ?_
      clear hf; intro a ha hf; clear ha
      refine st_assign hf rfl rfl (by decide) ?_
      clear hf; intro a ha hf; clear ha
      refine st_assign hf rfl rfl (by decide) ?_
      clear hf; intro a ha hf; clear ha
      refine st_nil hf ?_
      refine th_n ?_
      refine wp_seq ?_
      refine wp_reg ?_
      refine st_move hf rfl rfl (by decide) ?_
      clear hf; intro a ha hf; clear ha
      refine st_move hf rfl rfl (by decide) ?_
      clear hf; intro a ha hf; clear ha
      obtain ⟨q171, hcall172, h⟩ := bnd h
      refine st_call hf (by decide) Try.func23 rfl rfl rfl rfl rfl (f_mix_Carrier_c hp _ _ hcall172) ?_
      rintro _ w ⟨v173, rfl, hp0⟩
      clear hp; have hp := hp0; clear hp0
      replace hp : Hp _ _ w (Res.sl Ek.c128 36 v173 q171.1 :: Res.sl Ek.c128 36 v169 q167.1 :: ow) := hp
      refine ⟨_, rfl, ?_⟩
      clear hf; intro a hf
      refine st_move hf rfl rfl (by decide) ?_
      clear hf; intro a ha hf; clear ha
      refine st_extract hf (by decide) rfl rfl rfl ?_
      clear hf; intro a ha hf; clear ha
      refine st_extract hf (by decide) rfl rfl rfl ?_
      clear hf; intro a ha hf; clear ha
      refine st_assign hf rfl rfl (by decide) ?_
      clear hf; intro a ha hf; clear ha
      refine st_assign hf rfl rfl (by decide) ?_
      clear hf; intro a ha hf; clear ha
      refine st_nil hf ?_
      refine th_n ?_
      refine wp_seq ?_
      refine wp_reg ?_
      refine st_move hf rfl rfl (by decide) ?_
      clear hf; intro a ha hf; clear ha
      refine st_move hf rfl rfl (by decide) ?_
      clear hf; intro a ha hf; clear ha
      obtain ⟨q175, hcall176, h⟩ := bnd h
      refine st_call hf (by decide) Try.func23 rfl rfl rfl rfl rfl (f_mix_Carrier_c hp _ _ hcall176) ?_
      rintro _ w ⟨v177, rfl, hp0⟩
      clear hp; have hp := hp0; clear hp0
      replace hp : Hp _ _ w (Res.sl Ek.c128 36 v177 q175.1 :: Res.sl Ek.c128 36 v173 q171.1 :: Res.sl Ek.c128 36 v169 q167.1 :: ow) := hp
      refine ⟨_, rfl, ?_⟩
      clear hf; intro a hf
      refine st_move hf rfl rfl (by decide) ?_
      clear hf; intro a ha hf; clear ha
      refine st_extract hf (by decide) rfl rfl rfl ?_
      clear hf; intro a ha hf; clear ha
      refine st_extract hf (by decide) rfl rfl rfl ?_
      clear hf; intro a ha hf; clear ha
      refine st_assign hf rfl rfl (by decide) ?_
      clear hf; intro a ha hf; clear ha
      refine st_assign hf rfl rfl (by decide) ?_
      clear hf; intro a ha hf; clear ha
      refine st_nil hf ?_
      refine th_n ?_
      refine wp_seq ?_
      refine wp_reg ?_
      refine st_move hf rfl rfl (by decide) ?_
      clear hf; intro a ha hf; clear ha
      refine st_move hf rfl rfl (by decide) ?_
      clear hf; intro a ha hf; clear ha
      refine st_ieql hf (by decide) rfl rfl rfl ?_
      clear hf; intro a ha hf; clear ha
      refine st_move hf rfl rfl (by decide) ?_
      clear hf; intro a ha hf; clear ha
      obtain ⟨z181, hz179, h⟩ := bnd h
      refine wpList_cut 5 (fun a w => Fr 177 a [(176, .bool z181)] ∧ Hp S w0 w (Res.sl Ek.c128 36 v177 q175.1 :: Res.sl Ek.c128 36 v169 q167.1 :: ow)) ?_ ?_
      · rcases Bool.eq_false_or_eq_true (q171.2 == q167.2) with hb180 | hb180
        · skip
          replace hz179 := ifT hz179 hb180
          refine st_move hf (wantY hf rfl rfl hb180) rfl (by decide) ?_
          clear hf; intro a ha hf; clear ha
          refine st_move hf (wantY hf rfl rfl hb180) rfl (by decide) ?_
          clear hf; intro a ha hf; clear ha
          refine st_move hf (wantY hf rfl rfl hb180) rfl (by decide) ?_
          clear hf; intro a ha hf; clear ha
          obtain ⟨q182, hcall183, hz179⟩ := bnd hz179
          obtain ⟨S184, hp185, rd186, up187, bk188⟩ := Hp.lendS hp (i := 0) rfl
          obtain ⟨S189, hp190, rd191, up192, bk193⟩ := Hp.lendS hp185 (i := 1) rfl
          have hp194 : Hp _ _ w (Res.sl Ek.c128 36 v173 q171.1 :: ow) := Hp.sel (pre := [Res.sl Ek.c128 36 v173 q171.1]) (tail := ow) (rs' := [Res.sl Ek.c128 36 v173 q171.1]) hp190 [0] (by decide) (by simp) rfl
          refine st_call hf (by decide) Try.func12 rfl rfl (wantY hf rfl rfl hb180) rfl rfl (f_foghornlaw08_fresh_c _ _ _ _ ((rd186.now hp185).mono up192) _ _ rd191 hp194 hcall183) ?_
          rintro _ w ⟨rfl, hp0⟩
          have hp0 := bk193 _ _ hp0
          have hp0 := bk188 _ _ hp0
          clear hp; have hp := hp0; clear hp0
          replace hp : Hp _ _ w (Res.sl Ek.c128 36 v177 q175.1 :: Res.sl Ek.c128 36 v169 q167.1 :: ow) := hp
          refine ⟨_, rfl, ?_⟩
          clear hf; intro a hf
          obtain rfl := Option.some.inj hz179
          refine st_pick (v := .bool q182) hf rfl rfl (fun hb' => ?_) (fun hb' => ?_) (by decide) ?_
          · rfl
          · exact absurd (hb180.symm.trans hb') (by decide)
          clear hf; intro a ha hf; clear ha
          refine st_nil hf (th_n ?_)
          exact ⟨hf.sub ⟨rfl, trivial⟩, hp⟩
        · skip
          replace hz179 := ifF hz179 hb180
          refine st_skip hf (wantN hf rfl rfl hb180) rfl (by decide) ?_ rfl
          clear hf; intro a hf
          refine st_skip hf (wantN hf rfl rfl hb180) rfl (by decide) ?_ rfl
          clear hf; intro a hf
          refine st_skip hf (wantN hf rfl rfl hb180) rfl (by decide) ?_ rfl
          clear hf; intro a hf
          refine st_skip hf (wantN hf rfl rfl hb180) rfl (by decide) ?_ rfl
          clear hf; intro a hf
          obtain rfl := Option.some.inj hz179
          refine st_pick (v := .bool false) hf rfl rfl (fun hb' => ?_) (fun hb' => ?_) (by decide) ?_
          · exact absurd (hb180.symm.trans hb') (by decide)
          · rfl
          clear hf; intro a ha hf; clear ha
          refine st_nil hf (th_n ?_)
          have hp : Hp _ _ w (Res.sl Ek.c128 36 v177 q175.1 :: Res.sl Ek.c128 36 v169 q167.1 :: ow) := Hp.sel (pre := [Res.sl Ek.c128 36 v177 q175.1, Res.sl Ek.c128 36 v173 q171.1, Res.sl Ek.c128 36 v169 q167.1]) (tail := ow) (rs' := [Res.sl Ek.c128 36 v177 q175.1, Res.sl Ek.c128 36 v169 q167.1]) hp [0, 2] (by decide) (by simp) rfl
          exact ⟨hf.sub ⟨rfl, trivial⟩, hp⟩
      · rintro a w ⟨hf, hp⟩
        refine st_assign hf rfl rfl (by decide) ?_
        clear hf; intro a ha hf; clear ha
        refine st_nil hf ?_
        refine th_n ?_
        refine wp_ret ?_
        obtain rfl := Option.some.inj h
        have hp : Hp _ _ w (ow) := Hp.sel (pre := [Res.sl Ek.c128 36 v177 q175.1, Res.sl Ek.c128 36 v169 q167.1]) (tail := ow) (rs' := []) hp [] (by decide) (by simp) rfl
        exact ⟨rfl, ⟨hf.sub ⟨rfl, trivial⟩, hp⟩⟩
    | inr q166 =>
      replace h := smR h
      obtain ⟨rfl, hf, hp⟩ := hO
      refine ib_r ?_
      refine th_r ?_
      obtain rfl := Option.some.inj h
      exact ⟨rfl, ⟨hf.sub ⟨rfl, trivial⟩, hp⟩⟩

end Go.Proofs.Ytfppofbdmhihpaa
