/- The functions foghorn foghornlaw08.MixLines: what each answers, as a plain function, and that its call answers it; printed by gen.py. -/
import Derived.Test.YtfppofbdmhihpaaProg
import Derived.Test.YtfppofbdmhihpaaGlN
import Derived.KernelRfl
set_option linter.unusedVariables false
set_option maxRecDepth 100000
set_option maxHeartbeats 4000000
namespace Go.Proofs.Ytfppofbdmhihpaa
open GL
theorem elt36 : ElT Try.prog Ek.c128 36 16 (Fl.bits 0, Fl.bits 0) := ElT.of (z := .complex .f64 0 0) (by kernel_rfl) ⟨_, _, rfl, rfl, rfl⟩
theorem elt37 : ElT Try.prog Ek.f64 37 8 (Fl.bits 0) := ElT.of (z := .float .f64 0) (by kernel_rfl) ⟨_, rfl, rfl⟩
theorem elt42 : ElT Try.prog (Ek.int .u64) 42 8 (0 : Int) := ElT.of (z := .int .u64 0) (by kernel_rfl) rfl
theorem pl36 : Plain Try.prog 36 := ⟨⟨_, Try.underlying36, trivial⟩⟩
theorem pl37 : Plain Try.prog 37 := ⟨⟨_, Try.underlying37, trivial⟩⟩
theorem pl42 : Plain Try.prog 42 := ⟨⟨_, Try.underlying42, trivial⟩⟩
theorem pl57 : Plain Try.prog 57 := ⟨⟨_, Try.underlying57, trivial⟩⟩
noncomputable def f_foghornlaw08_numbers.s1c (l0 : (List Int)) (out3 : (List (Fl × Fl))) (i4 : Int) : Option (((List (Fl × Fl)) × Int) ⊕ (List (Fl × Fl))) := (if (decide ((IntKind.i64.wrap (i4 + (1 : Int))) < (l0.length : Int))) = true then (if 0 ≤ i4 ∧ i4 < (l0.length : Int) then (if 0 ≤ (IntKind.i64.wrap (i4 + (1 : Int))) ∧ (IntKind.i64.wrap (i4 + (1 : Int))) < (l0.length : Int) then (if (out3.length + ([((Fl.bits ((gt l0 i4)).toNat), (Fl.bits ((gt l0 (IntKind.i64.wrap (i4 + (1 : Int))))).toNat))]).length) * 16 ≤ 140737488355328 then (some (Sum.inl ((out3 ++ [((Fl.bits ((gt l0 i4)).toNat), (Fl.bits ((gt l0 (IntKind.i64.wrap (i4 + (1 : Int))))).toNat))]), (IntKind.i64.wrap (i4 + (2 : Int)))))) else none) else none) else none) else (some (Sum.inr out3)))
noncomputable def f_foghornlaw08_numbers.s1 (l0 : (List Int)) (s : ((List (Fl × Fl)) × Int)) : Option (((List (Fl × Fl)) × Int) ⊕ (List (Fl × Fl))) := f_foghornlaw08_numbers.s1c l0 s.1 s.2
noncomputable def f_foghornlaw08_numbers (l0 : (List Int)) : Option ((List (Fl × Fl)) × (List (Fl × Fl))) := ((loop (f_foghornlaw08_numbers.s1 l0) ([], (0 : Int))).bind (fun q11 => (if (q11.length + ([(Fl.bits 4651892959631900672, Fl.bits 0)]).length) * 16 ≤ 140737488355328 then (if 0 ≤ (q11.length : Int) ∧ (q11.length : Int) ≤ (((q11 ++ [(Fl.bits 4651892959631900672, Fl.bits 0)]) ++ ([] : List (Fl × Fl))).length : Int) then (some ((((q11 ++ [(Fl.bits 4651892959631900672, Fl.bits 0)]) ++ ([] : List (Fl × Fl))).take (((q11.length : Int)).toNat)), (((q11 ++ [(Fl.bits 4651892959631900672, Fl.bits 0)]) ++ ([] : List (Fl × Fl))).drop (((q11.length : Int)).toNat)))) else none) else none)))
theorem f_foghornlaw08_numbers_c {S : Nat → Prop} {w0 w : World} {ow : List Res} (hp : Hp S w0 w ow) (vl0 : Value) (l0 : (List Int)) (hl0 : RdS (Ek.int .u64) S w0 vl0 l0) {r : ((List (Fl × Fl)) × (List (Fl × Fl)))} (h : f_foghornlaw08_numbers l0 = some r) :
    Calls Try.prog 9 #[vl0] w (fun e w' => ∃ (u0 : Value), e = .returned (u0) ∧ Hp S w0 w' (Res.slx Ek.c128 36 u0 r.1 r.2 :: ow)) := by
  unfold f_foghornlaw08_numbers at h
  refine enter (n := 35) (args := [vl0]) Try.func9 rfl rfl (Nat.le_of_ble_eq_true rfl) fun a hf => ?_
  replace hf : Fr 35 a [(0, vl0)] := hf
  refine wp_mono (Q := fun e a w => e = .ret ∧ ∃ (u0 : Value), Fr 35 a [(2, u0)] ∧ Hp S w0 w (Res.slx Ek.c128 36 u0 r.1 r.2 :: ow)) ?_ ?_
  rotate_left
  · rintro e a w ⟨rfl, x0, hf, hp⟩
    exact ret1 hf rfl rfl ⟨x0, rfl, hp⟩
  refine wp_seq ?_
  refine wp_reg ?_
  refine st_assign hf rfl rfl (by decide) ?_
  clear hf; intro a ha hf; clear ha
  refine st_nil hf ?_
  refine th_n ?_
  refine wp_seq ?_
  refine wp_reg ?_
  refine st_assign hf rfl rfl (by decide) ?_
  clear hf; intro a ha hf; clear ha
  refine st_nil hf ?_
  refine th_n ?_
  refine wp_seq ?_
  refine wp_seq ?_
  refine wp_reg ?_
  refine st_assign hf rfl rfl (by decide) ?_
  clear hf; intro a ha hf; clear ha
  refine st_nil hf ?_
  refine th_n ?_
  refine wp_block ?_
  obtain ⟨q11, hl, h⟩ := bnd h
  have hp := hp.nil Ek.c128 36
  refine wp_loop_pure (f := (f_foghornlaw08_numbers.s1 l0)) (s := ([], (0 : Int))) (fun s a w => ∃ (v1 : Value), Fr 35 a [(0, vl0), (3, v1), (4, .int .i64 s.2)] ∧ Hp S w0 w (Res.sl Ek.c128 36 v1 s.1 :: ow)) (fun q e a w => e = .exit 0 ∧ ∃ (v3 : Value), Fr 35 a [(3, v3)] ∧ Hp S w0 w (Res.sl Ek.c128 36 v3 q :: ow)) ?_ hl ⟨_, hf.sub ⟨rfl, rfl, rfl, trivial⟩, hp⟩ ?_
  · clear hl hf hp
    intro s x a w h hI
    obtain ⟨out3, i4⟩ := s
    obtain ⟨v1, hf, hp⟩ : ∃ (v1 : Value), Fr 35 a [(0, vl0), (3, v1), (4, .int .i64 i4)] ∧ Hp S w0 w (Res.sl Ek.c128 36 v1 out3 :: ow) := hI
    replace h : f_foghornlaw08_numbers.s1c l0 out3 i4 = some x := h
    unfold f_foghornlaw08_numbers.s1c at h
    refine wp_seq ?_
    refine wp_seq ?_
    refine wp_reg ?_
    refine st_move hf rfl rfl (by decide) ?_
    clear hf; intro a ha hf; clear ha
    refine st_iadd hf (by decide) rfl rfl rfl ?_
    clear hf; intro a ha hf; clear ha
    refine st_move hf rfl rfl (by decide) ?_
    clear hf; intro a ha hf; clear ha
    refine st_len (E := (Ek.int .u64)) hf (by decide) Try.underlying22 rfl rfl (hl0.sl hp) ?_
    clear hf; intro a ha hf; clear ha
    refine st_ilss hf (by decide) rfl rfl rfl ?_
    clear hf; intro a ha hf; clear ha
    refine st_nil hf ?_
    refine th_n ?_
    refine wp_if hf rfl (fun hb => ?_) (fun hb => ?_)
    · replace h := ifT h hb
      refine wp_skip ?_
      refine th_n ?_
      refine wp_seq ?_
      refine wp_block ?_
      obtain ⟨hc5, h⟩ := chk h
      obtain ⟨hc6, h⟩ := chk h
      obtain ⟨hc9, h⟩ := chk h
      refine wp_cutN (fun a w => ∃ (v7 : Value) (v10 : Value), Fr 35 a [(0, vl0), (3, v10), (4, .int .i64 i4)] ∧ Hp S w0 w (Res.sl Ek.c128 36 v7 ([((Fl.bits ((gt l0 i4)).toNat), (Fl.bits ((gt l0 (IntKind.i64.wrap (i4 + (1 : Int))))).toNat))]) :: Res.sl Ek.c128 36 v10 (out3 ++ [((Fl.bits ((gt l0 i4)).toNat), (Fl.bits ((gt l0 (IntKind.i64.wrap (i4 + (1 : Int))))).toNat))]) :: ow)) ?_ ?_
      · have hp := hp.same (Same.drew w)
        refine dr_begin' (fun a w => ∃ (v7 : Value) (v10 : Value), Fr 35 a [(0, vl0), (3, v10), (4, .int .i64 i4)] ∧ Hp S w0 w (Res.sl Ek.c128 36 v7 ([((Fl.bits ((gt l0 i4)).toNat), (Fl.bits ((gt l0 (IntKind.i64.wrap (i4 + (1 : Int))))).toNat))]) :: Res.sl Ek.c128 36 v10 (out3 ++ [((Fl.bits ((gt l0 i4)).toNat), (Fl.bits ((gt l0 (IntKind.i64.wrap (i4 + (1 : Int))))).toNat))]) :: ow)) (fun w' => ∃ l, Hp S w0 w' l) [] (by kernel_rfl) ?_
        refine dr_take 0 (v1) rfl (by kernel_rfl) (by kernel_rfl) (by kernel_rfl) (by kernel_rfl) rfl rfl hf (by decide) rfl (fun w hp => ?_) ⟨_, hp⟩ ?_
        · obtain ⟨_, hp⟩ := hp
          refine st_move hf rfl rfl (by decide) ?_
          clear hf; intro a ha hf
          exact st_nil hf (th_n ⟨ha, rfl⟩)
        clear hf; intro a hf
        refine dr_take 1 (vl0) rfl (by kernel_rfl) (by kernel_rfl) (by kernel_rfl) (by kernel_rfl) rfl rfl hf (by decide) rfl (fun w hp => ?_) ⟨_, hp⟩ ?_
        · obtain ⟨_, hp⟩ := hp
          refine st_move hf rfl rfl (by decide) ?_
          clear hf; intro a ha hf
          exact st_nil hf (th_n ⟨ha, rfl⟩)
        clear hf; intro a hf
        refine dr_take 2 (.int .i64 i4) rfl (by kernel_rfl) (by kernel_rfl) (by kernel_rfl) (by kernel_rfl) rfl rfl hf (by decide) rfl (fun w hp => ?_) ⟨_, hp⟩ ?_
        · obtain ⟨_, hp⟩ := hp
          refine st_move hf rfl rfl (by decide) ?_
          clear hf; intro a ha hf
          exact st_nil hf (th_n ⟨ha, rfl⟩)
        clear hf; intro a hf
        refine dr_take 3 (eptr vl0 i4 1) rfl (by kernel_rfl) (by kernel_rfl) (by kernel_rfl) (by kernel_rfl) rfl rfl hf (by decide) rfl (fun w hp => ?_) ⟨_, hp⟩ ?_
        · obtain ⟨_, hp⟩ := hp
          refine st_index (E := (Ek.int .u64)) hf (by decide) Try.underlying22 elt42 rfl rfl rfl (hl0.sl hp) hc5.1 hc5.2 ?_
          clear hf; intro a ha hf
          exact st_nil hf (th_n ⟨ha, rfl⟩)
        clear hf; intro a hf
        refine dr_take 4 (.int .u64 (gt l0 i4)) rfl (by kernel_rfl) (by kernel_rfl) (by kernel_rfl) (by kernel_rfl) rfl rfl hf (by decide) rfl (fun w hp => ?_) ⟨_, hp⟩ ?_
        · obtain ⟨_, hp⟩ := hp
          refine st_ldI hf (by decide) pl42 rfl rfl (hl0.sl hp) hc5.1 hc5.2 ?_
          clear hf; intro a ha hf
          exact st_nil hf (th_n ⟨ha, rfl⟩)
        clear hf; intro a hf
        refine dr_take 6 (vl0) rfl (by kernel_rfl) (by kernel_rfl) (by kernel_rfl) (by kernel_rfl) rfl rfl hf (by decide) rfl (fun w hp => ?_) ⟨_, hp⟩ ?_
        · obtain ⟨_, hp⟩ := hp
          refine st_move hf rfl rfl (by decide) ?_
          clear hf; intro a ha hf
          exact st_nil hf (th_n ⟨ha, rfl⟩)
        clear hf; intro a hf
        refine dr_take 7 (.int .i64 i4) rfl (by kernel_rfl) (by kernel_rfl) (by kernel_rfl) (by kernel_rfl) rfl rfl hf (by decide) rfl (fun w hp => ?_) ⟨_, hp⟩ ?_
        · obtain ⟨_, hp⟩ := hp
          refine st_move hf rfl rfl (by decide) ?_
          clear hf; intro a ha hf
          exact st_nil hf (th_n ⟨ha, rfl⟩)
        clear hf; intro a hf
        refine dr_take 8 (.int .i64 (IntKind.i64.wrap (i4 + (1 : Int)))) rfl (by kernel_rfl) (by kernel_rfl) (by kernel_rfl) (by kernel_rfl) rfl rfl hf (by decide) rfl (fun w hp => ?_) ⟨_, hp⟩ ?_
        · obtain ⟨_, hp⟩ := hp
          refine st_iadd hf (by decide) rfl rfl rfl ?_
          clear hf; intro a ha hf
          exact st_nil hf (th_n ⟨ha, rfl⟩)
        clear hf; intro a hf
        refine dr_take 9 (eptr vl0 (IntKind.i64.wrap (i4 + (1 : Int))) 1) rfl (by kernel_rfl) (by kernel_rfl) (by kernel_rfl) (by kernel_rfl) rfl rfl hf (by decide) rfl (fun w hp => ?_) ⟨_, hp⟩ ?_
        · obtain ⟨_, hp⟩ := hp
          refine st_index (E := (Ek.int .u64)) hf (by decide) Try.underlying22 elt42 rfl rfl rfl (hl0.sl hp) hc6.1 hc6.2 ?_
          clear hf; intro a ha hf
          exact st_nil hf (th_n ⟨ha, rfl⟩)
        clear hf; intro a hf
        refine dr_take 10 (.int .u64 (gt l0 (IntKind.i64.wrap (i4 + (1 : Int))))) rfl (by kernel_rfl) (by kernel_rfl) (by kernel_rfl) (by kernel_rfl) rfl rfl hf (by decide) rfl (fun w hp => ?_) ⟨_, hp⟩ ?_
        · obtain ⟨_, hp⟩ := hp
          refine st_ldI hf (by decide) pl42 rfl rfl (hl0.sl hp) hc6.1 hc6.2 ?_
          clear hf; intro a ha hf
          exact st_nil hf (th_n ⟨ha, rfl⟩)
        clear hf; intro a hf
        refine dr_one 5 rfl (by kernel_rfl) ?_
        refine st_extern (ex := Extern.MathFloatBits.float64frombits) (r := .float .f64 ((gt l0 i4)).toNat) (f := 24) (vs := [.int .u64 (gt l0 i4)]) hf (by decide) Try.func24 rfl rfl (by kernel_rfl) (by kernel_rfl) rfl rfl rfl rfl ?_
        clear hf; intro a ha hf; clear ha
        refine st_nil hf (th_n ⟨fun _ => ⟨_, hp⟩, ?_⟩)
        refine dr_one 11 rfl (by kernel_rfl) ?_
        refine st_extern (ex := Extern.MathFloatBits.float64frombits) (r := .float .f64 ((gt l0 (IntKind.i64.wrap (i4 + (1 : Int))))).toNat) (f := 24) (vs := [.int .u64 (gt l0 (IntKind.i64.wrap (i4 + (1 : Int))))]) hf (by decide) Try.func24 rfl rfl (by kernel_rfl) (by kernel_rfl) rfl rfl rfl rfl ?_
        clear hf; intro a ha hf; clear ha
        refine st_nil hf (th_n ⟨fun _ => ⟨_, hp⟩, ?_⟩)
        refine dr_take 12 (.complex .f64 ((gt l0 i4)).toNat ((gt l0 (IntKind.i64.wrap (i4 + (1 : Int))))).toNat) rfl (by kernel_rfl) (by kernel_rfl) (by kernel_rfl) (by kernel_rfl) rfl rfl hf (by decide) rfl (fun w hp => ?_) ⟨_, hp⟩ ?_
        · obtain ⟨_, hp⟩ := hp
          refine st_complex hf (by decide) rfl rfl rfl ?_
          clear hf; intro a ha hf
          exact st_nil hf (th_n ⟨ha, rfl⟩)
        clear hf; intro a hf
        refine dr_one 13 rfl (by kernel_rfl) ?_
        refine st_build (E := Ek.c128) (xs := [((Fl.bits ((gt l0 i4)).toNat), (Fl.bits ((gt l0 (IntKind.i64.wrap (i4 + (1 : Int))))).toNat))]) hf (by decide) elt36 Try.underlying24 hp (vals := #[(0, .complex .f64 ((gt l0 i4)).toNat ((gt l0 (IntKind.i64.wrap (i4 + (1 : Int))))).toNat)]) (cells := #[.complex .f64 ((gt l0 i4)).toNat ((gt l0 (IntKind.i64.wrap (i4 + (1 : Int))))).toNat]) rfl (by simp [hf.ev (x := (Operand.tmp 25)) rfl]) (by decide) (by decide) (z := .complex .f64 0 0) (by kernel_rfl) (by kernel_rfl) rfl (reps_cons (cs := [.complex .f64 ((gt l0 i4)).toNat ((gt l0 (IntKind.i64.wrap (i4 + (1 : Int))))).toNat]) (show Ek.c128.rep [.complex .f64 ((gt l0 i4)).toNat ((gt l0 (IntKind.i64.wrap (i4 + (1 : Int))))).toNat] ((Fl.bits ((gt l0 i4)).toNat), (Fl.bits ((gt l0 (IntKind.i64.wrap (i4 + (1 : Int))))).toNat)) from ⟨_, _, rfl, rfl, rfl⟩) (reps_nil _)) ?_
        clear hf; intro a w v7 hf hp0; clear hp; have hp := hp0; clear hp0
        replace hp : Hp _ _ w (Res.sl Ek.c128 36 v7 ([((Fl.bits ((gt l0 i4)).toNat), (Fl.bits ((gt l0 (IntKind.i64.wrap (i4 + (1 : Int))))).toNat))]) :: Res.sl Ek.c128 36 v1 out3 :: ow) := hp
        refine st_nil hf (th_n ⟨fun _ => ⟨_, hp⟩, ?_⟩)
        refine dr_one 14 rfl (by kernel_rfl) ?_
        refine st_append (E := Ek.c128) hf (by decide) elt36 Try.underlying24 (by decide) hp (i := 1) rfl rfl rfl rfl (hp.sl (i := 0) rfl) hc9 ?_
        clear hf; intro a w v10 hf hp0; clear hp; have hp := hp0; clear hp0
        replace hp : Hp _ _ w (Res.sl Ek.c128 36 v7 ([((Fl.bits ((gt l0 i4)).toNat), (Fl.bits ((gt l0 (IntKind.i64.wrap (i4 + (1 : Int))))).toNat))]) :: Res.sl Ek.c128 36 v10 (out3 ++ [((Fl.bits ((gt l0 i4)).toNat), (Fl.bits ((gt l0 (IntKind.i64.wrap (i4 + (1 : Int))))).toNat))]) :: ow) := hp
        refine st_nil hf (th_n ⟨fun _ => ⟨_, hp⟩, ?_⟩)
        refine dr_take 15 (v10) rfl (by kernel_rfl) (by kernel_rfl) (by kernel_rfl) (by kernel_rfl) rfl rfl hf (by decide) rfl (fun w hp => ?_) ⟨_, hp⟩ ?_
        · obtain ⟨_, hp⟩ := hp
          refine st_assign hf rfl rfl (by decide) ?_
          clear hf; intro a ha hf
          exact st_nil hf (th_n ⟨ha, rfl⟩)
        clear hf; intro a hf
        refine dr_end (by kernel_rfl) ?_ _
        exact ⟨v7, v10, hf.sub ⟨rfl, rfl, rfl, trivial⟩, hp⟩
      · rintro a w ⟨v7, v10, hf, hp⟩
        refine ib_n ?_
        refine th_n ?_
        refine wp_reg ?_
        refine st_move hf rfl rfl (by decide) ?_
        clear hf; intro a ha hf; clear ha
        refine st_iadd hf (by decide) rfl rfl rfl ?_
        clear hf; intro a ha hf; clear ha
        refine st_assign hf rfl rfl (by decide) ?_
        clear hf; intro a ha hf; clear ha
        refine st_nil hf ?_
        obtain rfl := Option.some.inj h
        have hp : Hp _ _ w (Res.sl Ek.c128 36 v10 (out3 ++ [((Fl.bits ((gt l0 i4)).toNat), (Fl.bits ((gt l0 (IntKind.i64.wrap (i4 + (1 : Int))))).toNat))]) :: ow) := Hp.sel (pre := [Res.sl Ek.c128 36 v7 ([((Fl.bits ((gt l0 i4)).toNat), (Fl.bits ((gt l0 (IntKind.i64.wrap (i4 + (1 : Int))))).toNat))]), Res.sl Ek.c128 36 v10 (out3 ++ [((Fl.bits ((gt l0 i4)).toNat), (Fl.bits ((gt l0 (IntKind.i64.wrap (i4 + (1 : Int))))).toNat))])]) (tail := ow) (rs' := [Res.sl Ek.c128 36 v10 (out3 ++ [((Fl.bits ((gt l0 i4)).toNat), (Fl.bits ((gt l0 (IntKind.i64.wrap (i4 + (1 : Int))))).toNat))])]) hp [1] (by decide) (by simp) rfl
        exact rnd_l ⟨_, hf.sub ⟨rfl, rfl, rfl, trivial⟩, hp⟩
    · replace h := ifF h hb
      refine wp_exit ?_
      refine th_e ?_
      obtain rfl := Option.some.inj h
      exact rnd_r (by simp) ⟨rfl, _, hf.sub ⟨rfl, trivial⟩, hp⟩
  · clear hl hf hp
    intro e a w hne hO
    obtain ⟨rfl, v3, hf, hp⟩ := hO
    refine ib_same ?_
    refine th_n ?_
    refine wp_seq ?_
    refine wp_reg ?_
    refine st_move hf rfl rfl (by decide) ?_
    clear hf; intro a ha hf; clear ha
    refine st_len (E := Ek.c128) hf (by decide) Try.underlying24 rfl rfl (hp.sl (i := 0) rfl) ?_
    clear hf; intro a ha hf; clear ha
    refine st_assign hf rfl rfl (by decide) ?_
    clear hf; intro a ha hf; clear ha
    refine st_nil hf ?_
    refine th_n ?_
    refine wp_seq ?_
    refine wp_reg ?_
    refine st_move hf rfl rfl (by decide) ?_
    clear hf; intro a ha hf; clear ha
    refine st_build (E := Ek.c128) (xs := [(Fl.bits 4651892959631900672, Fl.bits 0)]) hf (by decide) elt36 Try.underlying24 hp (vals := #[(0, .complex .f64 4651892959631900672 0)]) (cells := #[.complex .f64 4651892959631900672 0]) rfl (by simp [hf.ev (x := (Operand.const (.complex .f64 4651892959631900672 0))) rfl]) (by decide) (by decide) (z := .complex .f64 0 0) (by kernel_rfl) (by kernel_rfl) rfl (reps_cons (cs := [.complex .f64 4651892959631900672 0]) (show Ek.c128.rep [.complex .f64 4651892959631900672 0] (Fl.bits 4651892959631900672, Fl.bits 0) from ⟨_, _, rfl, rfl, rfl⟩) (reps_nil _)) ?_
    clear hf; intro a w v13 hf hp0; clear hp; have hp := hp0; clear hp0
    replace hp : Hp _ _ w (Res.sl Ek.c128 36 v13 ([(Fl.bits 4651892959631900672, Fl.bits 0)]) :: Res.sl Ek.c128 36 v3 q11 :: ow) := hp
    obtain ⟨hc15, h⟩ := chk h
    refine st_append (E := Ek.c128) hf (by decide) elt36 Try.underlying24 (by decide) hp (i := 1) rfl rfl rfl rfl (hp.sl (i := 0) rfl) hc15 ?_
    clear hf; intro a w v16 hf hp0; clear hp; have hp := hp0; clear hp0
    replace hp : Hp _ _ w (Res.sl Ek.c128 36 v13 ([(Fl.bits 4651892959631900672, Fl.bits 0)]) :: Res.sl Ek.c128 36 v16 (q11 ++ [(Fl.bits 4651892959631900672, Fl.bits 0)]) :: ow) := hp
    refine st_move hf rfl rfl (by decide) ?_
    clear hf; intro a ha hf; clear ha
    obtain ⟨hc17, h⟩ := chk h
    have hc18 : 0 ≤ ((q11.length : Int)).toNat := by omega
    have hc19 : ((q11.length : Int)).toNat ≤ ((q11 ++ [(Fl.bits 4651892959631900672, Fl.bits 0)]) ++ ([] : List (Fl × Fl))).length := by omega
    refine st_cutX (E := Ek.c128) hf (by decide) Try.underlying24 elt36 hp (i := 1) rfl rfl rfl (.inl ⟨rfl, rfl⟩) (.inr ⟨_, _, rfl, evI rfl (by omega)⟩) hc18 hc19 ?_
    clear hf; intro a ha hf; clear ha
    replace hp : Hp _ _ w (Res.sl Ek.c128 36 v13 ([(Fl.bits 4651892959631900672, Fl.bits 0)]) :: Res.slx Ek.c128 36 (GL.cut v16 0 (((q11.length : Int)).toNat) 1) (((q11 ++ [(Fl.bits 4651892959631900672, Fl.bits 0)]) ++ ([] : List (Fl × Fl))).take (((q11.length : Int)).toNat)) (((q11 ++ [(Fl.bits 4651892959631900672, Fl.bits 0)]) ++ ([] : List (Fl × Fl))).drop (((q11.length : Int)).toNat)) :: ow) := hp.cutOwn (i := 1) rfl hc19
    refine st_assign hf rfl rfl (by decide) ?_
    clear hf; intro a ha hf; clear ha
    refine st_nil hf ?_
    refine th_n ?_
    refine wp_ret ?_
    obtain rfl := Option.some.inj h
    have hp : Hp _ _ w (Res.slx Ek.c128 36 (GL.cut v16 0 (((q11.length : Int)).toNat) 1) (((q11 ++ [(Fl.bits 4651892959631900672, Fl.bits 0)]) ++ ([] : List (Fl × Fl))).take (((q11.length : Int)).toNat)) (((q11 ++ [(Fl.bits 4651892959631900672, Fl.bits 0)]) ++ ([] : List (Fl × Fl))).drop (((q11.length : Int)).toNat)) :: ow) := Hp.sel (pre := [Res.sl Ek.c128 36 v13 ([(Fl.bits 4651892959631900672, Fl.bits 0)]), Res.slx Ek.c128 36 (GL.cut v16 0 (((q11.length : Int)).toNat) 1) (((q11 ++ [(Fl.bits 4651892959631900672, Fl.bits 0)]) ++ ([] : List (Fl × Fl))).take (((q11.length : Int)).toNat)) (((q11 ++ [(Fl.bits 4651892959631900672, Fl.bits 0)]) ++ ([] : List (Fl × Fl))).drop (((q11.length : Int)).toNat))]) (tail := ow) (rs' := [Res.slx Ek.c128 36 (GL.cut v16 0 (((q11.length : Int)).toNat) 1) (((q11 ++ [(Fl.bits 4651892959631900672, Fl.bits 0)]) ++ ([] : List (Fl × Fl))).take (((q11.length : Int)).toNat)) (((q11 ++ [(Fl.bits 4651892959631900672, Fl.bits 0)]) ++ ([] : List (Fl × Fl))).drop (((q11.length : Int)).toNat))]) hp [1] (by decide) (by simp) rfl
    exact ⟨rfl, ⟨_, hf.sub ⟨rfl, trivial⟩, hp⟩⟩

noncomputable def f_foghornref08_Turn.s1c (z0 : (Fl × Fl)) (k5 : Int) : Option (((Fl × Fl) × Int) ⊕ (Fl × Fl)) := (if (decide ((0 : Int) < k5)) = true then (some (Sum.inl (((fneg z0.2), z0.1), (IntKind.i64.wrap (k5 - (1 : Int)))))) else (some (Sum.inr z0)))
noncomputable def f_foghornref08_Turn.s1  (s : ((Fl × Fl) × Int)) : Option (((Fl × Fl) × Int) ⊕ (Fl × Fl)) := f_foghornref08_Turn.s1c s.1 s.2
noncomputable def f_foghornref08_Turn (z0 : (Fl × Fl)) (n1 : Int) : Option (Fl × Fl) := ((loop f_foghornref08_Turn.s1 (z0, (((IntKind.i64.wrap (((n1).tmod (4 : Int)) + (4 : Int)))).tmod (4 : Int)))).bind (fun q9 => (some q9)))
theorem f_foghornref08_Turn_c {S : Nat → Prop} {w0 w : World} {ow : List Res} (hp : Hp S w0 w ow) (bz0 cz0 : Nat) (z0 : Fl × Fl) (hz0 : z0.1.rep bz0) (kz0 : z0.2.rep cz0) (n1 : Int) {r : (Fl × Fl)} (h : f_foghornref08_Turn z0 n1 = some r) :
    Calls Try.prog 35 #[.complex .f64 bz0 cz0, .int .i64 n1] w (fun e w' => ∃ (b0 : Nat) (b1 : Nat), e = .returned (.complex .f64 b0 b1) ∧ Fl.rep b0 r.1 ∧ Fl.rep b1 r.2 ∧ Hp S w0 w' (ow)) := by
  unfold f_foghornref08_Turn at h
  refine enter (n := 21) (args := [.complex .f64 bz0 cz0, .int .i64 n1]) Try.func35 rfl rfl (Nat.le_of_ble_eq_true rfl) fun a hf => ?_
  replace hf : Fr 21 a [(0, .complex .f64 bz0 cz0), (1, .int .i64 n1)] := hf
  refine wp_mono (Q := fun e a w => e = .ret ∧ ∃ (b0 : Nat) (b1 : Nat), Fr 21 a [(4, .complex .f64 b0 b1)] ∧ Fl.rep b0 r.1 ∧ Fl.rep b1 r.2 ∧ Hp S w0 w (ow)) ?_ ?_
  rotate_left
  · rintro e a w ⟨rfl, x0, x1, hf, y0, y1, hp⟩
    exact ret1 hf rfl rfl ⟨x0, x1, rfl, y0, y1, hp⟩
  refine wp_seq ?_
  refine wp_reg ?_
  refine st_assign hf rfl rfl (by decide) ?_
  clear hf; intro a ha hf; clear ha
  refine st_nil hf ?_
  refine th_n ?_
  refine wp_seq ?_
  refine wp_seq ?_
  refine wp_reg ?_
  refine st_move hf rfl rfl (by decide) ?_
  clear hf; intro a ha hf; clear ha
  refine st_irem hf (by decide) rfl rfl rfl (by decide) ?_
  clear hf; intro a ha hf; clear ha
  refine st_iadd hf (by decide) rfl rfl rfl ?_
  clear hf; intro a ha hf; clear ha
  refine st_irem hf (by decide) rfl rfl rfl (by decide) ?_
  clear hf; intro a ha hf; clear ha
  refine st_assign hf rfl rfl (by decide) ?_
  clear hf; intro a ha hf; clear ha
  refine st_nil hf ?_
  refine th_n ?_
  refine wp_block ?_
  obtain ⟨q9, hl, h⟩ := bnd h
  refine wp_loop_pure (f := f_foghornref08_Turn.s1) (s := (z0, (((IntKind.i64.wrap (((n1).tmod (4 : Int)) + (4 : Int)))).tmod (4 : Int)))) (fun s a w => ∃ (b1 : Nat) (b2 : Nat), Fr 21 a [(0, .complex .f64 b1 b2), (5, .int .i64 s.2)] ∧ Fl.rep b1 s.1.1 ∧ Fl.rep b2 s.1.2 ∧ Hp S w0 w (ow)) (fun q e a w => e = .exit 0 ∧ ∃ (b5 : Nat) (b6 : Nat), Fr 21 a [(0, .complex .f64 b5 b6)] ∧ Fl.rep b5 q.1 ∧ Fl.rep b6 q.2 ∧ Hp S w0 w (ow)) ?_ hl ⟨_, _, hf.sub ⟨rfl, rfl, trivial⟩, hz0, kz0, hp⟩ ?_
  · clear hl hf hp
    intro s x a w h hI
    obtain ⟨z0, k5⟩ := s
    obtain ⟨b1, b2, hf, y3, y4, hp⟩ : ∃ (b1 : Nat) (b2 : Nat), Fr 21 a [(0, .complex .f64 b1 b2), (5, .int .i64 k5)] ∧ Fl.rep b1 z0.1 ∧ Fl.rep b2 z0.2 ∧ Hp S w0 w (ow) := hI
    replace h : f_foghornref08_Turn.s1c z0 k5 = some x := h
    unfold f_foghornref08_Turn.s1c at h
    refine wp_seq ?_
    refine wp_seq ?_
    refine wp_reg ?_
    refine st_move hf rfl rfl (by decide) ?_
    clear hf; intro a ha hf; clear ha
    refine st_igtr hf (by decide) rfl rfl rfl ?_
    clear hf; intro a ha hf; clear ha
    refine st_nil hf ?_
    refine th_n ?_
    refine wp_if hf rfl (fun hb => ?_) (fun hb => ?_)
    · replace h := ifT h hb
      refine wp_skip ?_
      refine th_n ?_
      refine wp_seq ?_
      refine wp_block ?_
      refine wp_reg ?_
      refine st_move hf rfl rfl (by decide) ?_
      clear hf; intro a ha hf; clear ha
      refine st_imag hf (by decide) rfl rfl ?_
      clear hf; intro a ha hf; clear ha
      refine st_fneg hf (by decide) rfl rfl ?_
      clear hf; intro a ha hf; clear ha
      refine st_move hf rfl rfl (by decide) ?_
      clear hf; intro a ha hf; clear ha
      refine st_real hf (by decide) rfl rfl ?_
      clear hf; intro a ha hf; clear ha
      refine st_complex hf (by decide) rfl rfl rfl ?_
      clear hf; intro a ha hf; clear ha
      refine st_assign hf rfl rfl (by decide) ?_
      clear hf; intro a ha hf; clear ha
      refine st_nil hf ?_
      refine ib_n ?_
      refine th_n ?_
      refine wp_reg ?_
      refine st_move hf rfl rfl (by decide) ?_
      clear hf; intro a ha hf; clear ha
      refine st_isub hf (by decide) rfl rfl rfl ?_
      clear hf; intro a ha hf; clear ha
      refine st_assign hf rfl rfl (by decide) ?_
      clear hf; intro a ha hf; clear ha
      refine st_nil hf ?_
      obtain rfl := Option.some.inj h
      exact rnd_l ⟨_, _, hf.sub ⟨rfl, rfl, trivial⟩, (fneg_rep y4), y3, hp⟩
    · replace h := ifF h hb
      refine wp_exit ?_
      refine th_e ?_
      obtain rfl := Option.some.inj h
      exact rnd_r (by simp) ⟨rfl, _, _, hf.sub ⟨rfl, trivial⟩, y3, y4, hp⟩
  · clear hl hf hp
    intro e a w hne hO
    obtain ⟨rfl, b5, b6, hf, y7, y8, hp⟩ := hO
    refine ib_same ?_
    refine th_n ?_
    refine wp_seq ?_
    refine wp_reg ?_
    refine st_move hf rfl rfl (by decide) ?_
    clear hf; intro a ha hf; clear ha
    refine st_assign hf rfl rfl (by decide) ?_
    clear hf; intro a ha hf; clear ha
    refine st_nil hf ?_
    refine th_n ?_
    refine wp_ret ?_
    obtain rfl := Option.some.inj h
    exact ⟨rfl, ⟨_, _, hf.sub ⟨rfl, trivial⟩, y7, y8, hp⟩⟩

noncomputable def f_foghornref08_Line.s1c (l0 : (List (Fl × Fl))) (out4 : (List Fl)) (i5 : Int) : Option (((List Fl) × Int) ⊕ (List Fl)) := (if (decide (i5 < (l0.length : Int))) = true then (if 0 ≤ i5 ∧ i5 < (l0.length : Int) then ((f_foghornref08_Turn (gt l0 i5) i5).bind fun q11 => (if (out4.length + ([q11.1, q11.2]).length) * 8 ≤ 140737488355328 then (some (Sum.inl ((out4 ++ [q11.1, q11.2]), (IntKind.i64.wrap (i5 + (1 : Int)))))) else none)) else none) else (some (Sum.inr out4)))
noncomputable def f_foghornref08_Line.s1 (l0 : (List (Fl × Fl))) (s : ((List Fl) × Int)) : Option (((List Fl) × Int) ⊕ (List Fl)) := f_foghornref08_Line.s1c l0 s.1 s.2
noncomputable def f_foghornref08_Line (l0 : (List (Fl × Fl))) : Option ((List Fl) × Int) := (if (decide ((32768 : Int) < (l0.length : Int))) = true then (some ([], (1 : Int))) else ((loop (f_foghornref08_Line.s1 l0) ([], (0 : Int))).bind (fun q21 => (some (q21, (0 : Int))))))
theorem f_foghornref08_Line_c {S : Nat → Prop} {w0 w : World} {ow : List Res} (hp : Hp S w0 w ow) (vl0 : Value) (l0 : (List (Fl × Fl))) (hl0 : RdS Ek.c128 S w0 vl0 l0) {r : ((List Fl) × Int)} (h : f_foghornref08_Line l0 = some r) :
    Calls Try.prog 25 #[vl0] w (fun e w' => ∃ (u0 : Value), e = .returned (.tuple #[u0, .int .i64 r.2]) ∧ Hp S w0 w' (Res.sl Ek.f64 37 u0 r.1 :: ow)) := by
  unfold f_foghornref08_Line at h
  refine enter (n := 30) (args := [vl0]) Try.func25 rfl rfl (Nat.le_of_ble_eq_true rfl) fun a hf => ?_
  replace hf : Fr 30 a [(0, vl0)] := hf
  refine wp_mono (Q := fun e a w => e = .ret ∧ ∃ (u0 : Value), Fr 30 a [(2, u0), (3, .int .i64 r.2)] ∧ Hp S w0 w (Res.sl Ek.f64 37 u0 r.1 :: ow)) ?_ ?_
  rotate_left
  · rintro e a w ⟨rfl, x0, hf, hp⟩
    exact ret2 hf rfl rfl rfl ⟨x0, rfl, hp⟩
  refine wp_seq ?_
  refine wp_reg ?_
  refine st_assign hf rfl rfl (by decide) ?_
  clear hf; intro a ha hf; clear ha
  refine st_assign hf rfl rfl (by decide) ?_
  clear hf; intro a ha hf; clear ha
  refine st_nil hf ?_
  refine th_n ?_
  refine wp_seq ?_
  refine wp_seq ?_
  refine wp_reg ?_
  refine st_move hf rfl rfl (by decide) ?_
  clear hf; intro a ha hf; clear ha
  refine st_len (E := Ek.c128) hf (by decide) Try.underlying24 rfl rfl (hl0.sl hp) ?_
  clear hf; intro a ha hf; clear ha
  refine st_igtr hf (by decide) rfl rfl rfl ?_
  clear hf; intro a ha hf; clear ha
  refine st_nil hf ?_
  refine th_n ?_
  refine wp_if hf rfl (fun hb => ?_) (fun hb => ?_)
  · replace h := ifT h hb
    refine wp_seq ?_
    refine wp_reg ?_
    refine st_assign hf rfl rfl (by decide) ?_
    clear hf; intro a ha hf; clear ha
    refine st_assign hf rfl rfl (by decide) ?_
    clear hf; intro a ha hf; clear ha
    refine st_nil hf ?_
    refine th_n ?_
    refine wp_ret ?_
    refine th_r ?_
    obtain rfl := Option.some.inj h
    have hp := hp.nil Ek.f64 37
    exact ⟨rfl, ⟨_, hf.sub ⟨rfl, rfl, trivial⟩, hp⟩⟩
  · replace h := ifF h hb
    refine wp_skip ?_
    refine th_n ?_
    refine wp_seq ?_
    refine wp_reg ?_
    refine st_assign hf rfl rfl (by decide) ?_
    clear hf; intro a ha hf; clear ha
    refine st_nil hf ?_
    refine th_n ?_
    refine wp_seq ?_
    refine wp_seq ?_
    refine wp_reg ?_
    refine st_assign hf rfl rfl (by decide) ?_
    clear hf; intro a ha hf; clear ha
    refine st_nil hf ?_
    refine th_n ?_
    refine wp_block ?_
    obtain ⟨q21, hl, h⟩ := bnd h
    have hp := hp.nil Ek.f64 37
    refine wp_loop_pure (f := (f_foghornref08_Line.s1 l0)) (s := ([], (0 : Int))) (fun s a w => ∃ (v2 : Value), Fr 30 a [(0, vl0), (4, v2), (5, .int .i64 s.2)] ∧ Hp S w0 w (Res.sl Ek.f64 37 v2 s.1 :: ow)) (fun q e a w => e = .exit 0 ∧ ∃ (v4 : Value), Fr 30 a [(4, v4)] ∧ Hp S w0 w (Res.sl Ek.f64 37 v4 q :: ow)) ?_ hl ⟨_, hf.sub ⟨rfl, rfl, rfl, trivial⟩, hp⟩ ?_
    · clear hl hf hp
      intro s x a w h hI
      obtain ⟨out4, i5⟩ := s
      obtain ⟨v2, hf, hp⟩ : ∃ (v2 : Value), Fr 30 a [(0, vl0), (4, v2), (5, .int .i64 i5)] ∧ Hp S w0 w (Res.sl Ek.f64 37 v2 out4 :: ow) := hI
      replace h : f_foghornref08_Line.s1c l0 out4 i5 = some x := h
      unfold f_foghornref08_Line.s1c at h
      refine wp_seq ?_
      refine wp_seq ?_
      refine wp_reg ?_
      refine st_move hf rfl rfl (by decide) ?_
      clear hf; intro a ha hf; clear ha
      refine st_move hf rfl rfl (by decide) ?_
      clear hf; intro a ha hf; clear ha
      refine st_len (E := Ek.c128) hf (by decide) Try.underlying24 rfl rfl (hl0.sl hp) ?_
      clear hf; intro a ha hf; clear ha
      refine st_ilss hf (by decide) rfl rfl rfl ?_
      clear hf; intro a ha hf; clear ha
      refine st_nil hf ?_
      refine th_n ?_
      refine wp_if hf rfl (fun hb => ?_) (fun hb => ?_)
      · replace h := ifT h hb
        refine wp_skip ?_
        refine th_n ?_
        refine wp_seq ?_
        refine wp_block ?_
        refine wp_seq ?_
        refine wp_reg ?_
        refine st_move hf rfl rfl (by decide) ?_
        clear hf; intro a ha hf; clear ha
        refine st_move hf rfl rfl (by decide) ?_
        clear hf; intro a ha hf; clear ha
        obtain ⟨hc6, h⟩ := chk h
        refine st_index (E := Ek.c128) hf (by decide) Try.underlying24 elt36 rfl rfl rfl (hl0.sl hp) hc6.1 hc6.2 ?_
        clear hf; intro a ha hf; clear ha
        refine st_ldC hf (by decide) pl36 rfl rfl (hl0.sl hp) hc6.1 hc6.2 ?_
        clear hf; intro a b7 b8 y9 y10 ha hf; clear ha
        refine st_move hf rfl rfl (by decide) ?_
        clear hf; intro a ha hf; clear ha
        obtain ⟨q11, hcall12, h⟩ := bnd h
        refine st_call hf (by decide) Try.func35 rfl rfl rfl rfl rfl (f_foghornref08_Turn_c hp _ _ _ y9 y10 _ hcall12) ?_
        rintro _ w ⟨v13, v14, rfl, y15, y16, hp0⟩
        clear hp; have hp := hp0; clear hp0
        replace hp : Hp _ _ w (Res.sl Ek.f64 37 v2 out4 :: ow) := hp
        refine ⟨_, rfl, ?_⟩
        clear hf; intro a hf
        refine st_assign hf rfl rfl (by decide) ?_
        clear hf; intro a ha hf; clear ha
        refine st_nil hf ?_
        refine th_n ?_
        refine wp_reg ?_
        refine st_move hf rfl rfl (by decide) ?_
        clear hf; intro a ha hf; clear ha
        refine st_move hf rfl rfl (by decide) ?_
        clear hf; intro a ha hf; clear ha
        refine st_real hf (by decide) rfl rfl ?_
        clear hf; intro a ha hf; clear ha
        refine st_move hf rfl rfl (by decide) ?_
        clear hf; intro a ha hf; clear ha
        refine st_imag hf (by decide) rfl rfl ?_
        clear hf; intro a ha hf; clear ha
        refine st_build (E := Ek.f64) (xs := [q11.1, q11.2]) hf (by decide) elt37 Try.underlying40 hp (vals := #[(0, .float .f64 v13), (1, .float .f64 v14)]) (cells := #[.float .f64 v13, .float .f64 v14]) rfl (by simp [hf.ev (x := (Operand.tmp 24)) rfl, hf.ev (x := (Operand.tmp 26)) rfl]) (by decide) (by decide) (z := .float .f64 0) (by kernel_rfl) (by kernel_rfl) rfl (reps_cons (cs := [.float .f64 v13]) (show Ek.f64.rep [.float .f64 v13] q11.1 from ⟨_, rfl, y15⟩) (reps_cons (cs := [.float .f64 v14]) (show Ek.f64.rep [.float .f64 v14] q11.2 from ⟨_, rfl, y16⟩) (reps_nil _))) ?_
        clear hf; intro a w v17 hf hp0; clear hp; have hp := hp0; clear hp0
        replace hp : Hp _ _ w (Res.sl Ek.f64 37 v17 ([q11.1, q11.2]) :: Res.sl Ek.f64 37 v2 out4 :: ow) := hp
        obtain ⟨hc19, h⟩ := chk h
        refine st_append (E := Ek.f64) hf (by decide) elt37 Try.underlying40 (by decide) hp (i := 1) rfl rfl rfl rfl (hp.sl (i := 0) rfl) hc19 ?_
        clear hf; intro a w v20 hf hp0; clear hp; have hp := hp0; clear hp0
        replace hp : Hp _ _ w (Res.sl Ek.f64 37 v17 ([q11.1, q11.2]) :: Res.sl Ek.f64 37 v20 (out4 ++ [q11.1, q11.2]) :: ow) := hp
        refine st_assign hf rfl rfl (by decide) ?_
        clear hf; intro a ha hf; clear ha
        refine st_nil hf ?_
        refine ib_n ?_
        refine th_n ?_
        refine wp_reg ?_
        refine st_move hf rfl rfl (by decide) ?_
        clear hf; intro a ha hf; clear ha
        refine st_iadd hf (by decide) rfl rfl rfl ?_
        clear hf; intro a ha hf; clear ha
        refine st_assign hf rfl rfl (by decide) ?_
        clear hf; intro a ha hf; clear ha
        refine st_nil hf ?_
        obtain rfl := Option.some.inj h
        have hp : Hp _ _ w (Res.sl Ek.f64 37 v20 (out4 ++ [q11.1, q11.2]) :: ow) := Hp.sel (pre := [Res.sl Ek.f64 37 v17 ([q11.1, q11.2]), Res.sl Ek.f64 37 v20 (out4 ++ [q11.1, q11.2])]) (tail := ow) (rs' := [Res.sl Ek.f64 37 v20 (out4 ++ [q11.1, q11.2])]) hp [1] (by decide) (by simp) rfl
        exact rnd_l ⟨_, hf.sub ⟨rfl, rfl, rfl, trivial⟩, hp⟩
      · replace h := ifF h hb
        refine wp_exit ?_
        refine th_e ?_
        obtain rfl := Option.some.inj h
        exact rnd_r (by simp) ⟨rfl, _, hf.sub ⟨rfl, trivial⟩, hp⟩
    · clear hl hf hp
      intro e a w hne hO
      obtain ⟨rfl, v4, hf, hp⟩ := hO
      refine ib_same ?_
      refine th_n ?_
      refine wp_seq ?_
      refine wp_reg ?_
      refine st_move hf rfl rfl (by decide) ?_
      clear hf; intro a ha hf; clear ha
      refine st_assign hf rfl rfl (by decide) ?_
      clear hf; intro a ha hf; clear ha
      refine st_assign hf rfl rfl (by decide) ?_
      clear hf; intro a ha hf; clear ha
      refine st_nil hf ?_
      refine th_n ?_
      refine wp_ret ?_
      obtain rfl := Option.some.inj h
      exact ⟨rfl, ⟨_, hf.sub ⟨rfl, rfl, trivial⟩, hp⟩⟩

noncomputable def f_mix_fits (n0 : Int) : Option Bool := (some (decide (n0 ≤ (65536 : Int))))
theorem f_mix_fits_c {S : Nat → Prop} {w0 w : World} {ow : List Res} (hp : Hp S w0 w ow) (n0 : Int) {r : Bool} (h : f_mix_fits n0 = some r) :
    Calls Try.prog 34 #[.int .i64 n0] w (fun e w' => e = .returned (.bool r) ∧ Hp S w0 w' (ow)) := by
  unfold f_mix_fits at h
  refine enter (n := 5) (args := [.int .i64 n0]) Try.func34 rfl rfl (Nat.le_of_ble_eq_true rfl) fun a hf => ?_
  replace hf : Fr 5 a [(0, .int .i64 n0)] := hf
  refine wp_mono (Q := fun e a w => e = .ret ∧ Fr 5 a [(2, .bool r)] ∧ Hp S w0 w (ow)) ?_ ?_
  rotate_left
  · rintro e a w ⟨rfl, hf, hp⟩
    exact ret1 hf rfl rfl ⟨rfl, hp⟩
  refine wp_seq ?_
  refine wp_reg ?_
  refine st_assign hf rfl rfl (by decide) ?_
  clear hf; intro a ha hf; clear ha
  refine st_nil hf ?_
  refine th_n ?_
  refine wp_seq ?_
  refine wp_reg ?_
  refine st_move hf rfl rfl (by decide) ?_
  clear hf; intro a ha hf; clear ha
  refine st_ileq hf (by decide) rfl rfl rfl ?_
  clear hf; intro a ha hf; clear ha
  refine st_assign hf rfl rfl (by decide) ?_
  clear hf; intro a ha hf; clear ha
  refine st_nil hf ?_
  refine th_n ?_
  refine wp_ret ?_
  obtain rfl := Option.some.inj h
  exact ⟨rfl, ⟨hf.sub ⟨rfl, trivial⟩, hp⟩⟩

noncomputable def f_mix_turns  : Option Unit := (some ())
theorem f_mix_turns_c {S : Nat → Prop} {w0 w : World} {ow : List Res} (hp : Hp S w0 w ow) {r : Unit} (h : f_mix_turns = some r) :
    Calls Try.prog 36 #[] w (fun e w' => e = .returned (.agg #[.func (.func 39) #[] #[], .func (.func 40) #[] #[], .func (.func 41) #[] #[], .func (.func 42) #[] #[]]) ∧ Hp S w0 w' (ow)) := by
  unfold f_mix_turns at h
  refine enter (n := 6) (args := []) Try.func36 rfl rfl (Nat.le_of_ble_eq_true rfl) fun a hf => ?_
  replace hf : Fr 6 a [] := hf
  refine wp_mono (Q := fun e a w => e = .ret ∧ ∃ (c0 : Value), Fr 6 a [(0, optr c0 0)] ∧ Hp S w0 w (Res.obj 60 c0 [.func (.func 39) #[] #[], .func (.func 40) #[] #[], .func (.func 41) #[] #[], .func (.func 42) #[] #[]] :: ow)) ?_ ?_
  rotate_left
  · rintro e a w ⟨rfl, c0, hf, hp⟩
    exact retG1 hf rfl ⟨_, _, rfl, hp.ob (i := 0) rfl, .inr ⟨by kernel_rfl, rfl⟩⟩ ⟨rfl, hp.drop⟩
  refine wp_seq ?_
  refine wp_reg ?_
  refine st_alloc (cs := [.nilFunc, .nilFunc, .nilFunc, .nilFunc]) (zv := .agg #[.nilFunc, .nilFunc, .nilFunc, .nilFunc]) hf (by decide) (by kernel_rfl) rfl hp rfl ?_
  clear hf; intro a w v1 hf hp0; clear hp; have hp := hp0; clear hp0
  replace hp : Hp _ _ w (Res.obj 60 v1 [.nilFunc, .nilFunc, .nilFunc, .nilFunc] :: ow) := hp
  refine st_nil hf ?_
  refine th_n ?_
  refine wp_seq ?_
  refine wp_reg ?_
  refine st_buildA (vals := [(0, .func (.func 39) #[] #[])]) (cells := [.func (.func 39) #[] #[]]) hf (by decide) rfl (by simp [hf.ev (x := (Operand.func 39)) rfl]) (fun w => by kernel_rfl) ?_
  clear hf; intro a ha hf; clear ha
  refine st_buildA (vals := [(0, .func (.func 40) #[] #[])]) (cells := [.func (.func 40) #[] #[]]) hf (by decide) rfl (by simp [hf.ev (x := (Operand.func 40)) rfl]) (fun w => by kernel_rfl) ?_
  clear hf; intro a ha hf; clear ha
  refine st_buildA (vals := [(0, .func (.func 41) #[] #[])]) (cells := [.func (.func 41) #[] #[]]) hf (by decide) rfl (by simp [hf.ev (x := (Operand.func 41)) rfl]) (fun w => by kernel_rfl) ?_
  clear hf; intro a ha hf; clear ha
  refine st_buildA (vals := [(0, .func (.func 42) #[] #[])]) (cells := [.func (.func 42) #[] #[]]) hf (by decide) rfl (by simp [hf.ev (x := (Operand.func 42)) rfl]) (fun w => by kernel_rfl) ?_
  clear hf; intro a ha hf; clear ha
  refine st_buildA (vals := [(0, .agg #[.func (.func 39) #[] #[]]), (1, .agg #[.func (.func 40) #[] #[]]), (2, .agg #[.func (.func 41) #[] #[]]), (3, .agg #[.func (.func 42) #[] #[]])]) (cells := [.func (.func 39) #[] #[], .func (.func 40) #[] #[], .func (.func 41) #[] #[], .func (.func 42) #[] #[]]) hf (by decide) rfl (by simp [hf.ev (x := (Operand.tmp 1)) rfl, hf.ev (x := (Operand.tmp 2)) rfl, hf.ev (x := (Operand.tmp 3)) rfl, hf.ev (x := (Operand.tmp 4)) rfl]) (fun w => by kernel_rfl) ?_
  clear hf; intro a ha hf; clear ha
  refine st_stO (us := [.func (.func 39) #[] #[], .func (.func 40) #[] #[], .func (.func 41) #[] #[], .func (.func 42) #[] #[]]) hf hp (i := 0) rfl rfl rfl rfl rfl (by rfl) (by kernel_rfl) (by decide) ?_
  clear hf; intro a w hf hp0; clear hp; have hp := hp0; clear hp0
  replace hp : Hp _ _ w (Res.obj 60 v1 [.func (.func 39) #[] #[], .func (.func 40) #[] #[], .func (.func 41) #[] #[], .func (.func 42) #[] #[]] :: ow) := hp
  refine st_nil hf ?_
  refine th_n ?_
  refine wp_ret ?_
  obtain rfl := Option.some.inj h
  exact ⟨rfl, ⟨_, hf.sub ⟨rfl, trivial⟩, hp⟩⟩

noncomputable def f_mix_by (quarters0 : Int) : Option Int := (some (iand .i64 quarters0 (3 : Int)))
theorem f_mix_by_c {S : Nat → Prop} {w0 w : World} {ow : List Res} (hp : Hp S w0 w ow) (quarters0 : Int) {r : Int} (h : f_mix_by quarters0 = some r) :
    Calls Try.prog 37 #[.int .i64 quarters0] w (fun e w' => e = .returned (.int .i64 r) ∧ Hp S w0 w' (ow)) := by
  unfold f_mix_by at h
  refine enter (n := 5) (args := [.int .i64 quarters0]) Try.func37 rfl rfl (Nat.le_of_ble_eq_true rfl) fun a hf => ?_
  replace hf : Fr 5 a [(0, .int .i64 quarters0)] := hf
  refine wp_mono (Q := fun e a w => e = .ret ∧ Fr 5 a [(2, .int .i64 r)] ∧ Hp S w0 w (ow)) ?_ ?_
  rotate_left
  · rintro e a w ⟨rfl, hf, hp⟩
    exact ret1 hf rfl rfl ⟨rfl, hp⟩
  refine wp_seq ?_
  refine wp_reg ?_
  refine st_assign hf rfl rfl (by decide) ?_
  clear hf; intro a ha hf; clear ha
  refine st_nil hf ?_
  refine th_n ?_
  refine wp_seq ?_
  refine wp_reg ?_
  refine st_move hf rfl rfl (by decide) ?_
  clear hf; intro a ha hf; clear ha
  refine st_iand hf (by decide) rfl rfl rfl ?_
  clear hf; intro a ha hf; clear ha
  refine st_assign hf rfl rfl (by decide) ?_
  clear hf; intro a ha hf; clear ha
  refine st_nil hf ?_
  refine th_n ?_
  refine wp_ret ?_
  obtain rfl := Option.some.inj h
  exact ⟨rfl, ⟨hf.sub ⟨rfl, trivial⟩, hp⟩⟩

noncomputable def f_mix_turns_1 (z0 : (Fl × Fl)) : Option (Fl × Fl) := (some z0)
theorem f_mix_turns_1_c {S : Nat → Prop} {w0 w : World} {ow : List Res} (hp : Hp S w0 w ow) (bz0 cz0 : Nat) (z0 : Fl × Fl) (hz0 : z0.1.rep bz0) (kz0 : z0.2.rep cz0) {r : (Fl × Fl)} (h : f_mix_turns_1 z0 = some r) :
    Calls Try.prog 39 #[.complex .f64 bz0 cz0] w (fun e w' => ∃ (b0 : Nat) (b1 : Nat), e = .returned (.complex .f64 b0 b1) ∧ Fl.rep b0 r.1 ∧ Fl.rep b1 r.2 ∧ Hp S w0 w' (ow)) := by
  unfold f_mix_turns_1 at h
  refine enter (n := 4) (args := [.complex .f64 bz0 cz0]) Try.func39 rfl rfl (Nat.le_of_ble_eq_true rfl) fun a hf => ?_
  replace hf : Fr 4 a [(0, .complex .f64 bz0 cz0)] := hf
  refine wp_mono (Q := fun e a w => e = .ret ∧ ∃ (b0 : Nat) (b1 : Nat), Fr 4 a [(2, .complex .f64 b0 b1)] ∧ Fl.rep b0 r.1 ∧ Fl.rep b1 r.2 ∧ Hp S w0 w (ow)) ?_ ?_
  rotate_left
  · rintro e a w ⟨rfl, x0, x1, hf, y0, y1, hp⟩
    exact ret1 hf rfl rfl ⟨x0, x1, rfl, y0, y1, hp⟩
  refine wp_seq ?_
  refine wp_reg ?_
  refine st_assign hf rfl rfl (by decide) ?_
  clear hf; intro a ha hf; clear ha
  refine st_nil hf ?_
  refine th_n ?_
  refine wp_seq ?_
  refine wp_reg ?_
  refine st_move hf rfl rfl (by decide) ?_
  clear hf; intro a ha hf; clear ha
  refine st_assign hf rfl rfl (by decide) ?_
  clear hf; intro a ha hf; clear ha
  refine st_nil hf ?_
  refine th_n ?_
  refine wp_ret ?_
  obtain rfl := Option.some.inj h
  exact ⟨rfl, ⟨_, _, hf.sub ⟨rfl, trivial⟩, hz0, kz0, hp⟩⟩

noncomputable def f_mix_turns_2 (z0 : (Fl × Fl)) : Option (Fl × Fl) := (some ((fneg z0.2), z0.1))
theorem f_mix_turns_2_c {S : Nat → Prop} {w0 w : World} {ow : List Res} (hp : Hp S w0 w ow) (bz0 cz0 : Nat) (z0 : Fl × Fl) (hz0 : z0.1.rep bz0) (kz0 : z0.2.rep cz0) {r : (Fl × Fl)} (h : f_mix_turns_2 z0 = some r) :
    Calls Try.prog 40 #[.complex .f64 bz0 cz0] w (fun e w' => ∃ (b0 : Nat) (b1 : Nat), e = .returned (.complex .f64 b0 b1) ∧ Fl.rep b0 r.1 ∧ Fl.rep b1 r.2 ∧ Hp S w0 w' (ow)) := by
  unfold f_mix_turns_2 at h
  refine enter (n := 9) (args := [.complex .f64 bz0 cz0]) Try.func40 rfl rfl (Nat.le_of_ble_eq_true rfl) fun a hf => ?_
  replace hf : Fr 9 a [(0, .complex .f64 bz0 cz0)] := hf
  refine wp_mono (Q := fun e a w => e = .ret ∧ ∃ (b0 : Nat) (b1 : Nat), Fr 9 a [(2, .complex .f64 b0 b1)] ∧ Fl.rep b0 r.1 ∧ Fl.rep b1 r.2 ∧ Hp S w0 w (ow)) ?_ ?_
  rotate_left
  · rintro e a w ⟨rfl, x0, x1, hf, y0, y1, hp⟩
    exact ret1 hf rfl rfl ⟨x0, x1, rfl, y0, y1, hp⟩
  refine wp_seq ?_
  refine wp_reg ?_
  refine st_assign hf rfl rfl (by decide) ?_
  clear hf; intro a ha hf; clear ha
  refine st_nil hf ?_
  refine th_n ?_
  refine wp_seq ?_
  refine wp_reg ?_
  refine st_move hf rfl rfl (by decide) ?_
  clear hf; intro a ha hf; clear ha
  refine st_imag hf (by decide) rfl rfl ?_
  clear hf; intro a ha hf; clear ha
  refine st_fneg hf (by decide) rfl rfl ?_
  clear hf; intro a ha hf; clear ha
  refine st_move hf rfl rfl (by decide) ?_
  clear hf; intro a ha hf; clear ha
  refine st_real hf (by decide) rfl rfl ?_
  clear hf; intro a ha hf; clear ha
  refine st_complex hf (by decide) rfl rfl rfl ?_
  clear hf; intro a ha hf; clear ha
  refine st_assign hf rfl rfl (by decide) ?_
  clear hf; intro a ha hf; clear ha
  refine st_nil hf ?_
  refine th_n ?_
  refine wp_ret ?_
  obtain rfl := Option.some.inj h
  exact ⟨rfl, ⟨_, _, hf.sub ⟨rfl, trivial⟩, (fneg_rep kz0), hz0, hp⟩⟩

noncomputable def f_mix_turns_3 (z0 : (Fl × Fl)) : Option (Fl × Fl) := (some ((fneg z0.1), (fneg z0.2)))
theorem f_mix_turns_3_c {S : Nat → Prop} {w0 w : World} {ow : List Res} (hp : Hp S w0 w ow) (bz0 cz0 : Nat) (z0 : Fl × Fl) (hz0 : z0.1.rep bz0) (kz0 : z0.2.rep cz0) {r : (Fl × Fl)} (h : f_mix_turns_3 z0 = some r) :
    Calls Try.prog 41 #[.complex .f64 bz0 cz0] w (fun e w' => ∃ (b0 : Nat) (b1 : Nat), e = .returned (.complex .f64 b0 b1) ∧ Fl.rep b0 r.1 ∧ Fl.rep b1 r.2 ∧ Hp S w0 w' (ow)) := by
  unfold f_mix_turns_3 at h
  refine enter (n := 10) (args := [.complex .f64 bz0 cz0]) Try.func41 rfl rfl (Nat.le_of_ble_eq_true rfl) fun a hf => ?_
  replace hf : Fr 10 a [(0, .complex .f64 bz0 cz0)] := hf
  refine wp_mono (Q := fun e a w => e = .ret ∧ ∃ (b0 : Nat) (b1 : Nat), Fr 10 a [(2, .complex .f64 b0 b1)] ∧ Fl.rep b0 r.1 ∧ Fl.rep b1 r.2 ∧ Hp S w0 w (ow)) ?_ ?_
  rotate_left
  · rintro e a w ⟨rfl, x0, x1, hf, y0, y1, hp⟩
    exact ret1 hf rfl rfl ⟨x0, x1, rfl, y0, y1, hp⟩
  refine wp_seq ?_
  refine wp_reg ?_
  refine st_assign hf rfl rfl (by decide) ?_
  clear hf; intro a ha hf; clear ha
  refine st_nil hf ?_
  refine th_n ?_
  refine wp_seq ?_
  refine wp_reg ?_
  refine st_move hf rfl rfl (by decide) ?_
  clear hf; intro a ha hf; clear ha
  refine st_real hf (by decide) rfl rfl ?_
  clear hf; intro a ha hf; clear ha
  refine st_fneg hf (by decide) rfl rfl ?_
  clear hf; intro a ha hf; clear ha
  refine st_move hf rfl rfl (by decide) ?_
  clear hf; intro a ha hf; clear ha
  refine st_imag hf (by decide) rfl rfl ?_
  clear hf; intro a ha hf; clear ha
  refine st_fneg hf (by decide) rfl rfl ?_
  clear hf; intro a ha hf; clear ha
  refine st_complex hf (by decide) rfl rfl rfl ?_
  clear hf; intro a ha hf; clear ha
  refine st_assign hf rfl rfl (by decide) ?_
  clear hf; intro a ha hf; clear ha
  refine st_nil hf ?_
  refine th_n ?_
  refine wp_ret ?_
  obtain rfl := Option.some.inj h
  exact ⟨rfl, ⟨_, _, hf.sub ⟨rfl, trivial⟩, (fneg_rep hz0), (fneg_rep kz0), hp⟩⟩

noncomputable def f_mix_turns_4 (z0 : (Fl × Fl)) : Option (Fl × Fl) := (some (z0.2, (fneg z0.1)))
theorem f_mix_turns_4_c {S : Nat → Prop} {w0 w : World} {ow : List Res} (hp : Hp S w0 w ow) (bz0 cz0 : Nat) (z0 : Fl × Fl) (hz0 : z0.1.rep bz0) (kz0 : z0.2.rep cz0) {r : (Fl × Fl)} (h : f_mix_turns_4 z0 = some r) :
    Calls Try.prog 42 #[.complex .f64 bz0 cz0] w (fun e w' => ∃ (b0 : Nat) (b1 : Nat), e = .returned (.complex .f64 b0 b1) ∧ Fl.rep b0 r.1 ∧ Fl.rep b1 r.2 ∧ Hp S w0 w' (ow)) := by
  unfold f_mix_turns_4 at h
  refine enter (n := 9) (args := [.complex .f64 bz0 cz0]) Try.func42 rfl rfl (Nat.le_of_ble_eq_true rfl) fun a hf => ?_
  replace hf : Fr 9 a [(0, .complex .f64 bz0 cz0)] := hf
  refine wp_mono (Q := fun e a w => e = .ret ∧ ∃ (b0 : Nat) (b1 : Nat), Fr 9 a [(2, .complex .f64 b0 b1)] ∧ Fl.rep b0 r.1 ∧ Fl.rep b1 r.2 ∧ Hp S w0 w (ow)) ?_ ?_
  rotate_left
  · rintro e a w ⟨rfl, x0, x1, hf, y0, y1, hp⟩
    exact ret1 hf rfl rfl ⟨x0, x1, rfl, y0, y1, hp⟩
  refine wp_seq ?_
  refine wp_reg ?_
  refine st_assign hf rfl rfl (by decide) ?_
  clear hf; intro a ha hf; clear ha
  refine st_nil hf ?_
  refine th_n ?_
  refine wp_seq ?_
  refine wp_reg ?_
  refine st_move hf rfl rfl (by decide) ?_
  clear hf; intro a ha hf; clear ha
  refine st_imag hf (by decide) rfl rfl ?_
  clear hf; intro a ha hf; clear ha
  refine st_move hf rfl rfl (by decide) ?_
  clear hf; intro a ha hf; clear ha
  refine st_real hf (by decide) rfl rfl ?_
  clear hf; intro a ha hf; clear ha
  refine st_fneg hf (by decide) rfl rfl ?_
  clear hf; intro a ha hf; clear ha
  refine st_complex hf (by decide) rfl rfl rfl ?_
  clear hf; intro a ha hf; clear ha
  refine st_assign hf rfl rfl (by decide) ?_
  clear hf; intro a ha hf; clear ha
  refine st_nil hf ?_
  refine th_n ?_
  refine wp_ret ?_
  obtain rfl := Option.some.inj h
  exact ⟨rfl, ⟨_, _, hf.sub ⟨rfl, trivial⟩, kz0, (fneg_rep hz0), hp⟩⟩

noncomputable def f_mix_Up.s1c (l0 : (List (Fl × Fl))) (q8 : Int) (at8 : Int) (out9 : (List (Fl × Fl))) (t24 : Int) : Option ((Int × (List (Fl × Fl)) × Int) ⊕ (List (Fl × Fl))) := (if (decide (t24 < (l0.length : Int))) = true then (if 0 ≤ t24 ∧ t24 < (l0.length : Int) then (if 0 ≤ at8 ∧ at8 < (4 : Int) then (((if at8 = (0 : Int) then (f_mix_turns_1 (gt l0 t24)) else (if at8 = (1 : Int) then (f_mix_turns_2 (gt l0 t24)) else (if at8 = (2 : Int) then (f_mix_turns_3 (gt l0 t24)) else (f_mix_turns_4 (gt l0 t24)))))).bind fun q23 => (if (out9.length + ([q23]).length) * 16 ≤ 140737488355328 then ((f_mix_by (IntKind.i64.wrap (at8 + q8))).bind fun q34 => (some (Sum.inl (q34, (out9 ++ [q23]), (IntKind.i64.wrap (t24 + (1 : Int))))))) else none)) else none) else none) else (some (Sum.inr out9)))
noncomputable def f_mix_Up.s1 (l0 : (List (Fl × Fl))) (q8 : Int) (s : (Int × (List (Fl × Fl)) × Int)) : Option ((Int × (List (Fl × Fl)) × Int) ⊕ (List (Fl × Fl))) := f_mix_Up.s1c l0 q8 s.1 s.2.1 s.2.2
noncomputable def f_mix_Up (l0 : (List (Fl × Fl))) (quarters1 : Int) : Option ((List (Fl × Fl)) × Int) := ((f_mix_fits (l0.length : Int)).bind fun q1 => (if (!q1) = true then (some ([], (1 : Int))) else ((f_mix_turns).bind fun q4 => ((f_mix_by quarters1).bind fun q8 => (if 0 ≤ (0 : Int) ∧ (0 : Int) ≤ (l0.length : Int) ∧ (l0.length : Int) * 16 ≤ 281474976710656 then ((loop (f_mix_Up.s1 l0 q8) ((0 : Int), (List.replicate ((0 : Int)).toNat (Fl.bits 0, Fl.bits 0)), (0 : Int))).bind (fun q36 => (some (q36, (0 : Int))))) else none)))))
theorem f_mix_Up_c {S : Nat → Prop} {w0 w : World} {ow : List Res} (hp : Hp S w0 w ow) (vl0 : Value) (l0 : (List (Fl × Fl))) (hl0 : RdS Ek.c128 S w0 vl0 l0) (quarters1 : Int) {r : ((List (Fl × Fl)) × Int)} (h : f_mix_Up l0 quarters1 = some r) :
    Calls Try.prog 17 #[vl0, .int .i64 quarters1] w (fun e w' => ∃ (u0 : Value), e = .returned (.tuple #[u0, .int .i64 r.2]) ∧ Hp S w0 w' (Res.sl Ek.c128 36 u0 r.1 :: ow)) := by
  unfold f_mix_Up at h
  refine enter (n := 43) (args := [vl0, .int .i64 quarters1]) Try.func17 rfl rfl (Nat.le_of_ble_eq_true rfl) fun a hf => ?_
  replace hf : Fr 43 a [(0, vl0), (1, .int .i64 quarters1)] := hf
  refine wp_mono (Q := fun e a w => e = .ret ∧ ∃ (u0 : Value), Fr 43 a [(4, u0), (5, .int .i64 r.2)] ∧ Hp S w0 w (Res.sl Ek.c128 36 u0 r.1 :: ow)) ?_ ?_
  rotate_left
  · rintro e a w ⟨rfl, x0, hf, hp⟩
    exact ret2 hf rfl rfl rfl ⟨x0, rfl, hp⟩
  refine wp_seq ?_
  refine wp_reg ?_
  refine st_assign hf rfl rfl (by decide) ?_
  clear hf; intro a ha hf; clear ha
  refine st_assign hf rfl rfl (by decide) ?_
  clear hf; intro a ha hf; clear ha
  refine st_nil hf ?_
  refine th_n ?_
  refine wp_seq ?_
  refine wp_seq ?_
  refine wp_reg ?_
  refine st_move hf rfl rfl (by decide) ?_
  clear hf; intro a ha hf; clear ha
  refine st_len (E := Ek.c128) hf (by decide) Try.underlying24 rfl rfl (hl0.sl hp) ?_
  clear hf; intro a ha hf; clear ha
  obtain ⟨q1, hcall2, h⟩ := bnd h
  refine st_call hf (by decide) Try.func34 rfl rfl rfl rfl rfl (f_mix_fits_c hp _ hcall2) ?_
  rintro _ w ⟨rfl, hp0⟩
  clear hp; have hp := hp0; clear hp0
  replace hp : Hp _ _ w (ow) := hp
  refine ⟨_, rfl, ?_⟩
  clear hf; intro a hf
  refine st_not hf (by decide) rfl rfl ?_
  clear hf; intro a ha hf; clear ha
  refine st_nil hf ?_
  refine th_n ?_
  refine wp_if hf rfl (fun hb => ?_) (fun hb => ?_)
  · replace h := ifT h hb
    refine wp_seq ?_
    refine wp_reg ?_
    refine st_assign hf rfl rfl (by decide) ?_
    clear hf; intro a ha hf; clear ha
    refine st_assign hf rfl rfl (by decide) ?_
    clear hf; intro a ha hf; clear ha
    refine st_nil hf ?_
    refine th_n ?_
    refine wp_ret ?_
    refine th_r ?_
    obtain rfl := Option.some.inj h
    have hp := hp.nil Ek.c128 36
    exact ⟨rfl, ⟨_, hf.sub ⟨rfl, rfl, trivial⟩, hp⟩⟩
  · replace h := ifF h hb
    refine wp_skip ?_
    refine th_n ?_
    refine wp_seq ?_
    refine wp_reg ?_
    obtain ⟨q4, hcall5, h⟩ := bnd h
    refine st_call hf (by decide) Try.func36 rfl rfl rfl rfl rfl (f_mix_turns_c hp  hcall5) ?_
    rintro _ w ⟨rfl, hp0⟩
    clear hp; have hp := hp0; clear hp0
    replace hp : Hp _ _ w (ow) := hp
    refine ⟨_, rfl, ?_⟩
    clear hf; intro a hf
    refine st_alloc (cs := [.nilFunc, .nilFunc, .nilFunc, .nilFunc]) (zv := .agg #[.nilFunc, .nilFunc, .nilFunc, .nilFunc]) hf (by decide) (by kernel_rfl) rfl hp rfl ?_
    clear hf; intro a w v6 hf hp0; clear hp; have hp := hp0; clear hp0
    replace hp : Hp _ _ w (Res.obj 60 v6 [.nilFunc, .nilFunc, .nilFunc, .nilFunc] :: ow) := hp
    refine st_stO (us := [.func (.func 39) #[] #[], .func (.func 40) #[] #[], .func (.func 41) #[] #[], .func (.func 42) #[] #[]]) hf hp (i := 0) rfl rfl rfl rfl rfl (by rfl) (by kernel_rfl) (by decide) ?_
    clear hf; intro a w hf hp0; clear hp; have hp := hp0; clear hp0
    replace hp : Hp _ _ w (Res.obj 60 v6 [.func (.func 39) #[] #[], .func (.func 40) #[] #[], .func (.func 41) #[] #[], .func (.func 42) #[] #[]] :: ow) := hp
    refine st_nil hf ?_
    refine th_n ?_
    refine wp_seq ?_
    refine wp_reg ?_
    refine st_move hf rfl rfl (by decide) ?_
    clear hf; intro a ha hf; clear ha
    obtain ⟨q8, hcall9, h⟩ := bnd h
    refine st_call hf (by decide) Try.func37 rfl rfl rfl rfl rfl (f_mix_by_c hp _ hcall9) ?_
    rintro _ w ⟨rfl, hp0⟩
    clear hp; have hp := hp0; clear hp0
    replace hp : Hp _ _ w (Res.obj 60 v6 [.func (.func 39) #[] #[], .func (.func 40) #[] #[], .func (.func 41) #[] #[], .func (.func 42) #[] #[]] :: ow) := hp
    refine ⟨_, rfl, ?_⟩
    clear hf; intro a hf
    refine st_assign hf rfl rfl (by decide) ?_
    clear hf; intro a ha hf; clear ha
    refine st_assign hf rfl rfl (by decide) ?_
    clear hf; intro a ha hf; clear ha
    refine st_nil hf ?_
    refine th_n ?_
    refine wp_seq ?_
    refine wp_reg ?_
    refine st_move hf rfl rfl (by decide) ?_
    clear hf; intro a ha hf; clear ha
    refine st_len (E := Ek.c128) hf (by decide) Try.underlying24 rfl rfl (hl0.sl hp) ?_
    clear hf; intro a ha hf; clear ha
    obtain ⟨hc10, h⟩ := chk h
    refine st_make (E := Ek.c128) hf (by decide) elt36 Try.underlying24 (by decide) hp rfl rfl rfl hc10.1 hc10.2.1 hc10.2.2 ?_
    clear hf; intro a w v11 hf hp0; clear hp; have hp := hp0; clear hp0
    replace hp : Hp _ _ w (Res.sl Ek.c128 36 v11 (List.replicate ((0 : Int)).toNat (Fl.bits 0, Fl.bits 0)) :: Res.obj 60 v6 [.func (.func 39) #[] #[], .func (.func 40) #[] #[], .func (.func 41) #[] #[], .func (.func 42) #[] #[]] :: ow) := hp
    refine st_assign hf rfl rfl (by decide) ?_
    clear hf; intro a ha hf; clear ha
    refine st_nil hf ?_
    refine th_n ?_
    refine wp_seq ?_
    refine wp_seq ?_
    refine wp_reg ?_
    refine st_move hf rfl rfl (by decide) ?_
    clear hf; intro a ha hf; clear ha
    refine st_len (E := Ek.c128) hf (by decide) Try.underlying24 rfl rfl (hl0.sl hp) ?_
    clear hf; intro a ha hf; clear ha
    refine st_move hf rfl rfl (by decide) ?_
    clear hf; intro a ha hf; clear ha
    refine st_nil hf ?_
    refine th_n ?_
    refine wp_block ?_
    obtain ⟨q36, hl, h⟩ := bnd h
    refine wp_loop_pure (f := (f_mix_Up.s1 l0 q8)) (s := ((0 : Int), (List.replicate ((0 : Int)).toNat (Fl.bits 0, Fl.bits 0)), (0 : Int))) (fun s a w => ∃ (v13 : Value), Fr 43 a [(6, optr v6 0), (7, .int .i64 q8), (8, .int .i64 s.1), (9, v13), (22, vl0), (23, .int .i64 (l0.length : Int)), (24, .int .i64 s.2.2)] ∧ Hp S w0 w (Res.sl Ek.c128 36 v13 s.2.1 :: Res.obj 60 v6 [.func (.func 39) #[] #[], .func (.func 40) #[] #[], .func (.func 41) #[] #[], .func (.func 42) #[] #[]] :: ow)) (fun q e a w => e = .exit 0 ∧ ∃ (v15 : Value), Fr 43 a [(9, v15)] ∧ Hp S w0 w (Res.sl Ek.c128 36 v15 q :: ow)) ?_ hl ⟨_, hf.sub ⟨rfl, rfl, rfl, rfl, rfl, rfl, rfl, trivial⟩, hp⟩ ?_
    · clear hl hf hp
      intro s x a w h hI
      obtain ⟨at8, out9, t24⟩ := s
      obtain ⟨v13, hf, hp⟩ : ∃ (v13 : Value), Fr 43 a [(6, optr v6 0), (7, .int .i64 q8), (8, .int .i64 at8), (9, v13), (22, vl0), (23, .int .i64 (l0.length : Int)), (24, .int .i64 t24)] ∧ Hp S w0 w (Res.sl Ek.c128 36 v13 out9 :: Res.obj 60 v6 [.func (.func 39) #[] #[], .func (.func 40) #[] #[], .func (.func 41) #[] #[], .func (.func 42) #[] #[]] :: ow) := hI
      replace h : f_mix_Up.s1c l0 q8 at8 out9 t24 = some x := h
      unfold f_mix_Up.s1c at h
      refine wp_seq ?_
      refine wp_reg ?_
      refine st_ilss hf (by decide) rfl rfl rfl ?_
      clear hf; intro a ha hf; clear ha
      refine st_nil hf ?_
      refine th_n ?_
      refine wp_seq ?_
      refine wp_if hf rfl (fun hb => ?_) (fun hb => ?_)
      · replace h := ifT h hb
        refine wp_skip ?_
        refine th_n ?_
        refine wp_seq ?_
        refine wp_block ?_
        refine wp_seq ?_
        refine wp_reg ?_
        obtain ⟨hc17, h⟩ := chk h
        refine st_index (E := Ek.c128) hf (by decide) Try.underlying24 elt36 rfl rfl rfl (hl0.sl hp) hc17.1 hc17.2 ?_
        clear hf; intro a ha hf; clear ha
        refine st_ldC hf (by decide) pl36 rfl rfl (hl0.sl hp) hc17.1 hc17.2 ?_
        clear hf; intro a b18 b19 y20 y21 ha hf; clear ha
        refine st_assign hf rfl rfl (by decide) ?_
        clear hf; intro a ha hf; clear ha
        refine st_nil hf ?_
        refine th_n ?_
        refine wp_seq ?_
        refine wp_reg ?_
        refine st_move hf rfl rfl (by decide) ?_
        clear hf; intro a ha hf; clear ha
        refine st_move hf rfl rfl (by decide) ?_
        clear hf; intro a ha hf; clear ha
        obtain ⟨hc22, h⟩ := chk h
        refine st_ia (o' := 0 + (at8).toNat * 1) hf (by decide) Try.underlying60 (sz := 1) (by kernel_rfl) rfl rfl rfl (hp.ob (i := 1) rfl) hc22.1 hc22.2 rfl ?_
        clear hf; intro a ha hf; clear ha
        refine st_fa (o' := 0 + (at8).toNat * 1 + 0) hf (by decide) (off := 0) (sz := 1) (by kernel_rfl) (by decide) rfl rfl (hp.ob (i := 1) rfl) rfl ?_
        clear hf; intro a ha hf; clear ha
        refine st_ldO hf (by decide) pl57 rfl rfl (hp.ob (i := 1) rfl) (sel_get hc22) ?_
        clear hf; intro a ha hf; clear ha
        refine st_move hf rfl rfl (by decide) ?_
        clear hf; intro a ha hf; clear ha
        obtain ⟨q23, hcall24, h⟩ := bnd h
        have hs29 : ∃ f fn c, (([.func (.func 39) #[] #[], .func (.func 40) #[] #[], .func (.func 41) #[] #[], .func (.func 42) #[] #[]] : List Value).getD (at8).toNat undef) = .func (.func f) #[] #[] ∧ Try.prog.funcs[f]? = some fn ∧ (fn.name == "runtime.NumGoroutine") = false ∧ fn.body = some c ∧ Calls Try.prog f #[.complex .f64 b18 b19] w (fun e w' => ∃ (b0 : Nat) (b1 : Nat), e = .returned (.complex .f64 b0 b1) ∧ Fl.rep b0 q23.1 ∧ Fl.rep b1 q23.2 ∧ Hp S w0 w' (Res.sl Ek.c128 36 v13 out9 :: Res.obj 60 v6 [.func (.func 39) #[] #[], .func (.func 40) #[] #[], .func (.func 41) #[] #[], .func (.func 42) #[] #[]] :: ow)) := by
          have hsel : at8 = (0 : Int) ∨ at8 = (1 : Int) ∨ at8 = (2 : Int) ∨ at8 = (3 : Int) := by omega
          rcases hsel with hsel | hsel | hsel | hsel
          · exact ⟨39, _, _, by rw [hsel]; rfl, Try.func39, rfl, rfl, f_mix_turns_1_c hp _ _ _ y20 y21 (by simpa [hsel] using hcall24)⟩
          · exact ⟨40, _, _, by rw [hsel]; rfl, Try.func40, rfl, rfl, f_mix_turns_2_c hp _ _ _ y20 y21 (by simpa [hsel] using hcall24)⟩
          · exact ⟨41, _, _, by rw [hsel]; rfl, Try.func41, rfl, rfl, f_mix_turns_3_c hp _ _ _ y20 y21 (by simpa [hsel] using hcall24)⟩
          · exact ⟨42, _, _, by rw [hsel]; rfl, Try.func42, rfl, rfl, f_mix_turns_4_c hp _ _ _ y20 y21 (by simpa [hsel] using hcall24)⟩
        refine st_callW hf (by decide) rfl rfl rfl hs29 ?_
        rintro _ w ⟨v25, v26, rfl, y27, y28, hp0⟩
        clear hp hs29; have hp := hp0; clear hp0
        refine ⟨_, rfl, ?_⟩
        clear hf; intro a hf
        refine st_build (E := Ek.c128) (xs := [q23]) hf (by decide) elt36 Try.underlying24 hp (vals := #[(0, .complex .f64 v25 v26)]) (cells := #[.complex .f64 v25 v26]) rfl (by simp [hf.ev (x := (Operand.tmp 34)) rfl]) (by decide) (by decide) (z := .complex .f64 0 0) (by kernel_rfl) (by kernel_rfl) rfl (reps_cons (cs := [.complex .f64 v25 v26]) (show Ek.c128.rep [.complex .f64 v25 v26] q23 from ⟨_, _, rfl, y27, y28⟩) (reps_nil _)) ?_
        clear hf; intro a w v30 hf hp0; clear hp; have hp := hp0; clear hp0
        replace hp : Hp _ _ w (Res.sl Ek.c128 36 v30 ([q23]) :: Res.sl Ek.c128 36 v13 out9 :: Res.obj 60 v6 [.func (.func 39) #[] #[], .func (.func 40) #[] #[], .func (.func 41) #[] #[], .func (.func 42) #[] #[]] :: ow) := hp
        obtain ⟨hc32, h⟩ := chk h
        refine st_append (E := Ek.c128) hf (by decide) elt36 Try.underlying24 (by decide) hp (i := 1) rfl rfl rfl rfl (hp.sl (i := 0) rfl) hc32 ?_
        clear hf; intro a w v33 hf hp0; clear hp; have hp := hp0; clear hp0
        replace hp : Hp _ _ w (Res.sl Ek.c128 36 v30 ([q23]) :: Res.sl Ek.c128 36 v33 (out9 ++ [q23]) :: Res.obj 60 v6 [.func (.func 39) #[] #[], .func (.func 40) #[] #[], .func (.func 41) #[] #[], .func (.func 42) #[] #[]] :: ow) := hp
        refine st_assign hf rfl rfl (by decide) ?_
        clear hf; intro a ha hf; clear ha
        refine st_nil hf ?_
        refine th_n ?_
        refine wp_reg ?_
        refine st_move hf rfl rfl (by decide) ?_
        clear hf; intro a ha hf; clear ha
        refine st_move hf rfl rfl (by decide) ?_
        clear hf; intro a ha hf; clear ha
        refine st_iadd hf (by decide) rfl rfl rfl ?_
        clear hf; intro a ha hf; clear ha
        obtain ⟨q34, hcall35, h⟩ := bnd h
        refine st_call hf (by decide) Try.func37 rfl rfl rfl rfl rfl (f_mix_by_c hp _ hcall35) ?_
        rintro _ w ⟨rfl, hp0⟩
        clear hp; have hp := hp0; clear hp0
        replace hp : Hp _ _ w (Res.sl Ek.c128 36 v30 ([q23]) :: Res.sl Ek.c128 36 v33 (out9 ++ [q23]) :: Res.obj 60 v6 [.func (.func 39) #[] #[], .func (.func 40) #[] #[], .func (.func 41) #[] #[], .func (.func 42) #[] #[]] :: ow) := hp
        refine ⟨_, rfl, ?_⟩
        clear hf; intro a hf
        refine st_assign hf rfl rfl (by decide) ?_
        clear hf; intro a ha hf; clear ha
        refine st_nil hf ?_
        refine ib_n ?_
        refine th_n ?_
        refine wp_reg ?_
        refine st_iadd hf (by decide) rfl rfl rfl ?_
        clear hf; intro a ha hf; clear ha
        refine st_move hf rfl rfl (by decide) ?_
        clear hf; intro a ha hf; clear ha
        refine st_nil hf ?_
        obtain rfl := Option.some.inj h
        have hp : Hp _ _ w (Res.sl Ek.c128 36 v33 (out9 ++ [q23]) :: Res.obj 60 v6 [.func (.func 39) #[] #[], .func (.func 40) #[] #[], .func (.func 41) #[] #[], .func (.func 42) #[] #[]] :: ow) := Hp.sel (pre := [Res.sl Ek.c128 36 v30 ([q23]), Res.sl Ek.c128 36 v33 (out9 ++ [q23]), Res.obj 60 v6 [.func (.func 39) #[] #[], .func (.func 40) #[] #[], .func (.func 41) #[] #[], .func (.func 42) #[] #[]]]) (tail := ow) (rs' := [Res.sl Ek.c128 36 v33 (out9 ++ [q23]), Res.obj 60 v6 [.func (.func 39) #[] #[], .func (.func 40) #[] #[], .func (.func 41) #[] #[], .func (.func 42) #[] #[]]]) hp [1, 2] (by decide) (by simp) rfl
        exact rnd_l ⟨_, hf.sub ⟨rfl, rfl, rfl, rfl, rfl, rfl, rfl, trivial⟩, hp⟩
      · replace h := ifF h hb
        refine wp_exit ?_
        refine th_e ?_
        obtain rfl := Option.some.inj h
        have hp : Hp _ _ w (Res.sl Ek.c128 36 v13 out9 :: ow) := Hp.sel (pre := [Res.sl Ek.c128 36 v13 out9, Res.obj 60 v6 [.func (.func 39) #[] #[], .func (.func 40) #[] #[], .func (.func 41) #[] #[], .func (.func 42) #[] #[]]]) (tail := ow) (rs' := [Res.sl Ek.c128 36 v13 out9]) hp [0] (by decide) (by simp) rfl
        exact rnd_r (by simp) ⟨rfl, _, hf.sub ⟨rfl, trivial⟩, hp⟩
    · clear hl hf hp
      intro e a w hne hO
      obtain ⟨rfl, v15, hf, hp⟩ := hO
      refine ib_same ?_
      refine th_n ?_
      refine wp_seq ?_
      refine wp_reg ?_
      refine st_move hf rfl rfl (by decide) ?_
      clear hf; intro a ha hf; clear ha
      refine st_assign hf rfl rfl (by decide) ?_
      clear hf; intro a ha hf; clear ha
      refine st_assign hf rfl rfl (by decide) ?_
      clear hf; intro a ha hf; clear ha
      refine st_nil hf ?_
      refine th_n ?_
      refine wp_ret ?_
      obtain rfl := Option.some.inj h
      exact ⟨rfl, ⟨_, hf.sub ⟨rfl, rfl, trivial⟩, hp⟩⟩

noncomputable def f_mix_Line.s1c (q4 : ((List (Fl × Fl)) × Int)) (out6 : (List Fl)) (t25 : Int) : Option (((List Fl) × Int) ⊕ (List Fl)) := (if (decide (t25 < (q4.1.length : Int))) = true then (if 0 ≤ t25 ∧ t25 < (q4.1.length : Int) then (if (out6.length + ([(gt q4.1 t25).1, (gt q4.1 t25).2]).length) * 8 ≤ 140737488355328 then (some (Sum.inl ((out6 ++ [(gt q4.1 t25).1, (gt q4.1 t25).2]), (IntKind.i64.wrap (t25 + (1 : Int)))))) else none) else none) else (some (Sum.inr out6)))
noncomputable def f_mix_Line.s1 (q4 : ((List (Fl × Fl)) × Int)) (s : ((List Fl) × Int)) : Option (((List Fl) × Int) ⊕ (List Fl)) := f_mix_Line.s1c q4 s.1 s.2
noncomputable def f_mix_Line (l0 : (List (Fl × Fl))) : Option ((List Fl) × Int) := ((f_mix_fits (IntKind.i64.wrap ((2 : Int) * (l0.length : Int)))).bind fun q1 => (if (!q1) = true then (some ([], (1 : Int))) else ((f_mix_Up l0 (1 : Int)).bind fun q4 => (if 0 ≤ (0 : Int) ∧ (0 : Int) ≤ (IntKind.i64.wrap ((2 : Int) * (l0.length : Int))) ∧ (IntKind.i64.wrap ((2 : Int) * (l0.length : Int))) * 8 ≤ 281474976710656 then ((loop (f_mix_Line.s1 q4) ((List.replicate ((0 : Int)).toNat (Fl.bits 0)), (0 : Int))).bind (fun q24 => (some (q24, (0 : Int))))) else none))))
theorem f_mix_Line_c {S : Nat → Prop} {w0 w : World} {ow : List Res} (hp : Hp S w0 w ow) (vl0 : Value) (l0 : (List (Fl × Fl))) (hl0 : RdS Ek.c128 S w0 vl0 l0) {r : ((List Fl) × Int)} (h : f_mix_Line l0 = some r) :
    Calls Try.prog 26 #[vl0] w (fun e w' => ∃ (u0 : Value), e = .returned (.tuple #[u0, .int .i64 r.2]) ∧ Hp S w0 w' (Res.sl Ek.f64 37 u0 r.1 :: ow)) := by
  unfold f_mix_Line at h
  refine enter (n := 38) (args := [vl0]) Try.func26 rfl rfl (Nat.le_of_ble_eq_true rfl) fun a hf => ?_
  replace hf : Fr 38 a [(0, vl0)] := hf
  refine wp_mono (Q := fun e a w => e = .ret ∧ ∃ (u0 : Value), Fr 38 a [(2, u0), (3, .int .i64 r.2)] ∧ Hp S w0 w (Res.sl Ek.f64 37 u0 r.1 :: ow)) ?_ ?_
  rotate_left
  · rintro e a w ⟨rfl, x0, hf, hp⟩
    exact ret2 hf rfl rfl rfl ⟨x0, rfl, hp⟩
  refine wp_seq ?_
  refine wp_reg ?_
  refine st_assign hf rfl rfl (by decide) ?_
  clear hf; intro a ha hf; clear ha
  refine st_assign hf rfl rfl (by decide) ?_
  clear hf; intro a ha hf; clear ha
  refine st_nil hf ?_
  refine th_n ?_
  refine wp_seq ?_
  refine wp_seq ?_
  refine wp_reg ?_
  refine st_move hf rfl rfl (by decide) ?_
  clear hf; intro a ha hf; clear ha
  refine st_len (E := Ek.c128) hf (by decide) Try.underlying24 rfl rfl (hl0.sl hp) ?_
  clear hf; intro a ha hf; clear ha
  refine st_imul hf (by decide) rfl rfl rfl ?_
  clear hf; intro a ha hf; clear ha
  obtain ⟨q1, hcall2, h⟩ := bnd h
  refine st_call hf (by decide) Try.func34 rfl rfl rfl rfl rfl (f_mix_fits_c hp _ hcall2) ?_
  rintro _ w ⟨rfl, hp0⟩
  clear hp; have hp := hp0; clear hp0
  replace hp : Hp _ _ w (ow) := hp
  refine ⟨_, rfl, ?_⟩
  clear hf; intro a hf
  refine st_not hf (by decide) rfl rfl ?_
  clear hf; intro a ha hf; clear ha
  refine st_nil hf ?_
  refine th_n ?_
  refine wp_if hf rfl (fun hb => ?_) (fun hb => ?_)
  · replace h := ifT h hb
    refine wp_seq ?_
    refine wp_reg ?_
    refine st_assign hf rfl rfl (by decide) ?_
    clear hf; intro a ha hf; clear ha
    refine st_assign hf rfl rfl (by decide) ?_
    clear hf; intro a ha hf; clear ha
    refine st_nil hf ?_
    refine th_n ?_
    refine wp_ret ?_
    refine th_r ?_
    obtain rfl := Option.some.inj h
    have hp := hp.nil Ek.f64 37
    exact ⟨rfl, ⟨_, hf.sub ⟨rfl, rfl, trivial⟩, hp⟩⟩
  · replace h := ifF h hb
    refine wp_skip ?_
    refine th_n ?_
    refine wp_seq ?_
    refine wp_reg ?_
    refine st_move hf rfl rfl (by decide) ?_
    clear hf; intro a ha hf; clear ha
    obtain ⟨q4, hcall5, h⟩ := bnd h
    refine st_call hf (by decide) Try.func17 rfl rfl rfl rfl rfl (f_mix_Up_c hp _ _ hl0 _ hcall5) ?_
    rintro _ w ⟨v6, rfl, hp0⟩
    clear hp; have hp := hp0; clear hp0
    replace hp : Hp _ _ w (Res.sl Ek.c128 36 v6 q4.1 :: ow) := hp
    refine ⟨_, rfl, ?_⟩
    clear hf; intro a hf
    refine st_move hf rfl rfl (by decide) ?_
    clear hf; intro a ha hf; clear ha
    refine st_extract hf (by decide) rfl rfl rfl ?_
    clear hf; intro a ha hf; clear ha
    refine st_extract hf (by decide) rfl rfl rfl ?_
    clear hf; intro a ha hf; clear ha
    refine st_assign hf rfl rfl (by decide) ?_
    clear hf; intro a ha hf; clear ha
    refine st_assign hf rfl rfl (by decide) ?_
    clear hf; intro a ha hf; clear ha
    refine st_nil hf ?_
    refine th_n ?_
    refine wp_seq ?_
    refine wp_reg ?_
    refine st_move hf rfl rfl (by decide) ?_
    clear hf; intro a ha hf; clear ha
    refine st_len (E := Ek.c128) hf (by decide) Try.underlying24 rfl rfl (hl0.sl hp) ?_
    clear hf; intro a ha hf; clear ha
    refine st_imul hf (by decide) rfl rfl rfl ?_
    clear hf; intro a ha hf; clear ha
    obtain ⟨hc8, h⟩ := chk h
    refine st_make (E := Ek.f64) hf (by decide) elt37 Try.underlying40 (by decide) hp rfl rfl rfl hc8.1 hc8.2.1 hc8.2.2 ?_
    clear hf; intro a w v9 hf hp0; clear hp; have hp := hp0; clear hp0
    replace hp : Hp _ _ w (Res.sl Ek.f64 37 v9 (List.replicate ((0 : Int)).toNat (Fl.bits 0)) :: Res.sl Ek.c128 36 v6 q4.1 :: ow) := hp
    refine st_assign hf rfl rfl (by decide) ?_
    clear hf; intro a ha hf; clear ha
    refine st_nil hf ?_
    refine th_n ?_
    refine wp_seq ?_
    refine wp_seq ?_
    refine wp_reg ?_
    refine st_move hf rfl rfl (by decide) ?_
    clear hf; intro a ha hf; clear ha
    refine st_len (E := Ek.c128) hf (by decide) Try.underlying24 rfl rfl (hp.sl (i := 1) rfl) ?_
    clear hf; intro a ha hf; clear ha
    refine st_move hf rfl rfl (by decide) ?_
    clear hf; intro a ha hf; clear ha
    refine st_nil hf ?_
    refine th_n ?_
    refine wp_block ?_
    obtain ⟨q24, hl, h⟩ := bnd h
    refine wp_loop_pure (f := (f_mix_Line.s1 q4)) (s := ((List.replicate ((0 : Int)).toNat (Fl.bits 0)), (0 : Int))) (fun s a w => ∃ (v11 : Value), Fr 38 a [(6, v11), (23, v6), (24, .int .i64 (q4.1.length : Int)), (25, .int .i64 s.2)] ∧ Hp S w0 w (Res.sl Ek.f64 37 v11 s.1 :: Res.sl Ek.c128 36 v6 q4.1 :: ow)) (fun q e a w => e = .exit 0 ∧ ∃ (v13 : Value), Fr 38 a [(6, v13)] ∧ Hp S w0 w (Res.sl Ek.f64 37 v13 q :: ow)) ?_ hl ⟨_, hf.sub ⟨rfl, rfl, rfl, rfl, trivial⟩, hp⟩ ?_
    · clear hl hf hp
      intro s x a w h hI
      obtain ⟨out6, t25⟩ := s
      obtain ⟨v11, hf, hp⟩ : ∃ (v11 : Value), Fr 38 a [(6, v11), (23, v6), (24, .int .i64 (q4.1.length : Int)), (25, .int .i64 t25)] ∧ Hp S w0 w (Res.sl Ek.f64 37 v11 out6 :: Res.sl Ek.c128 36 v6 q4.1 :: ow) := hI
      replace h : f_mix_Line.s1c q4 out6 t25 = some x := h
      unfold f_mix_Line.s1c at h
      refine wp_seq ?_
      refine wp_reg ?_
      refine st_ilss hf (by decide) rfl rfl rfl ?_
      clear hf; intro a ha hf; clear ha
      refine st_nil hf ?_
      refine th_n ?_
      refine wp_seq ?_
      refine wp_if hf rfl (fun hb => ?_) (fun hb => ?_)
      · replace h := ifT h hb
        refine wp_skip ?_
        refine th_n ?_
        refine wp_seq ?_
        refine wp_block ?_
        refine wp_seq ?_
        refine wp_reg ?_
        obtain ⟨hc15, h⟩ := chk h
        refine st_index (E := Ek.c128) hf (by decide) Try.underlying24 elt36 rfl rfl rfl (hp.sl (i := 1) rfl) hc15.1 hc15.2 ?_
        clear hf; intro a ha hf; clear ha
        refine st_ldC hf (by decide) pl36 rfl rfl (hp.sl (i := 1) rfl) hc15.1 hc15.2 ?_
        clear hf; intro a b16 b17 y18 y19 ha hf; clear ha
        refine st_assign hf rfl rfl (by decide) ?_
        clear hf; intro a ha hf; clear ha
        refine st_nil hf ?_
        refine th_n ?_
        refine wp_reg ?_
        refine st_move hf rfl rfl (by decide) ?_
        clear hf; intro a ha hf; clear ha
        refine st_move hf rfl rfl (by decide) ?_
        clear hf; intro a ha hf; clear ha
        refine st_real hf (by decide) rfl rfl ?_
        clear hf; intro a ha hf; clear ha
        refine st_move hf rfl rfl (by decide) ?_
        clear hf; intro a ha hf; clear ha
        refine st_imag hf (by decide) rfl rfl ?_
        clear hf; intro a ha hf; clear ha
        refine st_build (E := Ek.f64) (xs := [(gt q4.1 t25).1, (gt q4.1 t25).2]) hf (by decide) elt37 Try.underlying40 hp (vals := #[(0, .float .f64 b16), (1, .float .f64 b17)]) (cells := #[.float .f64 b16, .float .f64 b17]) rfl (by simp [hf.ev (x := (Operand.tmp 31)) rfl, hf.ev (x := (Operand.tmp 33)) rfl]) (by decide) (by decide) (z := .float .f64 0) (by kernel_rfl) (by kernel_rfl) rfl (reps_cons (cs := [.float .f64 b16]) (show Ek.f64.rep [.float .f64 b16] ((gt q4.1 t25).1) from ⟨_, rfl, y18⟩) (reps_cons (cs := [.float .f64 b17]) (show Ek.f64.rep [.float .f64 b17] ((gt q4.1 t25).2) from ⟨_, rfl, y19⟩) (reps_nil _))) ?_
        clear hf; intro a w v20 hf hp0; clear hp; have hp := hp0; clear hp0
        replace hp : Hp _ _ w (Res.sl Ek.f64 37 v20 ([(gt q4.1 t25).1, (gt q4.1 t25).2]) :: Res.sl Ek.f64 37 v11 out6 :: Res.sl Ek.c128 36 v6 q4.1 :: ow) := hp
        obtain ⟨hc22, h⟩ := chk h
        refine st_append (E := Ek.f64) hf (by decide) elt37 Try.underlying40 (by decide) hp (i := 1) rfl rfl rfl rfl (hp.sl (i := 0) rfl) hc22 ?_
        clear hf; intro a w v23 hf hp0; clear hp; have hp := hp0; clear hp0
        replace hp : Hp _ _ w (Res.sl Ek.f64 37 v20 ([(gt q4.1 t25).1, (gt q4.1 t25).2]) :: Res.sl Ek.f64 37 v23 (out6 ++ [(gt q4.1 t25).1, (gt q4.1 t25).2]) :: Res.sl Ek.c128 36 v6 q4.1 :: ow) := hp
        refine st_assign hf rfl rfl (by decide) ?_
        clear hf; intro a ha hf; clear ha
        refine st_nil hf ?_
        refine ib_n ?_
        refine th_n ?_
        refine wp_reg ?_
        refine st_iadd hf (by decide) rfl rfl rfl ?_
        clear hf; intro a ha hf; clear ha
        refine st_move hf rfl rfl (by decide) ?_
        clear hf; intro a ha hf; clear ha
        refine st_nil hf ?_
        obtain rfl := Option.some.inj h
        have hp : Hp _ _ w (Res.sl Ek.f64 37 v23 (out6 ++ [(gt q4.1 t25).1, (gt q4.1 t25).2]) :: Res.sl Ek.c128 36 v6 q4.1 :: ow) := Hp.sel (pre := [Res.sl Ek.f64 37 v20 ([(gt q4.1 t25).1, (gt q4.1 t25).2]), Res.sl Ek.f64 37 v23 (out6 ++ [(gt q4.1 t25).1, (gt q4.1 t25).2]), Res.sl Ek.c128 36 v6 q4.1]) (tail := ow) (rs' := [Res.sl Ek.f64 37 v23 (out6 ++ [(gt q4.1 t25).1, (gt q4.1 t25).2]), Res.sl Ek.c128 36 v6 q4.1]) hp [1, 2] (by decide) (by simp) rfl
        exact rnd_l ⟨_, hf.sub ⟨rfl, rfl, rfl, rfl, trivial⟩, hp⟩
      · replace h := ifF h hb
        refine wp_exit ?_
        refine th_e ?_
        obtain rfl := Option.some.inj h
        have hp : Hp _ _ w (Res.sl Ek.f64 37 v11 out6 :: ow) := Hp.sel (pre := [Res.sl Ek.f64 37 v11 out6, Res.sl Ek.c128 36 v6 q4.1]) (tail := ow) (rs' := [Res.sl Ek.f64 37 v11 out6]) hp [0] (by decide) (by simp) rfl
        exact rnd_r (by simp) ⟨rfl, _, hf.sub ⟨rfl, trivial⟩, hp⟩
    · clear hl hf hp
      intro e a w hne hO
      obtain ⟨rfl, v13, hf, hp⟩ := hO
      refine ib_same ?_
      refine th_n ?_
      refine wp_seq ?_
      refine wp_reg ?_
      refine st_move hf rfl rfl (by decide) ?_
      clear hf; intro a ha hf; clear ha
      refine st_assign hf rfl rfl (by decide) ?_
      clear hf; intro a ha hf; clear ha
      refine st_assign hf rfl rfl (by decide) ?_
      clear hf; intro a ha hf; clear ha
      refine st_nil hf ?_
      refine th_n ?_
      refine wp_ret ?_
      obtain rfl := Option.some.inj h
      exact ⟨rfl, ⟨_, hf.sub ⟨rfl, rfl, trivial⟩, hp⟩⟩

noncomputable def f_foghornref08_Float (a0 : Fl) (b1 : Fl) : Option Bool := (some ((feq a0 b1) || ((fne a0 a0) && (fne b1 b1))))
theorem f_foghornref08_Float_c {S : Nat → Prop} {w0 w : World} {ow : List Res} (hp : Hp S w0 w ow) (ba0 : Nat) (a0 : Fl) (ha0 : a0.rep ba0) (bb1 : Nat) (b1 : Fl) (hb1 : b1.rep bb1) {r : Bool} (h : f_foghornref08_Float a0 b1 = some r) :
    Calls Try.prog 38 #[.float .f64 ba0, .float .f64 bb1] w (fun e w' => e = .returned (.bool r) ∧ Hp S w0 w' (ow)) := by
  unfold f_foghornref08_Float at h
  refine enter (n := 18) (args := [.float .f64 ba0, .float .f64 bb1]) Try.func38 rfl rfl (Nat.le_of_ble_eq_true rfl) fun a hf => ?_
  replace hf : Fr 18 a [(0, .float .f64 ba0), (1, .float .f64 bb1)] := hf
  refine wp_mono (Q := fun e a w => e = .ret ∧ Fr 18 a [(4, .bool r)] ∧ Hp S w0 w (ow)) ?_ ?_
  rotate_left
  · rintro e a w ⟨rfl, hf, hp⟩
    exact ret1 hf rfl rfl ⟨rfl, hp⟩
  refine wp_seq ?_
  refine wp_reg ?_
  refine st_assign hf rfl rfl (by decide) ?_
  clear hf; intro a ha hf; clear ha
  refine st_nil hf ?_
  refine th_n ?_
  refine wp_seq ?_
  refine wp_reg ?_
  refine st_move hf rfl rfl (by decide) ?_
  clear hf; intro a ha hf; clear ha
  refine st_move hf rfl rfl (by decide) ?_
  clear hf; intro a ha hf; clear ha
  refine st_fcmp (r_feq (fx := a0) (fy := b1) ha0 hb1) hf (by decide) rfl rfl rfl ?_
  clear hf; intro a ha hf; clear ha
  refine st_move hf rfl rfl (by decide) ?_
  clear hf; intro a ha hf; clear ha
  refine wpList_cut 9 (fun a w => Fr 18 a [(17, .bool ((feq a0 b1) || ((fne a0 a0) && (fne b1 b1))))] ∧ Hp S w0 w (ow)) ?_ ?_
  · rcases Bool.eq_false_or_eq_true (feq a0 b1) with hb2 | hb2
    · skip
      refine st_skip hf (wantN hf rfl rfl hb2) rfl (by decide) ?_ rfl
      clear hf; intro a hf
      refine st_skip hf (wantN hf rfl rfl hb2) rfl (by decide) ?_ rfl
      clear hf; intro a hf
      refine st_skip hf (wantN hf rfl rfl hb2) rfl (by decide) ?_ rfl
      clear hf; intro a hf
      refine st_skipU hf (wantN hf rfl rfl hb2) rfl (by decide) ?_
      clear hf; intro a hf
      refine st_skip hf (wantU hf rfl rfl) rfl (by decide) ?_ rfl
      clear hf; intro a hf
      refine st_skip hf (wantU hf rfl rfl) rfl (by decide) ?_ rfl
      clear hf; intro a hf
      refine st_skip hf (wantU hf rfl rfl) rfl (by decide) ?_ rfl
      clear hf; intro a hf
      refine st_skip hf (wantN hf rfl rfl hb2) rfl (by decide) ?_ rfl
      clear hf; intro a hf
      refine st_pick (v := .bool true) hf rfl rfl (fun hb' => ?_) (fun hb' => ?_) (by decide) ?_
      · rfl
      · exact absurd (hb2.symm.trans hb') (by decide)
      clear hf; intro a ha hf; clear ha
      refine st_nil hf (th_n ?_)
      exact ⟨hf.sub ⟨(by rw [hb2]; rfl), trivial⟩, hp⟩
    · skip
      refine st_move hf (wantY hf rfl rfl hb2) rfl (by decide) ?_
      clear hf; intro a ha hf; clear ha
      refine st_move hf (wantY hf rfl rfl hb2) rfl (by decide) ?_
      clear hf; intro a ha hf; clear ha
      refine st_fcmp (r_fne (fx := a0) (fy := a0) ha0 ha0) hf (by decide) (wantY hf rfl rfl hb2) rfl rfl ?_
      clear hf; intro a ha hf; clear ha
      refine st_move hf (wantY hf rfl rfl hb2) rfl (by decide) ?_
      clear hf; intro a ha hf; clear ha
      refine wpList_cut 4 (fun a w => Fr 18 a [(8, .bool (feq a0 b1)), (16, .bool ((fne a0 a0) && (fne b1 b1)))] ∧ Hp S w0 w (ow)) ?_ ?_
      · rcases Bool.eq_false_or_eq_true (fne a0 a0) with hb4 | hb4
        · skip
          refine st_move hf (wantY hf rfl rfl hb4) rfl (by decide) ?_
          clear hf; intro a ha hf; clear ha
          refine st_move hf (wantY hf rfl rfl hb4) rfl (by decide) ?_
          clear hf; intro a ha hf; clear ha
          refine st_fcmp (r_fne (fx := b1) (fy := b1) hb1 hb1) hf (by decide) (wantY hf rfl rfl hb4) rfl rfl ?_
          clear hf; intro a ha hf; clear ha
          refine st_pick (v := .bool (fne b1 b1)) hf (wantY hf rfl rfl hb2) rfl (fun hb' => ?_) (fun hb' => ?_) (by decide) ?_
          · rfl
          · exact absurd (hb4.symm.trans hb') (by decide)
          clear hf; intro a ha hf; clear ha
          refine st_nil hf (th_n ?_)
          exact ⟨hf.sub ⟨rfl, (by rw [hb4]; rfl), trivial⟩, hp⟩
        · skip
          refine st_skip hf (wantN hf rfl rfl hb4) rfl (by decide) ?_ rfl
          clear hf; intro a hf
          refine st_skip hf (wantN hf rfl rfl hb4) rfl (by decide) ?_ rfl
          clear hf; intro a hf
          refine st_skip hf (wantN hf rfl rfl hb4) rfl (by decide) ?_ rfl
          clear hf; intro a hf
          refine st_pick (v := .bool false) hf (wantY hf rfl rfl hb2) rfl (fun hb' => ?_) (fun hb' => ?_) (by decide) ?_
          · exact absurd (hb4.symm.trans hb') (by decide)
          · rfl
          clear hf; intro a ha hf; clear ha
          refine st_nil hf (th_n ?_)
          exact ⟨hf.sub ⟨rfl, (by rw [hb4]; rfl), trivial⟩, hp⟩
      · rintro a w ⟨hf, hp⟩
        refine st_pick (v := .bool ((fne a0 a0) && (fne b1 b1))) hf rfl rfl (fun hb' => ?_) (fun hb' => ?_) (by decide) ?_
        · exact absurd (hb2.symm.trans hb') (by decide)
        · rfl
        clear hf; intro a ha hf; clear ha
        refine st_nil hf (th_n ?_)
        exact ⟨hf.sub ⟨(by rw [hb2]; rfl), trivial⟩, hp⟩
  · rintro a w ⟨hf, hp⟩
    refine st_assign hf rfl rfl (by decide) ?_
    clear hf; intro a ha hf; clear ha
    refine st_nil hf ?_
    refine th_n ?_
    refine wp_ret ?_
    obtain rfl := Option.some.inj h
    exact ⟨rfl, ⟨hf.sub ⟨rfl, trivial⟩, hp⟩⟩

noncomputable def f_foghornref08_Floats.s1c (a0 : (List Fl)) (b1 : (List Fl)) (i5 : Int) : Option (Int ⊕ (Unit ⊕ Bool)) := (if (decide (i5 < (a0.length : Int))) = true then (if 0 ≤ i5 ∧ i5 < (a0.length : Int) then (if 0 ≤ i5 ∧ i5 < (b1.length : Int) then ((f_foghornref08_Float (gt a0 i5) (gt b1 i5)).bind fun q9 => (if (!q9) = true then (some (Sum.inr (Sum.inr false))) else (some (Sum.inl (IntKind.i64.wrap (i5 + (1 : Int))))))) else none) else none) else (some (Sum.inr (Sum.inl ()))))
noncomputable def f_foghornref08_Floats.s1 (a0 : (List Fl)) (b1 : (List Fl)) (s : Int) : Option (Int ⊕ (Unit ⊕ Bool)) := f_foghornref08_Floats.s1c a0 b1 s
noncomputable def f_foghornref08_Floats (a0 : (List Fl)) (b1 : (List Fl)) : Option Bool := (if ((a0.length : Int) != (b1.length : Int)) = true then (some false) else ((loop (f_foghornref08_Floats.s1 a0 b1) (0 : Int)).bind (fun q11 => sm q11 (fun q12 => (some true)) (fun q13 => (some q13)))))
theorem f_foghornref08_Floats_c {S : Nat → Prop} {w0 w : World} {ow : List Res} (hp : Hp S w0 w ow) (va0 : Value) (a0 : (List Fl)) (ha0 : RdS Ek.f64 S w0 va0 a0) (vb1 : Value) (b1 : (List Fl)) (hb1 : RdS Ek.f64 S w0 vb1 b1) {r : Bool} (h : f_foghornref08_Floats a0 b1 = some r) :
    Calls Try.prog 27 #[va0, vb1] w (fun e w' => e = .returned (.bool r) ∧ Hp S w0 w' (ow)) := by
  unfold f_foghornref08_Floats at h
  refine enter (n := 27) (args := [va0, vb1]) Try.func27 rfl rfl (Nat.le_of_ble_eq_true rfl) fun a hf => ?_
  replace hf : Fr 27 a [(0, va0), (1, vb1)] := hf
  refine wp_mono (Q := fun e a w => e = .ret ∧ Fr 27 a [(4, .bool r)] ∧ Hp S w0 w (ow)) ?_ ?_
  rotate_left
  · rintro e a w ⟨rfl, hf, hp⟩
    exact ret1 hf rfl rfl ⟨rfl, hp⟩
  refine wp_seq ?_
  refine wp_reg ?_
  refine st_assign hf rfl rfl (by decide) ?_
  clear hf; intro a ha hf; clear ha
  refine st_nil hf ?_
  refine th_n ?_
  refine wp_seq ?_
  refine wp_seq ?_
  refine wp_reg ?_
  refine st_move hf rfl rfl (by decide) ?_
  clear hf; intro a ha hf; clear ha
  refine st_len (E := Ek.f64) hf (by decide) Try.underlying40 rfl rfl (ha0.sl hp) ?_
  clear hf; intro a ha hf; clear ha
  refine st_move hf rfl rfl (by decide) ?_
  clear hf; intro a ha hf; clear ha
  refine st_len (E := Ek.f64) hf (by decide) Try.underlying40 rfl rfl (hb1.sl hp) ?_
  clear hf; intro a ha hf; clear ha
  refine st_ineq hf (by decide) rfl rfl rfl ?_
  clear hf; intro a ha hf; clear ha
  refine st_nil hf ?_
  refine th_n ?_
  refine wp_if hf rfl (fun hb => ?_) (fun hb => ?_)
  · replace h := ifT h hb
    refine wp_seq ?_
    refine wp_reg ?_
    refine st_assign hf rfl rfl (by decide) ?_
    clear hf; intro a ha hf; clear ha
    refine st_nil hf ?_
    refine th_n ?_
    refine wp_ret ?_
    refine th_r ?_
    obtain rfl := Option.some.inj h
    exact ⟨rfl, ⟨hf.sub ⟨rfl, trivial⟩, hp⟩⟩
  · replace h := ifF h hb
    refine wp_skip ?_
    refine th_n ?_
    refine wp_seq ?_
    refine wp_seq ?_
    refine wp_reg ?_
    refine st_assign hf rfl rfl (by decide) ?_
    clear hf; intro a ha hf; clear ha
    refine st_nil hf ?_
    refine th_n ?_
    refine wp_block ?_
    obtain ⟨q11, hl, h⟩ := bnd h
    refine wp_loop_pure (f := (f_foghornref08_Floats.s1 a0 b1)) (s := (0 : Int)) (fun s a w => Fr 27 a [(0, va0), (1, vb1), (5, .int .i64 s)] ∧ Hp S w0 w (ow)) (fun q e a w => match q with | (Sum.inl q) => e = .exit 0 ∧ Fr 27 a [] ∧ Hp S w0 w (ow) | (Sum.inr q) => e = .ret ∧ Fr 27 a [(4, .bool q)] ∧ Hp S w0 w (ow)) ?_ hl ⟨hf.sub ⟨rfl, rfl, rfl, trivial⟩, hp⟩ ?_
    · clear hl hf hp
      intro s x a w h hI
      obtain ⟨i5, hs⟩ : ∃ z, z = s := ⟨s, rfl⟩; subst hs
      obtain ⟨hf, hp⟩ : Fr 27 a [(0, va0), (1, vb1), (5, .int .i64 i5)] ∧ Hp S w0 w (ow) := hI
      replace h : f_foghornref08_Floats.s1c a0 b1 i5 = some x := h
      unfold f_foghornref08_Floats.s1c at h
      refine wp_seq ?_
      refine wp_seq ?_
      refine wp_reg ?_
      refine st_move hf rfl rfl (by decide) ?_
      clear hf; intro a ha hf; clear ha
      refine st_move hf rfl rfl (by decide) ?_
      clear hf; intro a ha hf; clear ha
      refine st_len (E := Ek.f64) hf (by decide) Try.underlying40 rfl rfl (ha0.sl hp) ?_
      clear hf; intro a ha hf; clear ha
      refine st_ilss hf (by decide) rfl rfl rfl ?_
      clear hf; intro a ha hf; clear ha
      refine st_nil hf ?_
      refine th_n ?_
      refine wp_if hf rfl (fun hb => ?_) (fun hb => ?_)
      · replace h := ifT h hb
        refine wp_skip ?_
        refine th_n ?_
        refine wp_seq ?_
        refine wp_block ?_
        refine wp_seq ?_
        obtain ⟨hc1, h⟩ := chk h
        obtain ⟨b3, y4, hl2⟩ := RdS.pinF (p := i5) ha0 hc1.1 hc1.2
        obtain ⟨hc5, h⟩ := chk h
        obtain ⟨b7, y8, hl6⟩ := RdS.pinF (p := i5) hb1 hc5.1 hc5.2
        obtain ⟨q9, hcall10, h⟩ := bnd h
        refine wp_cutN (fun a w => Fr 27 a [(0, va0), (1, vb1), (5, .int .i64 i5), (26, .bool (!q9))] ∧ Hp S w0 w (ow)) ?_ ?_
        · have hp := hp.same (Same.drew w)
          refine dr_begin' (fun a w => Fr 27 a [(0, va0), (1, vb1), (5, .int .i64 i5), (26, .bool (!q9))] ∧ Hp S w0 w (ow)) (fun w' => ∃ l, Hp S w0 w' l) [] (by kernel_rfl) ?_
          refine dr_take 0 (va0) rfl (by kernel_rfl) (by kernel_rfl) (by kernel_rfl) (by kernel_rfl) rfl rfl hf (by decide) rfl (fun w hp => ?_) ⟨_, hp⟩ ?_
          · obtain ⟨_, hp⟩ := hp
            refine st_move hf rfl rfl (by decide) ?_
            clear hf; intro a ha hf
            exact st_nil hf (th_n ⟨ha, rfl⟩)
          clear hf; intro a hf
          refine dr_take 1 (.int .i64 i5) rfl (by kernel_rfl) (by kernel_rfl) (by kernel_rfl) (by kernel_rfl) rfl rfl hf (by decide) rfl (fun w hp => ?_) ⟨_, hp⟩ ?_
          · obtain ⟨_, hp⟩ := hp
            refine st_move hf rfl rfl (by decide) ?_
            clear hf; intro a ha hf
            exact st_nil hf (th_n ⟨ha, rfl⟩)
          clear hf; intro a hf
          refine dr_take 2 (eptr va0 i5 1) rfl (by kernel_rfl) (by kernel_rfl) (by kernel_rfl) (by kernel_rfl) rfl rfl hf (by decide) rfl (fun w hp => ?_) ⟨_, hp⟩ ?_
          · obtain ⟨_, hp⟩ := hp
            refine st_index (E := Ek.f64) hf (by decide) Try.underlying40 elt37 rfl rfl rfl (ha0.sl hp) hc1.1 hc1.2 ?_
            clear hf; intro a ha hf
            exact st_nil hf (th_n ⟨ha, rfl⟩)
          clear hf; intro a hf
          refine dr_take 3 (.float .f64 b3) rfl (by kernel_rfl) (by kernel_rfl) (by kernel_rfl) (by kernel_rfl) rfl rfl hf (by decide) rfl (fun w hp => ?_) ⟨_, hp⟩ ?_
          · obtain ⟨_, hp⟩ := hp
            refine st_ldP hf (by decide) pl37 rfl rfl (hl2 _ _ hp) ?_
            clear hf; intro a ha hf
            exact st_nil hf (th_n ⟨ha, rfl⟩)
          clear hf; intro a hf
          refine dr_take 4 (vb1) rfl (by kernel_rfl) (by kernel_rfl) (by kernel_rfl) (by kernel_rfl) rfl rfl hf (by decide) rfl (fun w hp => ?_) ⟨_, hp⟩ ?_
          · obtain ⟨_, hp⟩ := hp
            refine st_move hf rfl rfl (by decide) ?_
            clear hf; intro a ha hf
            exact st_nil hf (th_n ⟨ha, rfl⟩)
          clear hf; intro a hf
          refine dr_take 5 (.int .i64 i5) rfl (by kernel_rfl) (by kernel_rfl) (by kernel_rfl) (by kernel_rfl) rfl rfl hf (by decide) rfl (fun w hp => ?_) ⟨_, hp⟩ ?_
          · obtain ⟨_, hp⟩ := hp
            refine st_move hf rfl rfl (by decide) ?_
            clear hf; intro a ha hf
            exact st_nil hf (th_n ⟨ha, rfl⟩)
          clear hf; intro a hf
          refine dr_take 6 (eptr vb1 i5 1) rfl (by kernel_rfl) (by kernel_rfl) (by kernel_rfl) (by kernel_rfl) rfl rfl hf (by decide) rfl (fun w hp => ?_) ⟨_, hp⟩ ?_
          · obtain ⟨_, hp⟩ := hp
            refine st_index (E := Ek.f64) hf (by decide) Try.underlying40 elt37 rfl rfl rfl (hb1.sl hp) hc5.1 hc5.2 ?_
            clear hf; intro a ha hf
            exact st_nil hf (th_n ⟨ha, rfl⟩)
          clear hf; intro a hf
          refine dr_take 7 (.float .f64 b7) rfl (by kernel_rfl) (by kernel_rfl) (by kernel_rfl) (by kernel_rfl) rfl rfl hf (by decide) rfl (fun w hp => ?_) ⟨_, hp⟩ ?_
          · obtain ⟨_, hp⟩ := hp
            refine st_ldP hf (by decide) pl37 rfl rfl (hl6 _ _ hp) ?_
            clear hf; intro a ha hf
            exact st_nil hf (th_n ⟨ha, rfl⟩)
          clear hf; intro a hf
          refine dr_one 8 rfl (by kernel_rfl) ?_
          refine st_call hf (by decide) Try.func38 rfl rfl rfl rfl rfl (f_foghornref08_Float_c hp _ _ y4 _ _ y8 hcall10) ?_
          rintro _ w ⟨rfl, hp0⟩
          clear hp; have hp := hp0; clear hp0
          replace hp : Hp _ _ w (ow) := hp
          refine ⟨_, rfl, ?_⟩
          clear hf; intro a hf
          refine st_nil hf (th_n ⟨fun _ => ⟨_, hp⟩, ?_⟩)
          refine dr_take 9 (.bool (!q9)) rfl (by kernel_rfl) (by kernel_rfl) (by kernel_rfl) (by kernel_rfl) rfl rfl hf (by decide) rfl (fun w hp => ?_) ⟨_, hp⟩ ?_
          · obtain ⟨_, hp⟩ := hp
            refine st_not hf (by decide) rfl rfl ?_
            clear hf; intro a ha hf
            exact st_nil hf (th_n ⟨ha, rfl⟩)
          clear hf; intro a hf
          refine dr_end (by kernel_rfl) ?_ _
          exact ⟨hf.sub ⟨rfl, rfl, rfl, rfl, trivial⟩, hp⟩
        · rintro a w ⟨hf, hp⟩
          refine th_n ?_
          refine wp_if hf rfl (fun hb => ?_) (fun hb => ?_)
          · replace h := ifT h hb
            refine wp_seq ?_
            refine wp_reg ?_
            refine st_assign hf rfl rfl (by decide) ?_
            clear hf; intro a ha hf; clear ha
            refine st_nil hf ?_
            refine th_n ?_
            refine wp_ret ?_
            refine ib_r ?_
            refine th_r ?_
            obtain rfl := Option.some.inj h
            exact rnd_r (by simp) ⟨rfl, ⟨hf.sub ⟨rfl, trivial⟩, hp⟩⟩
          · replace h := ifF h hb
            refine wp_skip ?_
            refine ib_n ?_
            refine th_n ?_
            refine wp_reg ?_
            refine st_move hf rfl rfl (by decide) ?_
            clear hf; intro a ha hf; clear ha
            refine st_iadd hf (by decide) rfl rfl rfl ?_
            clear hf; intro a ha hf; clear ha
            refine st_assign hf rfl rfl (by decide) ?_
            clear hf; intro a ha hf; clear ha
            refine st_nil hf ?_
            obtain rfl := Option.some.inj h
            exact rnd_l ⟨hf.sub ⟨rfl, rfl, rfl, trivial⟩, hp⟩
      · replace h := ifF h hb
        refine wp_exit ?_
        refine th_e ?_
        obtain rfl := Option.some.inj h
        exact rnd_r (by simp) ⟨rfl, hf.sub trivial, hp⟩
    · clear hl hf hp
      intro e a w hne hO
      cases q11 with
      | inl q12 =>
        replace h := smL h
        obtain ⟨rfl, hf, hp⟩ := hO
        refine ib_same ?_
        refine th_n ?_
        refine wp_seq ?_
        refine wp_reg ?_
        refine st_assign hf rfl rfl (by decide) ?_
        clear hf; intro a ha hf; clear ha
        refine st_nil hf ?_
        refine th_n ?_
        refine wp_ret ?_
        obtain rfl := Option.some.inj h
        exact ⟨rfl, ⟨hf.sub ⟨rfl, trivial⟩, hp⟩⟩
      | inr q13 =>
        replace h := smR h
        obtain ⟨rfl, hf, hp⟩ := hO
        refine ib_r ?_
        refine th_r ?_
        obtain rfl := Option.some.inj h
        exact ⟨rfl, ⟨hf.sub ⟨rfl, trivial⟩, hp⟩⟩

noncomputable def f_foghornlaw08_kept.s1c (z0 : (List (Fl × Fl))) (l1 : (List Int)) (i6 : Int) : Option (Int ⊕ (Unit ⊕ Bool)) := (if (decide (i6 < (z0.length : Int))) = true then (if 0 ≤ i6 ∧ i6 < (z0.length : Int) then ((fbits ((gt z0 i6).1)).bind fun q18 => (if 0 ≤ (IntKind.i64.wrap ((2 : Int) * i6)) ∧ (IntKind.i64.wrap ((2 : Int) * i6)) < (l1.length : Int) then ((if (q18 != (gt l1 (IntKind.i64.wrap ((2 : Int) * i6)))) = true then (some true) else (if 0 ≤ i6 ∧ i6 < (z0.length : Int) then ((fbits ((gt z0 i6).2)).bind fun q29 => (if 0 ≤ (IntKind.i64.wrap ((IntKind.i64.wrap ((2 : Int) * i6)) + (1 : Int))) ∧ (IntKind.i64.wrap ((IntKind.i64.wrap ((2 : Int) * i6)) + (1 : Int))) < (l1.length : Int) then (some (q29 != (gt l1 (IntKind.i64.wrap ((IntKind.i64.wrap ((2 : Int) * i6)) + (1 : Int)))))) else none)) else none)).bind fun z33 => (if z33 = true then (some (Sum.inr (Sum.inr false))) else (some (Sum.inl (IntKind.i64.wrap (i6 + (1 : Int))))))) else none)) else none) else (some (Sum.inr (Sum.inl ()))))
noncomputable def f_foghornlaw08_kept.s1 (z0 : (List (Fl × Fl))) (l1 : (List Int)) (s : Int) : Option (Int ⊕ (Unit ⊕ Bool)) := f_foghornlaw08_kept.s1c z0 l1 s
noncomputable def f_foghornlaw08_kept (z0 : (List (Fl × Fl))) (z0S : (List (Fl × Fl))) (l1 : (List Int)) : Option Bool := ((if ((z0.length : Int) != (IntKind.i64.wrap (((l1.length : Int)).tdiv (2 : Int)))) = true then (some true) else (if 0 ≤ (IntKind.i64.wrap ((z0.length : Int) + (1 : Int))) ∧ (IntKind.i64.wrap ((z0.length : Int) + (1 : Int))) ≤ ((z0 ++ z0S).length : Int) then (if 0 ≤ (z0.length : Int) ∧ (z0.length : Int) < (((z0 ++ z0S).take (((IntKind.i64.wrap ((z0.length : Int) + (1 : Int)))).toNat)).length : Int) then (some (!ceq (gt ((z0 ++ z0S).take (((IntKind.i64.wrap ((z0.length : Int) + (1 : Int)))).toNat)) (z0.length : Int)) (Fl.bits 4651892959631900672, Fl.bits 0))) else none) else none)).bind fun z3 => (if z3 = true then (some false) else ((loop (f_foghornlaw08_kept.s1 z0 l1) (0 : Int)).bind (fun q34 => sm q34 (fun q35 => (some true)) (fun q36 => (some q36))))))
theorem f_foghornlaw08_kept_c {S : Nat → Prop} {w0 w : World} {ow : List Res} (hp : Hp S w0 w ow) (vz0 : Value) (z0 : (List (Fl × Fl))) (z0S : (List (Fl × Fl))) (hz0 : RdX Ek.c128 S w0 vz0 z0 z0S) (vl1 : Value) (l1 : (List Int)) (hl1 : RdS (Ek.int .u64) S w0 vl1 l1) {r : Bool} (h : f_foghornlaw08_kept z0 z0S l1 = some r) :
    Calls Try.prog 13 #[vz0, vl1] w (fun e w' => e = .returned (.bool r) ∧ Hp S w0 w' (ow)) := by
  unfold f_foghornlaw08_kept at h
  refine enter (n := 56) (args := [vz0, vl1]) Try.func13 rfl rfl (Nat.le_of_ble_eq_true rfl) fun a hf => ?_
  replace hf : Fr 56 a [(0, vz0), (1, vl1)] := hf
  refine wp_mono (Q := fun e a w => e = .ret ∧ Fr 56 a [(4, .bool r)] ∧ Hp S w0 w (ow)) ?_ ?_
  rotate_left
  · rintro e a w ⟨rfl, hf, hp⟩
    exact ret1 hf rfl rfl ⟨rfl, hp⟩
  refine wp_seq ?_
  refine wp_reg ?_
  refine st_assign hf rfl rfl (by decide) ?_
  clear hf; intro a ha hf; clear ha
  refine st_nil hf ?_
  refine th_n ?_
  refine wp_seq ?_
  refine wp_reg ?_
  refine st_move hf rfl rfl (by decide) ?_
  clear hf; intro a ha hf; clear ha
  refine st_len (E := Ek.c128) hf (by decide) Try.underlying24 rfl rfl (hz0.rd.sl hp) ?_
  clear hf; intro a ha hf; clear ha
  refine st_assign hf rfl rfl (by decide) ?_
  clear hf; intro a ha hf; clear ha
  refine st_nil hf ?_
  refine th_n ?_
  refine wp_seq ?_
  refine wp_seq ?_
  refine wp_reg ?_
  refine st_move hf rfl rfl (by decide) ?_
  clear hf; intro a ha hf; clear ha
  refine st_move hf rfl rfl (by decide) ?_
  clear hf; intro a ha hf; clear ha
  refine st_len (E := (Ek.int .u64)) hf (by decide) Try.underlying22 rfl rfl (hl1.sl hp) ?_
  clear hf; intro a ha hf; clear ha
  refine st_iquo hf (by decide) rfl rfl rfl (by decide) ?_
  clear hf; intro a ha hf; clear ha
  refine st_ineq hf (by decide) rfl rfl rfl ?_
  clear hf; intro a ha hf; clear ha
  refine st_move hf rfl rfl (by decide) ?_
  clear hf; intro a ha hf; clear ha
  obtain ⟨z3, hz1, h⟩ := bnd h
  refine wpList_cut 9 (fun a w => Fr 56 a [(0, vz0), (1, vl1), (5, .int .i64 (z0.length : Int)), (23, .bool z3)] ∧ Hp S w0 w (ow)) ?_ ?_
  · rcases Bool.eq_false_or_eq_true ((z0.length : Int) != (IntKind.i64.wrap (((l1.length : Int)).tdiv (2 : Int)))) with hb2 | hb2
    · skip
      replace hz1 := ifT hz1 hb2
      refine st_skip hf (wantN hf rfl rfl hb2) rfl (by decide) ?_ rfl
      clear hf; intro a hf
      refine st_skip hf (wantN hf rfl rfl hb2) rfl (by decide) ?_ rfl
      clear hf; intro a hf
      refine st_skip hf (wantN hf rfl rfl hb2) rfl (by decide) ?_ rfl
      clear hf; intro a hf
      refine st_skip hf (wantN hf rfl rfl hb2) rfl (by decide) ?_ rfl
      clear hf; intro a hf
      refine st_skip hf (wantN hf rfl rfl hb2) rfl (by decide) ?_ rfl
      clear hf; intro a hf
      refine st_skip hf (wantN hf rfl rfl hb2) rfl (by decide) ?_ rfl
      clear hf; intro a hf
      refine st_skip hf (wantN hf rfl rfl hb2) rfl (by decide) ?_ rfl
      clear hf; intro a hf
      refine st_skip hf (wantN hf rfl rfl hb2) rfl (by decide) ?_ rfl
      clear hf; intro a hf
      obtain rfl := Option.some.inj hz1
      refine st_pick (v := .bool true) hf rfl rfl (fun hb' => ?_) (fun hb' => ?_) (by decide) ?_
      · rfl
      · exact absurd (hb2.symm.trans hb') (by decide)
      clear hf; intro a ha hf; clear ha
      refine st_nil hf (th_n ?_)
      exact ⟨hf.sub ⟨rfl, rfl, rfl, rfl, trivial⟩, hp⟩
    · skip
      replace hz1 := ifF hz1 hb2
      refine st_move hf (wantY hf rfl rfl hb2) rfl (by decide) ?_
      clear hf; intro a ha hf; clear ha
      refine st_move hf (wantY hf rfl rfl hb2) rfl (by decide) ?_
      clear hf; intro a ha hf; clear ha
      refine st_iadd hf (by decide) (wantY hf rfl rfl hb2) rfl rfl ?_
      clear hf; intro a ha hf; clear ha
      obtain ⟨hc4, hz1⟩ := chk hz1
      have hc5 : 0 ≤ ((IntKind.i64.wrap ((z0.length : Int) + (1 : Int)))).toNat := by omega
      have hc6 : ((IntKind.i64.wrap ((z0.length : Int) + (1 : Int)))).toNat ≤ (z0 ++ z0S).length := by omega
      refine st_cutXr (E := Ek.c128) hf (by decide) Try.underlying24 elt36 (hz0.now hp) (wantY hf rfl rfl hb2) rfl (.inl ⟨rfl, rfl⟩) (.inr ⟨_, _, rfl, evI rfl (by omega)⟩) hc5 hc6 ?_
      clear hf; intro a ha hf; clear ha
      refine st_move hf (wantY hf rfl rfl hb2) rfl (by decide) ?_
      clear hf; intro a ha hf; clear ha
      obtain ⟨hc7, hz1⟩ := chk hz1
      refine st_index (E := Ek.c128) hf (by decide) Try.underlying24 elt36 (wantY hf rfl rfl hb2) rfl rfl ((RdX.take hz0 hc6).sl hp) hc7.1 hc7.2 ?_
      clear hf; intro a ha hf; clear ha
      refine st_ldC hf (by decide) pl36 (wantY hf rfl rfl hb2) rfl ((RdX.take hz0 hc6).sl hp) hc7.1 hc7.2 ?_
      clear hf; intro a b8 b9 y10 y11 ha hf; clear ha
      refine st_ccmp (r_cne (x := (gt ((z0 ++ z0S).take (((IntKind.i64.wrap ((z0.length : Int) + (1 : Int)))).toNat)) (z0.length : Int))) (y := (Fl.bits 4651892959631900672, Fl.bits 0)) y10 y11 rfl rfl) hf (by decide) (wantY hf rfl rfl hb2) rfl rfl ?_
      clear hf; intro a ha hf; clear ha
      obtain rfl := Option.some.inj hz1
      refine st_pick (v := .bool (!ceq (gt ((z0 ++ z0S).take (((IntKind.i64.wrap ((z0.length : Int) + (1 : Int)))).toNat)) (z0.length : Int)) (Fl.bits 4651892959631900672, Fl.bits 0))) hf rfl rfl (fun hb' => ?_) (fun hb' => ?_) (by decide) ?_
      · exact absurd (hb2.symm.trans hb') (by decide)
      · rfl
      clear hf; intro a ha hf; clear ha
      refine st_nil hf (th_n ?_)
      exact ⟨hf.sub ⟨rfl, rfl, rfl, rfl, trivial⟩, hp⟩
  · rintro a w ⟨hf, hp⟩
    refine st_nil hf ?_
    refine th_n ?_
    refine wp_if hf rfl (fun hb => ?_) (fun hb => ?_)
    · replace h := ifT h hb
      refine wp_seq ?_
      refine wp_reg ?_
      refine st_assign hf rfl rfl (by decide) ?_
      clear hf; intro a ha hf; clear ha
      refine st_nil hf ?_
      refine th_n ?_
      refine wp_ret ?_
      refine th_r ?_
      obtain rfl := Option.some.inj h
      exact ⟨rfl, ⟨hf.sub ⟨rfl, trivial⟩, hp⟩⟩
    · replace h := ifF h hb
      refine wp_skip ?_
      refine th_n ?_
      refine wp_seq ?_
      refine wp_seq ?_
      refine wp_reg ?_
      refine st_assign hf rfl rfl (by decide) ?_
      clear hf; intro a ha hf; clear ha
      refine st_nil hf ?_
      refine th_n ?_
      refine wp_block ?_
      obtain ⟨q34, hl, h⟩ := bnd h
      refine wp_loop_pure (f := (f_foghornlaw08_kept.s1 z0 l1)) (s := (0 : Int)) (fun s a w => Fr 56 a [(0, vz0), (1, vl1), (5, .int .i64 (z0.length : Int)), (6, .int .i64 s)] ∧ Hp S w0 w (ow)) (fun q e a w => match q with | (Sum.inl q) => e = .exit 0 ∧ Fr 56 a [] ∧ Hp S w0 w (ow) | (Sum.inr q) => e = .ret ∧ Fr 56 a [(4, .bool q)] ∧ Hp S w0 w (ow)) ?_ hl ⟨hf.sub ⟨rfl, rfl, rfl, rfl, trivial⟩, hp⟩ ?_
      · clear hl hf hp
        intro s x a w h hI
        obtain ⟨i6, hs⟩ : ∃ z, z = s := ⟨s, rfl⟩; subst hs
        obtain ⟨hf, hp⟩ : Fr 56 a [(0, vz0), (1, vl1), (5, .int .i64 (z0.length : Int)), (6, .int .i64 i6)] ∧ Hp S w0 w (ow) := hI
        replace h : f_foghornlaw08_kept.s1c z0 l1 i6 = some x := h
        unfold f_foghornlaw08_kept.s1c at h
        refine wp_seq ?_
        refine wp_seq ?_
        refine wp_reg ?_
        refine st_move hf rfl rfl (by decide) ?_
        clear hf; intro a ha hf; clear ha
        refine st_move hf rfl rfl (by decide) ?_
        clear hf; intro a ha hf; clear ha
        refine st_ilss hf (by decide) rfl rfl rfl ?_
        clear hf; intro a ha hf; clear ha
        refine st_nil hf ?_
        refine th_n ?_
        refine wp_if hf rfl (fun hb => ?_) (fun hb => ?_)
        · replace h := ifT h hb
          refine wp_skip ?_
          refine th_n ?_
          refine wp_seq ?_
          refine wp_block ?_
          refine wp_seq ?_
          obtain ⟨hc12, h⟩ := chk h
          obtain ⟨b14, b15, y16, y17, hl13⟩ := RdS.pinC (p := i6) hz0.rd hc12.1 hc12.2
          obtain ⟨q18, hq19, h⟩ := bnd h
          obtain ⟨hc21, h⟩ := chk h
          obtain ⟨z33, hz22, h⟩ := bnd h
          refine wp_cutN (fun a w => Fr 56 a [(0, vz0), (1, vl1), (5, .int .i64 (z0.length : Int)), (6, .int .i64 i6), (55, .bool z33)] ∧ Hp S w0 w (ow)) ?_ ?_
          · have hp := hp.same (Same.drew w)
            rcases Bool.eq_false_or_eq_true (q18 != (gt l1 (IntKind.i64.wrap ((2 : Int) * i6)))) with hb13 | hb13
            · skip
              replace hz22 := ifT hz22 hb13
              replace hz22 := Option.some.inj hz22
              refine dr_begin' (fun a w => Fr 56 a [(0, vz0), (1, vl1), (5, .int .i64 (z0.length : Int)), (6, .int .i64 i6), (55, .bool z33)] ∧ Hp S w0 w (ow)) (fun w' => ∃ l, Hp S w0 w' l) [] (by kernel_rfl) ?_
              refine dr_take 0 (vz0) rfl (by kernel_rfl) (by kernel_rfl) (by kernel_rfl) (by kernel_rfl) rfl rfl hf (by decide) rfl (fun w hp => ?_) ⟨_, hp⟩ ?_
              · obtain ⟨_, hp⟩ := hp
                refine st_move hf rfl rfl (by decide) ?_
                clear hf; intro a ha hf
                exact st_nil hf (th_n ⟨ha, rfl⟩)
              clear hf; intro a hf
              refine dr_take 1 (.int .i64 i6) rfl (by kernel_rfl) (by kernel_rfl) (by kernel_rfl) (by kernel_rfl) rfl rfl hf (by decide) rfl (fun w hp => ?_) ⟨_, hp⟩ ?_
              · obtain ⟨_, hp⟩ := hp
                refine st_move hf rfl rfl (by decide) ?_
                clear hf; intro a ha hf
                exact st_nil hf (th_n ⟨ha, rfl⟩)
              clear hf; intro a hf
              refine dr_take 2 (eptr vz0 i6 1) rfl (by kernel_rfl) (by kernel_rfl) (by kernel_rfl) (by kernel_rfl) rfl rfl hf (by decide) rfl (fun w hp => ?_) ⟨_, hp⟩ ?_
              · obtain ⟨_, hp⟩ := hp
                refine st_index (E := Ek.c128) hf (by decide) Try.underlying24 elt36 rfl rfl rfl (hz0.rd.sl hp) hc12.1 hc12.2 ?_
                clear hf; intro a ha hf
                exact st_nil hf (th_n ⟨ha, rfl⟩)
              clear hf; intro a hf
              refine dr_take 3 (.complex .f64 b14 b15) rfl (by kernel_rfl) (by kernel_rfl) (by kernel_rfl) (by kernel_rfl) rfl rfl hf (by decide) rfl (fun w hp => ?_) ⟨_, hp⟩ ?_
              · obtain ⟨_, hp⟩ := hp
                refine st_ldP hf (by decide) pl36 rfl rfl (hl13 _ _ hp) ?_
                clear hf; intro a ha hf
                exact st_nil hf (th_n ⟨ha, rfl⟩)
              clear hf; intro a hf
              refine dr_take 4 (.float .f64 b14) rfl (by kernel_rfl) (by kernel_rfl) (by kernel_rfl) (by kernel_rfl) rfl rfl hf (by decide) rfl (fun w hp => ?_) ⟨_, hp⟩ ?_
              · obtain ⟨_, hp⟩ := hp
                refine st_real hf (by decide) rfl rfl ?_
                clear hf; intro a ha hf
                exact st_nil hf (th_n ⟨ha, rfl⟩)
              clear hf; intro a hf
              refine dr_take 6 (vl1) rfl (by kernel_rfl) (by kernel_rfl) (by kernel_rfl) (by kernel_rfl) rfl rfl hf (by decide) rfl (fun w hp => ?_) ⟨_, hp⟩ ?_
              · obtain ⟨_, hp⟩ := hp
                refine st_move hf rfl rfl (by decide) ?_
                clear hf; intro a ha hf
                exact st_nil hf (th_n ⟨ha, rfl⟩)
              clear hf; intro a hf
              refine dr_take 7 (.int .i64 i6) rfl (by kernel_rfl) (by kernel_rfl) (by kernel_rfl) (by kernel_rfl) rfl rfl hf (by decide) rfl (fun w hp => ?_) ⟨_, hp⟩ ?_
              · obtain ⟨_, hp⟩ := hp
                refine st_move hf rfl rfl (by decide) ?_
                clear hf; intro a ha hf
                exact st_nil hf (th_n ⟨ha, rfl⟩)
              clear hf; intro a hf
              refine dr_take 8 (.int .i64 (IntKind.i64.wrap ((2 : Int) * i6))) rfl (by kernel_rfl) (by kernel_rfl) (by kernel_rfl) (by kernel_rfl) rfl rfl hf (by decide) rfl (fun w hp => ?_) ⟨_, hp⟩ ?_
              · obtain ⟨_, hp⟩ := hp
                refine st_imul hf (by decide) rfl rfl rfl ?_
                clear hf; intro a ha hf
                exact st_nil hf (th_n ⟨ha, rfl⟩)
              clear hf; intro a hf
              refine dr_take 9 (eptr vl1 (IntKind.i64.wrap ((2 : Int) * i6)) 1) rfl (by kernel_rfl) (by kernel_rfl) (by kernel_rfl) (by kernel_rfl) rfl rfl hf (by decide) rfl (fun w hp => ?_) ⟨_, hp⟩ ?_
              · obtain ⟨_, hp⟩ := hp
                refine st_index (E := (Ek.int .u64)) hf (by decide) Try.underlying22 elt42 rfl rfl rfl (hl1.sl hp) hc21.1 hc21.2 ?_
                clear hf; intro a ha hf
                exact st_nil hf (th_n ⟨ha, rfl⟩)
              clear hf; intro a hf
              refine dr_take 10 (.int .u64 (gt l1 (IntKind.i64.wrap ((2 : Int) * i6)))) rfl (by kernel_rfl) (by kernel_rfl) (by kernel_rfl) (by kernel_rfl) rfl rfl hf (by decide) rfl (fun w hp => ?_) ⟨_, hp⟩ ?_
              · obtain ⟨_, hp⟩ := hp
                refine st_ldI hf (by decide) pl42 rfl rfl (hl1.sl hp) hc21.1 hc21.2 ?_
                clear hf; intro a ha hf
                exact st_nil hf (th_n ⟨ha, rfl⟩)
              clear hf; intro a hf
              refine dr_one 5 rfl (by kernel_rfl) ?_
              refine st_extern (ex := Extern.MathFloatBits.float64bits) (r := .int .u64 (b14 : Int)) (f := 30) (vs := [.float .f64 b14]) hf (by decide) Try.func30 rfl rfl (by kernel_rfl) (by kernel_rfl) rfl rfl rfl rfl ?_
              clear hf; intro a ha hf; clear ha
              have he20 := fbits_rep y16 hq19; rw [← he20] at hf
              refine st_nil hf (th_n ⟨fun _ => ⟨_, hp⟩, ?_⟩)
              refine dr_take 11 (.bool (q18 != (gt l1 (IntKind.i64.wrap ((2 : Int) * i6))))) rfl (by kernel_rfl) (by kernel_rfl) (by kernel_rfl) (by kernel_rfl) rfl rfl hf (by decide) rfl (fun w hp => ?_) ⟨_, hp⟩ ?_
              · obtain ⟨_, hp⟩ := hp
                refine st_ineq hf (by decide) rfl rfl rfl ?_
                clear hf; intro a ha hf
                exact st_nil hf (th_n ⟨ha, rfl⟩)
              clear hf; intro a hf
              refine dr_take 12 (.bool (q18 != (gt l1 (IntKind.i64.wrap ((2 : Int) * i6))))) rfl (by kernel_rfl) (by kernel_rfl) (by kernel_rfl) (by kernel_rfl) rfl rfl hf (by decide) rfl (fun w hp => ?_) ⟨_, hp⟩ ?_
              · obtain ⟨_, hp⟩ := hp
                refine st_move hf rfl rfl (by decide) ?_
                clear hf; intro a ha hf
                exact st_nil hf (th_n ⟨ha, rfl⟩)
              clear hf; intro a hf
              refine dr_out 13 rfl (by kernel_rfl) (by kernel_rfl) (by kernel_rfl) (by kernel_rfl) rfl hf (by decide) rfl (wantN hf rfl rfl hb13) ⟨_, hp⟩ ?_
              clear hf; intro a hf
              refine dr_out 14 rfl (by kernel_rfl) (by kernel_rfl) (by kernel_rfl) (by kernel_rfl) rfl hf (by decide) rfl (wantN hf rfl rfl hb13) ⟨_, hp⟩ ?_
              clear hf; intro a hf
              refine dr_out 15 rfl (by kernel_rfl) (by kernel_rfl) (by kernel_rfl) (by kernel_rfl) rfl hf (by decide) rfl (wantN hf rfl rfl hb13) ⟨_, hp⟩ ?_
              clear hf; intro a hf
              refine dr_out 16 rfl (by kernel_rfl) (by kernel_rfl) (by kernel_rfl) (by kernel_rfl) rfl hf (by decide) rfl (wantN hf rfl rfl hb13) ⟨_, hp⟩ ?_
              clear hf; intro a hf
              refine dr_out 17 rfl (by kernel_rfl) (by kernel_rfl) (by kernel_rfl) (by kernel_rfl) rfl hf (by decide) rfl (wantN hf rfl rfl hb13) ⟨_, hp⟩ ?_
              clear hf; intro a hf
              refine dr_out 18 rfl (by kernel_rfl) (by kernel_rfl) (by kernel_rfl) (by kernel_rfl) rfl hf (by decide) rfl (wantN hf rfl rfl hb13) ⟨_, hp⟩ ?_
              clear hf; intro a hf
              refine dr_out 19 rfl (by kernel_rfl) (by kernel_rfl) (by kernel_rfl) (by kernel_rfl) rfl hf (by decide) rfl (wantN hf rfl rfl hb13) ⟨_, hp⟩ ?_
              clear hf; intro a hf
              refine dr_out 20 rfl (by kernel_rfl) (by kernel_rfl) (by kernel_rfl) (by kernel_rfl) rfl hf (by decide) rfl (wantN hf rfl rfl hb13) ⟨_, hp⟩ ?_
              clear hf; intro a hf
              refine dr_out 21 rfl (by kernel_rfl) (by kernel_rfl) (by kernel_rfl) (by kernel_rfl) rfl hf (by decide) rfl (wantN hf rfl rfl hb13) ⟨_, hp⟩ ?_
              clear hf; intro a hf
              refine dr_out 22 rfl (by kernel_rfl) (by kernel_rfl) (by kernel_rfl) (by kernel_rfl) rfl hf (by decide) rfl (wantN hf rfl rfl hb13) ⟨_, hp⟩ ?_
              clear hf; intro a hf
              refine dr_out 23 rfl (by kernel_rfl) (by kernel_rfl) (by kernel_rfl) (by kernel_rfl) rfl hf (by decide) rfl (wantN hf rfl rfl hb13) ⟨_, hp⟩ ?_
              clear hf; intro a hf
              refine dr_out 24 rfl (by kernel_rfl) (by kernel_rfl) (by kernel_rfl) (by kernel_rfl) rfl hf (by decide) rfl (wantN hf rfl rfl hb13) ⟨_, hp⟩ ?_
              clear hf; intro a hf
              refine dr_out 25 rfl (by kernel_rfl) (by kernel_rfl) (by kernel_rfl) (by kernel_rfl) rfl hf (by decide) rfl (wantN hf rfl rfl hb13) ⟨_, hp⟩ ?_
              clear hf; intro a hf
              refine dr_take 26 (.bool z33) rfl (by kernel_rfl) (by kernel_rfl) (by kernel_rfl) (by kernel_rfl) rfl rfl hf (by decide) rfl (fun w hp => ?_) ⟨_, hp⟩ ?_
              · obtain ⟨_, hp⟩ := hp
                refine st_pick (v := .bool z33) hf rfl rfl (fun _ => by rw [← hz22]; rfl) (fun hb' => absurd (hb13.symm.trans hb') (by decide)) (by decide) ?_
                clear hf; intro a ha hf
                exact st_nil hf (th_n ⟨ha, rfl⟩)
              clear hf; intro a hf
              refine dr_end (by kernel_rfl) ?_ _
              exact ⟨hf.sub ⟨rfl, rfl, rfl, rfl, rfl, trivial⟩, hp⟩
            · skip
              replace hz22 := ifF hz22 hb13
              obtain ⟨hc23, hz22⟩ := chk hz22
              obtain ⟨b25, b26, y27, y28, hl24⟩ := RdS.pinC (p := i6) hz0.rd hc23.1 hc23.2
              obtain ⟨q29, hq30, hz22⟩ := bnd hz22
              obtain ⟨hc32, hz22⟩ := chk hz22
              replace hz22 := Option.some.inj hz22
              refine dr_begin' (fun a w => Fr 56 a [(0, vz0), (1, vl1), (5, .int .i64 (z0.length : Int)), (6, .int .i64 i6), (55, .bool z33)] ∧ Hp S w0 w (ow)) (fun w' => ∃ l, Hp S w0 w' l) [] (by kernel_rfl) ?_
              refine dr_take 0 (vz0) rfl (by kernel_rfl) (by kernel_rfl) (by kernel_rfl) (by kernel_rfl) rfl rfl hf (by decide) rfl (fun w hp => ?_) ⟨_, hp⟩ ?_
              · obtain ⟨_, hp⟩ := hp
                refine st_move hf rfl rfl (by decide) ?_
                clear hf; intro a ha hf
                exact st_nil hf (th_n ⟨ha, rfl⟩)
              clear hf; intro a hf
              refine dr_take 1 (.int .i64 i6) rfl (by kernel_rfl) (by kernel_rfl) (by kernel_rfl) (by kernel_rfl) rfl rfl hf (by decide) rfl (fun w hp => ?_) ⟨_, hp⟩ ?_
              · obtain ⟨_, hp⟩ := hp
                refine st_move hf rfl rfl (by decide) ?_
                clear hf; intro a ha hf
                exact st_nil hf (th_n ⟨ha, rfl⟩)
              clear hf; intro a hf
              refine dr_take 2 (eptr vz0 i6 1) rfl (by kernel_rfl) (by kernel_rfl) (by kernel_rfl) (by kernel_rfl) rfl rfl hf (by decide) rfl (fun w hp => ?_) ⟨_, hp⟩ ?_
              · obtain ⟨_, hp⟩ := hp
                refine st_index (E := Ek.c128) hf (by decide) Try.underlying24 elt36 rfl rfl rfl (hz0.rd.sl hp) hc12.1 hc12.2 ?_
                clear hf; intro a ha hf
                exact st_nil hf (th_n ⟨ha, rfl⟩)
              clear hf; intro a hf
              refine dr_take 3 (.complex .f64 b14 b15) rfl (by kernel_rfl) (by kernel_rfl) (by kernel_rfl) (by kernel_rfl) rfl rfl hf (by decide) rfl (fun w hp => ?_) ⟨_, hp⟩ ?_
              · obtain ⟨_, hp⟩ := hp
                refine st_ldP hf (by decide) pl36 rfl rfl (hl13 _ _ hp) ?_
                clear hf; intro a ha hf
                exact st_nil hf (th_n ⟨ha, rfl⟩)
              clear hf; intro a hf
              refine dr_take 4 (.float .f64 b14) rfl (by kernel_rfl) (by kernel_rfl) (by kernel_rfl) (by kernel_rfl) rfl rfl hf (by decide) rfl (fun w hp => ?_) ⟨_, hp⟩ ?_
              · obtain ⟨_, hp⟩ := hp
                refine st_real hf (by decide) rfl rfl ?_
                clear hf; intro a ha hf
                exact st_nil hf (th_n ⟨ha, rfl⟩)
              clear hf; intro a hf
              refine dr_take 6 (vl1) rfl (by kernel_rfl) (by kernel_rfl) (by kernel_rfl) (by kernel_rfl) rfl rfl hf (by decide) rfl (fun w hp => ?_) ⟨_, hp⟩ ?_
              · obtain ⟨_, hp⟩ := hp
                refine st_move hf rfl rfl (by decide) ?_
                clear hf; intro a ha hf
                exact st_nil hf (th_n ⟨ha, rfl⟩)
              clear hf; intro a hf
              refine dr_take 7 (.int .i64 i6) rfl (by kernel_rfl) (by kernel_rfl) (by kernel_rfl) (by kernel_rfl) rfl rfl hf (by decide) rfl (fun w hp => ?_) ⟨_, hp⟩ ?_
              · obtain ⟨_, hp⟩ := hp
                refine st_move hf rfl rfl (by decide) ?_
                clear hf; intro a ha hf
                exact st_nil hf (th_n ⟨ha, rfl⟩)
              clear hf; intro a hf
              refine dr_take 8 (.int .i64 (IntKind.i64.wrap ((2 : Int) * i6))) rfl (by kernel_rfl) (by kernel_rfl) (by kernel_rfl) (by kernel_rfl) rfl rfl hf (by decide) rfl (fun w hp => ?_) ⟨_, hp⟩ ?_
              · obtain ⟨_, hp⟩ := hp
                refine st_imul hf (by decide) rfl rfl rfl ?_
                clear hf; intro a ha hf
                exact st_nil hf (th_n ⟨ha, rfl⟩)
              clear hf; intro a hf
              refine dr_take 9 (eptr vl1 (IntKind.i64.wrap ((2 : Int) * i6)) 1) rfl (by kernel_rfl) (by kernel_rfl) (by kernel_rfl) (by kernel_rfl) rfl rfl hf (by decide) rfl (fun w hp => ?_) ⟨_, hp⟩ ?_
              · obtain ⟨_, hp⟩ := hp
                refine st_index (E := (Ek.int .u64)) hf (by decide) Try.underlying22 elt42 rfl rfl rfl (hl1.sl hp) hc21.1 hc21.2 ?_
                clear hf; intro a ha hf
                exact st_nil hf (th_n ⟨ha, rfl⟩)
              clear hf; intro a hf
              refine dr_take 10 (.int .u64 (gt l1 (IntKind.i64.wrap ((2 : Int) * i6)))) rfl (by kernel_rfl) (by kernel_rfl) (by kernel_rfl) (by kernel_rfl) rfl rfl hf (by decide) rfl (fun w hp => ?_) ⟨_, hp⟩ ?_
              · obtain ⟨_, hp⟩ := hp
                refine st_ldI hf (by decide) pl42 rfl rfl (hl1.sl hp) hc21.1 hc21.2 ?_
                clear hf; intro a ha hf
                exact st_nil hf (th_n ⟨ha, rfl⟩)
              clear hf; intro a hf
              refine dr_one 5 rfl (by kernel_rfl) ?_
              refine st_extern (ex := Extern.MathFloatBits.float64bits) (r := .int .u64 (b14 : Int)) (f := 30) (vs := [.float .f64 b14]) hf (by decide) Try.func30 rfl rfl (by kernel_rfl) (by kernel_rfl) rfl rfl rfl rfl ?_
              clear hf; intro a ha hf; clear ha
              have he20 := fbits_rep y16 hq19; rw [← he20] at hf
              refine st_nil hf (th_n ⟨fun _ => ⟨_, hp⟩, ?_⟩)
              refine dr_take 11 (.bool (q18 != (gt l1 (IntKind.i64.wrap ((2 : Int) * i6))))) rfl (by kernel_rfl) (by kernel_rfl) (by kernel_rfl) (by kernel_rfl) rfl rfl hf (by decide) rfl (fun w hp => ?_) ⟨_, hp⟩ ?_
              · obtain ⟨_, hp⟩ := hp
                refine st_ineq hf (by decide) rfl rfl rfl ?_
                clear hf; intro a ha hf
                exact st_nil hf (th_n ⟨ha, rfl⟩)
              clear hf; intro a hf
              refine dr_take 12 (.bool (q18 != (gt l1 (IntKind.i64.wrap ((2 : Int) * i6))))) rfl (by kernel_rfl) (by kernel_rfl) (by kernel_rfl) (by kernel_rfl) rfl rfl hf (by decide) rfl (fun w hp => ?_) ⟨_, hp⟩ ?_
              · obtain ⟨_, hp⟩ := hp
                refine st_move hf rfl rfl (by decide) ?_
                clear hf; intro a ha hf
                exact st_nil hf (th_n ⟨ha, rfl⟩)
              clear hf; intro a hf
              refine dr_take 13 (vz0) rfl (by kernel_rfl) (by kernel_rfl) (by kernel_rfl) (by kernel_rfl) rfl rfl hf (by decide) (wantY hf rfl rfl hb13) (fun w hp => ?_) ⟨_, hp⟩ ?_
              · obtain ⟨_, hp⟩ := hp
                refine st_move hf (wantY hf rfl rfl hb13) rfl (by decide) ?_
                clear hf; intro a ha hf
                exact st_nil hf (th_n ⟨ha, rfl⟩)
              clear hf; intro a hf
              refine dr_take 14 (.int .i64 i6) rfl (by kernel_rfl) (by kernel_rfl) (by kernel_rfl) (by kernel_rfl) rfl rfl hf (by decide) (wantY hf rfl rfl hb13) (fun w hp => ?_) ⟨_, hp⟩ ?_
              · obtain ⟨_, hp⟩ := hp
                refine st_move hf (wantY hf rfl rfl hb13) rfl (by decide) ?_
                clear hf; intro a ha hf
                exact st_nil hf (th_n ⟨ha, rfl⟩)
              clear hf; intro a hf
              refine dr_take 15 (eptr vz0 i6 1) rfl (by kernel_rfl) (by kernel_rfl) (by kernel_rfl) (by kernel_rfl) rfl rfl hf (by decide) (wantY hf rfl rfl hb13) (fun w hp => ?_) ⟨_, hp⟩ ?_
              · obtain ⟨_, hp⟩ := hp
                refine st_index (E := Ek.c128) hf (by decide) Try.underlying24 elt36 (wantY hf rfl rfl hb13) rfl rfl (hz0.rd.sl hp) hc23.1 hc23.2 ?_
                clear hf; intro a ha hf
                exact st_nil hf (th_n ⟨ha, rfl⟩)
              clear hf; intro a hf
              refine dr_take 16 (.complex .f64 b25 b26) rfl (by kernel_rfl) (by kernel_rfl) (by kernel_rfl) (by kernel_rfl) rfl rfl hf (by decide) (wantY hf rfl rfl hb13) (fun w hp => ?_) ⟨_, hp⟩ ?_
              · obtain ⟨_, hp⟩ := hp
                refine st_ldP hf (by decide) pl36 (wantY hf rfl rfl hb13) rfl (hl24 _ _ hp) ?_
                clear hf; intro a ha hf
                exact st_nil hf (th_n ⟨ha, rfl⟩)
              clear hf; intro a hf
              refine dr_take 17 (.float .f64 b26) rfl (by kernel_rfl) (by kernel_rfl) (by kernel_rfl) (by kernel_rfl) rfl rfl hf (by decide) (wantY hf rfl rfl hb13) (fun w hp => ?_) ⟨_, hp⟩ ?_
              · obtain ⟨_, hp⟩ := hp
                refine st_imag hf (by decide) (wantY hf rfl rfl hb13) rfl ?_
                clear hf; intro a ha hf
                exact st_nil hf (th_n ⟨ha, rfl⟩)
              clear hf; intro a hf
              refine dr_take 19 (vl1) rfl (by kernel_rfl) (by kernel_rfl) (by kernel_rfl) (by kernel_rfl) rfl rfl hf (by decide) (wantY hf rfl rfl hb13) (fun w hp => ?_) ⟨_, hp⟩ ?_
              · obtain ⟨_, hp⟩ := hp
                refine st_move hf (wantY hf rfl rfl hb13) rfl (by decide) ?_
                clear hf; intro a ha hf
                exact st_nil hf (th_n ⟨ha, rfl⟩)
              clear hf; intro a hf
              refine dr_take 20 (.int .i64 i6) rfl (by kernel_rfl) (by kernel_rfl) (by kernel_rfl) (by kernel_rfl) rfl rfl hf (by decide) (wantY hf rfl rfl hb13) (fun w hp => ?_) ⟨_, hp⟩ ?_
              · obtain ⟨_, hp⟩ := hp
                refine st_move hf (wantY hf rfl rfl hb13) rfl (by decide) ?_
                clear hf; intro a ha hf
                exact st_nil hf (th_n ⟨ha, rfl⟩)
              clear hf; intro a hf
              refine dr_take 21 (.int .i64 (IntKind.i64.wrap ((2 : Int) * i6))) rfl (by kernel_rfl) (by kernel_rfl) (by kernel_rfl) (by kernel_rfl) rfl rfl hf (by decide) (wantY hf rfl rfl hb13) (fun w hp => ?_) ⟨_, hp⟩ ?_
              · obtain ⟨_, hp⟩ := hp
                refine st_imul hf (by decide) (wantY hf rfl rfl hb13) rfl rfl ?_
                clear hf; intro a ha hf
                exact st_nil hf (th_n ⟨ha, rfl⟩)
              clear hf; intro a hf
              refine dr_take 22 (.int .i64 (IntKind.i64.wrap ((IntKind.i64.wrap ((2 : Int) * i6)) + (1 : Int)))) rfl (by kernel_rfl) (by kernel_rfl) (by kernel_rfl) (by kernel_rfl) rfl rfl hf (by decide) (wantY hf rfl rfl hb13) (fun w hp => ?_) ⟨_, hp⟩ ?_
              · obtain ⟨_, hp⟩ := hp
                refine st_iadd hf (by decide) (wantY hf rfl rfl hb13) rfl rfl ?_
                clear hf; intro a ha hf
                exact st_nil hf (th_n ⟨ha, rfl⟩)
              clear hf; intro a hf
              refine dr_take 23 (eptr vl1 (IntKind.i64.wrap ((IntKind.i64.wrap ((2 : Int) * i6)) + (1 : Int))) 1) rfl (by kernel_rfl) (by kernel_rfl) (by kernel_rfl) (by kernel_rfl) rfl rfl hf (by decide) (wantY hf rfl rfl hb13) (fun w hp => ?_) ⟨_, hp⟩ ?_
              · obtain ⟨_, hp⟩ := hp
                refine st_index (E := (Ek.int .u64)) hf (by decide) Try.underlying22 elt42 (wantY hf rfl rfl hb13) rfl rfl (hl1.sl hp) hc32.1 hc32.2 ?_
                clear hf; intro a ha hf
                exact st_nil hf (th_n ⟨ha, rfl⟩)
              clear hf; intro a hf
              refine dr_take 24 (.int .u64 (gt l1 (IntKind.i64.wrap ((IntKind.i64.wrap ((2 : Int) * i6)) + (1 : Int))))) rfl (by kernel_rfl) (by kernel_rfl) (by kernel_rfl) (by kernel_rfl) rfl rfl hf (by decide) (wantY hf rfl rfl hb13) (fun w hp => ?_) ⟨_, hp⟩ ?_
              · obtain ⟨_, hp⟩ := hp
                refine st_ldI hf (by decide) pl42 (wantY hf rfl rfl hb13) rfl (hl1.sl hp) hc32.1 hc32.2 ?_
                clear hf; intro a ha hf
                exact st_nil hf (th_n ⟨ha, rfl⟩)
              clear hf; intro a hf
              refine dr_one 18 rfl (by kernel_rfl) ?_
              refine st_extern (ex := Extern.MathFloatBits.float64bits) (r := .int .u64 (b26 : Int)) (f := 30) (vs := [.float .f64 b26]) hf (by decide) Try.func30 rfl rfl (by kernel_rfl) (by kernel_rfl) (wantY hf rfl rfl hb13) rfl rfl rfl ?_
              clear hf; intro a ha hf; clear ha
              have he31 := fbits_rep y28 hq30; rw [← he31] at hf
              refine st_nil hf (th_n ⟨fun _ => ⟨_, hp⟩, ?_⟩)
              refine dr_take 25 (.bool (q29 != (gt l1 (IntKind.i64.wrap ((IntKind.i64.wrap ((2 : Int) * i6)) + (1 : Int)))))) rfl (by kernel_rfl) (by kernel_rfl) (by kernel_rfl) (by kernel_rfl) rfl rfl hf (by decide) (wantY hf rfl rfl hb13) (fun w hp => ?_) ⟨_, hp⟩ ?_
              · obtain ⟨_, hp⟩ := hp
                refine st_ineq hf (by decide) (wantY hf rfl rfl hb13) rfl rfl ?_
                clear hf; intro a ha hf
                exact st_nil hf (th_n ⟨ha, rfl⟩)
              clear hf; intro a hf
              refine dr_take 26 (.bool z33) rfl (by kernel_rfl) (by kernel_rfl) (by kernel_rfl) (by kernel_rfl) rfl rfl hf (by decide) rfl (fun w hp => ?_) ⟨_, hp⟩ ?_
              · obtain ⟨_, hp⟩ := hp
                refine st_pick (v := .bool z33) hf rfl rfl (fun hb' => absurd (hb13.symm.trans hb') (by decide)) (fun _ => by rw [← hz22]; rfl) (by decide) ?_
                clear hf; intro a ha hf
                exact st_nil hf (th_n ⟨ha, rfl⟩)
              clear hf; intro a hf
              refine dr_end (by kernel_rfl) ?_ _
              exact ⟨hf.sub ⟨rfl, rfl, rfl, rfl, rfl, trivial⟩, hp⟩
          · rintro a w ⟨hf, hp⟩
            refine th_n ?_
            refine wp_if hf rfl (fun hb => ?_) (fun hb => ?_)
            · replace h := ifT h hb
              refine wp_seq ?_
              refine wp_reg ?_
              refine st_assign hf rfl rfl (by decide) ?_
              clear hf; intro a ha hf; clear ha
              refine st_nil hf ?_
              refine th_n ?_
              refine wp_ret ?_
              refine ib_r ?_
              refine th_r ?_
              obtain rfl := Option.some.inj h
              exact rnd_r (by simp) ⟨rfl, ⟨hf.sub ⟨rfl, trivial⟩, hp⟩⟩
            · replace h := ifF h hb
              refine wp_skip ?_
              refine ib_n ?_
              refine th_n ?_
              refine wp_reg ?_
              refine st_move hf rfl rfl (by decide) ?_
              clear hf; intro a ha hf; clear ha
              refine st_iadd hf (by decide) rfl rfl rfl ?_
              clear hf; intro a ha hf; clear ha
              refine st_assign hf rfl rfl (by decide) ?_
              clear hf; intro a ha hf; clear ha
              refine st_nil hf ?_
              obtain rfl := Option.some.inj h
              exact rnd_l ⟨hf.sub ⟨rfl, rfl, rfl, rfl, trivial⟩, hp⟩
        · replace h := ifF h hb
          refine wp_exit ?_
          refine th_e ?_
          obtain rfl := Option.some.inj h
          exact rnd_r (by simp) ⟨rfl, hf.sub trivial, hp⟩
      · clear hl hf hp
        intro e a w hne hO
        cases q34 with
        | inl q35 =>
          replace h := smL h
          obtain ⟨rfl, hf, hp⟩ := hO
          refine ib_same ?_
          refine th_n ?_
          refine wp_seq ?_
          refine wp_reg ?_
          refine st_assign hf rfl rfl (by decide) ?_
          clear hf; intro a ha hf; clear ha
          refine st_nil hf ?_
          refine th_n ?_
          refine wp_ret ?_
          obtain rfl := Option.some.inj h
          exact ⟨rfl, ⟨hf.sub ⟨rfl, trivial⟩, hp⟩⟩
        | inr q36 =>
          replace h := smR h
          obtain ⟨rfl, hf, hp⟩ := hO
          refine ib_r ?_
          refine th_r ?_
          obtain rfl := Option.some.inj h
          exact ⟨rfl, ⟨hf.sub ⟨rfl, trivial⟩, hp⟩⟩

noncomputable def f_foghornref08_Unline.s1c (r0 : (List Fl)) (out4 : (List (Fl × Fl))) (i5 : Int) : Option (((List (Fl × Fl)) × Int) ⊕ (List (Fl × Fl))) := (if (decide ((IntKind.i64.wrap (i5 + (1 : Int))) < (r0.length : Int))) = true then (if 0 ≤ i5 ∧ i5 < (r0.length : Int) then (if 0 ≤ (IntKind.i64.wrap (i5 + (1 : Int))) ∧ (IntKind.i64.wrap (i5 + (1 : Int))) < (r0.length : Int) then ((f_foghornref08_Turn ((gt r0 i5), (gt r0 (IntKind.i64.wrap (i5 + (1 : Int))))) (IntKind.i64.wrap (0 - (((IntKind.i64.wrap ((i5).tdiv (2 : Int)))).tmod (4 : Int))))).bind fun q16 => (if (out4.length + ([q16]).length) * 16 ≤ 140737488355328 then (some (Sum.inl ((out4 ++ [q16]), (IntKind.i64.wrap (i5 + (2 : Int)))))) else none)) else none) else none) else (some (Sum.inr out4)))
noncomputable def f_foghornref08_Unline.s1 (r0 : (List Fl)) (s : ((List (Fl × Fl)) × Int)) : Option (((List (Fl × Fl)) × Int) ⊕ (List (Fl × Fl))) := f_foghornref08_Unline.s1c r0 s.1 s.2
noncomputable def f_foghornref08_Unline (r0 : (List Fl)) : Option ((List (Fl × Fl)) × Int) := (if ((decide ((65536 : Int) < (r0.length : Int))) || ((((r0.length : Int)).tmod (2 : Int)) != (0 : Int))) = true then (some ([], (1 : Int))) else ((loop (f_foghornref08_Unline.s1 r0) ([], (0 : Int))).bind (fun q26 => (some (q26, (0 : Int))))))
theorem f_foghornref08_Unline_c {S : Nat → Prop} {w0 w : World} {ow : List Res} (hp : Hp S w0 w ow) (vr0 : Value) (r0 : (List Fl)) (hr0 : RdS Ek.f64 S w0 vr0 r0) {r : ((List (Fl × Fl)) × Int)} (h : f_foghornref08_Unline r0 = some r) :
    Calls Try.prog 28 #[vr0] w (fun e w' => ∃ (u0 : Value), e = .returned (.tuple #[u0, .int .i64 r.2]) ∧ Hp S w0 w' (Res.sl Ek.c128 36 u0 r.1 :: ow)) := by
  unfold f_foghornref08_Unline at h
  refine enter (n := 41) (args := [vr0]) Try.func28 rfl rfl (Nat.le_of_ble_eq_true rfl) fun a hf => ?_
  replace hf : Fr 41 a [(0, vr0)] := hf
  refine wp_mono (Q := fun e a w => e = .ret ∧ ∃ (u0 : Value), Fr 41 a [(2, u0), (3, .int .i64 r.2)] ∧ Hp S w0 w (Res.sl Ek.c128 36 u0 r.1 :: ow)) ?_ ?_
  rotate_left
  · rintro e a w ⟨rfl, x0, hf, hp⟩
    exact ret2 hf rfl rfl rfl ⟨x0, rfl, hp⟩
  refine wp_seq ?_
  refine wp_reg ?_
  refine st_assign hf rfl rfl (by decide) ?_
  clear hf; intro a ha hf; clear ha
  refine st_assign hf rfl rfl (by decide) ?_
  clear hf; intro a ha hf; clear ha
  refine st_nil hf ?_
  refine th_n ?_
  refine wp_seq ?_
  refine wp_seq ?_
  refine wp_reg ?_
  refine st_move hf rfl rfl (by decide) ?_
  clear hf; intro a ha hf; clear ha
  refine st_len (E := Ek.f64) hf (by decide) Try.underlying40 rfl rfl (hr0.sl hp) ?_
  clear hf; intro a ha hf; clear ha
  refine st_igtr hf (by decide) rfl rfl rfl ?_
  clear hf; intro a ha hf; clear ha
  refine st_move hf rfl rfl (by decide) ?_
  clear hf; intro a ha hf; clear ha
  refine wpList_cut 5 (fun a w => Fr 41 a [(0, vr0), (14, .bool ((decide ((65536 : Int) < (r0.length : Int))) || ((((r0.length : Int)).tmod (2 : Int)) != (0 : Int))))] ∧ Hp S w0 w (ow)) ?_ ?_
  · rcases Bool.eq_false_or_eq_true (decide ((65536 : Int) < (r0.length : Int))) with hb2 | hb2
    · skip
      refine st_skip hf (wantN hf rfl rfl hb2) rfl (by decide) ?_ rfl
      clear hf; intro a hf
      refine st_skip hf (wantN hf rfl rfl hb2) rfl (by decide) ?_ rfl
      clear hf; intro a hf
      refine st_skip hf (wantN hf rfl rfl hb2) rfl (by decide) ?_ rfl
      clear hf; intro a hf
      refine st_skip hf (wantN hf rfl rfl hb2) rfl (by decide) ?_ rfl
      clear hf; intro a hf
      refine st_pick (v := .bool true) hf rfl rfl (fun hb' => ?_) (fun hb' => ?_) (by decide) ?_
      · rfl
      · exact absurd (hb2.symm.trans hb') (by decide)
      clear hf; intro a ha hf; clear ha
      refine st_nil hf (th_n ?_)
      exact ⟨hf.sub ⟨rfl, (by rw [hb2]; rfl), trivial⟩, hp⟩
    · skip
      refine st_move hf (wantY hf rfl rfl hb2) rfl (by decide) ?_
      clear hf; intro a ha hf; clear ha
      refine st_len (E := Ek.f64) hf (by decide) Try.underlying40 (wantY hf rfl rfl hb2) rfl (hr0.sl hp) ?_
      clear hf; intro a ha hf; clear ha
      refine st_irem hf (by decide) (wantY hf rfl rfl hb2) rfl rfl (by decide) ?_
      clear hf; intro a ha hf; clear ha
      refine st_ineq hf (by decide) (wantY hf rfl rfl hb2) rfl rfl ?_
      clear hf; intro a ha hf; clear ha
      refine st_pick (v := .bool ((((r0.length : Int)).tmod (2 : Int)) != (0 : Int))) hf rfl rfl (fun hb' => ?_) (fun hb' => ?_) (by decide) ?_
      · exact absurd (hb2.symm.trans hb') (by decide)
      · rfl
      clear hf; intro a ha hf; clear ha
      refine st_nil hf (th_n ?_)
      exact ⟨hf.sub ⟨rfl, (by rw [hb2]; rfl), trivial⟩, hp⟩
  · rintro a w ⟨hf, hp⟩
    refine st_nil hf ?_
    refine th_n ?_
    refine wp_if hf rfl (fun hb => ?_) (fun hb => ?_)
    · replace h := ifT h hb
      refine wp_seq ?_
      refine wp_reg ?_
      refine st_assign hf rfl rfl (by decide) ?_
      clear hf; intro a ha hf; clear ha
      refine st_assign hf rfl rfl (by decide) ?_
      clear hf; intro a ha hf; clear ha
      refine st_nil hf ?_
      refine th_n ?_
      refine wp_ret ?_
      refine th_r ?_
      obtain rfl := Option.some.inj h
      have hp := hp.nil Ek.c128 36
      exact ⟨rfl, ⟨_, hf.sub ⟨rfl, rfl, trivial⟩, hp⟩⟩
    · replace h := ifF h hb
      refine wp_skip ?_
      refine th_n ?_
      refine wp_seq ?_
      refine wp_reg ?_
      refine st_assign hf rfl rfl (by decide) ?_
      clear hf; intro a ha hf; clear ha
      refine st_nil hf ?_
      refine th_n ?_
      refine wp_seq ?_
      refine wp_seq ?_
      refine wp_reg ?_
      refine st_assign hf rfl rfl (by decide) ?_
      clear hf; intro a ha hf; clear ha
      refine st_nil hf ?_
      refine th_n ?_
      refine wp_block ?_
      obtain ⟨q26, hl, h⟩ := bnd h
      have hp := hp.nil Ek.c128 36
      refine wp_loop_pure (f := (f_foghornref08_Unline.s1 r0)) (s := ([], (0 : Int))) (fun s a w => ∃ (v4 : Value), Fr 41 a [(0, vr0), (4, v4), (5, .int .i64 s.2)] ∧ Hp S w0 w (Res.sl Ek.c128 36 v4 s.1 :: ow)) (fun q e a w => e = .exit 0 ∧ ∃ (v6 : Value), Fr 41 a [(4, v6)] ∧ Hp S w0 w (Res.sl Ek.c128 36 v6 q :: ow)) ?_ hl ⟨_, hf.sub ⟨rfl, rfl, rfl, trivial⟩, hp⟩ ?_
      · clear hl hf hp
        intro s x a w h hI
        obtain ⟨out4, i5⟩ := s
        obtain ⟨v4, hf, hp⟩ : ∃ (v4 : Value), Fr 41 a [(0, vr0), (4, v4), (5, .int .i64 i5)] ∧ Hp S w0 w (Res.sl Ek.c128 36 v4 out4 :: ow) := hI
        replace h : f_foghornref08_Unline.s1c r0 out4 i5 = some x := h
        unfold f_foghornref08_Unline.s1c at h
        refine wp_seq ?_
        refine wp_seq ?_
        refine wp_reg ?_
        refine st_move hf rfl rfl (by decide) ?_
        clear hf; intro a ha hf; clear ha
        refine st_iadd hf (by decide) rfl rfl rfl ?_
        clear hf; intro a ha hf; clear ha
        refine st_move hf rfl rfl (by decide) ?_
        clear hf; intro a ha hf; clear ha
        refine st_len (E := Ek.f64) hf (by decide) Try.underlying40 rfl rfl (hr0.sl hp) ?_
        clear hf; intro a ha hf; clear ha
        refine st_ilss hf (by decide) rfl rfl rfl ?_
        clear hf; intro a ha hf; clear ha
        refine st_nil hf ?_
        refine th_n ?_
        refine wp_if hf rfl (fun hb => ?_) (fun hb => ?_)
        · replace h := ifT h hb
          refine wp_skip ?_
          refine th_n ?_
          refine wp_seq ?_
          refine wp_block ?_
          obtain ⟨hc8, h⟩ := chk h
          obtain ⟨b10, y11, hl9⟩ := RdS.pinF (p := i5) hr0 hc8.1 hc8.2
          obtain ⟨hc12, h⟩ := chk h
          obtain ⟨b14, y15, hl13⟩ := RdS.pinF (p := (IntKind.i64.wrap (i5 + (1 : Int)))) hr0 hc12.1 hc12.2
          obtain ⟨q16, hcall17, h⟩ := bnd h
          obtain ⟨hc24, h⟩ := chk h
          refine wp_cutN (fun a w => ∃ (v22 : Value) (v25 : Value), Fr 41 a [(0, vr0), (4, v25), (5, .int .i64 i5)] ∧ Hp S w0 w (Res.sl Ek.c128 36 v22 ([q16]) :: Res.sl Ek.c128 36 v25 (out4 ++ [q16]) :: ow)) ?_ ?_
          · have hp := hp.same (Same.drew w)
            refine dr_begin' (fun a w => ∃ (v22 : Value) (v25 : Value), Fr 41 a [(0, vr0), (4, v25), (5, .int .i64 i5)] ∧ Hp S w0 w (Res.sl Ek.c128 36 v22 ([q16]) :: Res.sl Ek.c128 36 v25 (out4 ++ [q16]) :: ow)) (fun w' => ∃ l, Hp S w0 w' l) [] (by kernel_rfl) ?_
            refine dr_take 0 (v4) rfl (by kernel_rfl) (by kernel_rfl) (by kernel_rfl) (by kernel_rfl) rfl rfl hf (by decide) rfl (fun w hp => ?_) ⟨_, hp⟩ ?_
            · obtain ⟨_, hp⟩ := hp
              refine st_move hf rfl rfl (by decide) ?_
              clear hf; intro a ha hf
              exact st_nil hf (th_n ⟨ha, rfl⟩)
            clear hf; intro a hf
            refine dr_take 1 (vr0) rfl (by kernel_rfl) (by kernel_rfl) (by kernel_rfl) (by kernel_rfl) rfl rfl hf (by decide) rfl (fun w hp => ?_) ⟨_, hp⟩ ?_
            · obtain ⟨_, hp⟩ := hp
              refine st_move hf rfl rfl (by decide) ?_
              clear hf; intro a ha hf
              exact st_nil hf (th_n ⟨ha, rfl⟩)
            clear hf; intro a hf
            refine dr_take 2 (.int .i64 i5) rfl (by kernel_rfl) (by kernel_rfl) (by kernel_rfl) (by kernel_rfl) rfl rfl hf (by decide) rfl (fun w hp => ?_) ⟨_, hp⟩ ?_
            · obtain ⟨_, hp⟩ := hp
              refine st_move hf rfl rfl (by decide) ?_
              clear hf; intro a ha hf
              exact st_nil hf (th_n ⟨ha, rfl⟩)
            clear hf; intro a hf
            refine dr_take 3 (eptr vr0 i5 1) rfl (by kernel_rfl) (by kernel_rfl) (by kernel_rfl) (by kernel_rfl) rfl rfl hf (by decide) rfl (fun w hp => ?_) ⟨_, hp⟩ ?_
            · obtain ⟨_, hp⟩ := hp
              refine st_index (E := Ek.f64) hf (by decide) Try.underlying40 elt37 rfl rfl rfl (hr0.sl hp) hc8.1 hc8.2 ?_
              clear hf; intro a ha hf
              exact st_nil hf (th_n ⟨ha, rfl⟩)
            clear hf; intro a hf
            refine dr_take 4 (.float .f64 b10) rfl (by kernel_rfl) (by kernel_rfl) (by kernel_rfl) (by kernel_rfl) rfl rfl hf (by decide) rfl (fun w hp => ?_) ⟨_, hp⟩ ?_
            · obtain ⟨_, hp⟩ := hp
              refine st_ldP hf (by decide) pl37 rfl rfl (hl9 _ _ hp) ?_
              clear hf; intro a ha hf
              exact st_nil hf (th_n ⟨ha, rfl⟩)
            clear hf; intro a hf
            refine dr_take 5 (vr0) rfl (by kernel_rfl) (by kernel_rfl) (by kernel_rfl) (by kernel_rfl) rfl rfl hf (by decide) rfl (fun w hp => ?_) ⟨_, hp⟩ ?_
            · obtain ⟨_, hp⟩ := hp
              refine st_move hf rfl rfl (by decide) ?_
              clear hf; intro a ha hf
              exact st_nil hf (th_n ⟨ha, rfl⟩)
            clear hf; intro a hf
            refine dr_take 6 (.int .i64 i5) rfl (by kernel_rfl) (by kernel_rfl) (by kernel_rfl) (by kernel_rfl) rfl rfl hf (by decide) rfl (fun w hp => ?_) ⟨_, hp⟩ ?_
            · obtain ⟨_, hp⟩ := hp
              refine st_move hf rfl rfl (by decide) ?_
              clear hf; intro a ha hf
              exact st_nil hf (th_n ⟨ha, rfl⟩)
            clear hf; intro a hf
            refine dr_take 7 (.int .i64 (IntKind.i64.wrap (i5 + (1 : Int)))) rfl (by kernel_rfl) (by kernel_rfl) (by kernel_rfl) (by kernel_rfl) rfl rfl hf (by decide) rfl (fun w hp => ?_) ⟨_, hp⟩ ?_
            · obtain ⟨_, hp⟩ := hp
              refine st_iadd hf (by decide) rfl rfl rfl ?_
              clear hf; intro a ha hf
              exact st_nil hf (th_n ⟨ha, rfl⟩)
            clear hf; intro a hf
            refine dr_take 8 (eptr vr0 (IntKind.i64.wrap (i5 + (1 : Int))) 1) rfl (by kernel_rfl) (by kernel_rfl) (by kernel_rfl) (by kernel_rfl) rfl rfl hf (by decide) rfl (fun w hp => ?_) ⟨_, hp⟩ ?_
            · obtain ⟨_, hp⟩ := hp
              refine st_index (E := Ek.f64) hf (by decide) Try.underlying40 elt37 rfl rfl rfl (hr0.sl hp) hc12.1 hc12.2 ?_
              clear hf; intro a ha hf
              exact st_nil hf (th_n ⟨ha, rfl⟩)
            clear hf; intro a hf
            refine dr_take 9 (.float .f64 b14) rfl (by kernel_rfl) (by kernel_rfl) (by kernel_rfl) (by kernel_rfl) rfl rfl hf (by decide) rfl (fun w hp => ?_) ⟨_, hp⟩ ?_
            · obtain ⟨_, hp⟩ := hp
              refine st_ldP hf (by decide) pl37 rfl rfl (hl13 _ _ hp) ?_
              clear hf; intro a ha hf
              exact st_nil hf (th_n ⟨ha, rfl⟩)
            clear hf; intro a hf
            refine dr_take 10 (.complex .f64 b10 b14) rfl (by kernel_rfl) (by kernel_rfl) (by kernel_rfl) (by kernel_rfl) rfl rfl hf (by decide) rfl (fun w hp => ?_) ⟨_, hp⟩ ?_
            · obtain ⟨_, hp⟩ := hp
              refine st_complex hf (by decide) rfl rfl rfl ?_
              clear hf; intro a ha hf
              exact st_nil hf (th_n ⟨ha, rfl⟩)
            clear hf; intro a hf
            refine dr_take 11 (.int .i64 i5) rfl (by kernel_rfl) (by kernel_rfl) (by kernel_rfl) (by kernel_rfl) rfl rfl hf (by decide) rfl (fun w hp => ?_) ⟨_, hp⟩ ?_
            · obtain ⟨_, hp⟩ := hp
              refine st_move hf rfl rfl (by decide) ?_
              clear hf; intro a ha hf
              exact st_nil hf (th_n ⟨ha, rfl⟩)
            clear hf; intro a hf
            refine dr_take 12 (.int .i64 (IntKind.i64.wrap ((i5).tdiv (2 : Int)))) rfl (by kernel_rfl) (by kernel_rfl) (by kernel_rfl) (by kernel_rfl) rfl rfl hf (by decide) rfl (fun w hp => ?_) ⟨_, hp⟩ ?_
            · obtain ⟨_, hp⟩ := hp
              refine st_iquo hf (by decide) rfl rfl rfl (by decide) ?_
              clear hf; intro a ha hf
              exact st_nil hf (th_n ⟨ha, rfl⟩)
            clear hf; intro a hf
            refine dr_take 13 (.int .i64 (((IntKind.i64.wrap ((i5).tdiv (2 : Int)))).tmod (4 : Int))) rfl (by kernel_rfl) (by kernel_rfl) (by kernel_rfl) (by kernel_rfl) rfl rfl hf (by decide) rfl (fun w hp => ?_) ⟨_, hp⟩ ?_
            · obtain ⟨_, hp⟩ := hp
              refine st_irem hf (by decide) rfl rfl rfl (by decide) ?_
              clear hf; intro a ha hf
              exact st_nil hf (th_n ⟨ha, rfl⟩)
            clear hf; intro a hf
            refine dr_take 14 (.int .i64 (IntKind.i64.wrap (0 - (((IntKind.i64.wrap ((i5).tdiv (2 : Int)))).tmod (4 : Int))))) rfl (by kernel_rfl) (by kernel_rfl) (by kernel_rfl) (by kernel_rfl) rfl rfl hf (by decide) rfl (fun w hp => ?_) ⟨_, hp⟩ ?_
            · obtain ⟨_, hp⟩ := hp
              refine st_ineg hf (by decide) rfl rfl ?_
              clear hf; intro a ha hf
              exact st_nil hf (th_n ⟨ha, rfl⟩)
            clear hf; intro a hf
            refine dr_one 15 rfl (by kernel_rfl) ?_
            refine st_call hf (by decide) Try.func35 rfl rfl rfl rfl rfl (f_foghornref08_Turn_c hp _ _ _ y11 y15 _ hcall17) ?_
            rintro _ w ⟨v18, v19, rfl, y20, y21, hp0⟩
            clear hp; have hp := hp0; clear hp0
            replace hp : Hp _ _ w (Res.sl Ek.c128 36 v4 out4 :: ow) := hp
            refine ⟨_, rfl, ?_⟩
            clear hf; intro a hf
            refine st_nil hf (th_n ⟨fun _ => ⟨_, hp⟩, ?_⟩)
            refine dr_one 16 rfl (by kernel_rfl) ?_
            refine st_build (E := Ek.c128) (xs := [q16]) hf (by decide) elt36 Try.underlying24 hp (vals := #[(0, .complex .f64 v18 v19)]) (cells := #[.complex .f64 v18 v19]) rfl (by simp [hf.ev (x := (Operand.tmp 37)) rfl]) (by decide) (by decide) (z := .complex .f64 0 0) (by kernel_rfl) (by kernel_rfl) rfl (reps_cons (cs := [.complex .f64 v18 v19]) (show Ek.c128.rep [.complex .f64 v18 v19] q16 from ⟨_, _, rfl, y20, y21⟩) (reps_nil _)) ?_
            clear hf; intro a w v22 hf hp0; clear hp; have hp := hp0; clear hp0
            replace hp : Hp _ _ w (Res.sl Ek.c128 36 v22 ([q16]) :: Res.sl Ek.c128 36 v4 out4 :: ow) := hp
            refine st_nil hf (th_n ⟨fun _ => ⟨_, hp⟩, ?_⟩)
            refine dr_one 17 rfl (by kernel_rfl) ?_
            refine st_append (E := Ek.c128) hf (by decide) elt36 Try.underlying24 (by decide) hp (i := 1) rfl rfl rfl rfl (hp.sl (i := 0) rfl) hc24 ?_
            clear hf; intro a w v25 hf hp0; clear hp; have hp := hp0; clear hp0
            replace hp : Hp _ _ w (Res.sl Ek.c128 36 v22 ([q16]) :: Res.sl Ek.c128 36 v25 (out4 ++ [q16]) :: ow) := hp
            refine st_nil hf (th_n ⟨fun _ => ⟨_, hp⟩, ?_⟩)
            refine dr_take 18 (v25) rfl (by kernel_rfl) (by kernel_rfl) (by kernel_rfl) (by kernel_rfl) rfl rfl hf (by decide) rfl (fun w hp => ?_) ⟨_, hp⟩ ?_
            · obtain ⟨_, hp⟩ := hp
              refine st_assign hf rfl rfl (by decide) ?_
              clear hf; intro a ha hf
              exact st_nil hf (th_n ⟨ha, rfl⟩)
            clear hf; intro a hf
            refine dr_end (by kernel_rfl) ?_ _
            exact ⟨v22, v25, hf.sub ⟨rfl, rfl, rfl, trivial⟩, hp⟩
          · rintro a w ⟨v22, v25, hf, hp⟩
            refine ib_n ?_
            refine th_n ?_
            refine wp_reg ?_
            refine st_move hf rfl rfl (by decide) ?_
            clear hf; intro a ha hf; clear ha
            refine st_iadd hf (by decide) rfl rfl rfl ?_
            clear hf; intro a ha hf; clear ha
            refine st_assign hf rfl rfl (by decide) ?_
            clear hf; intro a ha hf; clear ha
            refine st_nil hf ?_
            obtain rfl := Option.some.inj h
            have hp : Hp _ _ w (Res.sl Ek.c128 36 v25 (out4 ++ [q16]) :: ow) := Hp.sel (pre := [Res.sl Ek.c128 36 v22 ([q16]), Res.sl Ek.c128 36 v25 (out4 ++ [q16])]) (tail := ow) (rs' := [Res.sl Ek.c128 36 v25 (out4 ++ [q16])]) hp [1] (by decide) (by simp) rfl
            exact rnd_l ⟨_, hf.sub ⟨rfl, rfl, rfl, trivial⟩, hp⟩
        · replace h := ifF h hb
          refine wp_exit ?_
          refine th_e ?_
          obtain rfl := Option.some.inj h
          exact rnd_r (by simp) ⟨rfl, _, hf.sub ⟨rfl, trivial⟩, hp⟩
      · clear hl hf hp
        intro e a w hne hO
        obtain ⟨rfl, v6, hf, hp⟩ := hO
        refine ib_same ?_
        refine th_n ?_
        refine wp_seq ?_
        refine wp_reg ?_
        refine st_move hf rfl rfl (by decide) ?_
        clear hf; intro a ha hf; clear ha
        refine st_assign hf rfl rfl (by decide) ?_
        clear hf; intro a ha hf; clear ha
        refine st_assign hf rfl rfl (by decide) ?_
        clear hf; intro a ha hf; clear ha
        refine st_nil hf ?_
        refine th_n ?_
        refine wp_ret ?_
        obtain rfl := Option.some.inj h
        exact ⟨rfl, ⟨_, hf.sub ⟨rfl, rfl, trivial⟩, hp⟩⟩

noncomputable def f_mix_Down (l0 : (List (Fl × Fl))) (quarters1 : Int) : Option ((List (Fl × Fl)) × Int) := ((f_mix_by quarters1).bind fun q1 => ((f_mix_Up l0 (IntKind.i64.wrap (0 - q1))).bind fun q3 => (some (q3.1, q3.2))))
theorem f_mix_Down_c {S : Nat → Prop} {w0 w : World} {ow : List Res} (hp : Hp S w0 w ow) (vl0 : Value) (l0 : (List (Fl × Fl))) (hl0 : RdS Ek.c128 S w0 vl0 l0) (quarters1 : Int) {r : ((List (Fl × Fl)) × Int)} (h : f_mix_Down l0 quarters1 = some r) :
    Calls Try.prog 19 #[vl0, .int .i64 quarters1] w (fun e w' => ∃ (u0 : Value), e = .returned (.tuple #[u0, .int .i64 r.2]) ∧ Hp S w0 w' (Res.sl Ek.c128 36 u0 r.1 :: ow)) := by
  unfold f_mix_Down at h
  refine enter (n := 13) (args := [vl0, .int .i64 quarters1]) Try.func19 rfl rfl (Nat.le_of_ble_eq_true rfl) fun a hf => ?_
  replace hf : Fr 13 a [(0, vl0), (1, .int .i64 quarters1)] := hf
  refine wp_mono (Q := fun e a w => e = .ret ∧ ∃ (u0 : Value), Fr 13 a [(4, u0), (5, .int .i64 r.2)] ∧ Hp S w0 w (Res.sl Ek.c128 36 u0 r.1 :: ow)) ?_ ?_
  rotate_left
  · rintro e a w ⟨rfl, x0, hf, hp⟩
    exact ret2 hf rfl rfl rfl ⟨x0, rfl, hp⟩
  refine wp_seq ?_
  refine wp_reg ?_
  refine st_assign hf rfl rfl (by decide) ?_
  clear hf; intro a ha hf; clear ha
  refine st_assign hf rfl rfl (by decide) ?_
  clear hf; intro a ha hf; clear ha
  refine st_nil hf ?_
  refine th_n ?_
  refine wp_seq ?_
  refine wp_reg ?_
  refine st_move hf rfl rfl (by decide) ?_
  clear hf; intro a ha hf; clear ha
  refine st_move hf rfl rfl (by decide) ?_
  clear hf; intro a ha hf; clear ha
  obtain ⟨q1, hcall2, h⟩ := bnd h
  refine st_call hf (by decide) Try.func37 rfl rfl rfl rfl rfl (f_mix_by_c hp _ hcall2) ?_
  rintro _ w ⟨rfl, hp0⟩
  clear hp; have hp := hp0; clear hp0
  replace hp : Hp _ _ w (ow) := hp
  refine ⟨_, rfl, ?_⟩
  clear hf; intro a hf
  refine st_ineg hf (by decide) rfl rfl ?_
  clear hf; intro a ha hf; clear ha
  obtain ⟨q3, hcall4, h⟩ := bnd h
  refine st_call hf (by decide) Try.func17 rfl rfl rfl rfl rfl (f_mix_Up_c hp _ _ hl0 _ hcall4) ?_
  rintro _ w ⟨v5, rfl, hp0⟩
  clear hp; have hp := hp0; clear hp0
  replace hp : Hp _ _ w (Res.sl Ek.c128 36 v5 q3.1 :: ow) := hp
  refine ⟨_, rfl, ?_⟩
  clear hf; intro a hf
  refine st_extract hf (by decide) rfl rfl rfl ?_
  clear hf; intro a ha hf; clear ha
  refine st_extract hf (by decide) rfl rfl rfl ?_
  clear hf; intro a ha hf; clear ha
  refine st_assign hf rfl rfl (by decide) ?_
  clear hf; intro a ha hf; clear ha
  refine st_assign hf rfl rfl (by decide) ?_
  clear hf; intro a ha hf; clear ha
  refine st_nil hf ?_
  refine th_n ?_
  refine wp_ret ?_
  obtain rfl := Option.some.inj h
  exact ⟨rfl, ⟨_, hf.sub ⟨rfl, rfl, trivial⟩, hp⟩⟩

noncomputable def f_mix_Unline.s1c (r0 : (List Fl)) (l4 : (List (Fl × Fl))) (i5 : Int) : Option (((List (Fl × Fl)) × Int) ⊕ (List (Fl × Fl))) := (if (decide (i5 < (r0.length : Int))) = true then (if 0 ≤ i5 ∧ i5 < (r0.length : Int) then (if 0 ≤ (IntKind.i64.wrap (i5 + (1 : Int))) ∧ (IntKind.i64.wrap (i5 + (1 : Int))) < (r0.length : Int) then (if (l4.length + ([((gt r0 i5), (gt r0 (IntKind.i64.wrap (i5 + (1 : Int)))))]).length) * 16 ≤ 140737488355328 then (some (Sum.inl ((l4 ++ [((gt r0 i5), (gt r0 (IntKind.i64.wrap (i5 + (1 : Int)))))]), (IntKind.i64.wrap (i5 + (2 : Int)))))) else none) else none) else none) else (some (Sum.inr l4)))
noncomputable def f_mix_Unline.s1 (r0 : (List Fl)) (s : ((List (Fl × Fl)) × Int)) : Option (((List (Fl × Fl)) × Int) ⊕ (List (Fl × Fl))) := f_mix_Unline.s1c r0 s.1 s.2
noncomputable def f_mix_Unline (r0 : (List Fl)) : Option ((List (Fl × Fl)) × Int) := ((f_mix_fits (r0.length : Int)).bind fun q1 => (if ((!q1) || ((((r0.length : Int)).tmod (2 : Int)) != (0 : Int))) = true then (some ([], (1 : Int))) else (if 0 ≤ (0 : Int) ∧ (0 : Int) ≤ (IntKind.i64.wrap (((r0.length : Int)).tdiv (2 : Int))) ∧ (IntKind.i64.wrap (((r0.length : Int)).tdiv (2 : Int))) * 16 ≤ 281474976710656 then ((loop (f_mix_Unline.s1 r0) ((List.replicate ((0 : Int)).toNat (Fl.bits 0, Fl.bits 0)), (0 : Int))).bind (fun q25 => ((f_mix_Down q25 (1 : Int)).bind fun q26 => (some (q26.1, q26.2))))) else none)))
theorem f_mix_Unline_c {S : Nat → Prop} {w0 w : World} {ow : List Res} (hp : Hp S w0 w ow) (vr0 : Value) (r0 : (List Fl)) (hr0 : RdS Ek.f64 S w0 vr0 r0) {r : ((List (Fl × Fl)) × Int)} (h : f_mix_Unline r0 = some r) :
    Calls Try.prog 29 #[vr0] w (fun e w' => ∃ (u0 : Value), e = .returned (.tuple #[u0, .int .i64 r.2]) ∧ Hp S w0 w' (Res.sl Ek.c128 36 u0 r.1 :: ow)) := by
  unfold f_mix_Unline at h
  refine enter (n := 43) (args := [vr0]) Try.func29 rfl rfl (Nat.le_of_ble_eq_true rfl) fun a hf => ?_
  replace hf : Fr 43 a [(0, vr0)] := hf
  refine wp_mono (Q := fun e a w => e = .ret ∧ ∃ (u0 : Value), Fr 43 a [(2, u0), (3, .int .i64 r.2)] ∧ Hp S w0 w (Res.sl Ek.c128 36 u0 r.1 :: ow)) ?_ ?_
  rotate_left
  · rintro e a w ⟨rfl, x0, hf, hp⟩
    exact ret2 hf rfl rfl rfl ⟨x0, rfl, hp⟩
  refine wp_seq ?_
  refine wp_reg ?_
  refine st_assign hf rfl rfl (by decide) ?_
  clear hf; intro a ha hf; clear ha
  refine st_assign hf rfl rfl (by decide) ?_
  clear hf; intro a ha hf; clear ha
  refine st_nil hf ?_
  refine th_n ?_
  refine wp_seq ?_
  refine wp_seq ?_
  refine wp_reg ?_
  refine st_move hf rfl rfl (by decide) ?_
  clear hf; intro a ha hf; clear ha
  refine st_len (E := Ek.f64) hf (by decide) Try.underlying40 rfl rfl (hr0.sl hp) ?_
  clear hf; intro a ha hf; clear ha
  obtain ⟨q1, hcall2, h⟩ := bnd h
  refine st_call hf (by decide) Try.func34 rfl rfl rfl rfl rfl (f_mix_fits_c hp _ hcall2) ?_
  rintro _ w ⟨rfl, hp0⟩
  clear hp; have hp := hp0; clear hp0
  replace hp : Hp _ _ w (ow) := hp
  refine ⟨_, rfl, ?_⟩
  clear hf; intro a hf
  refine st_not hf (by decide) rfl rfl ?_
  clear hf; intro a ha hf; clear ha
  refine st_move hf rfl rfl (by decide) ?_
  clear hf; intro a ha hf; clear ha
  refine wpList_cut 5 (fun a w => Fr 43 a [(0, vr0), (15, .bool ((!q1) || ((((r0.length : Int)).tmod (2 : Int)) != (0 : Int))))] ∧ Hp S w0 w (ow)) ?_ ?_
  · rcases Bool.eq_false_or_eq_true (!q1) with hb4 | hb4
    · skip
      refine st_skip hf (wantN hf rfl rfl hb4) rfl (by decide) ?_ rfl
      clear hf; intro a hf
      refine st_skip hf (wantN hf rfl rfl hb4) rfl (by decide) ?_ rfl
      clear hf; intro a hf
      refine st_skip hf (wantN hf rfl rfl hb4) rfl (by decide) ?_ rfl
      clear hf; intro a hf
      refine st_skip hf (wantN hf rfl rfl hb4) rfl (by decide) ?_ rfl
      clear hf; intro a hf
      refine st_pick (v := .bool true) hf rfl rfl (fun hb' => ?_) (fun hb' => ?_) (by decide) ?_
      · rfl
      · exact absurd (hb4.symm.trans hb') (by decide)
      clear hf; intro a ha hf; clear ha
      refine st_nil hf (th_n ?_)
      exact ⟨hf.sub ⟨rfl, (by rw [hb4]; rfl), trivial⟩, hp⟩
    · skip
      refine st_move hf (wantY hf rfl rfl hb4) rfl (by decide) ?_
      clear hf; intro a ha hf; clear ha
      refine st_len (E := Ek.f64) hf (by decide) Try.underlying40 (wantY hf rfl rfl hb4) rfl (hr0.sl hp) ?_
      clear hf; intro a ha hf; clear ha
      refine st_irem hf (by decide) (wantY hf rfl rfl hb4) rfl rfl (by decide) ?_
      clear hf; intro a ha hf; clear ha
      refine st_ineq hf (by decide) (wantY hf rfl rfl hb4) rfl rfl ?_
      clear hf; intro a ha hf; clear ha
      refine st_pick (v := .bool ((((r0.length : Int)).tmod (2 : Int)) != (0 : Int))) hf rfl rfl (fun hb' => ?_) (fun hb' => ?_) (by decide) ?_
      · exact absurd (hb4.symm.trans hb') (by decide)
      · rfl
      clear hf; intro a ha hf; clear ha
      refine st_nil hf (th_n ?_)
      exact ⟨hf.sub ⟨rfl, (by rw [hb4]; rfl), trivial⟩, hp⟩
  · rintro a w ⟨hf, hp⟩
    refine st_nil hf ?_
    refine th_n ?_
    refine wp_if hf rfl (fun hb => ?_) (fun hb => ?_)
    · replace h := ifT h hb
      refine wp_seq ?_
      refine wp_reg ?_
      refine st_assign hf rfl rfl (by decide) ?_
      clear hf; intro a ha hf; clear ha
      refine st_assign hf rfl rfl (by decide) ?_
      clear hf; intro a ha hf; clear ha
      refine st_nil hf ?_
      refine th_n ?_
      refine wp_ret ?_
      refine th_r ?_
      obtain rfl := Option.some.inj h
      have hp := hp.nil Ek.c128 36
      exact ⟨rfl, ⟨_, hf.sub ⟨rfl, rfl, trivial⟩, hp⟩⟩
    · replace h := ifF h hb
      refine wp_skip ?_
      refine th_n ?_
      refine wp_seq ?_
      refine wp_reg ?_
      refine st_move hf rfl rfl (by decide) ?_
      clear hf; intro a ha hf; clear ha
      refine st_len (E := Ek.f64) hf (by decide) Try.underlying40 rfl rfl (hr0.sl hp) ?_
      clear hf; intro a ha hf; clear ha
      refine st_iquo hf (by decide) rfl rfl rfl (by decide) ?_
      clear hf; intro a ha hf; clear ha
      obtain ⟨hc6, h⟩ := chk h
      refine st_make (E := Ek.c128) hf (by decide) elt36 Try.underlying24 (by decide) hp rfl rfl rfl hc6.1 hc6.2.1 hc6.2.2 ?_
      clear hf; intro a w v7 hf hp0; clear hp; have hp := hp0; clear hp0
      replace hp : Hp _ _ w (Res.sl Ek.c128 36 v7 (List.replicate ((0 : Int)).toNat (Fl.bits 0, Fl.bits 0)) :: ow) := hp
      refine st_assign hf rfl rfl (by decide) ?_
      clear hf; intro a ha hf; clear ha
      refine st_nil hf ?_
      refine th_n ?_
      refine wp_seq ?_
      refine wp_seq ?_
      refine wp_reg ?_
      refine st_assign hf rfl rfl (by decide) ?_
      clear hf; intro a ha hf; clear ha
      refine st_nil hf ?_
      refine th_n ?_
      refine wp_block ?_
      obtain ⟨q25, hl, h⟩ := bnd h
      refine wp_loop_pure (f := (f_mix_Unline.s1 r0)) (s := ((List.replicate ((0 : Int)).toNat (Fl.bits 0, Fl.bits 0)), (0 : Int))) (fun s a w => ∃ (v9 : Value), Fr 43 a [(0, vr0), (4, v9), (5, .int .i64 s.2)] ∧ Hp S w0 w (Res.sl Ek.c128 36 v9 s.1 :: ow)) (fun q e a w => e = .exit 0 ∧ ∃ (v11 : Value), Fr 43 a [(4, v11)] ∧ Hp S w0 w (Res.sl Ek.c128 36 v11 q :: ow)) ?_ hl ⟨_, hf.sub ⟨rfl, rfl, rfl, trivial⟩, hp⟩ ?_
      · clear hl hf hp
        intro s x a w h hI
        obtain ⟨l4, i5⟩ := s
        obtain ⟨v9, hf, hp⟩ : ∃ (v9 : Value), Fr 43 a [(0, vr0), (4, v9), (5, .int .i64 i5)] ∧ Hp S w0 w (Res.sl Ek.c128 36 v9 l4 :: ow) := hI
        replace h : f_mix_Unline.s1c r0 l4 i5 = some x := h
        unfold f_mix_Unline.s1c at h
        refine wp_seq ?_
        refine wp_seq ?_
        refine wp_reg ?_
        refine st_move hf rfl rfl (by decide) ?_
        clear hf; intro a ha hf; clear ha
        refine st_move hf rfl rfl (by decide) ?_
        clear hf; intro a ha hf; clear ha
        refine st_len (E := Ek.f64) hf (by decide) Try.underlying40 rfl rfl (hr0.sl hp) ?_
        clear hf; intro a ha hf; clear ha
        refine st_ilss hf (by decide) rfl rfl rfl ?_
        clear hf; intro a ha hf; clear ha
        refine st_nil hf ?_
        refine th_n ?_
        refine wp_if hf rfl (fun hb => ?_) (fun hb => ?_)
        · replace h := ifT h hb
          refine wp_skip ?_
          refine th_n ?_
          refine wp_seq ?_
          refine wp_block ?_
          obtain ⟨hc13, h⟩ := chk h
          obtain ⟨b15, y16, hl14⟩ := RdS.pinF (p := i5) hr0 hc13.1 hc13.2
          obtain ⟨hc17, h⟩ := chk h
          obtain ⟨b19, y20, hl18⟩ := RdS.pinF (p := (IntKind.i64.wrap (i5 + (1 : Int)))) hr0 hc17.1 hc17.2
          obtain ⟨hc23, h⟩ := chk h
          refine wp_cutN (fun a w => ∃ (v21 : Value) (v24 : Value), Fr 43 a [(0, vr0), (4, v24), (5, .int .i64 i5)] ∧ Hp S w0 w (Res.sl Ek.c128 36 v21 ([((gt r0 i5), (gt r0 (IntKind.i64.wrap (i5 + (1 : Int)))))]) :: Res.sl Ek.c128 36 v24 (l4 ++ [((gt r0 i5), (gt r0 (IntKind.i64.wrap (i5 + (1 : Int)))))]) :: ow)) ?_ ?_
          · have hp := hp.same (Same.drew w)
            refine dr_begin' (fun a w => ∃ (v21 : Value) (v24 : Value), Fr 43 a [(0, vr0), (4, v24), (5, .int .i64 i5)] ∧ Hp S w0 w (Res.sl Ek.c128 36 v21 ([((gt r0 i5), (gt r0 (IntKind.i64.wrap (i5 + (1 : Int)))))]) :: Res.sl Ek.c128 36 v24 (l4 ++ [((gt r0 i5), (gt r0 (IntKind.i64.wrap (i5 + (1 : Int)))))]) :: ow)) (fun w' => ∃ l, Hp S w0 w' l) [] (by kernel_rfl) ?_
            refine dr_take 0 (v9) rfl (by kernel_rfl) (by kernel_rfl) (by kernel_rfl) (by kernel_rfl) rfl rfl hf (by decide) rfl (fun w hp => ?_) ⟨_, hp⟩ ?_
            · obtain ⟨_, hp⟩ := hp
              refine st_move hf rfl rfl (by decide) ?_
              clear hf; intro a ha hf
              exact st_nil hf (th_n ⟨ha, rfl⟩)
            clear hf; intro a hf
            refine dr_take 1 (vr0) rfl (by kernel_rfl) (by kernel_rfl) (by kernel_rfl) (by kernel_rfl) rfl rfl hf (by decide) rfl (fun w hp => ?_) ⟨_, hp⟩ ?_
            · obtain ⟨_, hp⟩ := hp
              refine st_move hf rfl rfl (by decide) ?_
              clear hf; intro a ha hf
              exact st_nil hf (th_n ⟨ha, rfl⟩)
            clear hf; intro a hf
            refine dr_take 2 (.int .i64 i5) rfl (by kernel_rfl) (by kernel_rfl) (by kernel_rfl) (by kernel_rfl) rfl rfl hf (by decide) rfl (fun w hp => ?_) ⟨_, hp⟩ ?_
            · obtain ⟨_, hp⟩ := hp
              refine st_move hf rfl rfl (by decide) ?_
              clear hf; intro a ha hf
              exact st_nil hf (th_n ⟨ha, rfl⟩)
            clear hf; intro a hf
            refine dr_take 3 (eptr vr0 i5 1) rfl (by kernel_rfl) (by kernel_rfl) (by kernel_rfl) (by kernel_rfl) rfl rfl hf (by decide) rfl (fun w hp => ?_) ⟨_, hp⟩ ?_
            · obtain ⟨_, hp⟩ := hp
              refine st_index (E := Ek.f64) hf (by decide) Try.underlying40 elt37 rfl rfl rfl (hr0.sl hp) hc13.1 hc13.2 ?_
              clear hf; intro a ha hf
              exact st_nil hf (th_n ⟨ha, rfl⟩)
            clear hf; intro a hf
            refine dr_take 4 (.float .f64 b15) rfl (by kernel_rfl) (by kernel_rfl) (by kernel_rfl) (by kernel_rfl) rfl rfl hf (by decide) rfl (fun w hp => ?_) ⟨_, hp⟩ ?_
            · obtain ⟨_, hp⟩ := hp
              refine st_ldP hf (by decide) pl37 rfl rfl (hl14 _ _ hp) ?_
              clear hf; intro a ha hf
              exact st_nil hf (th_n ⟨ha, rfl⟩)
            clear hf; intro a hf
            refine dr_take 5 (vr0) rfl (by kernel_rfl) (by kernel_rfl) (by kernel_rfl) (by kernel_rfl) rfl rfl hf (by decide) rfl (fun w hp => ?_) ⟨_, hp⟩ ?_
            · obtain ⟨_, hp⟩ := hp
              refine st_move hf rfl rfl (by decide) ?_
              clear hf; intro a ha hf
              exact st_nil hf (th_n ⟨ha, rfl⟩)
            clear hf; intro a hf
            refine dr_take 6 (.int .i64 i5) rfl (by kernel_rfl) (by kernel_rfl) (by kernel_rfl) (by kernel_rfl) rfl rfl hf (by decide) rfl (fun w hp => ?_) ⟨_, hp⟩ ?_
            · obtain ⟨_, hp⟩ := hp
              refine st_move hf rfl rfl (by decide) ?_
              clear hf; intro a ha hf
              exact st_nil hf (th_n ⟨ha, rfl⟩)
            clear hf; intro a hf
            refine dr_take 7 (.int .i64 (IntKind.i64.wrap (i5 + (1 : Int)))) rfl (by kernel_rfl) (by kernel_rfl) (by kernel_rfl) (by kernel_rfl) rfl rfl hf (by decide) rfl (fun w hp => ?_) ⟨_, hp⟩ ?_
            · obtain ⟨_, hp⟩ := hp
              refine st_iadd hf (by decide) rfl rfl rfl ?_
              clear hf; intro a ha hf
              exact st_nil hf (th_n ⟨ha, rfl⟩)
            clear hf; intro a hf
            refine dr_take 8 (eptr vr0 (IntKind.i64.wrap (i5 + (1 : Int))) 1) rfl (by kernel_rfl) (by kernel_rfl) (by kernel_rfl) (by kernel_rfl) rfl rfl hf (by decide) rfl (fun w hp => ?_) ⟨_, hp⟩ ?_
            · obtain ⟨_, hp⟩ := hp
              refine st_index (E := Ek.f64) hf (by decide) Try.underlying40 elt37 rfl rfl rfl (hr0.sl hp) hc17.1 hc17.2 ?_
              clear hf; intro a ha hf
              exact st_nil hf (th_n ⟨ha, rfl⟩)
            clear hf; intro a hf
            refine dr_take 9 (.float .f64 b19) rfl (by kernel_rfl) (by kernel_rfl) (by kernel_rfl) (by kernel_rfl) rfl rfl hf (by decide) rfl (fun w hp => ?_) ⟨_, hp⟩ ?_
            · obtain ⟨_, hp⟩ := hp
              refine st_ldP hf (by decide) pl37 rfl rfl (hl18 _ _ hp) ?_
              clear hf; intro a ha hf
              exact st_nil hf (th_n ⟨ha, rfl⟩)
            clear hf; intro a hf
            refine dr_take 10 (.complex .f64 b15 b19) rfl (by kernel_rfl) (by kernel_rfl) (by kernel_rfl) (by kernel_rfl) rfl rfl hf (by decide) rfl (fun w hp => ?_) ⟨_, hp⟩ ?_
            · obtain ⟨_, hp⟩ := hp
              refine st_complex hf (by decide) rfl rfl rfl ?_
              clear hf; intro a ha hf
              exact st_nil hf (th_n ⟨ha, rfl⟩)
            clear hf; intro a hf
            refine dr_one 11 rfl (by kernel_rfl) ?_
            refine st_build (E := Ek.c128) (xs := [((gt r0 i5), (gt r0 (IntKind.i64.wrap (i5 + (1 : Int)))))]) hf (by decide) elt36 Try.underlying24 hp (vals := #[(0, .complex .f64 b15 b19)]) (cells := #[.complex .f64 b15 b19]) rfl (by simp [hf.ev (x := (Operand.tmp 36)) rfl]) (by decide) (by decide) (z := .complex .f64 0 0) (by kernel_rfl) (by kernel_rfl) rfl (reps_cons (cs := [.complex .f64 b15 b19]) (show Ek.c128.rep [.complex .f64 b15 b19] ((gt r0 i5), (gt r0 (IntKind.i64.wrap (i5 + (1 : Int))))) from ⟨_, _, rfl, y16, y20⟩) (reps_nil _)) ?_
            clear hf; intro a w v21 hf hp0; clear hp; have hp := hp0; clear hp0
            replace hp : Hp _ _ w (Res.sl Ek.c128 36 v21 ([((gt r0 i5), (gt r0 (IntKind.i64.wrap (i5 + (1 : Int)))))]) :: Res.sl Ek.c128 36 v9 l4 :: ow) := hp
            refine st_nil hf (th_n ⟨fun _ => ⟨_, hp⟩, ?_⟩)
            refine dr_one 12 rfl (by kernel_rfl) ?_
            refine st_append (E := Ek.c128) hf (by decide) elt36 Try.underlying24 (by decide) hp (i := 1) rfl rfl rfl rfl (hp.sl (i := 0) rfl) hc23 ?_
            clear hf; intro a w v24 hf hp0; clear hp; have hp := hp0; clear hp0
            replace hp : Hp _ _ w (Res.sl Ek.c128 36 v21 ([((gt r0 i5), (gt r0 (IntKind.i64.wrap (i5 + (1 : Int)))))]) :: Res.sl Ek.c128 36 v24 (l4 ++ [((gt r0 i5), (gt r0 (IntKind.i64.wrap (i5 + (1 : Int)))))]) :: ow) := hp
            refine st_nil hf (th_n ⟨fun _ => ⟨_, hp⟩, ?_⟩)
            refine dr_take 13 (v24) rfl (by kernel_rfl) (by kernel_rfl) (by kernel_rfl) (by kernel_rfl) rfl rfl hf (by decide) rfl (fun w hp => ?_) ⟨_, hp⟩ ?_
            · obtain ⟨_, hp⟩ := hp
              refine st_assign hf rfl rfl (by decide) ?_
              clear hf; intro a ha hf
              exact st_nil hf (th_n ⟨ha, rfl⟩)
            clear hf; intro a hf
            refine dr_end (by kernel_rfl) ?_ _
            exact ⟨v21, v24, hf.sub ⟨rfl, rfl, rfl, trivial⟩, hp⟩
          · rintro a w ⟨v21, v24, hf, hp⟩
            refine ib_n ?_
            refine th_n ?_
            refine wp_reg ?_
            refine st_move hf rfl rfl (by decide) ?_
            clear hf; intro a ha hf; clear ha
            refine st_iadd hf (by decide) rfl rfl rfl ?_
            clear hf; intro a ha hf; clear ha
            refine st_assign hf rfl rfl (by decide) ?_
            clear hf; intro a ha hf; clear ha
            refine st_nil hf ?_
            obtain rfl := Option.some.inj h
            have hp : Hp _ _ w (Res.sl Ek.c128 36 v24 (l4 ++ [((gt r0 i5), (gt r0 (IntKind.i64.wrap (i5 + (1 : Int)))))]) :: ow) := Hp.sel (pre := [Res.sl Ek.c128 36 v21 ([((gt r0 i5), (gt r0 (IntKind.i64.wrap (i5 + (1 : Int)))))]), Res.sl Ek.c128 36 v24 (l4 ++ [((gt r0 i5), (gt r0 (IntKind.i64.wrap (i5 + (1 : Int)))))])]) (tail := ow) (rs' := [Res.sl Ek.c128 36 v24 (l4 ++ [((gt r0 i5), (gt r0 (IntKind.i64.wrap (i5 + (1 : Int)))))])]) hp [1] (by decide) (by simp) rfl
            exact rnd_l ⟨_, hf.sub ⟨rfl, rfl, rfl, trivial⟩, hp⟩
        · replace h := ifF h hb
          refine wp_exit ?_
          refine th_e ?_
          obtain rfl := Option.some.inj h
          exact rnd_r (by simp) ⟨rfl, _, hf.sub ⟨rfl, trivial⟩, hp⟩
      · clear hl hf hp
        intro e a w hne hO
        obtain ⟨rfl, v11, hf, hp⟩ := hO
        refine ib_same ?_
        refine th_n ?_
        refine wp_seq ?_
        refine wp_reg ?_
        refine st_move hf rfl rfl (by decide) ?_
        clear hf; intro a ha hf; clear ha
        obtain ⟨q26, hcall27, h⟩ := bnd h
        obtain ⟨S28, hp29, rd30, up31, bk32⟩ := Hp.lendS hp (i := 0) rfl
        refine st_call hf (by decide) Try.func19 rfl rfl rfl rfl rfl (f_mix_Down_c hp29 _ _ rd30 _ hcall27) ?_
        rintro _ w ⟨v33, rfl, hp0⟩
        have hp0 := bk32 _ _ hp0
        clear hp; have hp := hp0; clear hp0
        replace hp : Hp _ _ w (Res.sl Ek.c128 36 v11 q25 :: Res.sl Ek.c128 36 v33 q26.1 :: ow) := hp
        refine ⟨_, rfl, ?_⟩
        clear hf; intro a hf
        refine st_extract hf (by decide) rfl rfl rfl ?_
        clear hf; intro a ha hf; clear ha
        refine st_extract hf (by decide) rfl rfl rfl ?_
        clear hf; intro a ha hf; clear ha
        refine st_assign hf rfl rfl (by decide) ?_
        clear hf; intro a ha hf; clear ha
        refine st_assign hf rfl rfl (by decide) ?_
        clear hf; intro a ha hf; clear ha
        refine st_nil hf ?_
        refine th_n ?_
        refine wp_ret ?_
        obtain rfl := Option.some.inj h
        have hp : Hp _ _ w (Res.sl Ek.c128 36 v33 q26.1 :: ow) := Hp.sel (pre := [Res.sl Ek.c128 36 v11 q25, Res.sl Ek.c128 36 v33 q26.1]) (tail := ow) (rs' := [Res.sl Ek.c128 36 v33 q26.1]) hp [1] (by decide) (by simp) rfl
        exact ⟨rfl, ⟨_, hf.sub ⟨rfl, rfl, trivial⟩, hp⟩⟩

noncomputable def f_foghornref08_Same.s1c (a0 : (List (Fl × Fl))) (b1 : (List (Fl × Fl))) (i5 : Int) : Option (Int ⊕ (Unit ⊕ Bool)) := (if (decide (i5 < (a0.length : Int))) = true then (if 0 ≤ i5 ∧ i5 < (a0.length : Int) then (if 0 ≤ i5 ∧ i5 < (b1.length : Int) then ((f_foghornref08_Float ((gt a0 i5).1) ((gt b1 i5).1)).bind fun q13 => ((if (!q13) = true then (some true) else (if 0 ≤ i5 ∧ i5 < (a0.length : Int) then (if 0 ≤ i5 ∧ i5 < (b1.length : Int) then ((f_foghornref08_Float ((gt a0 i5).2) ((gt b1 i5).2)).bind fun q28 => (some (!q28))) else none) else none)).bind fun z30 => (if z30 = true then (some (Sum.inr (Sum.inr false))) else (some (Sum.inl (IntKind.i64.wrap (i5 + (1 : Int)))))))) else none) else none) else (some (Sum.inr (Sum.inl ()))))
noncomputable def f_foghornref08_Same.s1 (a0 : (List (Fl × Fl))) (b1 : (List (Fl × Fl))) (s : Int) : Option (Int ⊕ (Unit ⊕ Bool)) := f_foghornref08_Same.s1c a0 b1 s
noncomputable def f_foghornref08_Same (a0 : (List (Fl × Fl))) (b1 : (List (Fl × Fl))) : Option Bool := (if ((a0.length : Int) != (b1.length : Int)) = true then (some false) else ((loop (f_foghornref08_Same.s1 a0 b1) (0 : Int)).bind (fun q31 => sm q31 (fun q32 => (some true)) (fun q33 => (some q33)))))
theorem f_foghornref08_Same_c {S : Nat → Prop} {w0 w : World} {ow : List Res} (hp : Hp S w0 w ow) (va0 : Value) (a0 : (List (Fl × Fl))) (ha0 : RdS Ek.c128 S w0 va0 a0) (vb1 : Value) (b1 : (List (Fl × Fl))) (hb1 : RdS Ek.c128 S w0 vb1 b1) {r : Bool} (h : f_foghornref08_Same a0 b1 = some r) :
    Calls Try.prog 33 #[va0, vb1] w (fun e w' => e = .returned (.bool r) ∧ Hp S w0 w' (ow)) := by
  unfold f_foghornref08_Same at h
  refine enter (n := 43) (args := [va0, vb1]) Try.func33 rfl rfl (Nat.le_of_ble_eq_true rfl) fun a hf => ?_
  replace hf : Fr 43 a [(0, va0), (1, vb1)] := hf
  refine wp_mono (Q := fun e a w => e = .ret ∧ Fr 43 a [(4, .bool r)] ∧ Hp S w0 w (ow)) ?_ ?_
  rotate_left
  · rintro e a w ⟨rfl, hf, hp⟩
    exact ret1 hf rfl rfl ⟨rfl, hp⟩
  refine wp_seq ?_
  refine wp_reg ?_
  refine st_assign hf rfl rfl (by decide) ?_
  clear hf; intro a ha hf; clear ha
  refine st_nil hf ?_
  refine th_n ?_
  refine wp_seq ?_
  refine wp_seq ?_
  refine wp_reg ?_
  refine st_move hf rfl rfl (by decide) ?_
  clear hf; intro a ha hf; clear ha
  refine st_len (E := Ek.c128) hf (by decide) Try.underlying24 rfl rfl (ha0.sl hp) ?_
  clear hf; intro a ha hf; clear ha
  refine st_move hf rfl rfl (by decide) ?_
  clear hf; intro a ha hf; clear ha
  refine st_len (E := Ek.c128) hf (by decide) Try.underlying24 rfl rfl (hb1.sl hp) ?_
  clear hf; intro a ha hf; clear ha
  refine st_ineq hf (by decide) rfl rfl rfl ?_
  clear hf; intro a ha hf; clear ha
  refine st_nil hf ?_
  refine th_n ?_
  refine wp_if hf rfl (fun hb => ?_) (fun hb => ?_)
  · replace h := ifT h hb
    refine wp_seq ?_
    refine wp_reg ?_
    refine st_assign hf rfl rfl (by decide) ?_
    clear hf; intro a ha hf; clear ha
    refine st_nil hf ?_
    refine th_n ?_
    refine wp_ret ?_
    refine th_r ?_
    obtain rfl := Option.some.inj h
    exact ⟨rfl, ⟨hf.sub ⟨rfl, trivial⟩, hp⟩⟩
  · replace h := ifF h hb
    refine wp_skip ?_
    refine th_n ?_
    refine wp_seq ?_
    refine wp_seq ?_
    refine wp_reg ?_
    refine st_assign hf rfl rfl (by decide) ?_
    clear hf; intro a ha hf; clear ha
    refine st_nil hf ?_
    refine th_n ?_
    refine wp_block ?_
    obtain ⟨q31, hl, h⟩ := bnd h
    refine wp_loop_pure (f := (f_foghornref08_Same.s1 a0 b1)) (s := (0 : Int)) (fun s a w => Fr 43 a [(0, va0), (1, vb1), (5, .int .i64 s)] ∧ Hp S w0 w (ow)) (fun q e a w => match q with | (Sum.inl q) => e = .exit 0 ∧ Fr 43 a [] ∧ Hp S w0 w (ow) | (Sum.inr q) => e = .ret ∧ Fr 43 a [(4, .bool q)] ∧ Hp S w0 w (ow)) ?_ hl ⟨hf.sub ⟨rfl, rfl, rfl, trivial⟩, hp⟩ ?_
    · clear hl hf hp
      intro s x a w h hI
      obtain ⟨i5, hs⟩ : ∃ z, z = s := ⟨s, rfl⟩; subst hs
      obtain ⟨hf, hp⟩ : Fr 43 a [(0, va0), (1, vb1), (5, .int .i64 i5)] ∧ Hp S w0 w (ow) := hI
      replace h : f_foghornref08_Same.s1c a0 b1 i5 = some x := h
      unfold f_foghornref08_Same.s1c at h
      refine wp_seq ?_
      refine wp_seq ?_
      refine wp_reg ?_
      refine st_move hf rfl rfl (by decide) ?_
      clear hf; intro a ha hf; clear ha
      refine st_move hf rfl rfl (by decide) ?_
      clear hf; intro a ha hf; clear ha
      refine st_len (E := Ek.c128) hf (by decide) Try.underlying24 rfl rfl (ha0.sl hp) ?_
      clear hf; intro a ha hf; clear ha
      refine st_ilss hf (by decide) rfl rfl rfl ?_
      clear hf; intro a ha hf; clear ha
      refine st_nil hf ?_
      refine th_n ?_
      refine wp_if hf rfl (fun hb => ?_) (fun hb => ?_)
      · replace h := ifT h hb
        refine wp_skip ?_
        refine th_n ?_
        refine wp_seq ?_
        refine wp_block ?_
        refine wp_seq ?_
        obtain ⟨hc1, h⟩ := chk h
        obtain ⟨b3, b4, y5, y6, hl2⟩ := RdS.pinC (p := i5) ha0 hc1.1 hc1.2
        obtain ⟨hc7, h⟩ := chk h
        obtain ⟨b9, b10, y11, y12, hl8⟩ := RdS.pinC (p := i5) hb1 hc7.1 hc7.2
        obtain ⟨q13, hcall14, h⟩ := bnd h
        obtain ⟨z30, hz15, h⟩ := bnd h
        refine wp_cutN (fun a w => Fr 43 a [(0, va0), (1, vb1), (5, .int .i64 i5), (42, .bool z30)] ∧ Hp S w0 w (ow)) ?_ ?_
        · have hp := hp.same (Same.drew w)
          rcases Bool.eq_false_or_eq_true (!q13) with hb13 | hb13
          · skip
            replace hz15 := ifT hz15 hb13
            replace hz15 := Option.some.inj hz15
            refine dr_begin' (fun a w => Fr 43 a [(0, va0), (1, vb1), (5, .int .i64 i5), (42, .bool z30)] ∧ Hp S w0 w (ow)) (fun w' => ∃ l, Hp S w0 w' l) [] (by kernel_rfl) ?_
            refine dr_take 0 (va0) rfl (by kernel_rfl) (by kernel_rfl) (by kernel_rfl) (by kernel_rfl) rfl rfl hf (by decide) rfl (fun w hp => ?_) ⟨_, hp⟩ ?_
            · obtain ⟨_, hp⟩ := hp
              refine st_move hf rfl rfl (by decide) ?_
              clear hf; intro a ha hf
              exact st_nil hf (th_n ⟨ha, rfl⟩)
            clear hf; intro a hf
            refine dr_take 1 (.int .i64 i5) rfl (by kernel_rfl) (by kernel_rfl) (by kernel_rfl) (by kernel_rfl) rfl rfl hf (by decide) rfl (fun w hp => ?_) ⟨_, hp⟩ ?_
            · obtain ⟨_, hp⟩ := hp
              refine st_move hf rfl rfl (by decide) ?_
              clear hf; intro a ha hf
              exact st_nil hf (th_n ⟨ha, rfl⟩)
            clear hf; intro a hf
            refine dr_take 2 (eptr va0 i5 1) rfl (by kernel_rfl) (by kernel_rfl) (by kernel_rfl) (by kernel_rfl) rfl rfl hf (by decide) rfl (fun w hp => ?_) ⟨_, hp⟩ ?_
            · obtain ⟨_, hp⟩ := hp
              refine st_index (E := Ek.c128) hf (by decide) Try.underlying24 elt36 rfl rfl rfl (ha0.sl hp) hc1.1 hc1.2 ?_
              clear hf; intro a ha hf
              exact st_nil hf (th_n ⟨ha, rfl⟩)
            clear hf; intro a hf
            refine dr_take 3 (.complex .f64 b3 b4) rfl (by kernel_rfl) (by kernel_rfl) (by kernel_rfl) (by kernel_rfl) rfl rfl hf (by decide) rfl (fun w hp => ?_) ⟨_, hp⟩ ?_
            · obtain ⟨_, hp⟩ := hp
              refine st_ldP hf (by decide) pl36 rfl rfl (hl2 _ _ hp) ?_
              clear hf; intro a ha hf
              exact st_nil hf (th_n ⟨ha, rfl⟩)
            clear hf; intro a hf
            refine dr_take 4 (.float .f64 b3) rfl (by kernel_rfl) (by kernel_rfl) (by kernel_rfl) (by kernel_rfl) rfl rfl hf (by decide) rfl (fun w hp => ?_) ⟨_, hp⟩ ?_
            · obtain ⟨_, hp⟩ := hp
              refine st_real hf (by decide) rfl rfl ?_
              clear hf; intro a ha hf
              exact st_nil hf (th_n ⟨ha, rfl⟩)
            clear hf; intro a hf
            refine dr_take 5 (vb1) rfl (by kernel_rfl) (by kernel_rfl) (by kernel_rfl) (by kernel_rfl) rfl rfl hf (by decide) rfl (fun w hp => ?_) ⟨_, hp⟩ ?_
            · obtain ⟨_, hp⟩ := hp
              refine st_move hf rfl rfl (by decide) ?_
              clear hf; intro a ha hf
              exact st_nil hf (th_n ⟨ha, rfl⟩)
            clear hf; intro a hf
            refine dr_take 6 (.int .i64 i5) rfl (by kernel_rfl) (by kernel_rfl) (by kernel_rfl) (by kernel_rfl) rfl rfl hf (by decide) rfl (fun w hp => ?_) ⟨_, hp⟩ ?_
            · obtain ⟨_, hp⟩ := hp
              refine st_move hf rfl rfl (by decide) ?_
              clear hf; intro a ha hf
              exact st_nil hf (th_n ⟨ha, rfl⟩)
            clear hf; intro a hf
            refine dr_take 7 (eptr vb1 i5 1) rfl (by kernel_rfl) (by kernel_rfl) (by kernel_rfl) (by kernel_rfl) rfl rfl hf (by decide) rfl (fun w hp => ?_) ⟨_, hp⟩ ?_
            · obtain ⟨_, hp⟩ := hp
              refine st_index (E := Ek.c128) hf (by decide) Try.underlying24 elt36 rfl rfl rfl (hb1.sl hp) hc7.1 hc7.2 ?_
              clear hf; intro a ha hf
              exact st_nil hf (th_n ⟨ha, rfl⟩)
            clear hf; intro a hf
            refine dr_take 8 (.complex .f64 b9 b10) rfl (by kernel_rfl) (by kernel_rfl) (by kernel_rfl) (by kernel_rfl) rfl rfl hf (by decide) rfl (fun w hp => ?_) ⟨_, hp⟩ ?_
            · obtain ⟨_, hp⟩ := hp
              refine st_ldP hf (by decide) pl36 rfl rfl (hl8 _ _ hp) ?_
              clear hf; intro a ha hf
              exact st_nil hf (th_n ⟨ha, rfl⟩)
            clear hf; intro a hf
            refine dr_take 9 (.float .f64 b9) rfl (by kernel_rfl) (by kernel_rfl) (by kernel_rfl) (by kernel_rfl) rfl rfl hf (by decide) rfl (fun w hp => ?_) ⟨_, hp⟩ ?_
            · obtain ⟨_, hp⟩ := hp
              refine st_real hf (by decide) rfl rfl ?_
              clear hf; intro a ha hf
              exact st_nil hf (th_n ⟨ha, rfl⟩)
            clear hf; intro a hf
            refine dr_one 10 rfl (by kernel_rfl) ?_
            refine st_call hf (by decide) Try.func38 rfl rfl rfl rfl rfl (f_foghornref08_Float_c hp _ _ y5 _ _ y11 hcall14) ?_
            rintro _ w ⟨rfl, hp0⟩
            clear hp; have hp := hp0; clear hp0
            replace hp : Hp _ _ w (ow) := hp
            refine ⟨_, rfl, ?_⟩
            clear hf; intro a hf
            refine st_nil hf (th_n ⟨fun _ => ⟨_, hp⟩, ?_⟩)
            refine dr_take 11 (.bool (!q13)) rfl (by kernel_rfl) (by kernel_rfl) (by kernel_rfl) (by kernel_rfl) rfl rfl hf (by decide) rfl (fun w hp => ?_) ⟨_, hp⟩ ?_
            · obtain ⟨_, hp⟩ := hp
              refine st_not hf (by decide) rfl rfl ?_
              clear hf; intro a ha hf
              exact st_nil hf (th_n ⟨ha, rfl⟩)
            clear hf; intro a hf
            refine dr_take 12 (.bool (!q13)) rfl (by kernel_rfl) (by kernel_rfl) (by kernel_rfl) (by kernel_rfl) rfl rfl hf (by decide) rfl (fun w hp => ?_) ⟨_, hp⟩ ?_
            · obtain ⟨_, hp⟩ := hp
              refine st_move hf rfl rfl (by decide) ?_
              clear hf; intro a ha hf
              exact st_nil hf (th_n ⟨ha, rfl⟩)
            clear hf; intro a hf
            refine dr_out 13 rfl (by kernel_rfl) (by kernel_rfl) (by kernel_rfl) (by kernel_rfl) rfl hf (by decide) rfl (wantN hf rfl rfl hb13) ⟨_, hp⟩ ?_
            clear hf; intro a hf
            refine dr_out 14 rfl (by kernel_rfl) (by kernel_rfl) (by kernel_rfl) (by kernel_rfl) rfl hf (by decide) rfl (wantN hf rfl rfl hb13) ⟨_, hp⟩ ?_
            clear hf; intro a hf
            refine dr_out 15 rfl (by kernel_rfl) (by kernel_rfl) (by kernel_rfl) (by kernel_rfl) rfl hf (by decide) rfl (wantN hf rfl rfl hb13) ⟨_, hp⟩ ?_
            clear hf; intro a hf
            refine dr_out 16 rfl (by kernel_rfl) (by kernel_rfl) (by kernel_rfl) (by kernel_rfl) rfl hf (by decide) rfl (wantN hf rfl rfl hb13) ⟨_, hp⟩ ?_
            clear hf; intro a hf
            refine dr_out 17 rfl (by kernel_rfl) (by kernel_rfl) (by kernel_rfl) (by kernel_rfl) rfl hf (by decide) rfl (wantN hf rfl rfl hb13) ⟨_, hp⟩ ?_
            clear hf; intro a hf
            refine dr_out 18 rfl (by kernel_rfl) (by kernel_rfl) (by kernel_rfl) (by kernel_rfl) rfl hf (by decide) rfl (wantN hf rfl rfl hb13) ⟨_, hp⟩ ?_
            clear hf; intro a hf
            refine dr_out 19 rfl (by kernel_rfl) (by kernel_rfl) (by kernel_rfl) (by kernel_rfl) rfl hf (by decide) rfl (wantN hf rfl rfl hb13) ⟨_, hp⟩ ?_
            clear hf; intro a hf
            refine dr_out 20 rfl (by kernel_rfl) (by kernel_rfl) (by kernel_rfl) (by kernel_rfl) rfl hf (by decide) rfl (wantN hf rfl rfl hb13) ⟨_, hp⟩ ?_
            clear hf; intro a hf
            refine dr_out 21 rfl (by kernel_rfl) (by kernel_rfl) (by kernel_rfl) (by kernel_rfl) rfl hf (by decide) rfl (wantN hf rfl rfl hb13) ⟨_, hp⟩ ?_
            clear hf; intro a hf
            refine dr_out 22 rfl (by kernel_rfl) (by kernel_rfl) (by kernel_rfl) (by kernel_rfl) rfl hf (by decide) rfl (wantN hf rfl rfl hb13) ⟨_, hp⟩ ?_
            clear hf; intro a hf
            refine dr_out 23 rfl (by kernel_rfl) (by kernel_rfl) (by kernel_rfl) (by kernel_rfl) rfl hf (by decide) rfl (wantN hf rfl rfl hb13) ⟨_, hp⟩ ?_
            clear hf; intro a hf
            refine dr_out 24 rfl (by kernel_rfl) (by kernel_rfl) (by kernel_rfl) (by kernel_rfl) rfl hf (by decide) rfl (wantN hf rfl rfl hb13) ⟨_, hp⟩ ?_
            clear hf; intro a hf
            refine dr_take 25 (.bool z30) rfl (by kernel_rfl) (by kernel_rfl) (by kernel_rfl) (by kernel_rfl) rfl rfl hf (by decide) rfl (fun w hp => ?_) ⟨_, hp⟩ ?_
            · obtain ⟨_, hp⟩ := hp
              refine st_pick (v := .bool z30) hf rfl rfl (fun _ => by rw [← hz15]; rfl) (fun hb' => absurd (hb13.symm.trans hb') (by decide)) (by decide) ?_
              clear hf; intro a ha hf
              exact st_nil hf (th_n ⟨ha, rfl⟩)
            clear hf; intro a hf
            refine dr_end (by kernel_rfl) ?_ _
            exact ⟨hf.sub ⟨rfl, rfl, rfl, rfl, trivial⟩, hp⟩
          · skip
            replace hz15 := ifF hz15 hb13
            obtain ⟨hc16, hz15⟩ := chk hz15
            obtain ⟨b18, b19, y20, y21, hl17⟩ := RdS.pinC (p := i5) ha0 hc16.1 hc16.2
            obtain ⟨hc22, hz15⟩ := chk hz15
            obtain ⟨b24, b25, y26, y27, hl23⟩ := RdS.pinC (p := i5) hb1 hc22.1 hc22.2
            obtain ⟨q28, hcall29, hz15⟩ := bnd hz15
            replace hz15 := Option.some.inj hz15
            refine dr_begin' (fun a w => Fr 43 a [(0, va0), (1, vb1), (5, .int .i64 i5), (42, .bool z30)] ∧ Hp S w0 w (ow)) (fun w' => ∃ l, Hp S w0 w' l) [] (by kernel_rfl) ?_
            refine dr_take 0 (va0) rfl (by kernel_rfl) (by kernel_rfl) (by kernel_rfl) (by kernel_rfl) rfl rfl hf (by decide) rfl (fun w hp => ?_) ⟨_, hp⟩ ?_
            · obtain ⟨_, hp⟩ := hp
              refine st_move hf rfl rfl (by decide) ?_
              clear hf; intro a ha hf
              exact st_nil hf (th_n ⟨ha, rfl⟩)
            clear hf; intro a hf
            refine dr_take 1 (.int .i64 i5) rfl (by kernel_rfl) (by kernel_rfl) (by kernel_rfl) (by kernel_rfl) rfl rfl hf (by decide) rfl (fun w hp => ?_) ⟨_, hp⟩ ?_
            · obtain ⟨_, hp⟩ := hp
              refine st_move hf rfl rfl (by decide) ?_
              clear hf; intro a ha hf
              exact st_nil hf (th_n ⟨ha, rfl⟩)
            clear hf; intro a hf
            refine dr_take 2 (eptr va0 i5 1) rfl (by kernel_rfl) (by kernel_rfl) (by kernel_rfl) (by kernel_rfl) rfl rfl hf (by decide) rfl (fun w hp => ?_) ⟨_, hp⟩ ?_
            · obtain ⟨_, hp⟩ := hp
              refine st_index (E := Ek.c128) hf (by decide) Try.underlying24 elt36 rfl rfl rfl (ha0.sl hp) hc1.1 hc1.2 ?_
              clear hf; intro a ha hf
              exact st_nil hf (th_n ⟨ha, rfl⟩)
            clear hf; intro a hf
            refine dr_take 3 (.complex .f64 b3 b4) rfl (by kernel_rfl) (by kernel_rfl) (by kernel_rfl) (by kernel_rfl) rfl rfl hf (by decide) rfl (fun w hp => ?_) ⟨_, hp⟩ ?_
            · obtain ⟨_, hp⟩ := hp
              refine st_ldP hf (by decide) pl36 rfl rfl (hl2 _ _ hp) ?_
              clear hf; intro a ha hf
              exact st_nil hf (th_n ⟨ha, rfl⟩)
            clear hf; intro a hf
            refine dr_take 4 (.float .f64 b3) rfl (by kernel_rfl) (by kernel_rfl) (by kernel_rfl) (by kernel_rfl) rfl rfl hf (by decide) rfl (fun w hp => ?_) ⟨_, hp⟩ ?_
            · obtain ⟨_, hp⟩ := hp
              refine st_real hf (by decide) rfl rfl ?_
              clear hf; intro a ha hf
              exact st_nil hf (th_n ⟨ha, rfl⟩)
            clear hf; intro a hf
            refine dr_take 5 (vb1) rfl (by kernel_rfl) (by kernel_rfl) (by kernel_rfl) (by kernel_rfl) rfl rfl hf (by decide) rfl (fun w hp => ?_) ⟨_, hp⟩ ?_
            · obtain ⟨_, hp⟩ := hp
              refine st_move hf rfl rfl (by decide) ?_
              clear hf; intro a ha hf
              exact st_nil hf (th_n ⟨ha, rfl⟩)
            clear hf; intro a hf
            refine dr_take 6 (.int .i64 i5) rfl (by kernel_rfl) (by kernel_rfl) (by kernel_rfl) (by kernel_rfl) rfl rfl hf (by decide) rfl (fun w hp => ?_) ⟨_, hp⟩ ?_
            · obtain ⟨_, hp⟩ := hp
              refine st_move hf rfl rfl (by decide) ?_
              clear hf; intro a ha hf
              exact st_nil hf (th_n ⟨ha, rfl⟩)
            clear hf; intro a hf
            refine dr_take 7 (eptr vb1 i5 1) rfl (by kernel_rfl) (by kernel_rfl) (by kernel_rfl) (by kernel_rfl) rfl rfl hf (by decide) rfl (fun w hp => ?_) ⟨_, hp⟩ ?_
            · obtain ⟨_, hp⟩ := hp
              refine st_index (E := Ek.c128) hf (by decide) Try.underlying24 elt36 rfl rfl rfl (hb1.sl hp) hc7.1 hc7.2 ?_
              clear hf; intro a ha hf
              exact st_nil hf (th_n ⟨ha, rfl⟩)
            clear hf; intro a hf
            refine dr_take 8 (.complex .f64 b9 b10) rfl (by kernel_rfl) (by kernel_rfl) (by kernel_rfl) (by kernel_rfl) rfl rfl hf (by decide) rfl (fun w hp => ?_) ⟨_, hp⟩ ?_
            · obtain ⟨_, hp⟩ := hp
              refine st_ldP hf (by decide) pl36 rfl rfl (hl8 _ _ hp) ?_
              clear hf; intro a ha hf
              exact st_nil hf (th_n ⟨ha, rfl⟩)
            clear hf; intro a hf
            refine dr_take 9 (.float .f64 b9) rfl (by kernel_rfl) (by kernel_rfl) (by kernel_rfl) (by kernel_rfl) rfl rfl hf (by decide) rfl (fun w hp => ?_) ⟨_, hp⟩ ?_
            · obtain ⟨_, hp⟩ := hp
              refine st_real hf (by decide) rfl rfl ?_
              clear hf; intro a ha hf
              exact st_nil hf (th_n ⟨ha, rfl⟩)
            clear hf; intro a hf
            refine dr_one 10 rfl (by kernel_rfl) ?_
            refine st_call hf (by decide) Try.func38 rfl rfl rfl rfl rfl (f_foghornref08_Float_c hp _ _ y5 _ _ y11 hcall14) ?_
            rintro _ w ⟨rfl, hp0⟩
            clear hp; have hp := hp0; clear hp0
            replace hp : Hp _ _ w (ow) := hp
            refine ⟨_, rfl, ?_⟩
            clear hf; intro a hf
            refine st_nil hf (th_n ⟨fun _ => ⟨_, hp⟩, ?_⟩)
            refine dr_take 11 (.bool (!q13)) rfl (by kernel_rfl) (by kernel_rfl) (by kernel_rfl) (by kernel_rfl) rfl rfl hf (by decide) rfl (fun w hp => ?_) ⟨_, hp⟩ ?_
            · obtain ⟨_, hp⟩ := hp
              refine st_not hf (by decide) rfl rfl ?_
              clear hf; intro a ha hf
              exact st_nil hf (th_n ⟨ha, rfl⟩)
            clear hf; intro a hf
            refine dr_take 12 (.bool (!q13)) rfl (by kernel_rfl) (by kernel_rfl) (by kernel_rfl) (by kernel_rfl) rfl rfl hf (by decide) rfl (fun w hp => ?_) ⟨_, hp⟩ ?_
            · obtain ⟨_, hp⟩ := hp
              refine st_move hf rfl rfl (by decide) ?_
              clear hf; intro a ha hf
              exact st_nil hf (th_n ⟨ha, rfl⟩)
            clear hf; intro a hf
            refine dr_take 13 (va0) rfl (by kernel_rfl) (by kernel_rfl) (by kernel_rfl) (by kernel_rfl) rfl rfl hf (by decide) (wantY hf rfl rfl hb13) (fun w hp => ?_) ⟨_, hp⟩ ?_
            · obtain ⟨_, hp⟩ := hp
              refine st_move hf (wantY hf rfl rfl hb13) rfl (by decide) ?_
              clear hf; intro a ha hf
              exact st_nil hf (th_n ⟨ha, rfl⟩)
            clear hf; intro a hf
            refine dr_take 14 (.int .i64 i5) rfl (by kernel_rfl) (by kernel_rfl) (by kernel_rfl) (by kernel_rfl) rfl rfl hf (by decide) (wantY hf rfl rfl hb13) (fun w hp => ?_) ⟨_, hp⟩ ?_
            · obtain ⟨_, hp⟩ := hp
              refine st_move hf (wantY hf rfl rfl hb13) rfl (by decide) ?_
              clear hf; intro a ha hf
              exact st_nil hf (th_n ⟨ha, rfl⟩)
            clear hf; intro a hf
            refine dr_take 15 (eptr va0 i5 1) rfl (by kernel_rfl) (by kernel_rfl) (by kernel_rfl) (by kernel_rfl) rfl rfl hf (by decide) (wantY hf rfl rfl hb13) (fun w hp => ?_) ⟨_, hp⟩ ?_
            · obtain ⟨_, hp⟩ := hp
              refine st_index (E := Ek.c128) hf (by decide) Try.underlying24 elt36 (wantY hf rfl rfl hb13) rfl rfl (ha0.sl hp) hc16.1 hc16.2 ?_
              clear hf; intro a ha hf
              exact st_nil hf (th_n ⟨ha, rfl⟩)
            clear hf; intro a hf
            refine dr_take 16 (.complex .f64 b18 b19) rfl (by kernel_rfl) (by kernel_rfl) (by kernel_rfl) (by kernel_rfl) rfl rfl hf (by decide) (wantY hf rfl rfl hb13) (fun w hp => ?_) ⟨_, hp⟩ ?_
            · obtain ⟨_, hp⟩ := hp
              refine st_ldP hf (by decide) pl36 (wantY hf rfl rfl hb13) rfl (hl17 _ _ hp) ?_
              clear hf; intro a ha hf
              exact st_nil hf (th_n ⟨ha, rfl⟩)
            clear hf; intro a hf
            refine dr_take 17 (.float .f64 b19) rfl (by kernel_rfl) (by kernel_rfl) (by kernel_rfl) (by kernel_rfl) rfl rfl hf (by decide) (wantY hf rfl rfl hb13) (fun w hp => ?_) ⟨_, hp⟩ ?_
            · obtain ⟨_, hp⟩ := hp
              refine st_imag hf (by decide) (wantY hf rfl rfl hb13) rfl ?_
              clear hf; intro a ha hf
              exact st_nil hf (th_n ⟨ha, rfl⟩)
            clear hf; intro a hf
            refine dr_take 18 (vb1) rfl (by kernel_rfl) (by kernel_rfl) (by kernel_rfl) (by kernel_rfl) rfl rfl hf (by decide) (wantY hf rfl rfl hb13) (fun w hp => ?_) ⟨_, hp⟩ ?_
            · obtain ⟨_, hp⟩ := hp
              refine st_move hf (wantY hf rfl rfl hb13) rfl (by decide) ?_
              clear hf; intro a ha hf
              exact st_nil hf (th_n ⟨ha, rfl⟩)
            clear hf; intro a hf
            refine dr_take 19 (.int .i64 i5) rfl (by kernel_rfl) (by kernel_rfl) (by kernel_rfl) (by kernel_rfl) rfl rfl hf (by decide) (wantY hf rfl rfl hb13) (fun w hp => ?_) ⟨_, hp⟩ ?_
            · obtain ⟨_, hp⟩ := hp
              refine st_move hf (wantY hf rfl rfl hb13) rfl (by decide) ?_
              clear hf; intro a ha hf
              exact st_nil hf (th_n ⟨ha, rfl⟩)
            clear hf; intro a hf
            refine dr_take 20 (eptr vb1 i5 1) rfl (by kernel_rfl) (by kernel_rfl) (by kernel_rfl) (by kernel_rfl) rfl rfl hf (by decide) (wantY hf rfl rfl hb13) (fun w hp => ?_) ⟨_, hp⟩ ?_
            · obtain ⟨_, hp⟩ := hp
              refine st_index (E := Ek.c128) hf (by decide) Try.underlying24 elt36 (wantY hf rfl rfl hb13) rfl rfl (hb1.sl hp) hc22.1 hc22.2 ?_
              clear hf; intro a ha hf
              exact st_nil hf (th_n ⟨ha, rfl⟩)
            clear hf; intro a hf
            refine dr_take 21 (.complex .f64 b24 b25) rfl (by kernel_rfl) (by kernel_rfl) (by kernel_rfl) (by kernel_rfl) rfl rfl hf (by decide) (wantY hf rfl rfl hb13) (fun w hp => ?_) ⟨_, hp⟩ ?_
            · obtain ⟨_, hp⟩ := hp
              refine st_ldP hf (by decide) pl36 (wantY hf rfl rfl hb13) rfl (hl23 _ _ hp) ?_
              clear hf; intro a ha hf
              exact st_nil hf (th_n ⟨ha, rfl⟩)
            clear hf; intro a hf
            refine dr_take 22 (.float .f64 b25) rfl (by kernel_rfl) (by kernel_rfl) (by kernel_rfl) (by kernel_rfl) rfl rfl hf (by decide) (wantY hf rfl rfl hb13) (fun w hp => ?_) ⟨_, hp⟩ ?_
            · obtain ⟨_, hp⟩ := hp
              refine st_imag hf (by decide) (wantY hf rfl rfl hb13) rfl ?_
              clear hf; intro a ha hf
              exact st_nil hf (th_n ⟨ha, rfl⟩)
            clear hf; intro a hf
            refine dr_one 23 rfl (by kernel_rfl) ?_
            refine st_call hf (by decide) Try.func38 rfl rfl (wantY hf rfl rfl hb13) rfl rfl (f_foghornref08_Float_c hp _ _ y21 _ _ y27 hcall29) ?_
            rintro _ w ⟨rfl, hp0⟩
            clear hp; have hp := hp0; clear hp0
            replace hp : Hp _ _ w (ow) := hp
            refine ⟨_, rfl, ?_⟩
            clear hf; intro a hf
            refine st_nil hf (th_n ⟨fun _ => ⟨_, hp⟩, ?_⟩)
            refine dr_take 24 (.bool (!q28)) rfl (by kernel_rfl) (by kernel_rfl) (by kernel_rfl) (by kernel_rfl) rfl rfl hf (by decide) (wantY hf rfl rfl hb13) (fun w hp => ?_) ⟨_, hp⟩ ?_
            · obtain ⟨_, hp⟩ := hp
              refine st_not hf (by decide) (wantY hf rfl rfl hb13) rfl ?_
              clear hf; intro a ha hf
              exact st_nil hf (th_n ⟨ha, rfl⟩)
            clear hf; intro a hf
            refine dr_take 25 (.bool z30) rfl (by kernel_rfl) (by kernel_rfl) (by kernel_rfl) (by kernel_rfl) rfl rfl hf (by decide) rfl (fun w hp => ?_) ⟨_, hp⟩ ?_
            · obtain ⟨_, hp⟩ := hp
              refine st_pick (v := .bool z30) hf rfl rfl (fun hb' => absurd (hb13.symm.trans hb') (by decide)) (fun _ => by rw [← hz15]; rfl) (by decide) ?_
              clear hf; intro a ha hf
              exact st_nil hf (th_n ⟨ha, rfl⟩)
            clear hf; intro a hf
            refine dr_end (by kernel_rfl) ?_ _
            exact ⟨hf.sub ⟨rfl, rfl, rfl, rfl, trivial⟩, hp⟩
        · rintro a w ⟨hf, hp⟩
          refine th_n ?_
          refine wp_if hf rfl (fun hb => ?_) (fun hb => ?_)
          · replace h := ifT h hb
            refine wp_seq ?_
            refine wp_reg ?_
            refine st_assign hf rfl rfl (by decide) ?_
            clear hf; intro a ha hf; clear ha
            refine st_nil hf ?_
            refine th_n ?_
            refine wp_ret ?_
            refine ib_r ?_
            refine th_r ?_
            obtain rfl := Option.some.inj h
            exact rnd_r (by simp) ⟨rfl, ⟨hf.sub ⟨rfl, trivial⟩, hp⟩⟩
          · replace h := ifF h hb
            refine wp_skip ?_
            refine ib_n ?_
            refine th_n ?_
            refine wp_reg ?_
            refine st_move hf rfl rfl (by decide) ?_
            clear hf; intro a ha hf; clear ha
            refine st_iadd hf (by decide) rfl rfl rfl ?_
            clear hf; intro a ha hf; clear ha
            refine st_assign hf rfl rfl (by decide) ?_
            clear hf; intro a ha hf; clear ha
            refine st_nil hf ?_
            obtain rfl := Option.some.inj h
            exact rnd_l ⟨hf.sub ⟨rfl, rfl, rfl, trivial⟩, hp⟩
      · replace h := ifF h hb
        refine wp_exit ?_
        refine th_e ?_
        obtain rfl := Option.some.inj h
        exact rnd_r (by simp) ⟨rfl, hf.sub trivial, hp⟩
    · clear hl hf hp
      intro e a w hne hO
      cases q31 with
      | inl q32 =>
        replace h := smL h
        obtain ⟨rfl, hf, hp⟩ := hO
        refine ib_same ?_
        refine th_n ?_
        refine wp_seq ?_
        refine wp_reg ?_
        refine st_assign hf rfl rfl (by decide) ?_
        clear hf; intro a ha hf; clear ha
        refine st_nil hf ?_
        refine th_n ?_
        refine wp_ret ?_
        obtain rfl := Option.some.inj h
        exact ⟨rfl, ⟨hf.sub ⟨rfl, trivial⟩, hp⟩⟩
      | inr q33 =>
        replace h := smR h
        obtain ⟨rfl, hf, hp⟩ := hO
        refine ib_r ?_
        refine th_r ?_
        obtain rfl := Option.some.inj h
        exact ⟨rfl, ⟨hf.sub ⟨rfl, trivial⟩, hp⟩⟩

noncomputable def f_foghornlaw08_fresh.s1c (one0 : (List (Fl × Fl))) (i7 : Int) : Option (((List (Fl × Fl)) × Int) ⊕ (List (Fl × Fl))) := (if (decide (i7 < (one0.length : Int))) = true then (if 0 ≤ i7 ∧ i7 < (one0.length : Int) then (some (Sum.inl ((one0.set (i7).toNat (Fl.bits 4617315517961601024, Fl.bits 0)), (IntKind.i64.wrap (i7 + (1 : Int)))))) else none) else (some (Sum.inr one0)))
noncomputable def f_foghornlaw08_fresh.s1  (s : ((List (Fl × Fl)) × Int)) : Option (((List (Fl × Fl)) × Int) ⊕ (List (Fl × Fl))) := f_foghornlaw08_fresh.s1c s.1 s.2
noncomputable def f_foghornlaw08_fresh.s2c (one0 : (List (Fl × Fl))) (k8 : Int) : Option (((List (Fl × Fl)) × Int) ⊕ (List (Fl × Fl))) := (if (decide (k8 < (20 : Int))) = true then (if (one0.length + ([(Fl.bits 4618441417868443648, Fl.bits 0)]).length) * 16 ≤ 140737488355328 then (some (Sum.inl ((one0 ++ [(Fl.bits 4618441417868443648, Fl.bits 0)]), (IntKind.i64.wrap (k8 + (1 : Int)))))) else none) else (some (Sum.inr one0)))
noncomputable def f_foghornlaw08_fresh.s2  (s : ((List (Fl × Fl)) × Int)) : Option (((List (Fl × Fl)) × Int) ⊕ (List (Fl × Fl))) := f_foghornlaw08_fresh.s2c s.1 s.2
noncomputable def f_foghornlaw08_fresh (one0 : (List (Fl × Fl))) (two1 : (List (Fl × Fl))) (want2 : (List (Fl × Fl))) : Option Bool := ((f_foghornref08_Same one0 want2).bind fun q2 => ((if (!q2) = true then (some true) else ((f_foghornref08_Same two1 want2).bind fun q12 => (some (!q12)))).bind fun z11 => (if z11 = true then (some false) else ((loop f_foghornlaw08_fresh.s1 (one0, (0 : Int))).bind (fun q19 => ((loop f_foghornlaw08_fresh.s2 (q19, (0 : Int))).bind (fun q28 => ((f_foghornref08_Same two1 want2).bind fun q29 => (some (q29 && ((q28.length : Int) == (IntKind.i64.wrap ((want2.length : Int) + (20 : Int))))))))))))))
theorem f_foghornlaw08_fresh_c {S : Nat → Prop} {w0 w : World} {ow : List Res} (vone0 : Value) (one0 : (List (Fl × Fl))) (vtwo1 : Value) (two1 : (List (Fl × Fl))) (htwo1 : RdS Ek.c128 S w0 vtwo1 two1) (vwant2 : Value) (want2 : (List (Fl × Fl))) (hwant2 : RdS Ek.c128 S w0 vwant2 want2) (hp : Hp S w0 w (Res.sl Ek.c128 36 vone0 one0 :: ow)) {r : Bool} (h : f_foghornlaw08_fresh one0 two1 want2 = some r) :
    Calls Try.prog 12 #[vone0, vtwo1, vwant2] w (fun e w' => e = .returned (.bool r) ∧ Hp S w0 w' (ow)) := by
  unfold f_foghornlaw08_fresh at h
  refine enter (n := 46) (args := [vone0, vtwo1, vwant2]) Try.func12 rfl rfl (Nat.le_of_ble_eq_true rfl) fun a hf => ?_
  replace hf : Fr 46 a [(0, vone0), (1, vtwo1), (2, vwant2)] := hf
  refine wp_mono (Q := fun e a w => e = .ret ∧ Fr 46 a [(6, .bool r)] ∧ Hp S w0 w (ow)) ?_ ?_
  rotate_left
  · rintro e a w ⟨rfl, hf, hp⟩
    exact ret1 hf rfl rfl ⟨rfl, hp⟩
  refine wp_seq ?_
  refine wp_reg ?_
  refine st_assign hf rfl rfl (by decide) ?_
  clear hf; intro a ha hf; clear ha
  refine st_nil hf ?_
  refine th_n ?_
  refine wp_seq ?_
  refine wp_seq ?_
  refine wp_reg ?_
  refine st_move hf rfl rfl (by decide) ?_
  clear hf; intro a ha hf; clear ha
  refine st_move hf rfl rfl (by decide) ?_
  clear hf; intro a ha hf; clear ha
  obtain ⟨q2, hcall3, h⟩ := bnd h
  obtain ⟨S4, hp5, rd6, up7, bk8⟩ := Hp.lendS hp (i := 0) rfl
  refine st_call hf (by decide) Try.func33 rfl rfl rfl rfl rfl (f_foghornref08_Same_c hp5 _ _ rd6 _ _ ((hwant2.now hp).mono up7) hcall3) ?_
  rintro _ w ⟨rfl, hp0⟩
  have hp0 := bk8 _ _ hp0
  clear hp; have hp := hp0; clear hp0
  replace hp : Hp _ _ w (Res.sl Ek.c128 36 vone0 one0 :: ow) := hp
  refine ⟨_, rfl, ?_⟩
  clear hf; intro a hf
  refine st_not hf (by decide) rfl rfl ?_
  clear hf; intro a ha hf; clear ha
  refine st_move hf rfl rfl (by decide) ?_
  clear hf; intro a ha hf; clear ha
  obtain ⟨z11, hz9, h⟩ := bnd h
  refine wpList_cut 5 (fun a w => Fr 46 a [(0, vone0), (1, vtwo1), (2, vwant2), (18, .bool z11)] ∧ Hp S w0 w (Res.sl Ek.c128 36 vone0 one0 :: ow)) ?_ ?_
  · rcases Bool.eq_false_or_eq_true (!q2) with hb10 | hb10
    · skip
      replace hz9 := ifT hz9 hb10
      refine st_skip hf (wantN hf rfl rfl hb10) rfl (by decide) ?_ rfl
      clear hf; intro a hf
      refine st_skip hf (wantN hf rfl rfl hb10) rfl (by decide) ?_ rfl
      clear hf; intro a hf
      refine st_skip hf (wantN hf rfl rfl hb10) rfl (by decide) ?_ rfl
      clear hf; intro a hf
      refine st_skip hf (wantN hf rfl rfl hb10) rfl (by decide) ?_ rfl
      clear hf; intro a hf
      obtain rfl := Option.some.inj hz9
      refine st_pick (v := .bool true) hf rfl rfl (fun hb' => ?_) (fun hb' => ?_) (by decide) ?_
      · rfl
      · exact absurd (hb10.symm.trans hb') (by decide)
      clear hf; intro a ha hf; clear ha
      refine st_nil hf (th_n ?_)
      exact ⟨hf.sub ⟨rfl, rfl, rfl, rfl, trivial⟩, hp⟩
    · skip
      replace hz9 := ifF hz9 hb10
      refine st_move hf (wantY hf rfl rfl hb10) rfl (by decide) ?_
      clear hf; intro a ha hf; clear ha
      refine st_move hf (wantY hf rfl rfl hb10) rfl (by decide) ?_
      clear hf; intro a ha hf; clear ha
      obtain ⟨q12, hcall13, hz9⟩ := bnd hz9
      refine st_call hf (by decide) Try.func33 rfl rfl (wantY hf rfl rfl hb10) rfl rfl (f_foghornref08_Same_c hp _ _ htwo1 _ _ hwant2 hcall13) ?_
      rintro _ w ⟨rfl, hp0⟩
      clear hp; have hp := hp0; clear hp0
      replace hp : Hp _ _ w (Res.sl Ek.c128 36 vone0 one0 :: ow) := hp
      refine ⟨_, rfl, ?_⟩
      clear hf; intro a hf
      refine st_not hf (by decide) (wantY hf rfl rfl hb10) rfl ?_
      clear hf; intro a ha hf; clear ha
      obtain rfl := Option.some.inj hz9
      refine st_pick (v := .bool (!q12)) hf rfl rfl (fun hb' => ?_) (fun hb' => ?_) (by decide) ?_
      · exact absurd (hb10.symm.trans hb') (by decide)
      · rfl
      clear hf; intro a ha hf; clear ha
      refine st_nil hf (th_n ?_)
      exact ⟨hf.sub ⟨rfl, rfl, rfl, rfl, trivial⟩, hp⟩
  · rintro a w ⟨hf, hp⟩
    refine st_nil hf ?_
    refine th_n ?_
    refine wp_if hf rfl (fun hb => ?_) (fun hb => ?_)
    · replace h := ifT h hb
      refine wp_seq ?_
      refine wp_reg ?_
      refine st_assign hf rfl rfl (by decide) ?_
      clear hf; intro a ha hf; clear ha
      refine st_nil hf ?_
      refine th_n ?_
      refine wp_ret ?_
      refine th_r ?_
      obtain rfl := Option.some.inj h
      have hp : Hp _ _ w (ow) := Hp.sel (pre := [Res.sl Ek.c128 36 vone0 one0]) (tail := ow) (rs' := []) hp [] (by decide) (by simp) rfl
      exact ⟨rfl, ⟨hf.sub ⟨rfl, trivial⟩, hp⟩⟩
    · replace h := ifF h hb
      refine wp_skip ?_
      refine th_n ?_
      refine wp_seq ?_
      refine wp_seq ?_
      refine wp_reg ?_
      refine st_assign hf rfl rfl (by decide) ?_
      clear hf; intro a ha hf; clear ha
      refine st_nil hf ?_
      refine th_n ?_
      refine wp_block ?_
      obtain ⟨q19, hl, h⟩ := bnd h
      refine wp_loop_pure (f := f_foghornlaw08_fresh.s1) (s := (one0, (0 : Int))) (fun s a w => ∃ (v14 : Value), Fr 46 a [(0, v14), (1, vtwo1), (2, vwant2), (7, .int .i64 s.2)] ∧ Hp S w0 w (Res.sl Ek.c128 36 v14 s.1 :: ow)) (fun q e a w => e = .exit 0 ∧ ∃ (v16 : Value), Fr 46 a [(0, v16), (1, vtwo1), (2, vwant2)] ∧ Hp S w0 w (Res.sl Ek.c128 36 v16 q :: ow)) ?_ hl ⟨_, hf.sub ⟨rfl, rfl, rfl, rfl, trivial⟩, hp⟩ ?_
      · clear hl hf hp
        intro s x a w h hI
        obtain ⟨one0, i7⟩ := s
        obtain ⟨v14, hf, hp⟩ : ∃ (v14 : Value), Fr 46 a [(0, v14), (1, vtwo1), (2, vwant2), (7, .int .i64 i7)] ∧ Hp S w0 w (Res.sl Ek.c128 36 v14 one0 :: ow) := hI
        replace h : f_foghornlaw08_fresh.s1c one0 i7 = some x := h
        unfold f_foghornlaw08_fresh.s1c at h
        refine wp_seq ?_
        refine wp_seq ?_
        refine wp_reg ?_
        refine st_move hf rfl rfl (by decide) ?_
        clear hf; intro a ha hf; clear ha
        refine st_move hf rfl rfl (by decide) ?_
        clear hf; intro a ha hf; clear ha
        refine st_len (E := Ek.c128) hf (by decide) Try.underlying24 rfl rfl (hp.sl (i := 0) rfl) ?_
        clear hf; intro a ha hf; clear ha
        refine st_ilss hf (by decide) rfl rfl rfl ?_
        clear hf; intro a ha hf; clear ha
        refine st_nil hf ?_
        refine th_n ?_
        refine wp_if hf rfl (fun hb => ?_) (fun hb => ?_)
        · replace h := ifT h hb
          refine wp_skip ?_
          refine th_n ?_
          refine wp_seq ?_
          refine wp_block ?_
          refine wp_reg ?_
          refine st_move hf rfl rfl (by decide) ?_
          clear hf; intro a ha hf; clear ha
          refine st_move hf rfl rfl (by decide) ?_
          clear hf; intro a ha hf; clear ha
          obtain ⟨hc18, h⟩ := chk h
          refine st_index (E := Ek.c128) hf (by decide) Try.underlying24 elt36 rfl rfl rfl (hp.sl (i := 0) rfl) hc18.1 hc18.2 ?_
          clear hf; intro a ha hf; clear ha
          refine st_store (E := Ek.c128) hf elt36 hp (i := 0) rfl rfl rfl rfl (show Ek.c128.rep [.complex .f64 4617315517961601024 0] (Fl.bits 4617315517961601024, Fl.bits 0) from ⟨_, _, rfl, rfl, rfl⟩) hc18.1 hc18.2 ?_
          clear hf; intro a w hf hp0; clear hp; have hp := hp0; clear hp0
          replace hp : Hp _ _ w (Res.sl Ek.c128 36 v14 (one0.set (i7).toNat (Fl.bits 4617315517961601024, Fl.bits 0)) :: ow) := hp
          refine st_nil hf ?_
          refine ib_n ?_
          refine th_n ?_
          refine wp_reg ?_
          refine st_move hf rfl rfl (by decide) ?_
          clear hf; intro a ha hf; clear ha
          refine st_iadd hf (by decide) rfl rfl rfl ?_
          clear hf; intro a ha hf; clear ha
          refine st_assign hf rfl rfl (by decide) ?_
          clear hf; intro a ha hf; clear ha
          refine st_nil hf ?_
          obtain rfl := Option.some.inj h
          exact rnd_l ⟨_, hf.sub ⟨rfl, rfl, rfl, rfl, trivial⟩, hp⟩
        · replace h := ifF h hb
          refine wp_exit ?_
          refine th_e ?_
          obtain rfl := Option.some.inj h
          exact rnd_r (by simp) ⟨rfl, _, hf.sub ⟨rfl, rfl, rfl, trivial⟩, hp⟩
      · clear hl hf hp
        intro e a w hne hO
        obtain ⟨rfl, v16, hf, hp⟩ := hO
        refine ib_same ?_
        refine th_n ?_
        refine wp_seq ?_
        refine wp_seq ?_
        refine wp_reg ?_
        refine st_assign hf rfl rfl (by decide) ?_
        clear hf; intro a ha hf; clear ha
        refine st_nil hf ?_
        refine th_n ?_
        refine wp_block ?_
        obtain ⟨q28, hl, h⟩ := bnd h
        refine wp_loop_pure (f := f_foghornlaw08_fresh.s2) (s := (q19, (0 : Int))) (fun s a w => ∃ (v20 : Value), Fr 46 a [(0, v20), (1, vtwo1), (2, vwant2), (8, .int .i64 s.2)] ∧ Hp S w0 w (Res.sl Ek.c128 36 v20 s.1 :: ow)) (fun q e a w => e = .exit 2 ∧ ∃ (v22 : Value), Fr 46 a [(0, v22), (1, vtwo1), (2, vwant2)] ∧ Hp S w0 w (Res.sl Ek.c128 36 v22 q :: ow)) ?_ hl ⟨_, hf.sub ⟨rfl, rfl, rfl, rfl, trivial⟩, hp⟩ ?_
        · clear hl hf hp
          intro s x a w h hI
          obtain ⟨one0, k8⟩ := s
          obtain ⟨v20, hf, hp⟩ : ∃ (v20 : Value), Fr 46 a [(0, v20), (1, vtwo1), (2, vwant2), (8, .int .i64 k8)] ∧ Hp S w0 w (Res.sl Ek.c128 36 v20 one0 :: ow) := hI
          replace h : f_foghornlaw08_fresh.s2c one0 k8 = some x := h
          unfold f_foghornlaw08_fresh.s2c at h
          refine wp_seq ?_
          refine wp_seq ?_
          refine wp_reg ?_
          refine st_move hf rfl rfl (by decide) ?_
          clear hf; intro a ha hf; clear ha
          refine st_ilss hf (by decide) rfl rfl rfl ?_
          clear hf; intro a ha hf; clear ha
          refine st_nil hf ?_
          refine th_n ?_
          refine wp_if hf rfl (fun hb => ?_) (fun hb => ?_)
          · replace h := ifT h hb
            refine wp_skip ?_
            refine th_n ?_
            refine wp_seq ?_
            refine wp_block ?_
            refine wp_reg ?_
            refine st_move hf rfl rfl (by decide) ?_
            clear hf; intro a ha hf; clear ha
            refine st_build (E := Ek.c128) (xs := [(Fl.bits 4618441417868443648, Fl.bits 0)]) hf (by decide) elt36 Try.underlying24 hp (vals := #[(0, .complex .f64 4618441417868443648 0)]) (cells := #[.complex .f64 4618441417868443648 0]) rfl (by simp [hf.ev (x := (Operand.const (.complex .f64 4618441417868443648 0))) rfl]) (by decide) (by decide) (z := .complex .f64 0 0) (by kernel_rfl) (by kernel_rfl) rfl (reps_cons (cs := [.complex .f64 4618441417868443648 0]) (show Ek.c128.rep [.complex .f64 4618441417868443648 0] (Fl.bits 4618441417868443648, Fl.bits 0) from ⟨_, _, rfl, rfl, rfl⟩) (reps_nil _)) ?_
            clear hf; intro a w v24 hf hp0; clear hp; have hp := hp0; clear hp0
            replace hp : Hp _ _ w (Res.sl Ek.c128 36 v24 ([(Fl.bits 4618441417868443648, Fl.bits 0)]) :: Res.sl Ek.c128 36 v20 one0 :: ow) := hp
            obtain ⟨hc26, h⟩ := chk h
            refine st_append (E := Ek.c128) hf (by decide) elt36 Try.underlying24 (by decide) hp (i := 1) rfl rfl rfl rfl (hp.sl (i := 0) rfl) hc26 ?_
            clear hf; intro a w v27 hf hp0; clear hp; have hp := hp0; clear hp0
            replace hp : Hp _ _ w (Res.sl Ek.c128 36 v24 ([(Fl.bits 4618441417868443648, Fl.bits 0)]) :: Res.sl Ek.c128 36 v27 (one0 ++ [(Fl.bits 4618441417868443648, Fl.bits 0)]) :: ow) := hp
            refine st_assign hf rfl rfl (by decide) ?_
            clear hf; intro a ha hf; clear ha
            refine st_nil hf ?_
            refine ib_n ?_
            refine th_n ?_
            refine wp_reg ?_
            refine st_move hf rfl rfl (by decide) ?_
            clear hf; intro a ha hf; clear ha
            refine st_iadd hf (by decide) rfl rfl rfl ?_
            clear hf; intro a ha hf; clear ha
            refine st_assign hf rfl rfl (by decide) ?_
            clear hf; intro a ha hf; clear ha
            refine st_nil hf ?_
            obtain rfl := Option.some.inj h
            have hp : Hp _ _ w (Res.sl Ek.c128 36 v27 (one0 ++ [(Fl.bits 4618441417868443648, Fl.bits 0)]) :: ow) := Hp.sel (pre := [Res.sl Ek.c128 36 v24 ([(Fl.bits 4618441417868443648, Fl.bits 0)]), Res.sl Ek.c128 36 v27 (one0 ++ [(Fl.bits 4618441417868443648, Fl.bits 0)])]) (tail := ow) (rs' := [Res.sl Ek.c128 36 v27 (one0 ++ [(Fl.bits 4618441417868443648, Fl.bits 0)])]) hp [1] (by decide) (by simp) rfl
            exact rnd_l ⟨_, hf.sub ⟨rfl, rfl, rfl, rfl, trivial⟩, hp⟩
          · replace h := ifF h hb
            refine wp_exit ?_
            refine th_e ?_
            obtain rfl := Option.some.inj h
            exact rnd_r (by simp) ⟨rfl, _, hf.sub ⟨rfl, rfl, rfl, trivial⟩, hp⟩
        · clear hl hf hp
          intro e a w hne hO
          obtain ⟨rfl, v22, hf, hp⟩ := hO
          refine ib_same ?_
          refine th_n ?_
          refine wp_seq ?_
          refine wp_reg ?_
          refine st_move hf rfl rfl (by decide) ?_
          clear hf; intro a ha hf; clear ha
          refine st_move hf rfl rfl (by decide) ?_
          clear hf; intro a ha hf; clear ha
          obtain ⟨q29, hcall30, h⟩ := bnd h
          refine st_call hf (by decide) Try.func33 rfl rfl rfl rfl rfl (f_foghornref08_Same_c hp _ _ htwo1 _ _ hwant2 hcall30) ?_
          rintro _ w ⟨rfl, hp0⟩
          clear hp; have hp := hp0; clear hp0
          replace hp : Hp _ _ w (Res.sl Ek.c128 36 v22 q28 :: ow) := hp
          refine ⟨_, rfl, ?_⟩
          clear hf; intro a hf
          refine st_move hf rfl rfl (by decide) ?_
          clear hf; intro a ha hf; clear ha
          refine wpList_cut 7 (fun a w => Fr 46 a [(45, .bool (q29 && ((q28.length : Int) == (IntKind.i64.wrap ((want2.length : Int) + (20 : Int))))))] ∧ Hp S w0 w (Res.sl Ek.c128 36 v22 q28 :: ow)) ?_ ?_
          · rcases Bool.eq_false_or_eq_true q29 with hb32 | hb32
            · skip
              refine st_move hf (wantY hf rfl rfl hb32) rfl (by decide) ?_
              clear hf; intro a ha hf; clear ha
              refine st_len (E := Ek.c128) hf (by decide) Try.underlying24 (wantY hf rfl rfl hb32) rfl (hp.sl (i := 0) rfl) ?_
              clear hf; intro a ha hf; clear ha
              refine st_move hf (wantY hf rfl rfl hb32) rfl (by decide) ?_
              clear hf; intro a ha hf; clear ha
              refine st_len (E := Ek.c128) hf (by decide) Try.underlying24 (wantY hf rfl rfl hb32) rfl (hwant2.sl hp) ?_
              clear hf; intro a ha hf; clear ha
              refine st_iadd hf (by decide) (wantY hf rfl rfl hb32) rfl rfl ?_
              clear hf; intro a ha hf; clear ha
              refine st_ieql hf (by decide) (wantY hf rfl rfl hb32) rfl rfl ?_
              clear hf; intro a ha hf; clear ha
              refine st_pick (v := .bool ((q28.length : Int) == (IntKind.i64.wrap ((want2.length : Int) + (20 : Int))))) hf rfl rfl (fun hb' => ?_) (fun hb' => ?_) (by decide) ?_
              · rfl
              · exact absurd (hb32.symm.trans hb') (by decide)
              clear hf; intro a ha hf; clear ha
              refine st_nil hf (th_n ?_)
              exact ⟨hf.sub ⟨(by rw [hb32]; rfl), trivial⟩, hp⟩
            · skip
              refine st_skip hf (wantN hf rfl rfl hb32) rfl (by decide) ?_ rfl
              clear hf; intro a hf
              refine st_skip hf (wantN hf rfl rfl hb32) rfl (by decide) ?_ rfl
              clear hf; intro a hf
              refine st_skip hf (wantN hf rfl rfl hb32) rfl (by decide) ?_ rfl
              clear hf; intro a hf
              refine st_skip hf (wantN hf rfl rfl hb32) rfl (by decide) ?_ rfl
              clear hf; intro a hf
              refine st_skip hf (wantN hf rfl rfl hb32) rfl (by decide) ?_ rfl
              clear hf; intro a hf
              refine st_skip hf (wantN hf rfl rfl hb32) rfl (by decide) ?_ rfl
              clear hf; intro a hf
              refine st_pick (v := .bool false) hf rfl rfl (fun hb' => ?_) (fun hb' => ?_) (by decide) ?_
              · exact absurd (hb32.symm.trans hb') (by decide)
              · rfl
              clear hf; intro a ha hf; clear ha
              refine st_nil hf (th_n ?_)
              exact ⟨hf.sub ⟨(by rw [hb32]; rfl), trivial⟩, hp⟩
          · rintro a w ⟨hf, hp⟩
            refine st_assign hf rfl rfl (by decide) ?_
            clear hf; intro a ha hf; clear ha
            refine st_nil hf ?_
            refine th_n ?_
            refine wp_ret ?_
            obtain rfl := Option.some.inj h
            have hp : Hp _ _ w (ow) := Hp.sel (pre := [Res.sl Ek.c128 36 v22 q28]) (tail := ow) (rs' := []) hp [] (by decide) (by simp) rfl
            exact ⟨rfl, ⟨hf.sub ⟨rfl, trivial⟩, hp⟩⟩

end Go.Proofs.Ytfppofbdmhihpaa
