/- The functions foghorn foghornlaw08.MixShares: what each answers, as a plain function, and that its call answers it; printed by gen.py. -/
import Derived.Test.YtfppofbdmhihpaaProg
import Derived.Test.YtfppofbdmhihpaaGlP
import Derived.KernelRfl
set_option linter.unusedVariables false
set_option maxRecDepth 100000
set_option maxHeartbeats 4000000
namespace Go.Proofs.Ytfppofbdmhihpaa
open GL
theorem eltv22 : ElT Try.prog Ek.val 22 24 (.slice none 0 0) := ElT.of (z := .slice none 0 0) (by kernel_rfl) ⟨rfl, rfl⟩
theorem eltv24 : ElT Try.prog Ek.val 24 24 (.slice none 0 0) := ElT.of (z := .slice none 0 0) (by kernel_rfl) ⟨rfl, rfl⟩
theorem elt36 : ElT Try.prog Ek.c128 36 16 (Fl.bits 0, Fl.bits 0) := ElT.of (z := .complex .f64 0 0) (by kernel_rfl) ⟨_, _, rfl, rfl, rfl⟩
theorem elt42 : ElT Try.prog (Ek.int .u64) 42 8 (0 : Int) := ElT.of (z := .int .u64 0) (by kernel_rfl) rfl
theorem pl22 : Plain Try.prog 22 := ⟨⟨_, Try.underlying22, trivial⟩⟩
theorem pl24 : Plain Try.prog 24 := ⟨⟨_, Try.underlying24, trivial⟩⟩
theorem pl36 : Plain Try.prog 36 := ⟨⟨_, Try.underlying36, trivial⟩⟩
theorem pl42 : Plain Try.prog 42 := ⟨⟨_, Try.underlying42, trivial⟩⟩
noncomputable def f_foghornlaw08_numbers.s1c (l0 : (List Int)) (out3 : (List (Fl × Fl))) (i4 : Int) : Option (((List (Fl × Fl)) × Int) ⊕ (List (Fl × Fl))) := (if (decide ((IntKind.i64.wrap (i4 + (1 : Int))) < (l0.length : Int))) = true then (if 0 ≤ i4 ∧ i4 < (l0.length : Int) then (if 0 ≤ (IntKind.i64.wrap (i4 + (1 : Int))) ∧ (IntKind.i64.wrap (i4 + (1 : Int))) < (l0.length : Int) then (if (out3.length + ([((Fl.bits ((gt l0 i4)).toNat), (Fl.bits ((gt l0 (IntKind.i64.wrap (i4 + (1 : Int))))).toNat))]).length) * 16 ≤ 140737488355328 then (some (Sum.inl ((out3 ++ [((Fl.bits ((gt l0 i4)).toNat), (Fl.bits ((gt l0 (IntKind.i64.wrap (i4 + (1 : Int))))).toNat))]), (IntKind.i64.wrap (i4 + (2 : Int)))))) else none) else none) else none) else (some (Sum.inr out3)))
noncomputable def f_foghornlaw08_numbers.s1 (l0 : (List Int)) (s : ((List (Fl × Fl)) × Int)) : Option (((List (Fl × Fl)) × Int) ⊕ (List (Fl × Fl))) := f_foghornlaw08_numbers.s1c l0 s.1 s.2
noncomputable def f_foghornlaw08_numbers (l0 : (List Int)) : Option ((List (Fl × Fl)) × (List (Fl × Fl))) := ((loop (f_foghornlaw08_numbers.s1 l0) ([], (0 : Int))).bind (fun q11 => (if (q11.length + ([(Fl.bits 4651892959631900672, Fl.bits 0)]).length) * 16 ≤ 140737488355328 then (if 0 ≤ (q11.length : Int) ∧ (q11.length : Int) ≤ (((q11 ++ [(Fl.bits 4651892959631900672, Fl.bits 0)]) ++ ([] : List (Fl × Fl))).length : Int) then (some ((((q11 ++ [(Fl.bits 4651892959631900672, Fl.bits 0)]) ++ ([] : List (Fl × Fl))).take (((q11.length : Int)).toNat)), (((q11 ++ [(Fl.bits 4651892959631900672, Fl.bits 0)]) ++ ([] : List (Fl × Fl))).drop (((q11.length : Int)).toNat)))) else none) else none)))
theorem f_foghornlaw08_numbers_c {S : Nat → Prop} {w0 w : World} {ow : List Res} (hp : Hp S w0 w ow) (vl0 : Value) (l0 : (List Int)) (hl0 : RdS (Ek.int .u64) S w0 vl0 l0) {r : ((List (Fl × Fl)) × (List (Fl × Fl)))} (h : f_foghornlaw08_numbers l0 = some r) :
    Calls Try.prog 9 #[vl0] w (fun e w' => ∃ (u0 : Value), e = .returned (u0) ∧ Hp S w0 w' (Res.slx Ek.c128 36 u0 r.1 r.2 :: ow)) := by
  unfold f_foghornlaw08_numbers at h
  refine enter (n := 35) (args := [vl0]) Try.func9 rfl rfl (Nat.le_of_ble_eq_true rfl) fun a hf => ?_
  replace hf : Fr 35 a [(0, vl0)] := hf
  refine wp_mono (Q := fun e a w => e = .ret ∧ ∃ (u0 : Value), Fr 35 a [(2, u0)] ∧ Hp S w0 w (Res.slx Ek.c128 36 u0 r.1 r.2 :: ow)) ?_ ?_
  rotate_left
  · rintro e a w ⟨rfl, x0, hf, hp⟩
    exact ret1 hf rfl rfl ⟨x0, rfl, hp⟩
  refine wp_seq ?_
  refine wp_reg ?_
  refine st_assign hf rfl rfl (by decide) ?_
  clear hf; intro a ha hf; clear ha
  refine st_nil hf ?_
  refine th_n ?_
  refine wp_seq ?_
  refine wp_reg ?_
  refine st_assign hf rfl rfl (by decide) ?_
  clear hf; intro a ha hf; clear ha
  refine st_nil hf ?_
  refine th_n ?_
  refine wp_seq ?_
  refine wp_seq ?_
  refine wp_reg ?_
  refine st_assign hf rfl rfl (by decide) ?_
  clear hf; intro a ha hf; clear ha
  refine st_nil hf ?_
  refine th_n ?_
  refine wp_block ?_
  obtain ⟨q11, hl, h⟩ := bnd h
  have hp := hp.nil Ek.c128 36
  refine wp_loop_pure (f := (f_foghornlaw08_numbers.s1 l0)) (s := ([], (0 : Int))) (fun s a w => ∃ (v1 : Value), Fr 35 a [(0, vl0), (3, v1), (4, .int .i64 s.2)] ∧ Hp S w0 w (Res.sl Ek.c128 36 v1 s.1 :: ow)) (fun q e a w => e = .exit 0 ∧ ∃ (v3 : Value), Fr 35 a [(3, v3)] ∧ Hp S w0 w (Res.sl Ek.c128 36 v3 q :: ow)) ?_ hl ⟨_, hf.sub ⟨rfl, rfl, rfl, trivial⟩, hp⟩ ?_
  · clear hl hf hp
    intro s x a w h hI
    obtain ⟨out3, i4⟩ := s
    obtain ⟨v1, hf, hp⟩ : ∃ (v1 : Value), Fr 35 a [(0, vl0), (3, v1), (4, .int .i64 i4)] ∧ Hp S w0 w (Res.sl Ek.c128 36 v1 out3 :: ow) := hI
    replace h : f_foghornlaw08_numbers.s1c l0 out3 i4 = some x := h
    unfold f_foghornlaw08_numbers.s1c at h
    refine wp_seq ?_
    refine wp_seq ?_
    refine wp_reg ?_
    refine st_move hf rfl rfl (by decide) ?_
    clear hf; intro a ha hf; clear ha
    refine st_iadd hf (by decide) rfl rfl rfl ?_
    clear hf; intro a ha hf; clear ha
    refine st_move hf rfl rfl (by decide) ?_
    clear hf; intro a ha hf; clear ha
    refine st_len (E := (Ek.int .u64)) hf (by decide) Try.underlying22 rfl rfl (hl0.sl hp) ?_
    clear hf; intro a ha hf; clear ha
    refine st_ilss hf (by decide) rfl rfl rfl ?_
    clear hf; intro a ha hf; clear ha
    refine st_nil hf ?_
    refine th_n ?_
    refine wp_if hf rfl (fun hb => ?_) (fun hb => ?_)
    · replace h := ifT h hb
      refine wp_skip ?_
      refine th_n ?_
      refine wp_seq ?_
      refine wp_block ?_
      obtain ⟨hc5, h⟩ := chk h
      obtain ⟨hc6, h⟩ := chk h
      obtain ⟨hc9, h⟩ := chk h
      refine wp_cutN (fun a w => ∃ (v7 : Value) (v10 : Value), Fr 35 a [(0, vl0), (3, v10), (4, .int .i64 i4)] ∧ Hp S w0 w (Res.sl Ek.c128 36 v7 ([((Fl.bits ((gt l0 i4)).toNat), (Fl.bits ((gt l0 (IntKind.i64.wrap (i4 + (1 : Int))))).toNat))]) :: Res.sl Ek.c128 36 v10 (out3 ++ [((Fl.bits ((gt l0 i4)).toNat), (Fl.bits ((gt l0 (IntKind.i64.wrap (i4 + (1 : Int))))).toNat))]) :: ow)) ?_ ?_
      · have hp := hp.same (Same.drew w)
        refine dr_begin' (fun a w => ∃ (v7 : Value) (v10 : Value), Fr 35 a [(0, vl0), (3, v10), (4, .int .i64 i4)] ∧ Hp S w0 w (Res.sl Ek.c128 36 v7 ([((Fl.bits ((gt l0 i4)).toNat), (Fl.bits ((gt l0 (IntKind.i64.wrap (i4 + (1 : Int))))).toNat))]) :: Res.sl Ek.c128 36 v10 (out3 ++ [((Fl.bits ((gt l0 i4)).toNat), (Fl.bits ((gt l0 (IntKind.i64.wrap (i4 + (1 : Int))))).toNat))]) :: ow)) (fun w' => ∃ l, Hp S w0 w' l) [] (by kernel_rfl) ?_
        refine dr_take 0 (v1) rfl (by kernel_rfl) (by kernel_rfl) (by kernel_rfl) (by kernel_rfl) rfl rfl hf (by decide) rfl (fun w hp => ?_) ⟨_, hp⟩ ?_
        · obtain ⟨_, hp⟩ := hp
          refine st_move hf rfl rfl (by decide) ?_
          clear hf; intro a ha hf
          exact st_nil hf (th_n ⟨ha, rfl⟩)
        clear hf; intro a hf
        refine dr_take 1 (vl0) rfl (by kernel_rfl) (by kernel_rfl) (by kernel_rfl) (by kernel_rfl) rfl rfl hf (by decide) rfl (fun w hp => ?_) ⟨_, hp⟩ ?_
        · obtain ⟨_, hp⟩ := hp
          refine st_move hf rfl rfl (by decide) ?_
          clear hf; intro a ha hf
          exact st_nil hf (th_n ⟨ha, rfl⟩)
        clear hf; intro a hf
        refine dr_take 2 (.int .i64 i4) rfl (by kernel_rfl) (by kernel_rfl) (by kernel_rfl) (by kernel_rfl) rfl rfl hf (by decide) rfl (fun w hp => ?_) ⟨_, hp⟩ ?_
        · obtain ⟨_, hp⟩ := hp
          refine st_move hf rfl rfl (by decide) ?_
          clear hf; intro a ha hf
          exact st_nil hf (th_n ⟨ha, rfl⟩)
        clear hf; intro a hf
        refine dr_take 3 (eptr vl0 i4 1) rfl (by kernel_rfl) (by kernel_rfl) (by kernel_rfl) (by kernel_rfl) rfl rfl hf (by decide) rfl (fun w hp => ?_) ⟨_, hp⟩ ?_
        · obtain ⟨_, hp⟩ := hp
          refine st_index (E := (Ek.int .u64)) hf (by decide) Try.underlying22 elt42 rfl rfl rfl (hl0.sl hp) hc5.1 hc5.2 ?_
          clear hf; intro a ha hf
          exact st_nil hf (th_n ⟨ha, rfl⟩)
        clear hf; intro a hf
        refine dr_take 4 (.int .u64 (gt l0 i4)) rfl (by kernel_rfl) (by kernel_rfl) (by kernel_rfl) (by kernel_rfl) rfl rfl hf (by decide) rfl (fun w hp => ?_) ⟨_, hp⟩ ?_
        · obtain ⟨_, hp⟩ := hp
          refine st_ldI hf (by decide) pl42 rfl rfl (hl0.sl hp) hc5.1 hc5.2 ?_
          clear hf; intro a ha hf
          exact st_nil hf (th_n ⟨ha, rfl⟩)
        clear hf; intro a hf
        refine dr_take 6 (vl0) rfl (by kernel_rfl) (by kernel_rfl) (by kernel_rfl) (by kernel_rfl) rfl rfl hf (by decide) rfl (fun w hp => ?_) ⟨_, hp⟩ ?_
        · obtain ⟨_, hp⟩ := hp
          refine st_move hf rfl rfl (by decide) ?_
          clear hf; intro a ha hf
          exact st_nil hf (th_n ⟨ha, rfl⟩)
        clear hf; intro a hf
        refine dr_take 7 (.int .i64 i4) rfl (by kernel_rfl) (by kernel_rfl) (by kernel_rfl) (by kernel_rfl) rfl rfl hf (by decide) rfl (fun w hp => ?_) ⟨_, hp⟩ ?_
        · obtain ⟨_, hp⟩ := hp
          refine st_move hf rfl rfl (by decide) ?_
          clear hf; intro a ha hf
          exact st_nil hf (th_n ⟨ha, rfl⟩)
        clear hf; intro a hf
        refine dr_take 8 (.int .i64 (IntKind.i64.wrap (i4 + (1 : Int)))) rfl (by kernel_rfl) (by kernel_rfl) (by kernel_rfl) (by kernel_rfl) rfl rfl hf (by decide) rfl (fun w hp => ?_) ⟨_, hp⟩ ?_
        · obtain ⟨_, hp⟩ := hp
          refine st_iadd hf (by decide) rfl rfl rfl ?_
          clear hf; intro a ha hf
          exact st_nil hf (th_n ⟨ha, rfl⟩)
        clear hf; intro a hf
        refine dr_take 9 (eptr vl0 (IntKind.i64.wrap (i4 + (1 : Int))) 1) rfl (by kernel_rfl) (by kernel_rfl) (by kernel_rfl) (by kernel_rfl) rfl rfl hf (by decide) rfl (fun w hp => ?_) ⟨_, hp⟩ ?_
        · obtain ⟨_, hp⟩ := hp
          refine st_index (E := (Ek.int .u64)) hf (by decide) Try.underlying22 elt42 rfl rfl rfl (hl0.sl hp) hc6.1 hc6.2 ?_
          clear hf; intro a ha hf
          exact st_nil hf (th_n ⟨ha, rfl⟩)
        clear hf; intro a hf
        refine dr_take 10 (.int .u64 (gt l0 (IntKind.i64.wrap (i4 + (1 : Int))))) rfl (by kernel_rfl) (by kernel_rfl) (by kernel_rfl) (by kernel_rfl) rfl rfl hf (by decide) rfl (fun w hp => ?_) ⟨_, hp⟩ ?_
        · obtain ⟨_, hp⟩ := hp
          refine st_ldI hf (by decide) pl42 rfl rfl (hl0.sl hp) hc6.1 hc6.2 ?_
          clear hf; intro a ha hf
          exact st_nil hf (th_n ⟨ha, rfl⟩)
        clear hf; intro a hf
        refine dr_one 5 rfl (by kernel_rfl) ?_
        refine st_extern (ex := Extern.MathFloatBits.float64frombits) (r := .float .f64 ((gt l0 i4)).toNat) (f := 24) (vs := [.int .u64 (gt l0 i4)]) hf (by decide) Try.func24 rfl rfl (by kernel_rfl) (by kernel_rfl) rfl rfl rfl rfl ?_
        clear hf; intro a ha hf; clear ha
        refine st_nil hf (th_n ⟨fun _ _ => ⟨_, hp⟩, ?_⟩)
        refine dr_one 11 rfl (by kernel_rfl) ?_
        refine st_extern (ex := Extern.MathFloatBits.float64frombits) (r := .float .f64 ((gt l0 (IntKind.i64.wrap (i4 + (1 : Int))))).toNat) (f := 24) (vs := [.int .u64 (gt l0 (IntKind.i64.wrap (i4 + (1 : Int))))]) hf (by decide) Try.func24 rfl rfl (by kernel_rfl) (by kernel_rfl) rfl rfl rfl rfl ?_
        clear hf; intro a ha hf; clear ha
        refine st_nil hf (th_n ⟨fun _ _ => ⟨_, hp⟩, ?_⟩)
        refine dr_take 12 (.complex .f64 ((gt l0 i4)).toNat ((gt l0 (IntKind.i64.wrap (i4 + (1 : Int))))).toNat) rfl (by kernel_rfl) (by kernel_rfl) (by kernel_rfl) (by kernel_rfl) rfl rfl hf (by decide) rfl (fun w hp => ?_) ⟨_, hp⟩ ?_
        · obtain ⟨_, hp⟩ := hp
          refine st_complex hf (by decide) rfl rfl rfl ?_
          clear hf; intro a ha hf
          exact st_nil hf (th_n ⟨ha, rfl⟩)
        clear hf; intro a hf
        refine dr_one 13 rfl (by kernel_rfl) ?_
        refine st_build (E := Ek.c128) (xs := [((Fl.bits ((gt l0 i4)).toNat), (Fl.bits ((gt l0 (IntKind.i64.wrap (i4 + (1 : Int))))).toNat))]) hf (by decide) elt36 Try.underlying24 hp (vals := #[(0, .complex .f64 ((gt l0 i4)).toNat ((gt l0 (IntKind.i64.wrap (i4 + (1 : Int))))).toNat)]) (cells := #[.complex .f64 ((gt l0 i4)).toNat ((gt l0 (IntKind.i64.wrap (i4 + (1 : Int))))).toNat]) rfl (by simp [hf.ev (x := (Operand.tmp 25)) rfl]) (by decide) (by decide) (z := .complex .f64 0 0) (by kernel_rfl) (by kernel_rfl) rfl (reps_cons (cs := [.complex .f64 ((gt l0 i4)).toNat ((gt l0 (IntKind.i64.wrap (i4 + (1 : Int))))).toNat]) (show Ek.c128.rep [.complex .f64 ((gt l0 i4)).toNat ((gt l0 (IntKind.i64.wrap (i4 + (1 : Int))))).toNat] ((Fl.bits ((gt l0 i4)).toNat), (Fl.bits ((gt l0 (IntKind.i64.wrap (i4 + (1 : Int))))).toNat)) from ⟨_, _, rfl, rfl, rfl⟩) (reps_nil _)) ?_
        clear hf; intro a w v7 hf hp0; clear hp; have hp := hp0; clear hp0
        replace hp : Hp _ _ w (Res.sl Ek.c128 36 v7 ([((Fl.bits ((gt l0 i4)).toNat), (Fl.bits ((gt l0 (IntKind.i64.wrap (i4 + (1 : Int))))).toNat))]) :: Res.sl Ek.c128 36 v1 out3 :: ow) := hp
        refine st_nil hf (th_n ⟨fun _ _ => ⟨_, hp⟩, ?_⟩)
        refine dr_one 14 rfl (by kernel_rfl) ?_
        refine st_append (E := Ek.c128) hf (by decide) elt36 Try.underlying24 (by decide) hp (i := 1) rfl rfl rfl rfl (hp.sl (i := 0) rfl) hc9 ?_
        clear hf; intro a w v10 hf hp0; clear hp; have hp := hp0; clear hp0
        replace hp : Hp _ _ w (Res.sl Ek.c128 36 v7 ([((Fl.bits ((gt l0 i4)).toNat), (Fl.bits ((gt l0 (IntKind.i64.wrap (i4 + (1 : Int))))).toNat))]) :: Res.sl Ek.c128 36 v10 (out3 ++ [((Fl.bits ((gt l0 i4)).toNat), (Fl.bits ((gt l0 (IntKind.i64.wrap (i4 + (1 : Int))))).toNat))]) :: ow) := hp
        refine st_nil hf (th_n ⟨fun _ _ => ⟨_, hp⟩, ?_⟩)
        refine dr_take 15 (v10) rfl (by kernel_rfl) (by kernel_rfl) (by kernel_rfl) (by kernel_rfl) rfl rfl hf (by decide) rfl (fun w hp => ?_) ⟨_, hp⟩ ?_
        · obtain ⟨_, hp⟩ := hp
          refine st_assign hf rfl rfl (by decide) ?_
          clear hf; intro a ha hf
          exact st_nil hf (th_n ⟨ha, rfl⟩)
        clear hf; intro a hf
        refine dr_end (by kernel_rfl) ?_ _
        exact ⟨v7, v10, hf.sub ⟨rfl, rfl, rfl, trivial⟩, hp⟩
      · rintro a w ⟨v7, v10, hf, hp⟩
        refine ib_n ?_
        refine th_n ?_
        refine wp_reg ?_
        refine st_move hf rfl rfl (by decide) ?_
        clear hf; intro a ha hf; clear ha
        refine st_iadd hf (by decide) rfl rfl rfl ?_
        clear hf; intro a ha hf; clear ha
        refine st_assign hf rfl rfl (by decide) ?_
        clear hf; intro a ha hf; clear ha
        refine st_nil hf ?_
        obtain rfl := Option.some.inj h
        have hp : Hp _ _ w (Res.sl Ek.c128 36 v10 (out3 ++ [((Fl.bits ((gt l0 i4)).toNat), (Fl.bits ((gt l0 (IntKind.i64.wrap (i4 + (1 : Int))))).toNat))]) :: ow) := Hp.sel (pre := [Res.sl Ek.c128 36 v7 ([((Fl.bits ((gt l0 i4)).toNat), (Fl.bits ((gt l0 (IntKind.i64.wrap (i4 + (1 : Int))))).toNat))]), Res.sl Ek.c128 36 v10 (out3 ++ [((Fl.bits ((gt l0 i4)).toNat), (Fl.bits ((gt l0 (IntKind.i64.wrap (i4 + (1 : Int))))).toNat))])]) (tail := ow) (rs' := [Res.sl Ek.c128 36 v10 (out3 ++ [((Fl.bits ((gt l0 i4)).toNat), (Fl.bits ((gt l0 (IntKind.i64.wrap (i4 + (1 : Int))))).toNat))])]) hp [1] (by decide) (by simp) rfl
        exact rnd_l ⟨_, hf.sub ⟨rfl, rfl, rfl, trivial⟩, hp⟩
    · replace h := ifF h hb
      refine wp_exit ?_
      refine th_e ?_
      obtain rfl := Option.some.inj h
      exact rnd_r (by simp) ⟨rfl, _, hf.sub ⟨rfl, trivial⟩, hp⟩
  · clear hl hf hp
    intro e a w hne hO
    obtain ⟨rfl, v3, hf, hp⟩ := hO
    refine ib_same ?_
    refine th_n ?_
    refine wp_seq ?_
    refine wp_reg ?_
    refine st_move hf rfl rfl (by decide) ?_
    clear hf; intro a ha hf; clear ha
    refine st_len (E := Ek.c128) hf (by decide) Try.underlying24 rfl rfl (hp.sl (i := 0) rfl) ?_
    clear hf; intro a ha hf; clear ha
    refine st_assign hf rfl rfl (by decide) ?_
    clear hf; intro a ha hf; clear ha
    refine st_nil hf ?_
    refine th_n ?_
    refine wp_seq ?_
    refine wp_reg ?_
    refine st_move hf rfl rfl (by decide) ?_
    clear hf; intro a ha hf; clear ha
    refine st_build (E := Ek.c128) (xs := [(Fl.bits 4651892959631900672, Fl.bits 0)]) hf (by decide) elt36 Try.underlying24 hp (vals := #[(0, .complex .f64 4651892959631900672 0)]) (cells := #[.complex .f64 4651892959631900672 0]) rfl (by simp [hf.ev (x := (Operand.const (.complex .f64 4651892959631900672 0))) rfl]) (by decide) (by decide) (z := .complex .f64 0 0) (by kernel_rfl) (by kernel_rfl) rfl (reps_cons (cs := [.complex .f64 4651892959631900672 0]) (show Ek.c128.rep [.complex .f64 4651892959631900672 0] (Fl.bits 4651892959631900672, Fl.bits 0) from ⟨_, _, rfl, rfl, rfl⟩) (reps_nil _)) ?_
    clear hf; intro a w v13 hf hp0; clear hp; have hp := hp0; clear hp0
    replace hp : Hp _ _ w (Res.sl Ek.c128 36 v13 ([(Fl.bits 4651892959631900672, Fl.bits 0)]) :: Res.sl Ek.c128 36 v3 q11 :: ow) := hp
    obtain ⟨hc15, h⟩ := chk h
    refine st_append (E := Ek.c128) hf (by decide) elt36 Try.underlying24 (by decide) hp (i := 1) rfl rfl rfl rfl (hp.sl (i := 0) rfl) hc15 ?_
    clear hf; intro a w v16 hf hp0; clear hp; have hp := hp0; clear hp0
    replace hp : Hp _ _ w (Res.sl Ek.c128 36 v13 ([(Fl.bits 4651892959631900672, Fl.bits 0)]) :: Res.sl Ek.c128 36 v16 (q11 ++ [(Fl.bits 4651892959631900672, Fl.bits 0)]) :: ow) := hp
    refine st_move hf rfl rfl (by decide) ?_
    clear hf; intro a ha hf; clear ha
    obtain ⟨hc17, h⟩ := chk h
    have hc18 : 0 ≤ ((q11.length : Int)).toNat := by omega
    have hc19 : ((q11.length : Int)).toNat ≤ ((q11 ++ [(Fl.bits 4651892959631900672, Fl.bits 0)]) ++ ([] : List (Fl × Fl))).length := by omega
    refine st_cutX (E := Ek.c128) hf (by decide) Try.underlying24 elt36 hp (i := 1) rfl rfl rfl (.inl ⟨rfl, rfl⟩) (.inr ⟨_, _, rfl, evI rfl (by omega)⟩) hc18 hc19 ?_
    clear hf; intro a ha hf; clear ha
    replace hp : Hp _ _ w (Res.sl Ek.c128 36 v13 ([(Fl.bits 4651892959631900672, Fl.bits 0)]) :: Res.slx Ek.c128 36 (GL.cut v16 0 (((q11.length : Int)).toNat) 1) (((q11 ++ [(Fl.bits 4651892959631900672, Fl.bits 0)]) ++ ([] : List (Fl × Fl))).take (((q11.length : Int)).toNat)) (((q11 ++ [(Fl.bits 4651892959631900672, Fl.bits 0)]) ++ ([] : List (Fl × Fl))).drop (((q11.length : Int)).toNat)) :: ow) := hp.cutOwn (i := 1) rfl hc19
    refine st_assign hf rfl rfl (by decide) ?_
    clear hf; intro a ha hf; clear ha
    refine st_nil hf ?_
    refine th_n ?_
    refine wp_ret ?_
    obtain rfl := Option.some.inj h
    have hp : Hp _ _ w (Res.slx Ek.c128 36 (GL.cut v16 0 (((q11.length : Int)).toNat) 1) (((q11 ++ [(Fl.bits 4651892959631900672, Fl.bits 0)]) ++ ([] : List (Fl × Fl))).take (((q11.length : Int)).toNat)) (((q11 ++ [(Fl.bits 4651892959631900672, Fl.bits 0)]) ++ ([] : List (Fl × Fl))).drop (((q11.length : Int)).toNat)) :: ow) := Hp.sel (pre := [Res.sl Ek.c128 36 v13 ([(Fl.bits 4651892959631900672, Fl.bits 0)]), Res.slx Ek.c128 36 (GL.cut v16 0 (((q11.length : Int)).toNat) 1) (((q11 ++ [(Fl.bits 4651892959631900672, Fl.bits 0)]) ++ ([] : List (Fl × Fl))).take (((q11.length : Int)).toNat)) (((q11 ++ [(Fl.bits 4651892959631900672, Fl.bits 0)]) ++ ([] : List (Fl × Fl))).drop (((q11.length : Int)).toNat))]) (tail := ow) (rs' := [Res.slx Ek.c128 36 (GL.cut v16 0 (((q11.length : Int)).toNat) 1) (((q11 ++ [(Fl.bits 4651892959631900672, Fl.bits 0)]) ++ ([] : List (Fl × Fl))).take (((q11.length : Int)).toNat)) (((q11 ++ [(Fl.bits 4651892959631900672, Fl.bits 0)]) ++ ([] : List (Fl × Fl))).drop (((q11.length : Int)).toNat))]) hp [1] (by decide) (by simp) rfl
    exact ⟨rfl, ⟨_, hf.sub ⟨rfl, trivial⟩, hp⟩⟩

noncomputable def f_foghornref08_Share.s1c (l0 : (List (Fl × Fl))) (from1 : Int) (step2 : Int) (out8 : (List (Fl × Fl))) (i9 : Int) : Option (((List (Fl × Fl)) × Int) ⊕ (List (Fl × Fl))) := (if (decide (i9 < (l0.length : Int))) = true then (if step2 ≠ 0 then (if (((i9).tmod step2) == from1) = true then (if 0 ≤ i9 ∧ i9 < (l0.length : Int) then (if (out8.length + ([(gt l0 i9)]).length) * 16 ≤ 140737488355328 then (some (Sum.inl ((out8 ++ [(gt l0 i9)]), (IntKind.i64.wrap (i9 + (1 : Int)))))) else none) else none) else (some (Sum.inl (out8, (IntKind.i64.wrap (i9 + (1 : Int))))))) else none) else (some (Sum.inr out8)))
noncomputable def f_foghornref08_Share.s1 (l0 : (List (Fl × Fl))) (from1 : Int) (step2 : Int) (s : ((List (Fl × Fl)) × Int)) : Option (((List (Fl × Fl)) × Int) ⊕ (List (Fl × Fl))) := f_foghornref08_Share.s1c l0 from1 step2 s.1 s.2
noncomputable def f_foghornref08_Share (l0 : (List (Fl × Fl))) (from1 : Int) (step2 : Int) : Option ((List (Fl × Fl)) × Int) := (if (((((decide ((65536 : Int) < (l0.length : Int))) || (decide (step2 < (1 : Int)))) || (decide ((65536 : Int) < step2))) || (decide (from1 < (0 : Int)))) || (decide (step2 ≤ from1))) = true then (some ([], (1 : Int))) else ((loop (f_foghornref08_Share.s1 l0 from1 step2) ([], (0 : Int))).bind (fun q24 => (some (q24, (0 : Int))))))
theorem f_foghornref08_Share_c {S : Nat → Prop} {w0 w : World} {ow : List Res} (hp : Hp S w0 w ow) (vl0 : Value) (l0 : (List (Fl × Fl))) (hl0 : RdS Ek.c128 S w0 vl0 l0) (from1 : Int) (step2 : Int) {r : ((List (Fl × Fl)) × Int)} (h : f_foghornref08_Share l0 from1 step2 = some r) :
    Calls Try.prog 10 #[vl0, .int .i64 from1, .int .i64 step2] w (fun e w' => ∃ (u0 : Value), e = .returned (.tuple #[u0, .int .i64 r.2]) ∧ Hp S w0 w' (Res.sl Ek.c128 36 u0 r.1 :: ow)) := by
  unfold f_foghornref08_Share at h
  refine enter (n := 49) (args := [vl0, .int .i64 from1, .int .i64 step2]) Try.func10 rfl rfl (Nat.le_of_ble_eq_true rfl) fun a hf => ?_
  replace hf : Fr 49 a [(0, vl0), (1, .int .i64 from1), (2, .int .i64 step2)] := hf
  refine wp_mono (Q := fun e a w => e = .ret ∧ ∃ (u0 : Value), Fr 49 a [(6, u0), (7, .int .i64 r.2)] ∧ Hp S w0 w (Res.sl Ek.c128 36 u0 r.1 :: ow)) ?_ ?_
  rotate_left
  · rintro e a w ⟨rfl, x0, hf, hp⟩
    exact ret2 hf rfl rfl rfl ⟨x0, rfl, hp⟩
  refine wp_seq ?_
  refine wp_reg ?_
  refine st_assign hf rfl rfl (by decide) ?_
  clear hf; intro a ha hf; clear ha
  refine st_assign hf rfl rfl (by decide) ?_
  clear hf; intro a ha hf; clear ha
  refine st_nil hf ?_
  refine th_n ?_
  refine wp_seq ?_
  refine wp_seq ?_
  refine wp_reg ?_
  refine st_move hf rfl rfl (by decide) ?_
  clear hf; intro a ha hf; clear ha
  refine st_len (E := Ek.c128) hf (by decide) Try.underlying24 rfl rfl (hl0.sl hp) ?_
  clear hf; intro a ha hf; clear ha
  refine st_igtr hf (by decide) rfl rfl rfl ?_
  clear hf; intro a ha hf; clear ha
  refine st_move hf rfl rfl (by decide) ?_
  clear hf; intro a ha hf; clear ha
  refine wpList_cut 3 (fun a w => Fr 49 a [(0, vl0), (1, .int .i64 from1), (2, .int .i64 step2), (16, .bool ((decide ((65536 : Int) < (l0.length : Int))) || (decide (step2 < (1 : Int)))))] ∧ Hp S w0 w (ow)) ?_ ?_
  · rcases Bool.eq_false_or_eq_true (decide ((65536 : Int) < (l0.length : Int))) with hb2 | hb2
    · skip
      refine st_skip hf (wantN hf rfl rfl hb2) rfl (by decide) ?_ rfl
      clear hf; intro a hf
      refine st_skip hf (wantN hf rfl rfl hb2) rfl (by decide) ?_ rfl
      clear hf; intro a hf
      refine st_pick (v := .bool true) hf rfl rfl (fun hb' => ?_) (fun hb' => ?_) (by decide) ?_
      · rfl
      · exact absurd (hb2.symm.trans hb') (by decide)
      clear hf; intro a ha hf; clear ha
      refine st_nil hf (th_n ?_)
      exact ⟨hf.sub ⟨rfl, rfl, rfl, (by rw [hb2]; rfl), trivial⟩, hp⟩
    · skip
      refine st_move hf (wantY hf rfl rfl hb2) rfl (by decide) ?_
      clear hf; intro a ha hf; clear ha
      refine st_ilss hf (by decide) (wantY hf rfl rfl hb2) rfl rfl ?_
      clear hf; intro a ha hf; clear ha
      refine st_pick (v := .bool (decide (step2 < (1 : Int)))) hf rfl rfl (fun hb' => ?_) (fun hb' => ?_) (by decide) ?_
      · exact absurd (hb2.symm.trans hb') (by decide)
      · rfl
      clear hf; intro a ha hf; clear ha
      refine st_nil hf (th_n ?_)
      exact ⟨hf.sub ⟨rfl, rfl, rfl, (by rw [hb2]; rfl), trivial⟩, hp⟩
  · rintro a w ⟨hf, hp⟩
    refine st_move hf rfl rfl (by decide) ?_
    clear hf; intro a ha hf; clear ha
    refine wpList_cut 3 (fun a w => Fr 49 a [(0, vl0), (1, .int .i64 from1), (2, .int .i64 step2), (20, .bool (((decide ((65536 : Int) < (l0.length : Int))) || (decide (step2 < (1 : Int)))) || (decide ((65536 : Int) < step2))))] ∧ Hp S w0 w (ow)) ?_ ?_
    · rcases Bool.eq_false_or_eq_true ((decide ((65536 : Int) < (l0.length : Int))) || (decide (step2 < (1 : Int)))) with hb4 | hb4
      · skip
        refine st_skip hf (wantN hf rfl rfl hb4) rfl (by decide) ?_ rfl
        clear hf; intro a hf
        refine st_skip hf (wantN hf rfl rfl hb4) rfl (by decide) ?_ rfl
        clear hf; intro a hf
        refine st_pick (v := .bool true) hf rfl rfl (fun hb' => ?_) (fun hb' => ?_) (by decide) ?_
        · rfl
        · exact absurd (hb4.symm.trans hb') (by decide)
        clear hf; intro a ha hf; clear ha
        refine st_nil hf (th_n ?_)
        exact ⟨hf.sub ⟨rfl, rfl, rfl, (by rw [hb4]; rfl), trivial⟩, hp⟩
      · skip
        refine st_move hf (wantY hf rfl rfl hb4) rfl (by decide) ?_
        clear hf; intro a ha hf; clear ha
        refine st_igtr hf (by decide) (wantY hf rfl rfl hb4) rfl rfl ?_
        clear hf; intro a ha hf; clear ha
        refine st_pick (v := .bool (decide ((65536 : Int) < step2))) hf rfl rfl (fun hb' => ?_) (fun hb' => ?_) (by decide) ?_
        · exact absurd (hb4.symm.trans hb') (by decide)
        · rfl
        clear hf; intro a ha hf; clear ha
        refine st_nil hf (th_n ?_)
        exact ⟨hf.sub ⟨rfl, rfl, rfl, (by rw [hb4]; rfl), trivial⟩, hp⟩
    · rintro a w ⟨hf, hp⟩
      refine st_move hf rfl rfl (by decide) ?_
      clear hf; intro a ha hf; clear ha
      refine wpList_cut 3 (fun a w => Fr 49 a [(0, vl0), (1, .int .i64 from1), (2, .int .i64 step2), (24, .bool ((((decide ((65536 : Int) < (l0.length : Int))) || (decide (step2 < (1 : Int)))) || (decide ((65536 : Int) < step2))) || (decide (from1 < (0 : Int)))))] ∧ Hp S w0 w (ow)) ?_ ?_
      · rcases Bool.eq_false_or_eq_true (((decide ((65536 : Int) < (l0.length : Int))) || (decide (step2 < (1 : Int)))) || (decide ((65536 : Int) < step2))) with hb6 | hb6
        · skip
          refine st_skip hf (wantN hf rfl rfl hb6) rfl (by decide) ?_ rfl
          clear hf; intro a hf
          refine st_skip hf (wantN hf rfl rfl hb6) rfl (by decide) ?_ rfl
          clear hf; intro a hf
          refine st_pick (v := .bool true) hf rfl rfl (fun hb' => ?_) (fun hb' => ?_) (by decide) ?_
          · rfl
          · exact absurd (hb6.symm.trans hb') (by decide)
          clear hf; intro a ha hf; clear ha
          refine st_nil hf (th_n ?_)
          exact ⟨hf.sub ⟨rfl, rfl, rfl, (by rw [hb6]; rfl), trivial⟩, hp⟩
        · skip
          refine st_move hf (wantY hf rfl rfl hb6) rfl (by decide) ?_
          clear hf; intro a ha hf; clear ha
          refine st_ilss hf (by decide) (wantY hf rfl rfl hb6) rfl rfl ?_
          clear hf; intro a ha hf; clear ha
          refine st_pick (v := .bool (decide (from1 < (0 : Int)))) hf rfl rfl (fun hb' => ?_) (fun hb' => ?_) (by decide) ?_
          · exact absurd (hb6.symm.trans hb') (by decide)
          · rfl
          clear hf; intro a ha hf; clear ha
          refine st_nil hf (th_n ?_)
          exact ⟨hf.sub ⟨rfl, rfl, rfl, (by rw [hb6]; rfl), trivial⟩, hp⟩
      · rintro a w ⟨hf, hp⟩
        refine st_move hf rfl rfl (by decide) ?_
        clear hf; intro a ha hf; clear ha
        refine wpList_cut 4 (fun a w => Fr 49 a [(0, vl0), (1, .int .i64 from1), (2, .int .i64 step2), (29, .bool (((((decide ((65536 : Int) < (l0.length : Int))) || (decide (step2 < (1 : Int)))) || (decide ((65536 : Int) < step2))) || (decide (from1 < (0 : Int)))) || (decide (step2 ≤ from1))))] ∧ Hp S w0 w (ow)) ?_ ?_
        · rcases Bool.eq_false_or_eq_true ((((decide ((65536 : Int) < (l0.length : Int))) || (decide (step2 < (1 : Int)))) || (decide ((65536 : Int) < step2))) || (decide (from1 < (0 : Int)))) with hb8 | hb8
          · skip
            refine st_skip hf (wantN hf rfl rfl hb8) rfl (by decide) ?_ rfl
            clear hf; intro a hf
            refine st_skip hf (wantN hf rfl rfl hb8) rfl (by decide) ?_ rfl
            clear hf; intro a hf
            refine st_skip hf (wantN hf rfl rfl hb8) rfl (by decide) ?_ rfl
            clear hf; intro a hf
            refine st_pick (v := .bool true) hf rfl rfl (fun hb' => ?_) (fun hb' => ?_) (by decide) ?_
            · rfl
            · exact absurd (hb8.symm.trans hb') (by decide)
            clear hf; intro a ha hf; clear ha
            refine st_nil hf (th_n ?_)
            exact ⟨hf.sub ⟨rfl, rfl, rfl, (by rw [hb8]; rfl), trivial⟩, hp⟩
          · skip
            refine st_move hf (wantY hf rfl rfl hb8) rfl (by decide) ?_
            clear hf; intro a ha hf; clear ha
            refine st_move hf (wantY hf rfl rfl hb8) rfl (by decide) ?_
            clear hf; intro a ha hf; clear ha
            refine st_igeq hf (by decide) (wantY hf rfl rfl hb8) rfl rfl ?_
            clear hf; intro a ha hf; clear ha
            refine st_pick (v := .bool (decide (step2 ≤ from1))) hf rfl rfl (fun hb' => ?_) (fun hb' => ?_) (by decide) ?_
            · exact absurd (hb8.symm.trans hb') (by decide)
            · rfl
            clear hf; intro a ha hf; clear ha
            refine st_nil hf (th_n ?_)
            exact ⟨hf.sub ⟨rfl, rfl, rfl, (by rw [hb8]; rfl), trivial⟩, hp⟩
        · rintro a w ⟨hf, hp⟩
          refine st_nil hf ?_
          refine th_n ?_
          refine wp_if hf rfl (fun hb => ?_) (fun hb => ?_)
          · replace h := ifT h hb
            refine wp_seq ?_
            refine wp_reg ?_
            refine st_assign hf rfl rfl (by decide) ?_
            clear hf; intro a ha hf; clear ha
            refine st_assign hf rfl rfl (by decide) ?_
            clear hf; intro a ha hf; clear ha
            refine st_nil hf ?_
            refine th_n ?_
            refine wp_ret ?_
            refine th_r ?_
            obtain rfl := Option.some.inj h
            have hp := hp.nil Ek.c128 36
            exact ⟨rfl, ⟨_, hf.sub ⟨rfl, rfl, trivial⟩, hp⟩⟩
          · replace h := ifF h hb
            refine wp_skip ?_
            refine th_n ?_
            refine wp_seq ?_
            refine wp_reg ?_
            refine st_assign hf rfl rfl (by decide) ?_
            clear hf; intro a ha hf; clear ha
            refine st_nil hf ?_
            refine th_n ?_
            refine wp_seq ?_
            refine wp_seq ?_
            refine wp_reg ?_
            refine st_assign hf rfl rfl (by decide) ?_
            clear hf; intro a ha hf; clear ha
            refine st_nil hf ?_
            refine th_n ?_
            refine wp_block ?_
            obtain ⟨q24, hl, h⟩ := bnd h
            have hp := hp.nil Ek.c128 36
            refine wp_loop_pure (f := (f_foghornref08_Share.s1 l0 from1 step2)) (s := ([], (0 : Int))) (fun s a w => ∃ (v10 : Value), Fr 49 a [(0, vl0), (1, .int .i64 from1), (2, .int .i64 step2), (8, v10), (9, .int .i64 s.2)] ∧ Hp S w0 w (Res.sl Ek.c128 36 v10 s.1 :: ow)) (fun q e a w => e = .exit 0 ∧ ∃ (v12 : Value), Fr 49 a [(8, v12)] ∧ Hp S w0 w (Res.sl Ek.c128 36 v12 q :: ow)) ?_ hl ⟨_, hf.sub ⟨rfl, rfl, rfl, rfl, rfl, trivial⟩, hp⟩ ?_
            · clear hl hf hp
              intro s x a w h hI
              obtain ⟨out8, i9⟩ := s
              obtain ⟨v10, hf, hp⟩ : ∃ (v10 : Value), Fr 49 a [(0, vl0), (1, .int .i64 from1), (2, .int .i64 step2), (8, v10), (9, .int .i64 i9)] ∧ Hp S w0 w (Res.sl Ek.c128 36 v10 out8 :: ow) := hI
              replace h : f_foghornref08_Share.s1c l0 from1 step2 out8 i9 = some x := h
              unfold f_foghornref08_Share.s1c at h
              refine wp_seq ?_
              refine wp_seq ?_
              refine wp_reg ?_
              refine st_move hf rfl rfl (by decide) ?_
              clear hf; intro a ha hf; clear ha
              refine st_move hf rfl rfl (by decide) ?_
              clear hf; intro a ha hf; clear ha
              refine st_len (E := Ek.c128) hf (by decide) Try.underlying24 rfl rfl (hl0.sl hp) ?_
              clear hf; intro a ha hf; clear ha
              refine st_ilss hf (by decide) rfl rfl rfl ?_
              clear hf; intro a ha hf; clear ha
              refine st_nil hf ?_
              refine th_n ?_
              refine wp_if hf rfl (fun hb => ?_) (fun hb => ?_)
              · replace h := ifT h hb
                refine wp_skip ?_
                refine th_n ?_
                refine wp_seq ?_
                refine wp_block ?_
                refine wp_seq ?_
                refine wp_reg ?_
                refine st_move hf rfl rfl (by decide) ?_
                clear hf; intro a ha hf; clear ha
                refine st_move hf rfl rfl (by decide) ?_
                clear hf; intro a ha hf; clear ha
                obtain ⟨hc14, h⟩ := chk h
                refine st_irem hf (by decide) rfl rfl rfl hc14 ?_
                clear hf; intro a ha hf; clear ha
                refine st_move hf rfl rfl (by decide) ?_
                clear hf; intro a ha hf; clear ha
                refine st_ieql hf (by decide) rfl rfl rfl ?_
                clear hf; intro a ha hf; clear ha
                refine st_nil hf ?_
                refine th_n ?_
                refine wp_if hf rfl (fun hb => ?_) (fun hb => ?_)
                · replace h := ifT h hb
                  refine wp_reg ?_
                  refine st_move hf rfl rfl (by decide) ?_
                  clear hf; intro a ha hf; clear ha
                  refine st_move hf rfl rfl (by decide) ?_
                  clear hf; intro a ha hf; clear ha
                  refine st_move hf rfl rfl (by decide) ?_
                  clear hf; intro a ha hf; clear ha
                  obtain ⟨hc15, h⟩ := chk h
                  refine st_index (E := Ek.c128) hf (by decide) Try.underlying24 elt36 rfl rfl rfl (hl0.sl hp) hc15.1 hc15.2 ?_
                  clear hf; intro a ha hf; clear ha
                  refine st_ldC hf (by decide) pl36 rfl rfl (hl0.sl hp) hc15.1 hc15.2 ?_
                  clear hf; intro a b16 b17 y18 y19 ha hf; clear ha
                  refine st_build (E := Ek.c128) (xs := [(gt l0 i9)]) hf (by decide) elt36 Try.underlying24 hp (vals := #[(0, .complex .f64 b16 b17)]) (cells := #[.complex .f64 b16 b17]) rfl (by simp [hf.ev (x := (Operand.tmp 45)) rfl]) (by decide) (by decide) (z := .complex .f64 0 0) (by kernel_rfl) (by kernel_rfl) rfl (reps_cons (cs := [.complex .f64 b16 b17]) (show Ek.c128.rep [.complex .f64 b16 b17] (gt l0 i9) from ⟨_, _, rfl, y18, y19⟩) (reps_nil _)) ?_
                  clear hf; intro a w v20 hf hp0; clear hp; have hp := hp0; clear hp0
                  replace hp : Hp _ _ w (Res.sl Ek.c128 36 v20 ([(gt l0 i9)]) :: Res.sl Ek.c128 36 v10 out8 :: ow) := hp
                  obtain ⟨hc22, h⟩ := chk h
                  refine st_append (E := Ek.c128) hf (by decide) elt36 Try.underlying24 (by decide) hp (i := 1) rfl rfl rfl rfl (hp.sl (i := 0) rfl) hc22 ?_
                  clear hf; intro a w v23 hf hp0; clear hp; have hp := hp0; clear hp0
                  replace hp : Hp _ _ w (Res.sl Ek.c128 36 v20 ([(gt l0 i9)]) :: Res.sl Ek.c128 36 v23 (out8 ++ [(gt l0 i9)]) :: ow) := hp
                  refine st_assign hf rfl rfl (by decide) ?_
                  clear hf; intro a ha hf; clear ha
                  refine st_nil hf ?_
                  refine ib_n ?_
                  refine th_n ?_
                  refine wp_reg ?_
                  refine st_move hf rfl rfl (by decide) ?_
                  clear hf; intro a ha hf; clear ha
                  refine st_iadd hf (by decide) rfl rfl rfl ?_
                  clear hf; intro a ha hf; clear ha
                  refine st_assign hf rfl rfl (by decide) ?_
                  clear hf; intro a ha hf; clear ha
                  refine st_nil hf ?_
                  obtain rfl := Option.some.inj h
                  have hp : Hp _ _ w (Res.sl Ek.c128 36 v23 (out8 ++ [(gt l0 i9)]) :: ow) := Hp.sel (pre := [Res.sl Ek.c128 36 v20 ([(gt l0 i9)]), Res.sl Ek.c128 36 v23 (out8 ++ [(gt l0 i9)])]) (tail := ow) (rs' := [Res.sl Ek.c128 36 v23 (out8 ++ [(gt l0 i9)])]) hp [1] (by decide) (by simp) rfl
                  exact rnd_l ⟨_, hf.sub ⟨rfl, rfl, rfl, rfl, rfl, trivial⟩, hp⟩
                · replace h := ifF h hb
                  refine wp_skip ?_
                  refine ib_n ?_
                  refine th_n ?_
                  refine wp_reg ?_
                  refine st_move hf rfl rfl (by decide) ?_
                  clear hf; intro a ha hf; clear ha
                  refine st_iadd hf (by decide) rfl rfl rfl ?_
                  clear hf; intro a ha hf; clear ha
                  refine st_assign hf rfl rfl (by decide) ?_
                  clear hf; intro a ha hf; clear ha
                  refine st_nil hf ?_
                  obtain rfl := Option.some.inj h
                  exact rnd_l ⟨_, hf.sub ⟨rfl, rfl, rfl, rfl, rfl, trivial⟩, hp⟩
              · replace h := ifF h hb
                refine wp_exit ?_
                refine th_e ?_
                obtain rfl := Option.some.inj h
                exact rnd_r (by simp) ⟨rfl, _, hf.sub ⟨rfl, trivial⟩, hp⟩
            · clear hl hf hp
              intro e a w hne hO
              obtain ⟨rfl, v12, hf, hp⟩ := hO
              refine ib_same ?_
              refine th_n ?_
              refine wp_seq ?_
              refine wp_reg ?_
              refine st_move hf rfl rfl (by decide) ?_
              clear hf; intro a ha hf; clear ha
              refine st_assign hf rfl rfl (by decide) ?_
              clear hf; intro a ha hf; clear ha
              refine st_assign hf rfl rfl (by decide) ?_
              clear hf; intro a ha hf; clear ha
              refine st_nil hf ?_
              refine th_n ?_
              refine wp_ret ?_
              obtain rfl := Option.some.inj h
              exact ⟨rfl, ⟨_, hf.sub ⟨rfl, rfl, trivial⟩, hp⟩⟩

noncomputable def f_mix_fits (n0 : Int) : Option Bool := (some (decide (n0 ≤ (65536 : Int))))
theorem f_mix_fits_c {S : Nat → Prop} {w0 w : World} {ow : List Res} (hp : Hp S w0 w ow) (n0 : Int) {r : Bool} (h : f_mix_fits n0 = some r) :
    Calls Try.prog 34 #[.int .i64 n0] w (fun e w' => e = .returned (.bool r) ∧ Hp S w0 w' (ow)) := by
  unfold f_mix_fits at h
  refine enter (n := 5) (args := [.int .i64 n0]) Try.func34 rfl rfl (Nat.le_of_ble_eq_true rfl) fun a hf => ?_
  replace hf : Fr 5 a [(0, .int .i64 n0)] := hf
  refine wp_mono (Q := fun e a w => e = .ret ∧ Fr 5 a [(2, .bool r)] ∧ Hp S w0 w (ow)) ?_ ?_
  rotate_left
  · rintro e a w ⟨rfl, hf, hp⟩
    exact ret1 hf rfl rfl ⟨rfl, hp⟩
  refine wp_seq ?_
  refine wp_reg ?_
  refine st_assign hf rfl rfl (by decide) ?_
  clear hf; intro a ha hf; clear ha
  refine st_nil hf ?_
  refine th_n ?_
  refine wp_seq ?_
  refine wp_reg ?_
  refine st_move hf rfl rfl (by decide) ?_
  clear hf; intro a ha hf; clear ha
  refine st_ileq hf (by decide) rfl rfl rfl ?_
  clear hf; intro a ha hf; clear ha
  refine st_assign hf rfl rfl (by decide) ?_
  clear hf; intro a ha hf; clear ha
  refine st_nil hf ?_
  refine th_n ?_
  refine wp_ret ?_
  obtain rfl := Option.some.inj h
  exact ⟨rfl, ⟨hf.sub ⟨rfl, trivial⟩, hp⟩⟩

noncomputable def f_mix_Share.s1c (l0 : (List (Fl × Fl))) (step2 : Int) (out8 : (List (Fl × Fl))) (i9 : Int) : Option (((List (Fl × Fl)) × Int) ⊕ (List (Fl × Fl))) := (if (decide (i9 < (l0.length : Int))) = true then (if 0 ≤ i9 ∧ i9 < (l0.length : Int) then (if (out8.length + ([(gt l0 i9)]).length) * 16 ≤ 140737488355328 then (some (Sum.inl ((out8 ++ [(gt l0 i9)]), (IntKind.i64.wrap (i9 + step2))))) else none) else none) else (some (Sum.inr out8)))
noncomputable def f_mix_Share.s1 (l0 : (List (Fl × Fl))) (step2 : Int) (s : ((List (Fl × Fl)) × Int)) : Option (((List (Fl × Fl)) × Int) ⊕ (List (Fl × Fl))) := f_mix_Share.s1c l0 step2 s.1 s.2
noncomputable def f_mix_Share (l0 : (List (Fl × Fl))) (from1 : Int) (step2 : Int) : Option ((List (Fl × Fl)) × Int) := ((f_mix_fits (l0.length : Int)).bind fun q1 => ((if ((!q1) || (decide (step2 < (1 : Int)))) = true then (some true) else ((f_mix_fits step2).bind fun q8 => (some (!q8)))).bind fun z7 => (if ((z7 || (decide (from1 < (0 : Int)))) || (decide (step2 ≤ from1))) = true then (some ([], (1 : Int))) else ((loop (f_mix_Share.s1 l0 step2) ([], from1)).bind (fun q28 => (some (q28, (0 : Int))))))))
theorem f_mix_Share_c {S : Nat → Prop} {w0 w : World} {ow : List Res} (hp : Hp S w0 w ow) (vl0 : Value) (l0 : (List (Fl × Fl))) (hl0 : RdS Ek.c128 S w0 vl0 l0) (from1 : Int) (step2 : Int) {r : ((List (Fl × Fl)) × Int)} (h : f_mix_Share l0 from1 step2 = some r) :
    Calls Try.prog 11 #[vl0, .int .i64 from1, .int .i64 step2] w (fun e w' => ∃ (u0 : Value), e = .returned (.tuple #[u0, .int .i64 r.2]) ∧ Hp S w0 w' (Res.sl Ek.c128 36 u0 r.1 :: ow)) := by
  unfold f_mix_Share at h
  refine enter (n := 48) (args := [vl0, .int .i64 from1, .int .i64 step2]) Try.func11 rfl rfl (Nat.le_of_ble_eq_true rfl) fun a hf => ?_
  replace hf : Fr 48 a [(0, vl0), (1, .int .i64 from1), (2, .int .i64 step2)] := hf
  refine wp_mono (Q := fun e a w => e = .ret ∧ ∃ (u0 : Value), Fr 48 a [(6, u0), (7, .int .i64 r.2)] ∧ Hp S w0 w (Res.sl Ek.c128 36 u0 r.1 :: ow)) ?_ ?_
  rotate_left
  · rintro e a w ⟨rfl, x0, hf, hp⟩
    exact ret2 hf rfl rfl rfl ⟨x0, rfl, hp⟩
  refine wp_seq ?_
  refine wp_reg ?_
  refine st_assign hf rfl rfl (by decide) ?_
  clear hf; intro a ha hf; clear ha
  refine st_assign hf rfl rfl (by decide) ?_
  clear hf; intro a ha hf; clear ha
  refine st_nil hf ?_
  refine th_n ?_
  refine wp_seq ?_
  refine wp_seq ?_
  refine wp_reg ?_
  refine st_move hf rfl rfl (by decide) ?_
  clear hf; intro a ha hf; clear ha
  refine st_len (E := Ek.c128) hf (by decide) Try.underlying24 rfl rfl (hl0.sl hp) ?_
  clear hf; intro a ha hf; clear ha
  obtain ⟨q1, hcall2, h⟩ := bnd h
  refine st_call hf (by decide) Try.func34 rfl rfl rfl rfl rfl (f_mix_fits_c hp _ hcall2) ?_
  rintro _ w ⟨rfl, hp0⟩
  clear hp; have hp := hp0; clear hp0
  replace hp : Hp _ _ w (ow) := hp
  refine ⟨_, rfl, ?_⟩
  clear hf; intro a hf
  refine st_not hf (by decide) rfl rfl ?_
  clear hf; intro a ha hf; clear ha
  refine st_move hf rfl rfl (by decide) ?_
  clear hf; intro a ha hf; clear ha
  refine wpList_cut 3 (fun a w => Fr 48 a [(0, vl0), (1, .int .i64 from1), (2, .int .i64 step2), (17, .bool ((!q1) || (decide (step2 < (1 : Int)))))] ∧ Hp S w0 w (ow)) ?_ ?_
  · rcases Bool.eq_false_or_eq_true (!q1) with hb4 | hb4
    · skip
      refine st_skip hf (wantN hf rfl rfl hb4) rfl (by decide) ?_ rfl
      clear hf; intro a hf
      refine st_skip hf (wantN hf rfl rfl hb4) rfl (by decide) ?_ rfl
      clear hf; intro a hf
      refine st_pick (v := .bool true) hf rfl rfl (fun hb' => ?_) (fun hb' => ?_) (by decide) ?_
      · rfl
      · exact absurd (hb4.symm.trans hb') (by decide)
      clear hf; intro a ha hf; clear ha
      refine st_nil hf (th_n ?_)
      exact ⟨hf.sub ⟨rfl, rfl, rfl, (by rw [hb4]; rfl), trivial⟩, hp⟩
    · skip
      refine st_move hf (wantY hf rfl rfl hb4) rfl (by decide) ?_
      clear hf; intro a ha hf; clear ha
      refine st_ilss hf (by decide) (wantY hf rfl rfl hb4) rfl rfl ?_
      clear hf; intro a ha hf; clear ha
      refine st_pick (v := .bool (decide (step2 < (1 : Int)))) hf rfl rfl (fun hb' => ?_) (fun hb' => ?_) (by decide) ?_
      · exact absurd (hb4.symm.trans hb') (by decide)
      · rfl
      clear hf; intro a ha hf; clear ha
      refine st_nil hf (th_n ?_)
      exact ⟨hf.sub ⟨rfl, rfl, rfl, (by rw [hb4]; rfl), trivial⟩, hp⟩
  · rintro a w ⟨hf, hp⟩
    refine st_move hf rfl rfl (by decide) ?_
    clear hf; intro a ha hf; clear ha
    obtain ⟨z7, hz5, h⟩ := bnd h
    refine wpList_cut 4 (fun a w => Fr 48 a [(0, vl0), (1, .int .i64 from1), (2, .int .i64 step2), (22, .bool z7)] ∧ Hp S w0 w (ow)) ?_ ?_
    · rcases Bool.eq_false_or_eq_true ((!q1) || (decide (step2 < (1 : Int)))) with hb6 | hb6
      · skip
        replace hz5 := ifT hz5 hb6
        refine st_skip hf (wantN hf rfl rfl hb6) rfl (by decide) ?_ rfl
        clear hf; intro a hf
        refine st_skip hf (wantN hf rfl rfl hb6) rfl (by decide) ?_ rfl
        clear hf; intro a hf
        refine st_skip hf (wantN hf rfl rfl hb6) rfl (by decide) ?_ rfl
        clear hf; intro a hf
        obtain rfl := Option.some.inj hz5
        refine st_pick (v := .bool true) hf rfl rfl (fun hb' => ?_) (fun hb' => ?_) (by decide) ?_
        · rfl
        · exact absurd (hb6.symm.trans hb') (by decide)
        clear hf; intro a ha hf; clear ha
        refine st_nil hf (th_n ?_)
        exact ⟨hf.sub ⟨rfl, rfl, rfl, rfl, trivial⟩, hp⟩
      · skip
        replace hz5 := ifF hz5 hb6
        refine st_move hf (wantY hf rfl rfl hb6) rfl (by decide) ?_
        clear hf; intro a ha hf; clear ha
        obtain ⟨q8, hcall9, hz5⟩ := bnd hz5
        refine st_call hf (by decide) Try.func34 rfl rfl (wantY hf rfl rfl hb6) rfl rfl (f_mix_fits_c hp _ hcall9) ?_
        rintro _ w ⟨rfl, hp0⟩
        clear hp; have hp := hp0; clear hp0
        replace hp : Hp _ _ w (ow) := hp
        refine ⟨_, rfl, ?_⟩
        clear hf; intro a hf
        refine st_not hf (by decide) (wantY hf rfl rfl hb6) rfl ?_
        clear hf; intro a ha hf; clear ha
        obtain rfl := Option.some.inj hz5
        refine st_pick (v := .bool (!q8)) hf rfl rfl (fun hb' => ?_) (fun hb' => ?_) (by decide) ?_
        · exact absurd (hb6.symm.trans hb') (by decide)
        · rfl
        clear hf; intro a ha hf; clear ha
        refine st_nil hf (th_n ?_)
        exact ⟨hf.sub ⟨rfl, rfl, rfl, rfl, trivial⟩, hp⟩
    · rintro a w ⟨hf, hp⟩
      refine st_move hf rfl rfl (by decide) ?_
      clear hf; intro a ha hf; clear ha
      refine wpList_cut 3 (fun a w => Fr 48 a [(0, vl0), (1, .int .i64 from1), (2, .int .i64 step2), (26, .bool (z7 || (decide (from1 < (0 : Int)))))] ∧ Hp S w0 w (ow)) ?_ ?_
      · rcases Bool.eq_false_or_eq_true z7 with hb11 | hb11
        · skip
          refine st_skip hf (wantN hf rfl rfl hb11) rfl (by decide) ?_ rfl
          clear hf; intro a hf
          refine st_skip hf (wantN hf rfl rfl hb11) rfl (by decide) ?_ rfl
          clear hf; intro a hf
          refine st_pick (v := .bool true) hf rfl rfl (fun hb' => ?_) (fun hb' => ?_) (by decide) ?_
          · rfl
          · exact absurd (hb11.symm.trans hb') (by decide)
          clear hf; intro a ha hf; clear ha
          refine st_nil hf (th_n ?_)
          exact ⟨hf.sub ⟨rfl, rfl, rfl, (by rw [hb11]; rfl), trivial⟩, hp⟩
        · skip
          refine st_move hf (wantY hf rfl rfl hb11) rfl (by decide) ?_
          clear hf; intro a ha hf; clear ha
          refine st_ilss hf (by decide) (wantY hf rfl rfl hb11) rfl rfl ?_
          clear hf; intro a ha hf; clear ha
          refine st_pick (v := .bool (decide (from1 < (0 : Int)))) hf rfl rfl (fun hb' => ?_) (fun hb' => ?_) (by decide) ?_
          · exact absurd (hb11.symm.trans hb') (by decide)
          · rfl
          clear hf; intro a ha hf; clear ha
          refine st_nil hf (th_n ?_)
          exact ⟨hf.sub ⟨rfl, rfl, rfl, (by rw [hb11]; rfl), trivial⟩, hp⟩
      · rintro a w ⟨hf, hp⟩
        refine st_move hf rfl rfl (by decide) ?_
        clear hf; intro a ha hf; clear ha
        refine wpList_cut 4 (fun a w => Fr 48 a [(0, vl0), (1, .int .i64 from1), (2, .int .i64 step2), (31, .bool ((z7 || (decide (from1 < (0 : Int)))) || (decide (step2 ≤ from1))))] ∧ Hp S w0 w (ow)) ?_ ?_
        · rcases Bool.eq_false_or_eq_true (z7 || (decide (from1 < (0 : Int)))) with hb13 | hb13
          · skip
            refine st_skip hf (wantN hf rfl rfl hb13) rfl (by decide) ?_ rfl
            clear hf; intro a hf
            refine st_skip hf (wantN hf rfl rfl hb13) rfl (by decide) ?_ rfl
            clear hf; intro a hf
            refine st_skip hf (wantN hf rfl rfl hb13) rfl (by decide) ?_ rfl
            clear hf; intro a hf
            refine st_pick (v := .bool true) hf rfl rfl (fun hb' => ?_) (fun hb' => ?_) (by decide) ?_
            · rfl
            · exact absurd (hb13.symm.trans hb') (by decide)
            clear hf; intro a ha hf; clear ha
            refine st_nil hf (th_n ?_)
            exact ⟨hf.sub ⟨rfl, rfl, rfl, (by rw [hb13]; rfl), trivial⟩, hp⟩
          · skip
            refine st_move hf (wantY hf rfl rfl hb13) rfl (by decide) ?_
            clear hf; intro a ha hf; clear ha
            refine st_move hf (wantY hf rfl rfl hb13) rfl (by decide) ?_
            clear hf; intro a ha hf; clear ha
            refine st_igeq hf (by decide) (wantY hf rfl rfl hb13) rfl rfl ?_
            clear hf; intro a ha hf; clear ha
            refine st_pick (v := .bool (decide (step2 ≤ from1))) hf rfl rfl (fun hb' => ?_) (fun hb' => ?_) (by decide) ?_
            · exact absurd (hb13.symm.trans hb') (by decide)
            · rfl
            clear hf; intro a ha hf; clear ha
            refine st_nil hf (th_n ?_)
            exact ⟨hf.sub ⟨rfl, rfl, rfl, (by rw [hb13]; rfl), trivial⟩, hp⟩
        · rintro a w ⟨hf, hp⟩
          refine st_nil hf ?_
          refine th_n ?_
          refine wp_if hf rfl (fun hb => ?_) (fun hb => ?_)
          · replace h := ifT h hb
            refine wp_seq ?_
            refine wp_reg ?_
            refine st_assign hf rfl rfl (by decide) ?_
            clear hf; intro a ha hf; clear ha
            refine st_assign hf rfl rfl (by decide) ?_
            clear hf; intro a ha hf; clear ha
            refine st_nil hf ?_
            refine th_n ?_
            refine wp_ret ?_
            refine th_r ?_
            obtain rfl := Option.some.inj h
            have hp := hp.nil Ek.c128 36
            exact ⟨rfl, ⟨_, hf.sub ⟨rfl, rfl, trivial⟩, hp⟩⟩
          · replace h := ifF h hb
            refine wp_skip ?_
            refine th_n ?_
            refine wp_seq ?_
            refine wp_reg ?_
            refine st_assign hf rfl rfl (by decide) ?_
            clear hf; intro a ha hf; clear ha
            refine st_nil hf ?_
            refine th_n ?_
            refine wp_seq ?_
            refine wp_seq ?_
            refine wp_reg ?_
            refine st_move hf rfl rfl (by decide) ?_
            clear hf; intro a ha hf; clear ha
            refine st_assign hf rfl rfl (by decide) ?_
            clear hf; intro a ha hf; clear ha
            refine st_nil hf ?_
            refine th_n ?_
            refine wp_block ?_
            obtain ⟨q28, hl, h⟩ := bnd h
            have hp := hp.nil Ek.c128 36
            refine wp_loop_pure (f := (f_mix_Share.s1 l0 step2)) (s := ([], from1)) (fun s a w => ∃ (v15 : Value), Fr 48 a [(0, vl0), (2, .int .i64 step2), (8, v15), (9, .int .i64 s.2)] ∧ Hp S w0 w (Res.sl Ek.c128 36 v15 s.1 :: ow)) (fun q e a w => e = .exit 0 ∧ ∃ (v17 : Value), Fr 48 a [(8, v17)] ∧ Hp S w0 w (Res.sl Ek.c128 36 v17 q :: ow)) ?_ hl ⟨_, hf.sub ⟨rfl, rfl, rfl, rfl, trivial⟩, hp⟩ ?_
            · clear hl hf hp
              intro s x a w h hI
              obtain ⟨out8, i9⟩ := s
              obtain ⟨v15, hf, hp⟩ : ∃ (v15 : Value), Fr 48 a [(0, vl0), (2, .int .i64 step2), (8, v15), (9, .int .i64 i9)] ∧ Hp S w0 w (Res.sl Ek.c128 36 v15 out8 :: ow) := hI
              replace h : f_mix_Share.s1c l0 step2 out8 i9 = some x := h
              unfold f_mix_Share.s1c at h
              refine wp_seq ?_
              refine wp_seq ?_
              refine wp_reg ?_
              refine st_move hf rfl rfl (by decide) ?_
              clear hf; intro a ha hf; clear ha
              refine st_move hf rfl rfl (by decide) ?_
              clear hf; intro a ha hf; clear ha
              refine st_len (E := Ek.c128) hf (by decide) Try.underlying24 rfl rfl (hl0.sl hp) ?_
              clear hf; intro a ha hf; clear ha
              refine st_ilss hf (by decide) rfl rfl rfl ?_
              clear hf; intro a ha hf; clear ha
              refine st_nil hf ?_
              refine th_n ?_
              refine wp_if hf rfl (fun hb => ?_) (fun hb => ?_)
              · replace h := ifT h hb
                refine wp_skip ?_
                refine th_n ?_
                refine wp_seq ?_
                refine wp_block ?_
                refine wp_reg ?_
                refine st_move hf rfl rfl (by decide) ?_
                clear hf; intro a ha hf; clear ha
                refine st_move hf rfl rfl (by decide) ?_
                clear hf; intro a ha hf; clear ha
                refine st_move hf rfl rfl (by decide) ?_
                clear hf; intro a ha hf; clear ha
                obtain ⟨hc19, h⟩ := chk h
                refine st_index (E := Ek.c128) hf (by decide) Try.underlying24 elt36 rfl rfl rfl (hl0.sl hp) hc19.1 hc19.2 ?_
                clear hf; intro a ha hf; clear ha
                refine st_ldC hf (by decide) pl36 rfl rfl (hl0.sl hp) hc19.1 hc19.2 ?_
                clear hf; intro a b20 b21 y22 y23 ha hf; clear ha
                refine st_build (E := Ek.c128) (xs := [(gt l0 i9)]) hf (by decide) elt36 Try.underlying24 hp (vals := #[(0, .complex .f64 b20 b21)]) (cells := #[.complex .f64 b20 b21]) rfl (by simp [hf.ev (x := (Operand.tmp 44)) rfl]) (by decide) (by decide) (z := .complex .f64 0 0) (by kernel_rfl) (by kernel_rfl) rfl (reps_cons (cs := [.complex .f64 b20 b21]) (show Ek.c128.rep [.complex .f64 b20 b21] (gt l0 i9) from ⟨_, _, rfl, y22, y23⟩) (reps_nil _)) ?_
                clear hf; intro a w v24 hf hp0; clear hp; have hp := hp0; clear hp0
                replace hp : Hp _ _ w (Res.sl Ek.c128 36 v24 ([(gt l0 i9)]) :: Res.sl Ek.c128 36 v15 out8 :: ow) := hp
                obtain ⟨hc26, h⟩ := chk h
                refine st_append (E := Ek.c128) hf (by decide) elt36 Try.underlying24 (by decide) hp (i := 1) rfl rfl rfl rfl (hp.sl (i := 0) rfl) hc26 ?_
                clear hf; intro a w v27 hf hp0; clear hp; have hp := hp0; clear hp0
                replace hp : Hp _ _ w (Res.sl Ek.c128 36 v24 ([(gt l0 i9)]) :: Res.sl Ek.c128 36 v27 (out8 ++ [(gt l0 i9)]) :: ow) := hp
                refine st_assign hf rfl rfl (by decide) ?_
                clear hf; intro a ha hf; clear ha
                refine st_nil hf ?_
                refine ib_n ?_
                refine th_n ?_
                refine wp_reg ?_
                refine st_move hf rfl rfl (by decide) ?_
                clear hf; intro a ha hf; clear ha
                refine st_move hf rfl rfl (by decide) ?_
                clear hf; intro a ha hf; clear ha
                refine st_iadd hf (by decide) rfl rfl rfl ?_
                clear hf; intro a ha hf; clear ha
                refine st_assign hf rfl rfl (by decide) ?_
                clear hf; intro a ha hf; clear ha
                refine st_nil hf ?_
                obtain rfl := Option.some.inj h
                have hp : Hp _ _ w (Res.sl Ek.c128 36 v27 (out8 ++ [(gt l0 i9)]) :: ow) := Hp.sel (pre := [Res.sl Ek.c128 36 v24 ([(gt l0 i9)]), Res.sl Ek.c128 36 v27 (out8 ++ [(gt l0 i9)])]) (tail := ow) (rs' := [Res.sl Ek.c128 36 v27 (out8 ++ [(gt l0 i9)])]) hp [1] (by decide) (by simp) rfl
                exact rnd_l ⟨_, hf.sub ⟨rfl, rfl, rfl, rfl, trivial⟩, hp⟩
              · replace h := ifF h hb
                refine wp_exit ?_
                refine th_e ?_
                obtain rfl := Option.some.inj h
                exact rnd_r (by simp) ⟨rfl, _, hf.sub ⟨rfl, trivial⟩, hp⟩
            · clear hl hf hp
              intro e a w hne hO
              obtain ⟨rfl, v17, hf, hp⟩ := hO
              refine ib_same ?_
              refine th_n ?_
              refine wp_seq ?_
              refine wp_reg ?_
              refine st_move hf rfl rfl (by decide) ?_
              clear hf; intro a ha hf; clear ha
              refine st_assign hf rfl rfl (by decide) ?_
              clear hf; intro a ha hf; clear ha
              refine st_assign hf rfl rfl (by decide) ?_
              clear hf; intro a ha hf; clear ha
              refine st_nil hf ?_
              refine th_n ?_
              refine wp_ret ?_
              obtain rfl := Option.some.inj h
              exact ⟨rfl, ⟨_, hf.sub ⟨rfl, rfl, trivial⟩, hp⟩⟩

noncomputable def f_foghornref08_Float (a0 : Fl) (b1 : Fl) : Option Bool := (some ((feq a0 b1) || ((fne a0 a0) && (fne b1 b1))))
theorem f_foghornref08_Float_c {S : Nat → Prop} {w0 w : World} {ow : List Res} (hp : Hp S w0 w ow) (ba0 : Nat) (a0 : Fl) (ha0 : a0.rep ba0) (bb1 : Nat) (b1 : Fl) (hb1 : b1.rep bb1) {r : Bool} (h : f_foghornref08_Float a0 b1 = some r) :
    Calls Try.prog 38 #[.float .f64 ba0, .float .f64 bb1] w (fun e w' => e = .returned (.bool r) ∧ Hp S w0 w' (ow)) := by
  unfold f_foghornref08_Float at h
  refine enter (n := 18) (args := [.float .f64 ba0, .float .f64 bb1]) Try.func38 rfl rfl (Nat.le_of_ble_eq_true rfl) fun a hf => ?_
  replace hf : Fr 18 a [(0, .float .f64 ba0), (1, .float .f64 bb1)] := hf
  refine wp_mono (Q := fun e a w => e = .ret ∧ Fr 18 a [(4, .bool r)] ∧ Hp S w0 w (ow)) ?_ ?_
  rotate_left
  · rintro e a w ⟨rfl, hf, hp⟩
    exact ret1 hf rfl rfl ⟨rfl, hp⟩
  refine wp_seq ?_
  refine wp_reg ?_
  refine st_assign hf rfl rfl (by decide) ?_
  clear hf; intro a ha hf; clear ha
  refine st_nil hf ?_
  refine th_n ?_
  refine wp_seq ?_
  refine wp_reg ?_
  refine st_move hf rfl rfl (by decide) ?_
  clear hf; intro a ha hf; clear ha
  refine st_move hf rfl rfl (by decide) ?_
  clear hf; intro a ha hf; clear ha
  refine st_fcmp (r_feq (fx := a0) (fy := b1) ha0 hb1) hf (by decide) rfl rfl rfl ?_
  clear hf; intro a ha hf; clear ha
  refine st_move hf rfl rfl (by decide) ?_
  clear hf; intro a ha hf; clear ha
  refine wpList_cut 9 (fun a w => Fr 18 a [(17, .bool ((feq a0 b1) || ((fne a0 a0) && (fne b1 b1))))] ∧ Hp S w0 w (ow)) ?_ ?_
  · rcases Bool.eq_false_or_eq_true (feq a0 b1) with hb2 | hb2
    · skip
      refine st_skip hf (wantN hf rfl rfl hb2) rfl (by decide) ?_ rfl
      clear hf; intro a hf
      refine st_skip hf (wantN hf rfl rfl hb2) rfl (by decide) ?_ rfl
      clear hf; intro a hf
      refine st_skip hf (wantN hf rfl rfl hb2) rfl (by decide) ?_ rfl
      clear hf; intro a hf
      refine st_skipU hf (wantN hf rfl rfl hb2) rfl (by decide) ?_
      clear hf; intro a hf
      refine st_skip hf (wantU hf rfl rfl) rfl (by decide) ?_ rfl
      clear hf; intro a hf
      refine st_skip hf (wantU hf rfl rfl) rfl (by decide) ?_ rfl
      clear hf; intro a hf
      refine st_skip hf (wantU hf rfl rfl) rfl (by decide) ?_ rfl
      clear hf; intro a hf
      refine st_skip hf (wantN hf rfl rfl hb2) rfl (by decide) ?_ rfl
      clear hf; intro a hf
      refine st_pick (v := .bool true) hf rfl rfl (fun hb' => ?_) (fun hb' => ?_) (by decide) ?_
      · rfl
      · exact absurd (hb2.symm.trans hb') (by decide)
      clear hf; intro a ha hf; clear ha
      refine st_nil hf (th_n ?_)
      exact ⟨hf.sub ⟨(by rw [hb2]; rfl), trivial⟩, hp⟩
    · skip
      refine st_move hf (wantY hf rfl rfl hb2) rfl (by decide) ?_
      clear hf; intro a ha hf; clear ha
      refine st_move hf (wantY hf rfl rfl hb2) rfl (by decide) ?_
      clear hf; intro a ha hf; clear ha
      refine st_fcmp (r_fne (fx := a0) (fy := a0) ha0 ha0) hf (by decide) (wantY hf rfl rfl hb2) rfl rfl ?_
      clear hf; intro a ha hf; clear ha
      refine st_move hf (wantY hf rfl rfl hb2) rfl (by decide) ?_
      clear hf; intro a ha hf; clear ha
      refine wpList_cut 4 (fun a w => Fr 18 a [(8, .bool (feq a0 b1)), (16, .bool ((fne a0 a0) && (fne b1 b1)))] ∧ Hp S w0 w (ow)) ?_ ?_
      · rcases Bool.eq_false_or_eq_true (fne a0 a0) with hb4 | hb4
        · skip
          refine st_move hf (wantY hf rfl rfl hb4) rfl (by decide) ?_
          clear hf; intro a ha hf; clear ha
          refine st_move hf (wantY hf rfl rfl hb4) rfl (by decide) ?_
          clear hf; intro a ha hf; clear ha
          refine st_fcmp (r_fne (fx := b1) (fy := b1) hb1 hb1) hf (by decide) (wantY hf rfl rfl hb4) rfl rfl ?_
          clear hf; intro a ha hf; clear ha
          refine st_pick (v := .bool (fne b1 b1)) hf (wantY hf rfl rfl hb2) rfl (fun hb' => ?_) (fun hb' => ?_) (by decide) ?_
          · rfl
          · exact absurd (hb4.symm.trans hb') (by decide)
          clear hf; intro a ha hf; clear ha
          refine st_nil hf (th_n ?_)
          exact ⟨hf.sub ⟨rfl, (by rw [hb4]; rfl), trivial⟩, hp⟩
        · skip
          refine st_skip hf (wantN hf rfl rfl hb4) rfl (by decide) ?_ rfl
          clear hf; intro a hf
          refine st_skip hf (wantN hf rfl rfl hb4) rfl (by decide) ?_ rfl
          clear hf; intro a hf
          refine st_skip hf (wantN hf rfl rfl hb4) rfl (by decide) ?_ rfl
          clear hf; intro a hf
          refine st_pick (v := .bool false) hf (wantY hf rfl rfl hb2) rfl (fun hb' => ?_) (fun hb' => ?_) (by decide) ?_
          · exact absurd (hb4.symm.trans hb') (by decide)
          · rfl
          clear hf; intro a ha hf; clear ha
          refine st_nil hf (th_n ?_)
          exact ⟨hf.sub ⟨rfl, (by rw [hb4]; rfl), trivial⟩, hp⟩
      · rintro a w ⟨hf, hp⟩
        refine st_pick (v := .bool ((fne a0 a0) && (fne b1 b1))) hf rfl rfl (fun hb' => ?_) (fun hb' => ?_) (by decide) ?_
        · exact absurd (hb2.symm.trans hb') (by decide)
        · rfl
        clear hf; intro a ha hf; clear ha
        refine st_nil hf (th_n ?_)
        exact ⟨hf.sub ⟨(by rw [hb2]; rfl), trivial⟩, hp⟩
  · rintro a w ⟨hf, hp⟩
    refine st_assign hf rfl rfl (by decide) ?_
    clear hf; intro a ha hf; clear ha
    refine st_nil hf ?_
    refine th_n ?_
    refine wp_ret ?_
    obtain rfl := Option.some.inj h
    exact ⟨rfl, ⟨hf.sub ⟨rfl, trivial⟩, hp⟩⟩

noncomputable def f_foghornref08_Same.s1c (a0 : (List (Fl × Fl))) (b1 : (List (Fl × Fl))) (i5 : Int) : Option (Int ⊕ (Unit ⊕ Bool)) := (if (decide (i5 < (a0.length : Int))) = true then (if 0 ≤ i5 ∧ i5 < (a0.length : Int) then (if 0 ≤ i5 ∧ i5 < (b1.length : Int) then ((f_foghornref08_Float ((gt a0 i5).1) ((gt b1 i5).1)).bind fun q13 => ((if (!q13) = true then (some true) else (if 0 ≤ i5 ∧ i5 < (a0.length : Int) then (if 0 ≤ i5 ∧ i5 < (b1.length : Int) then ((f_foghornref08_Float ((gt a0 i5).2) ((gt b1 i5).2)).bind fun q29 => (some (!q29))) else none) else none)).bind fun z31 => (if z31 = true then (some (Sum.inr (Sum.inr false))) else (some (Sum.inl (IntKind.i64.wrap (i5 + (1 : Int)))))))) else none) else none) else (some (Sum.inr (Sum.inl ()))))
noncomputable def f_foghornref08_Same.s1 (a0 : (List (Fl × Fl))) (b1 : (List (Fl × Fl))) (s : Int) : Option (Int ⊕ (Unit ⊕ Bool)) := f_foghornref08_Same.s1c a0 b1 s
noncomputable def f_foghornref08_Same (a0 : (List (Fl × Fl))) (b1 : (List (Fl × Fl))) : Option Bool := (if ((a0.length : Int) != (b1.length : Int)) = true then (some false) else ((loop (f_foghornref08_Same.s1 a0 b1) (0 : Int)).bind (fun q32 => sm q32 (fun q33 => (some true)) (fun q34 => (some q34)))))
theorem f_foghornref08_Same_c {S : Nat → Prop} {w0 w : World} {ow : List Res} (hp : Hp S w0 w ow) (va0 : Value) (a0 : (List (Fl × Fl))) (ha0 : RdS Ek.c128 S w0 va0 a0) (vb1 : Value) (b1 : (List (Fl × Fl))) (hb1 : RdS Ek.c128 S w0 vb1 b1) {r : Bool} (h : f_foghornref08_Same a0 b1 = some r) :
    Calls Try.prog 33 #[va0, vb1] w (fun e w' => e = .returned (.bool r) ∧ Hp S w0 w' (ow)) := by
  unfold f_foghornref08_Same at h
  refine enter (n := 43) (args := [va0, vb1]) Try.func33 rfl rfl (Nat.le_of_ble_eq_true rfl) fun a hf => ?_
  replace hf : Fr 43 a [(0, va0), (1, vb1)] := hf
  refine wp_mono (Q := fun e a w => e = .ret ∧ Fr 43 a [(4, .bool r)] ∧ Hp S w0 w (ow)) ?_ ?_
  rotate_left
  · rintro e a w ⟨rfl, hf, hp⟩
    exact ret1 hf rfl rfl ⟨rfl, hp⟩
  refine wp_seq ?_
  refine wp_reg ?_
  refine st_assign hf rfl rfl (by decide) ?_
  clear hf; intro a ha hf; clear ha
  refine st_nil hf ?_
  refine th_n ?_
  refine wp_seq ?_
  refine wp_seq ?_
  refine wp_reg ?_
  refine st_move hf rfl rfl (by decide) ?_
  clear hf; intro a ha hf; clear ha
  refine st_len (E := Ek.c128) hf (by decide) Try.underlying24 rfl rfl (ha0.sl hp) ?_
  clear hf; intro a ha hf; clear ha
  refine st_move hf rfl rfl (by decide) ?_
  clear hf; intro a ha hf; clear ha
  refine st_len (E := Ek.c128) hf (by decide) Try.underlying24 rfl rfl (hb1.sl hp) ?_
  clear hf; intro a ha hf; clear ha
  refine st_ineq hf (by decide) rfl rfl rfl ?_
  clear hf; intro a ha hf; clear ha
  refine st_nil hf ?_
  refine th_n ?_
  refine wp_if hf rfl (fun hb => ?_) (fun hb => ?_)
  · replace h := ifT h hb
    refine wp_seq ?_
    refine wp_reg ?_
    refine st_assign hf rfl rfl (by decide) ?_
    clear hf; intro a ha hf; clear ha
    refine st_nil hf ?_
    refine th_n ?_
    refine wp_ret ?_
    refine th_r ?_
    obtain rfl := Option.some.inj h
    exact ⟨rfl, ⟨hf.sub ⟨rfl, trivial⟩, hp⟩⟩
  · replace h := ifF h hb
    refine wp_skip ?_
    refine th_n ?_
    refine wp_seq ?_
    refine wp_seq ?_
    refine wp_reg ?_
    refine st_assign hf rfl rfl (by decide) ?_
    clear hf; intro a ha hf; clear ha
    refine st_nil hf ?_
    refine th_n ?_
    refine wp_block ?_
    obtain ⟨q32, hl, h⟩ := bnd h
    refine wp_loop_pure (f := (f_foghornref08_Same.s1 a0 b1)) (s := (0 : Int)) (fun s a w => Fr 43 a [(0, va0), (1, vb1), (5, .int .i64 s)] ∧ Hp S w0 w (ow)) (fun q e a w => match q with | (Sum.inl q) => e = .exit 0 ∧ Fr 43 a [] ∧ Hp S w0 w (ow) | (Sum.inr q) => e = .ret ∧ Fr 43 a [(4, .bool q)] ∧ Hp S w0 w (ow)) ?_ hl ⟨hf.sub ⟨rfl, rfl, rfl, trivial⟩, hp⟩ ?_
    · clear hl hf hp
      intro s x a w h hI
      obtain ⟨i5, hs⟩ : ∃ z, z = s := ⟨s, rfl⟩; subst hs
      obtain ⟨hf, hp⟩ : Fr 43 a [(0, va0), (1, vb1), (5, .int .i64 i5)] ∧ Hp S w0 w (ow) := hI
      replace h : f_foghornref08_Same.s1c a0 b1 i5 = some x := h
      unfold f_foghornref08_Same.s1c at h
      refine wp_seq ?_
      refine wp_seq ?_
      refine wp_reg ?_
      refine st_move hf rfl rfl (by decide) ?_
      clear hf; intro a ha hf; clear ha
      refine st_move hf rfl rfl (by decide) ?_
      clear hf; intro a ha hf; clear ha
      refine st_len (E := Ek.c128) hf (by decide) Try.underlying24 rfl rfl (ha0.sl hp) ?_
      clear hf; intro a ha hf; clear ha
      refine st_ilss hf (by decide) rfl rfl rfl ?_
      clear hf; intro a ha hf; clear ha
      refine st_nil hf ?_
      refine th_n ?_
      refine wp_if hf rfl (fun hb => ?_) (fun hb => ?_)
      · replace h := ifT h hb
        refine wp_skip ?_
        refine th_n ?_
        refine wp_seq ?_
        refine wp_block ?_
        refine wp_seq ?_
        obtain ⟨hc1, h⟩ := chk h
        obtain ⟨b3, b4, y5, y6, hl2⟩ := RdS.pinC (p := i5) ha0 hc1.1 hc1.2
        obtain ⟨hc7, h⟩ := chk h
        obtain ⟨b9, b10, y11, y12, hl8⟩ := RdS.pinC (p := i5) hb1 hc7.1 hc7.2
        obtain ⟨q13, hcall14, h⟩ := bnd h
        obtain ⟨z31, hz15, h⟩ := bnd h
        refine wp_cutN (fun a w => Fr 43 a [(0, va0), (1, vb1), (5, .int .i64 i5), (42, .bool z31)] ∧ Hp S w0 w (ow)) ?_ ?_
        · have hp := hp.same (Same.drew w)
          rcases Bool.eq_false_or_eq_true (!q13) with hb16 | hb16
          · skip
            replace hz15 := ifT hz15 hb16
            replace hz15 := Option.some.inj hz15
            refine dr_begin' (fun a w => Fr 43 a [(0, va0), (1, vb1), (5, .int .i64 i5), (42, .bool z31)] ∧ Hp S w0 w (ow)) (fun w' => ∃ l, Hp S w0 w' l) [] (by kernel_rfl) ?_
            refine dr_take 0 (va0) rfl (by kernel_rfl) (by kernel_rfl) (by kernel_rfl) (by kernel_rfl) rfl rfl hf (by decide) rfl (fun w hp => ?_) ⟨_, hp⟩ ?_
            · obtain ⟨_, hp⟩ := hp
              refine st_move hf rfl rfl (by decide) ?_
              clear hf; intro a ha hf
              exact st_nil hf (th_n ⟨ha, rfl⟩)
            clear hf; intro a hf
            refine dr_take 1 (.int .i64 i5) rfl (by kernel_rfl) (by kernel_rfl) (by kernel_rfl) (by kernel_rfl) rfl rfl hf (by decide) rfl (fun w hp => ?_) ⟨_, hp⟩ ?_
            · obtain ⟨_, hp⟩ := hp
              refine st_move hf rfl rfl (by decide) ?_
              clear hf; intro a ha hf
              exact st_nil hf (th_n ⟨ha, rfl⟩)
            clear hf; intro a hf
            refine dr_take 2 (eptr va0 i5 1) rfl (by kernel_rfl) (by kernel_rfl) (by kernel_rfl) (by kernel_rfl) rfl rfl hf (by decide) rfl (fun w hp => ?_) ⟨_, hp⟩ ?_
            · obtain ⟨_, hp⟩ := hp
              refine st_index (E := Ek.c128) hf (by decide) Try.underlying24 elt36 rfl rfl rfl (ha0.sl hp) hc1.1 hc1.2 ?_
              clear hf; intro a ha hf
              exact st_nil hf (th_n ⟨ha, rfl⟩)
            clear hf; intro a hf
            refine dr_take 3 (.complex .f64 b3 b4) rfl (by kernel_rfl) (by kernel_rfl) (by kernel_rfl) (by kernel_rfl) rfl rfl hf (by decide) rfl (fun w hp => ?_) ⟨_, hp⟩ ?_
            · obtain ⟨_, hp⟩ := hp
              refine st_ldP hf (by decide) pl36 rfl rfl (hl2 _ _ hp) ?_
              clear hf; intro a ha hf
              exact st_nil hf (th_n ⟨ha, rfl⟩)
            clear hf; intro a hf
            refine dr_take 4 (.float .f64 b3) rfl (by kernel_rfl) (by kernel_rfl) (by kernel_rfl) (by kernel_rfl) rfl rfl hf (by decide) rfl (fun w hp => ?_) ⟨_, hp⟩ ?_
            · obtain ⟨_, hp⟩ := hp
              refine st_real hf (by decide) rfl rfl ?_
              clear hf; intro a ha hf
              exact st_nil hf (th_n ⟨ha, rfl⟩)
            clear hf; intro a hf
            refine dr_take 5 (vb1) rfl (by kernel_rfl) (by kernel_rfl) (by kernel_rfl) (by kernel_rfl) rfl rfl hf (by decide) rfl (fun w hp => ?_) ⟨_, hp⟩ ?_
            · obtain ⟨_, hp⟩ := hp
              refine st_move hf rfl rfl (by decide) ?_
              clear hf; intro a ha hf
              exact st_nil hf (th_n ⟨ha, rfl⟩)
            clear hf; intro a hf
            refine dr_take 6 (.int .i64 i5) rfl (by kernel_rfl) (by kernel_rfl) (by kernel_rfl) (by kernel_rfl) rfl rfl hf (by decide) rfl (fun w hp => ?_) ⟨_, hp⟩ ?_
            · obtain ⟨_, hp⟩ := hp
              refine st_move hf rfl rfl (by decide) ?_
              clear hf; intro a ha hf
              exact st_nil hf (th_n ⟨ha, rfl⟩)
            clear hf; intro a hf
            refine dr_take 7 (eptr vb1 i5 1) rfl (by kernel_rfl) (by kernel_rfl) (by kernel_rfl) (by kernel_rfl) rfl rfl hf (by decide) rfl (fun w hp => ?_) ⟨_, hp⟩ ?_
            · obtain ⟨_, hp⟩ := hp
              refine st_index (E := Ek.c128) hf (by decide) Try.underlying24 elt36 rfl rfl rfl (hb1.sl hp) hc7.1 hc7.2 ?_
              clear hf; intro a ha hf
              exact st_nil hf (th_n ⟨ha, rfl⟩)
            clear hf; intro a hf
            refine dr_take 8 (.complex .f64 b9 b10) rfl (by kernel_rfl) (by kernel_rfl) (by kernel_rfl) (by kernel_rfl) rfl rfl hf (by decide) rfl (fun w hp => ?_) ⟨_, hp⟩ ?_
            · obtain ⟨_, hp⟩ := hp
              refine st_ldP hf (by decide) pl36 rfl rfl (hl8 _ _ hp) ?_
              clear hf; intro a ha hf
              exact st_nil hf (th_n ⟨ha, rfl⟩)
            clear hf; intro a hf
            refine dr_take 9 (.float .f64 b9) rfl (by kernel_rfl) (by kernel_rfl) (by kernel_rfl) (by kernel_rfl) rfl rfl hf (by decide) rfl (fun w hp => ?_) ⟨_, hp⟩ ?_
            · obtain ⟨_, hp⟩ := hp
              refine st_real hf (by decide) rfl rfl ?_
              clear hf; intro a ha hf
              exact st_nil hf (th_n ⟨ha, rfl⟩)
            clear hf; intro a hf
            refine dr_one 10 rfl (by kernel_rfl) ?_
            refine st_call hf (by decide) Try.func38 rfl rfl rfl rfl rfl (f_foghornref08_Float_c hp _ _ (show Fl.rep b3 ((gt a0 i5).1) from y5) _ _ (show Fl.rep b9 ((gt b1 i5).1) from y11) hcall14) ?_
            rintro _ w ⟨rfl, hp0⟩
            clear hp; have hp := hp0; clear hp0
            replace hp : Hp _ _ w (ow) := hp
            refine ⟨_, rfl, ?_⟩
            clear hf; intro a hf
            refine st_nil hf (th_n ⟨fun _ _ => ⟨_, hp⟩, ?_⟩)
            refine dr_take 11 (.bool (!q13)) rfl (by kernel_rfl) (by kernel_rfl) (by kernel_rfl) (by kernel_rfl) rfl rfl hf (by decide) rfl (fun w hp => ?_) ⟨_, hp⟩ ?_
            · obtain ⟨_, hp⟩ := hp
              refine st_not hf (by decide) rfl rfl ?_
              clear hf; intro a ha hf
              exact st_nil hf (th_n ⟨ha, rfl⟩)
            clear hf; intro a hf
            refine dr_take 12 (.bool (!q13)) rfl (by kernel_rfl) (by kernel_rfl) (by kernel_rfl) (by kernel_rfl) rfl rfl hf (by decide) rfl (fun w hp => ?_) ⟨_, hp⟩ ?_
            · obtain ⟨_, hp⟩ := hp
              refine st_move hf rfl rfl (by decide) ?_
              clear hf; intro a ha hf
              exact st_nil hf (th_n ⟨ha, rfl⟩)
            clear hf; intro a hf
            refine dr_out 13 rfl (by kernel_rfl) (by kernel_rfl) (by kernel_rfl) (by kernel_rfl) rfl hf (by decide) rfl (wantN hf rfl rfl hb16) ⟨_, hp⟩ ?_
            clear hf; intro a hf
            refine dr_out 14 rfl (by kernel_rfl) (by kernel_rfl) (by kernel_rfl) (by kernel_rfl) rfl hf (by decide) rfl (wantN hf rfl rfl hb16) ⟨_, hp⟩ ?_
            clear hf; intro a hf
            refine dr_out 15 rfl (by kernel_rfl) (by kernel_rfl) (by kernel_rfl) (by kernel_rfl) rfl hf (by decide) rfl (wantN hf rfl rfl hb16) ⟨_, hp⟩ ?_
            clear hf; intro a hf
            refine dr_out 16 rfl (by kernel_rfl) (by kernel_rfl) (by kernel_rfl) (by kernel_rfl) rfl hf (by decide) rfl (wantN hf rfl rfl hb16) ⟨_, hp⟩ ?_
            clear hf; intro a hf
            refine dr_out 17 rfl (by kernel_rfl) (by kernel_rfl) (by kernel_rfl) (by kernel_rfl) rfl hf (by decide) rfl (wantN hf rfl rfl hb16) ⟨_, hp⟩ ?_
            clear hf; intro a hf
            refine dr_out 18 rfl (by kernel_rfl) (by kernel_rfl) (by kernel_rfl) (by kernel_rfl) rfl hf (by decide) rfl (wantN hf rfl rfl hb16) ⟨_, hp⟩ ?_
            clear hf; intro a hf
            refine dr_out 19 rfl (by kernel_rfl) (by kernel_rfl) (by kernel_rfl) (by kernel_rfl) rfl hf (by decide) rfl (wantN hf rfl rfl hb16) ⟨_, hp⟩ ?_
            clear hf; intro a hf
            refine dr_out 20 rfl (by kernel_rfl) (by kernel_rfl) (by kernel_rfl) (by kernel_rfl) rfl hf (by decide) rfl (wantN hf rfl rfl hb16) ⟨_, hp⟩ ?_
            clear hf; intro a hf
            refine dr_out 21 rfl (by kernel_rfl) (by kernel_rfl) (by kernel_rfl) (by kernel_rfl) rfl hf (by decide) rfl (wantN hf rfl rfl hb16) ⟨_, hp⟩ ?_
            clear hf; intro a hf
            refine dr_out 22 rfl (by kernel_rfl) (by kernel_rfl) (by kernel_rfl) (by kernel_rfl) rfl hf (by decide) rfl (wantN hf rfl rfl hb16) ⟨_, hp⟩ ?_
            clear hf; intro a hf
            refine dr_out 23 rfl (by kernel_rfl) (by kernel_rfl) (by kernel_rfl) (by kernel_rfl) rfl hf (by decide) rfl (wantN hf rfl rfl hb16) ⟨_, hp⟩ ?_
            clear hf; intro a hf
            refine dr_out 24 rfl (by kernel_rfl) (by kernel_rfl) (by kernel_rfl) (by kernel_rfl) rfl hf (by decide) rfl (wantN hf rfl rfl hb16) ⟨_, hp⟩ ?_
            clear hf; intro a hf
            refine dr_take 25 (.bool z31) rfl (by kernel_rfl) (by kernel_rfl) (by kernel_rfl) (by kernel_rfl) rfl rfl hf (by decide) rfl (fun w hp => ?_) ⟨_, hp⟩ ?_
            · obtain ⟨_, hp⟩ := hp
              refine st_pick (v := .bool z31) hf rfl rfl (fun _ => by rw [← hz15]; rfl) (fun hb' => absurd (hb16.symm.trans hb') (by decide)) (by decide) ?_
              clear hf; intro a ha hf
              exact st_nil hf (th_n ⟨ha, rfl⟩)
            clear hf; intro a hf
            refine dr_end (by kernel_rfl) ?_ _
            exact ⟨hf.sub ⟨rfl, rfl, rfl, rfl, trivial⟩, hp⟩
          · skip
            replace hz15 := ifF hz15 hb16
            obtain ⟨hc17, hz15⟩ := chk hz15
            obtain ⟨b19, b20, y21, y22, hl18⟩ := RdS.pinC (p := i5) ha0 hc17.1 hc17.2
            obtain ⟨hc23, hz15⟩ := chk hz15
            obtain ⟨b25, b26, y27, y28, hl24⟩ := RdS.pinC (p := i5) hb1 hc23.1 hc23.2
            obtain ⟨q29, hcall30, hz15⟩ := bnd hz15
            replace hz15 := Option.some.inj hz15
            refine dr_begin' (fun a w => Fr 43 a [(0, va0), (1, vb1), (5, .int .i64 i5), (42, .bool z31)] ∧ Hp S w0 w (ow)) (fun w' => ∃ l, Hp S w0 w' l) [] (by kernel_rfl) ?_
            refine dr_take 0 (va0) rfl (by kernel_rfl) (by kernel_rfl) (by kernel_rfl) (by kernel_rfl) rfl rfl hf (by decide) rfl (fun w hp => ?_) ⟨_, hp⟩ ?_
            · obtain ⟨_, hp⟩ := hp
              refine st_move hf rfl rfl (by decide) ?_
              clear hf; intro a ha hf
              exact st_nil hf (th_n ⟨ha, rfl⟩)
            clear hf; intro a hf
            refine dr_take 1 (.int .i64 i5) rfl (by kernel_rfl) (by kernel_rfl) (by kernel_rfl) (by kernel_rfl) rfl rfl hf (by decide) rfl (fun w hp => ?_) ⟨_, hp⟩ ?_
            · obtain ⟨_, hp⟩ := hp
              refine st_move hf rfl rfl (by decide) ?_
              clear hf; intro a ha hf
              exact st_nil hf (th_n ⟨ha, rfl⟩)
            clear hf; intro a hf
            refine dr_take 2 (eptr va0 i5 1) rfl (by kernel_rfl) (by kernel_rfl) (by kernel_rfl) (by kernel_rfl) rfl rfl hf (by decide) rfl (fun w hp => ?_) ⟨_, hp⟩ ?_
            · obtain ⟨_, hp⟩ := hp
              refine st_index (E := Ek.c128) hf (by decide) Try.underlying24 elt36 rfl rfl rfl (ha0.sl hp) hc1.1 hc1.2 ?_
              clear hf; intro a ha hf
              exact st_nil hf (th_n ⟨ha, rfl⟩)
            clear hf; intro a hf
            refine dr_take 3 (.complex .f64 b3 b4) rfl (by kernel_rfl) (by kernel_rfl) (by kernel_rfl) (by kernel_rfl) rfl rfl hf (by decide) rfl (fun w hp => ?_) ⟨_, hp⟩ ?_
            · obtain ⟨_, hp⟩ := hp
              refine st_ldP hf (by decide) pl36 rfl rfl (hl2 _ _ hp) ?_
              clear hf; intro a ha hf
              exact st_nil hf (th_n ⟨ha, rfl⟩)
            clear hf; intro a hf
            refine dr_take 4 (.float .f64 b3) rfl (by kernel_rfl) (by kernel_rfl) (by kernel_rfl) (by kernel_rfl) rfl rfl hf (by decide) rfl (fun w hp => ?_) ⟨_, hp⟩ ?_
            · obtain ⟨_, hp⟩ := hp
              refine st_real hf (by decide) rfl rfl ?_
              clear hf; intro a ha hf
              exact st_nil hf (th_n ⟨ha, rfl⟩)
            clear hf; intro a hf
            refine dr_take 5 (vb1) rfl (by kernel_rfl) (by kernel_rfl) (by kernel_rfl) (by kernel_rfl) rfl rfl hf (by decide) rfl (fun w hp => ?_) ⟨_, hp⟩ ?_
            · obtain ⟨_, hp⟩ := hp
              refine st_move hf rfl rfl (by decide) ?_
              clear hf; intro a ha hf
              exact st_nil hf (th_n ⟨ha, rfl⟩)
            clear hf; intro a hf
            refine dr_take 6 (.int .i64 i5) rfl (by kernel_rfl) (by kernel_rfl) (by kernel_rfl) (by kernel_rfl) rfl rfl hf (by decide) rfl (fun w hp => ?_) ⟨_, hp⟩ ?_
            · obtain ⟨_, hp⟩ := hp
              refine st_move hf rfl rfl (by decide) ?_
              clear hf; intro a ha hf
              exact st_nil hf (th_n ⟨ha, rfl⟩)
            clear hf; intro a hf
            refine dr_take 7 (eptr vb1 i5 1) rfl (by kernel_rfl) (by kernel_rfl) (by kernel_rfl) (by kernel_rfl) rfl rfl hf (by decide) rfl (fun w hp => ?_) ⟨_, hp⟩ ?_
            · obtain ⟨_, hp⟩ := hp
              refine st_index (E := Ek.c128) hf (by decide) Try.underlying24 elt36 rfl rfl rfl (hb1.sl hp) hc7.1 hc7.2 ?_
              clear hf; intro a ha hf
              exact st_nil hf (th_n ⟨ha, rfl⟩)
            clear hf; intro a hf
            refine dr_take 8 (.complex .f64 b9 b10) rfl (by kernel_rfl) (by kernel_rfl) (by kernel_rfl) (by kernel_rfl) rfl rfl hf (by decide) rfl (fun w hp => ?_) ⟨_, hp⟩ ?_
            · obtain ⟨_, hp⟩ := hp
              refine st_ldP hf (by decide) pl36 rfl rfl (hl8 _ _ hp) ?_
              clear hf; intro a ha hf
              exact st_nil hf (th_n ⟨ha, rfl⟩)
            clear hf; intro a hf
            refine dr_take 9 (.float .f64 b9) rfl (by kernel_rfl) (by kernel_rfl) (by kernel_rfl) (by kernel_rfl) rfl rfl hf (by decide) rfl (fun w hp => ?_) ⟨_, hp⟩ ?_
            · obtain ⟨_, hp⟩ := hp
              refine st_real hf (by decide) rfl rfl ?_
              clear hf; intro a ha hf
              exact st_nil hf (th_n ⟨ha, rfl⟩)
            clear hf; intro a hf
            refine dr_one 10 rfl (by kernel_rfl) ?_
            refine st_call hf (by decide) Try.func38 rfl rfl rfl rfl rfl (f_foghornref08_Float_c hp _ _ (show Fl.rep b3 ((gt a0 i5).1) from y5) _ _ (show Fl.rep b9 ((gt b1 i5).1) from y11) hcall14) ?_
            rintro _ w ⟨rfl, hp0⟩
            clear hp; have hp := hp0; clear hp0
            replace hp : Hp _ _ w (ow) := hp
            refine ⟨_, rfl, ?_⟩
            clear hf; intro a hf
            refine st_nil hf (th_n ⟨fun _ _ => ⟨_, hp⟩, ?_⟩)
            refine dr_take 11 (.bool (!q13)) rfl (by kernel_rfl) (by kernel_rfl) (by kernel_rfl) (by kernel_rfl) rfl rfl hf (by decide) rfl (fun w hp => ?_) ⟨_, hp⟩ ?_
            · obtain ⟨_, hp⟩ := hp
              refine st_not hf (by decide) rfl rfl ?_
              clear hf; intro a ha hf
              exact st_nil hf (th_n ⟨ha, rfl⟩)
            clear hf; intro a hf
            refine dr_take 12 (.bool (!q13)) rfl (by kernel_rfl) (by kernel_rfl) (by kernel_rfl) (by kernel_rfl) rfl rfl hf (by decide) rfl (fun w hp => ?_) ⟨_, hp⟩ ?_
            · obtain ⟨_, hp⟩ := hp
              refine st_move hf rfl rfl (by decide) ?_
              clear hf; intro a ha hf
              exact st_nil hf (th_n ⟨ha, rfl⟩)
            clear hf; intro a hf
            refine dr_take 13 (va0) rfl (by kernel_rfl) (by kernel_rfl) (by kernel_rfl) (by kernel_rfl) rfl rfl hf (by decide) (wantY hf rfl rfl hb16) (fun w hp => ?_) ⟨_, hp⟩ ?_
            · obtain ⟨_, hp⟩ := hp
              refine st_move hf (wantY hf rfl rfl hb16) rfl (by decide) ?_
              clear hf; intro a ha hf
              exact st_nil hf (th_n ⟨ha, rfl⟩)
            clear hf; intro a hf
            refine dr_take 14 (.int .i64 i5) rfl (by kernel_rfl) (by kernel_rfl) (by kernel_rfl) (by kernel_rfl) rfl rfl hf (by decide) (wantY hf rfl rfl hb16) (fun w hp => ?_) ⟨_, hp⟩ ?_
            · obtain ⟨_, hp⟩ := hp
              refine st_move hf (wantY hf rfl rfl hb16) rfl (by decide) ?_
              clear hf; intro a ha hf
              exact st_nil hf (th_n ⟨ha, rfl⟩)
            clear hf; intro a hf
            refine dr_take 15 (eptr va0 i5 1) rfl (by kernel_rfl) (by kernel_rfl) (by kernel_rfl) (by kernel_rfl) rfl rfl hf (by decide) (wantY hf rfl rfl hb16) (fun w hp => ?_) ⟨_, hp⟩ ?_
            · obtain ⟨_, hp⟩ := hp
              refine st_index (E := Ek.c128) hf (by decide) Try.underlying24 elt36 (wantY hf rfl rfl hb16) rfl rfl (ha0.sl hp) hc17.1 hc17.2 ?_
              clear hf; intro a ha hf
              exact st_nil hf (th_n ⟨ha, rfl⟩)
            clear hf; intro a hf
            refine dr_take 16 (.complex .f64 b19 b20) rfl (by kernel_rfl) (by kernel_rfl) (by kernel_rfl) (by kernel_rfl) rfl rfl hf (by decide) (wantY hf rfl rfl hb16) (fun w hp => ?_) ⟨_, hp⟩ ?_
            · obtain ⟨_, hp⟩ := hp
              refine st_ldP hf (by decide) pl36 (wantY hf rfl rfl hb16) rfl (hl18 _ _ hp) ?_
              clear hf; intro a ha hf
              exact st_nil hf (th_n ⟨ha, rfl⟩)
            clear hf; intro a hf
            refine dr_take 17 (.float .f64 b20) rfl (by kernel_rfl) (by kernel_rfl) (by kernel_rfl) (by kernel_rfl) rfl rfl hf (by decide) (wantY hf rfl rfl hb16) (fun w hp => ?_) ⟨_, hp⟩ ?_
            · obtain ⟨_, hp⟩ := hp
              refine st_imag hf (by decide) (wantY hf rfl rfl hb16) rfl ?_
              clear hf; intro a ha hf
              exact st_nil hf (th_n ⟨ha, rfl⟩)
            clear hf; intro a hf
            refine dr_take 18 (vb1) rfl (by kernel_rfl) (by kernel_rfl) (by kernel_rfl) (by kernel_rfl) rfl rfl hf (by decide) (wantY hf rfl rfl hb16) (fun w hp => ?_) ⟨_, hp⟩ ?_
            · obtain ⟨_, hp⟩ := hp
              refine st_move hf (wantY hf rfl rfl hb16) rfl (by decide) ?_
              clear hf; intro a ha hf
              exact st_nil hf (th_n ⟨ha, rfl⟩)
            clear hf; intro a hf
            refine dr_take 19 (.int .i64 i5) rfl (by kernel_rfl) (by kernel_rfl) (by kernel_rfl) (by kernel_rfl) rfl rfl hf (by decide) (wantY hf rfl rfl hb16) (fun w hp => ?_) ⟨_, hp⟩ ?_
            · obtain ⟨_, hp⟩ := hp
              refine st_move hf (wantY hf rfl rfl hb16) rfl (by decide) ?_
              clear hf; intro a ha hf
              exact st_nil hf (th_n ⟨ha, rfl⟩)
            clear hf; intro a hf
            refine dr_take 20 (eptr vb1 i5 1) rfl (by kernel_rfl) (by kernel_rfl) (by kernel_rfl) (by kernel_rfl) rfl rfl hf (by decide) (wantY hf rfl rfl hb16) (fun w hp => ?_) ⟨_, hp⟩ ?_
            · obtain ⟨_, hp⟩ := hp
              refine st_index (E := Ek.c128) hf (by decide) Try.underlying24 elt36 (wantY hf rfl rfl hb16) rfl rfl (hb1.sl hp) hc23.1 hc23.2 ?_
              clear hf; intro a ha hf
              exact st_nil hf (th_n ⟨ha, rfl⟩)
            clear hf; intro a hf
            refine dr_take 21 (.complex .f64 b25 b26) rfl (by kernel_rfl) (by kernel_rfl) (by kernel_rfl) (by kernel_rfl) rfl rfl hf (by decide) (wantY hf rfl rfl hb16) (fun w hp => ?_) ⟨_, hp⟩ ?_
            · obtain ⟨_, hp⟩ := hp
              refine st_ldP hf (by decide) pl36 (wantY hf rfl rfl hb16) rfl (hl24 _ _ hp) ?_
              clear hf; intro a ha hf
              exact st_nil hf (th_n ⟨ha, rfl⟩)
            clear hf; intro a hf
            refine dr_take 22 (.float .f64 b26) rfl (by kernel_rfl) (by kernel_rfl) (by kernel_rfl) (by kernel_rfl) rfl rfl hf (by decide) (wantY hf rfl rfl hb16) (fun w hp => ?_) ⟨_, hp⟩ ?_
            · obtain ⟨_, hp⟩ := hp
              refine st_imag hf (by decide) (wantY hf rfl rfl hb16) rfl ?_
              clear hf; intro a ha hf
              exact st_nil hf (th_n ⟨ha, rfl⟩)
            clear hf; intro a hf
            refine dr_one 23 rfl (by kernel_rfl) ?_
            refine st_call hf (by decide) Try.func38 rfl rfl (wantY hf rfl rfl hb16) rfl rfl (f_foghornref08_Float_c hp _ _ (show Fl.rep b20 ((gt a0 i5).2) from y22) _ _ (show Fl.rep b26 ((gt b1 i5).2) from y28) hcall30) ?_
            rintro _ w ⟨rfl, hp0⟩
            clear hp; have hp := hp0; clear hp0
            replace hp : Hp _ _ w (ow) := hp
            refine ⟨_, rfl, ?_⟩
            clear hf; intro a hf
            refine st_nil hf (th_n ⟨fun _ _ => ⟨_, hp⟩, ?_⟩)
            refine dr_take 24 (.bool (!q29)) rfl (by kernel_rfl) (by kernel_rfl) (by kernel_rfl) (by kernel_rfl) rfl rfl hf (by decide) (wantY hf rfl rfl hb16) (fun w hp => ?_) ⟨_, hp⟩ ?_
            · obtain ⟨_, hp⟩ := hp
              refine st_not hf (by decide) (wantY hf rfl rfl hb16) rfl ?_
              clear hf; intro a ha hf
              exact st_nil hf (th_n ⟨ha, rfl⟩)
            clear hf; intro a hf
            refine dr_take 25 (.bool z31) rfl (by kernel_rfl) (by kernel_rfl) (by kernel_rfl) (by kernel_rfl) rfl rfl hf (by decide) rfl (fun w hp => ?_) ⟨_, hp⟩ ?_
            · obtain ⟨_, hp⟩ := hp
              refine st_pick (v := .bool z31) hf rfl rfl (fun hb' => absurd (hb16.symm.trans hb') (by decide)) (fun _ => by rw [← hz15]; rfl) (by decide) ?_
              clear hf; intro a ha hf
              exact st_nil hf (th_n ⟨ha, rfl⟩)
            clear hf; intro a hf
            refine dr_end (by kernel_rfl) ?_ _
            exact ⟨hf.sub ⟨rfl, rfl, rfl, rfl, trivial⟩, hp⟩
        · rintro a w ⟨hf, hp⟩
          refine th_n ?_
          refine wp_if hf rfl (fun hb => ?_) (fun hb => ?_)
          · replace h := ifT h hb
            refine wp_seq ?_
            refine wp_reg ?_
            refine st_assign hf rfl rfl (by decide) ?_
            clear hf; intro a ha hf; clear ha
            refine st_nil hf ?_
            refine th_n ?_
            refine wp_ret ?_
            refine ib_r ?_
            refine th_r ?_
            obtain rfl := Option.some.inj h
            exact rnd_r (by simp) ⟨rfl, ⟨hf.sub ⟨rfl, trivial⟩, hp⟩⟩
          · replace h := ifF h hb
            refine wp_skip ?_
            refine ib_n ?_
            refine th_n ?_
            refine wp_reg ?_
            refine st_move hf rfl rfl (by decide) ?_
            clear hf; intro a ha hf; clear ha
            refine st_iadd hf (by decide) rfl rfl rfl ?_
            clear hf; intro a ha hf; clear ha
            refine st_assign hf rfl rfl (by decide) ?_
            clear hf; intro a ha hf; clear ha
            refine st_nil hf ?_
            obtain rfl := Option.some.inj h
            exact rnd_l ⟨hf.sub ⟨rfl, rfl, rfl, trivial⟩, hp⟩
      · replace h := ifF h hb
        refine wp_exit ?_
        refine th_e ?_
        obtain rfl := Option.some.inj h
        exact rnd_r (by simp) ⟨rfl, hf.sub trivial, hp⟩
    · clear hl hf hp
      intro e a w hne hO
      cases q32 with
      | inl q33 =>
        replace h := smL h
        obtain ⟨rfl, hf, hp⟩ := hO
        refine ib_same ?_
        refine th_n ?_
        refine wp_seq ?_
        refine wp_reg ?_
        refine st_assign hf rfl rfl (by decide) ?_
        clear hf; intro a ha hf; clear ha
        refine st_nil hf ?_
        refine th_n ?_
        refine wp_ret ?_
        obtain rfl := Option.some.inj h
        exact ⟨rfl, ⟨hf.sub ⟨rfl, trivial⟩, hp⟩⟩
      | inr q34 =>
        replace h := smR h
        obtain ⟨rfl, hf, hp⟩ := hO
        refine ib_r ?_
        refine th_r ?_
        obtain rfl := Option.some.inj h
        exact ⟨rfl, ⟨hf.sub ⟨rfl, trivial⟩, hp⟩⟩

noncomputable def f_foghornlaw08_fresh.s1c (one0 : (List (Fl × Fl))) (i7 : Int) : Option (((List (Fl × Fl)) × Int) ⊕ (List (Fl × Fl))) := (if (decide (i7 < (one0.length : Int))) = true then (if 0 ≤ i7 ∧ i7 < (one0.length : Int) then (some (Sum.inl ((one0.set (i7).toNat (Fl.bits 4617315517961601024, Fl.bits 0)), (IntKind.i64.wrap (i7 + (1 : Int)))))) else none) else (some (Sum.inr one0)))
noncomputable def f_foghornlaw08_fresh.s1  (s : ((List (Fl × Fl)) × Int)) : Option (((List (Fl × Fl)) × Int) ⊕ (List (Fl × Fl))) := f_foghornlaw08_fresh.s1c s.1 s.2
noncomputable def f_foghornlaw08_fresh.s2c (one0 : (List (Fl × Fl))) (k8 : Int) : Option (((List (Fl × Fl)) × Int) ⊕ (List (Fl × Fl))) := (if (decide (k8 < (20 : Int))) = true then (if (one0.length + ([(Fl.bits 4618441417868443648, Fl.bits 0)]).length) * 16 ≤ 140737488355328 then (some (Sum.inl ((one0 ++ [(Fl.bits 4618441417868443648, Fl.bits 0)]), (IntKind.i64.wrap (k8 + (1 : Int)))))) else none) else (some (Sum.inr one0)))
noncomputable def f_foghornlaw08_fresh.s2  (s : ((List (Fl × Fl)) × Int)) : Option (((List (Fl × Fl)) × Int) ⊕ (List (Fl × Fl))) := f_foghornlaw08_fresh.s2c s.1 s.2
noncomputable def f_foghornlaw08_fresh (one0 : (List (Fl × Fl))) (two1 : (List (Fl × Fl))) (want2 : (List (Fl × Fl))) : Option Bool := ((f_foghornref08_Same one0 want2).bind fun q2 => ((if (!q2) = true then (some true) else ((f_foghornref08_Same two1 want2).bind fun q12 => (some (!q12)))).bind fun z11 => (if z11 = true then (some false) else ((loop f_foghornlaw08_fresh.s1 (one0, (0 : Int))).bind (fun q19 => ((loop f_foghornlaw08_fresh.s2 (q19, (0 : Int))).bind (fun q28 => ((f_foghornref08_Same two1 want2).bind fun q29 => (some (q29 && ((q28.length : Int) == (IntKind.i64.wrap ((want2.length : Int) + (20 : Int))))))))))))))
theorem f_foghornlaw08_fresh_c {S : Nat → Prop} {w0 w : World} {ow : List Res} (vone0 : Value) (one0 : (List (Fl × Fl))) (vtwo1 : Value) (two1 : (List (Fl × Fl))) (htwo1 : RdS Ek.c128 S w0 vtwo1 two1) (vwant2 : Value) (want2 : (List (Fl × Fl))) (hwant2 : RdS Ek.c128 S w0 vwant2 want2) (hp : Hp S w0 w (Res.sl Ek.c128 36 vone0 one0 :: ow)) {r : Bool} (h : f_foghornlaw08_fresh one0 two1 want2 = some r) :
    Calls Try.prog 12 #[vone0, vtwo1, vwant2] w (fun e w' => e = .returned (.bool r) ∧ Hp S w0 w' (ow)) := by
  unfold f_foghornlaw08_fresh at h
  refine enter (n := 46) (args := [vone0, vtwo1, vwant2]) Try.func12 rfl rfl (Nat.le_of_ble_eq_true rfl) fun a hf => ?_
  replace hf : Fr 46 a [(0, vone0), (1, vtwo1), (2, vwant2)] := hf
  refine wp_mono (Q := fun e a w => e = .ret ∧ Fr 46 a [(6, .bool r)] ∧ Hp S w0 w (ow)) ?_ ?_
  rotate_left
  · rintro e a w ⟨rfl, hf, hp⟩
    exact ret1 hf rfl rfl ⟨rfl, hp⟩
  refine wp_seq ?_
  refine wp_reg ?_
  refine st_assign hf rfl rfl (by decide) ?_
  clear hf; intro a ha hf; clear ha
  refine st_nil hf ?_
  refine th_n ?_
  refine wp_seq ?_
  refine wp_seq ?_
  refine wp_reg ?_
  refine st_move hf rfl rfl (by decide) ?_
  clear hf; intro a ha hf; clear ha
  refine st_move hf rfl rfl (by decide) ?_
  clear hf; intro a ha hf; clear ha
  obtain ⟨q2, hcall3, h⟩ := bnd h
  obtain ⟨S4, hp5, rd6, up7, bk8⟩ := Hp.lendS hp (i := 0) rfl
  refine st_call hf (by decide) Try.func33 rfl rfl rfl rfl rfl (f_foghornref08_Same_c hp5 _ _ rd6 _ _ ((hwant2.now hp).mono up7) hcall3) ?_
  rintro _ w ⟨rfl, hp0⟩
  have hp0 := bk8 _ _ hp0
  clear hp; have hp := hp0; clear hp0
  replace hp : Hp _ _ w (Res.sl Ek.c128 36 vone0 one0 :: ow) := hp
  refine ⟨_, rfl, ?_⟩
  clear hf; intro a hf
  refine st_not hf (by decide) rfl rfl ?_
  clear hf; intro a ha hf; clear ha
  refine st_move hf rfl rfl (by decide) ?_
  clear hf; intro a ha hf; clear ha
  obtain ⟨z11, hz9, h⟩ := bnd h
  refine wpList_cut 5 (fun a w => Fr 46 a [(0, vone0), (1, vtwo1), (2, vwant2), (18, .bool z11)] ∧ Hp S w0 w (Res.sl Ek.c128 36 vone0 one0 :: ow)) ?_ ?_
  · rcases Bool.eq_false_or_eq_true (!q2) with hb10 | hb10
    · skip
      replace hz9 := ifT hz9 hb10
      refine st_skip hf (wantN hf rfl rfl hb10) rfl (by decide) ?_ rfl
      clear hf; intro a hf
      refine st_skip hf (wantN hf rfl rfl hb10) rfl (by decide) ?_ rfl
      clear hf; intro a hf
      refine st_skip hf (wantN hf rfl rfl hb10) rfl (by decide) ?_ rfl
      clear hf; intro a hf
      refine st_skip hf (wantN hf rfl rfl hb10) rfl (by decide) ?_ rfl
      clear hf; intro a hf
      obtain rfl := Option.some.inj hz9
      refine st_pick (v := .bool true) hf rfl rfl (fun hb' => ?_) (fun hb' => ?_) (by decide) ?_
      · rfl
      · exact absurd (hb10.symm.trans hb') (by decide)
      clear hf; intro a ha hf; clear ha
      refine st_nil hf (th_n ?_)
      exact ⟨hf.sub ⟨rfl, rfl, rfl, rfl, trivial⟩, hp⟩
    · skip
      replace hz9 := ifF hz9 hb10
      refine st_move hf (wantY hf rfl rfl hb10) rfl (by decide) ?_
      clear hf; intro a ha hf; clear ha
      refine st_move hf (wantY hf rfl rfl hb10) rfl (by decide) ?_
      clear hf; intro a ha hf; clear ha
      obtain ⟨q12, hcall13, hz9⟩ := bnd hz9
      refine st_call hf (by decide) Try.func33 rfl rfl (wantY hf rfl rfl hb10) rfl rfl (f_foghornref08_Same_c hp _ _ htwo1 _ _ hwant2 hcall13) ?_
      rintro _ w ⟨rfl, hp0⟩
      clear hp; have hp := hp0; clear hp0
      replace hp : Hp _ _ w (Res.sl Ek.c128 36 vone0 one0 :: ow) := hp
      refine ⟨_, rfl, ?_⟩
      clear hf; intro a hf
      refine st_not hf (by decide) (wantY hf rfl rfl hb10) rfl ?_
      clear hf; intro a ha hf; clear ha
      obtain rfl := Option.some.inj hz9
      refine st_pick (v := .bool (!q12)) hf rfl rfl (fun hb' => ?_) (fun hb' => ?_) (by decide) ?_
      · exact absurd (hb10.symm.trans hb') (by decide)
      · rfl
      clear hf; intro a ha hf; clear ha
      refine st_nil hf (th_n ?_)
      exact ⟨hf.sub ⟨rfl, rfl, rfl, rfl, trivial⟩, hp⟩
  · rintro a w ⟨hf, hp⟩
    refine st_nil hf ?_
    refine th_n ?_
    refine wp_if hf rfl (fun hb => ?_) (fun hb => ?_)
    · replace h := ifT h hb
      refine wp_seq ?_
      refine wp_reg ?_
      refine st_assign hf rfl rfl (by decide) ?_
      clear hf; intro a ha hf; clear ha
      refine st_nil hf ?_
      refine th_n ?_
      refine wp_ret ?_
      refine th_r ?_
      obtain rfl := Option.some.inj h
      have hp : Hp _ _ w (ow) := Hp.sel (pre := [Res.sl Ek.c128 36 vone0 one0]) (tail := ow) (rs' := []) hp [] (by decide) (by simp) rfl
      exact ⟨rfl, ⟨hf.sub ⟨rfl, trivial⟩, hp⟩⟩
    · replace h := ifF h hb
      refine wp_skip ?_
      refine th_n ?_
      refine wp_seq ?_
      refine wp_seq ?_
      refine wp_reg ?_
      refine st_assign hf rfl rfl (by decide) ?_
      clear hf; intro a ha hf; clear ha
      refine st_nil hf ?_
      refine th_n ?_
      refine wp_block ?_
      obtain ⟨q19, hl, h⟩ := bnd h
      refine wp_loop_pure (f := f_foghornlaw08_fresh.s1) (s := (one0, (0 : Int))) (fun s a w => ∃ (v14 : Value), Fr 46 a [(0, v14), (1, vtwo1), (2, vwant2), (7, .int .i64 s.2)] ∧ Hp S w0 w (Res.sl Ek.c128 36 v14 s.1 :: ow)) (fun q e a w => e = .exit 0 ∧ ∃ (v16 : Value), Fr 46 a [(0, v16), (1, vtwo1), (2, vwant2)] ∧ Hp S w0 w (Res.sl Ek.c128 36 v16 q :: ow)) ?_ hl ⟨_, hf.sub ⟨rfl, rfl, rfl, rfl, trivial⟩, hp⟩ ?_
      · clear hl hf hp
        intro s x a w h hI
        obtain ⟨one0, i7⟩ := s
        obtain ⟨v14, hf, hp⟩ : ∃ (v14 : Value), Fr 46 a [(0, v14), (1, vtwo1), (2, vwant2), (7, .int .i64 i7)] ∧ Hp S w0 w (Res.sl Ek.c128 36 v14 one0 :: ow) := hI
        replace h : f_foghornlaw08_fresh.s1c one0 i7 = some x := h
        unfold f_foghornlaw08_fresh.s1c at h
        refine wp_seq ?_
        refine wp_seq ?_
        refine wp_reg ?_
        refine st_move hf rfl rfl (by decide) ?_
        clear hf; intro a ha hf; clear ha
        refine st_move hf rfl rfl (by decide) ?_
        clear hf; intro a ha hf; clear ha
        refine st_len (E := Ek.c128) hf (by decide) Try.underlying24 rfl rfl (hp.sl (i := 0) rfl) ?_
        clear hf; intro a ha hf; clear ha
        refine st_ilss hf (by decide) rfl rfl rfl ?_
        clear hf; intro a ha hf; clear ha
        refine st_nil hf ?_
        refine th_n ?_
        refine wp_if hf rfl (fun hb => ?_) (fun hb => ?_)
        · replace h := ifT h hb
          refine wp_skip ?_
          refine th_n ?_
          refine wp_seq ?_
          refine wp_block ?_
          refine wp_reg ?_
          refine st_move hf rfl rfl (by decide) ?_
          clear hf; intro a ha hf; clear ha
          refine st_move hf rfl rfl (by decide) ?_
          clear hf; intro a ha hf; clear ha
          obtain ⟨hc18, h⟩ := chk h
          refine st_index (E := Ek.c128) hf (by decide) Try.underlying24 elt36 rfl rfl rfl (hp.sl (i := 0) rfl) hc18.1 hc18.2 ?_
          clear hf; intro a ha hf; clear ha
          refine st_store (E := Ek.c128) hf elt36 hp (i := 0) rfl rfl rfl rfl (show Ek.c128.rep [.complex .f64 4617315517961601024 0] (Fl.bits 4617315517961601024, Fl.bits 0) from ⟨_, _, rfl, rfl, rfl⟩) hc18.1 hc18.2 ?_
          clear hf; intro a w hf hp0; clear hp; have hp := hp0; clear hp0
          replace hp : Hp _ _ w (Res.sl Ek.c128 36 v14 (one0.set (i7).toNat (Fl.bits 4617315517961601024, Fl.bits 0)) :: ow) := hp
          refine st_nil hf ?_
          refine ib_n ?_
          refine th_n ?_
          refine wp_reg ?_
          refine st_move hf rfl rfl (by decide) ?_
          clear hf; intro a ha hf; clear ha
          refine st_iadd hf (by decide) rfl rfl rfl ?_
          clear hf; intro a ha hf; clear ha
          refine st_assign hf rfl rfl (by decide) ?_
          clear hf; intro a ha hf; clear ha
          refine st_nil hf ?_
          obtain rfl := Option.some.inj h
          exact rnd_l ⟨_, hf.sub ⟨rfl, rfl, rfl, rfl, trivial⟩, hp⟩
        · replace h := ifF h hb
          refine wp_exit ?_
          refine th_e ?_
          obtain rfl := Option.some.inj h
          exact rnd_r (by simp) ⟨rfl, _, hf.sub ⟨rfl, rfl, rfl, trivial⟩, hp⟩
      · clear hl hf hp
        intro e a w hne hO
        obtain ⟨rfl, v16, hf, hp⟩ := hO
        refine ib_same ?_
        refine th_n ?_
        refine wp_seq ?_
        refine wp_seq ?_
        refine wp_reg ?_
        refine st_assign hf rfl rfl (by decide) ?_
        clear hf; intro a ha hf; clear ha
        refine st_nil hf ?_
        refine th_n ?_
        refine wp_block ?_
        obtain ⟨q28, hl, h⟩ := bnd h
        refine wp_loop_pure (f := f_foghornlaw08_fresh.s2) (s := (q19, (0 : Int))) (fun s a w => ∃ (v20 : Value), Fr 46 a [(0, v20), (1, vtwo1), (2, vwant2), (8, .int .i64 s.2)] ∧ Hp S w0 w (Res.sl Ek.c128 36 v20 s.1 :: ow)) (fun q e a w => e = .exit 2 ∧ ∃ (v22 : Value), Fr 46 a [(0, v22), (1, vtwo1), (2, vwant2)] ∧ Hp S w0 w (Res.sl Ek.c128 36 v22 q :: ow)) ?_ hl ⟨_, hf.sub ⟨rfl, rfl, rfl, rfl, trivial⟩, hp⟩ ?_
        · clear hl hf hp
          intro s x a w h hI
          obtain ⟨one0, k8⟩ := s
          obtain ⟨v20, hf, hp⟩ : ∃ (v20 : Value), Fr 46 a [(0, v20), (1, vtwo1), (2, vwant2), (8, .int .i64 k8)] ∧ Hp S w0 w (Res.sl Ek.c128 36 v20 one0 :: ow) := hI
          replace h : f_foghornlaw08_fresh.s2c one0 k8 = some x := h
          unfold f_foghornlaw08_fresh.s2c at h
          refine wp_seq ?_
          refine wp_seq ?_
          refine wp_reg ?_
          refine st_move hf rfl rfl (by decide) ?_
          clear hf; intro a ha hf; clear ha
          refine st_ilss hf (by decide) rfl rfl rfl ?_
          clear hf; intro a ha hf; clear ha
          refine st_nil hf ?_
          refine th_n ?_
          refine wp_if hf rfl (fun hb => ?_) (fun hb => ?_)
          · replace h := ifT h hb
            refine wp_skip ?_
            refine th_n ?_
            refine wp_seq ?_
            refine wp_block ?_
            refine wp_reg ?_
            refine st_move hf rfl rfl (by decide) ?_
            clear hf; intro a ha hf; clear ha
            refine st_build (E := Ek.c128) (xs := [(Fl.bits 4618441417868443648, Fl.bits 0)]) hf (by decide) elt36 Try.underlying24 hp (vals := #[(0, .complex .f64 4618441417868443648 0)]) (cells := #[.complex .f64 4618441417868443648 0]) rfl (by simp [hf.ev (x := (Operand.const (.complex .f64 4618441417868443648 0))) rfl]) (by decide) (by decide) (z := .complex .f64 0 0) (by kernel_rfl) (by kernel_rfl) rfl (reps_cons (cs := [.complex .f64 4618441417868443648 0]) (show Ek.c128.rep [.complex .f64 4618441417868443648 0] (Fl.bits 4618441417868443648, Fl.bits 0) from ⟨_, _, rfl, rfl, rfl⟩) (reps_nil _)) ?_
            clear hf; intro a w v24 hf hp0; clear hp; have hp := hp0; clear hp0
            replace hp : Hp _ _ w (Res.sl Ek.c128 36 v24 ([(Fl.bits 4618441417868443648, Fl.bits 0)]) :: Res.sl Ek.c128 36 v20 one0 :: ow) := hp
            obtain ⟨hc26, h⟩ := chk h
            refine st_append (E := Ek.c128) hf (by decide) elt36 Try.underlying24 (by decide) hp (i := 1) rfl rfl rfl rfl (hp.sl (i := 0) rfl) hc26 ?_
            clear hf; intro a w v27 hf hp0; clear hp; have hp := hp0; clear hp0
            replace hp : Hp _ _ w (Res.sl Ek.c128 36 v24 ([(Fl.bits 4618441417868443648, Fl.bits 0)]) :: Res.sl Ek.c128 36 v27 (one0 ++ [(Fl.bits 4618441417868443648, Fl.bits 0)]) :: ow) := hp
            refine st_assign hf rfl rfl (by decide) ?_
            clear hf; intro a ha hf; clear ha
            refine st_nil hf ?_
            refine ib_n ?_
            refine th_n ?_
            refine wp_reg ?_
            refine st_move hf rfl rfl (by decide) ?_
            clear hf; intro a ha hf; clear ha
            refine st_iadd hf (by decide) rfl rfl rfl ?_
            clear hf; intro a ha hf; clear ha
            refine st_assign hf rfl rfl (by decide) ?_
            clear hf; intro a ha hf; clear ha
            refine st_nil hf ?_
            obtain rfl := Option.some.inj h
            have hp : Hp _ _ w (Res.sl Ek.c128 36 v27 (one0 ++ [(Fl.bits 4618441417868443648, Fl.bits 0)]) :: ow) := Hp.sel (pre := [Res.sl Ek.c128 36 v24 ([(Fl.bits 4618441417868443648, Fl.bits 0)]), Res.sl Ek.c128 36 v27 (one0 ++ [(Fl.bits 4618441417868443648, Fl.bits 0)])]) (tail := ow) (rs' := [Res.sl Ek.c128 36 v27 (one0 ++ [(Fl.bits 4618441417868443648, Fl.bits 0)])]) hp [1] (by decide) (by simp) rfl
            exact rnd_l ⟨_, hf.sub ⟨rfl, rfl, rfl, rfl, trivial⟩, hp⟩
          · replace h := ifF h hb
            refine wp_exit ?_
            refine th_e ?_
            obtain rfl := Option.some.inj h
            exact rnd_r (by simp) ⟨rfl, _, hf.sub ⟨rfl, rfl, rfl, trivial⟩, hp⟩
        · clear hl hf hp
          intro e a w hne hO
          obtain ⟨rfl, v22, hf, hp⟩ := hO
          refine ib_same ?_
          refine th_n ?_
          refine wp_seq ?_
          refine wp_reg ?_
          refine st_move hf rfl rfl (by decide) ?_
          clear hf; intro a ha hf; clear ha
          refine st_move hf rfl rfl (by decide) ?_
          clear hf; intro a ha hf; clear ha
          obtain ⟨q29, hcall30, h⟩ := bnd h
          refine st_call hf (by decide) Try.func33 rfl rfl rfl rfl rfl (f_foghornref08_Same_c hp _ _ htwo1 _ _ hwant2 hcall30) ?_
          rintro _ w ⟨rfl, hp0⟩
          clear hp; have hp := hp0; clear hp0
          replace hp : Hp _ _ w (Res.sl Ek.c128 36 v22 q28 :: ow) := hp
          refine ⟨_, rfl, ?_⟩
          clear hf; intro a hf
          refine st_move hf rfl rfl (by decide) ?_
          clear hf; intro a ha hf; clear ha
          refine wpList_cut 7 (fun a w => Fr 46 a [(45, .bool (q29 && ((q28.length : Int) == (IntKind.i64.wrap ((want2.length : Int) + (20 : Int))))))] ∧ Hp S w0 w (Res.sl Ek.c128 36 v22 q28 :: ow)) ?_ ?_
          · rcases Bool.eq_false_or_eq_true q29 with hb32 | hb32
            · skip
              refine st_move hf (wantY hf rfl rfl hb32) rfl (by decide) ?_
              clear hf; intro a ha hf; clear ha
              refine st_len (E := Ek.c128) hf (by decide) Try.underlying24 (wantY hf rfl rfl hb32) rfl (hp.sl (i := 0) rfl) ?_
              clear hf; intro a ha hf; clear ha
              refine st_move hf (wantY hf rfl rfl hb32) rfl (by decide) ?_
              clear hf; intro a ha hf; clear ha
              refine st_len (E := Ek.c128) hf (by decide) Try.underlying24 (wantY hf rfl rfl hb32) rfl (hwant2.sl hp) ?_
              clear hf; intro a ha hf; clear ha
              refine st_iadd hf (by decide) (wantY hf rfl rfl hb32) rfl rfl ?_
              clear hf; intro a ha hf; clear ha
              refine st_ieql hf (by decide) (wantY hf rfl rfl hb32) rfl rfl ?_
              clear hf; intro a ha hf; clear ha
              refine st_pick (v := .bool ((q28.length : Int) == (IntKind.i64.wrap ((want2.length : Int) + (20 : Int))))) hf rfl rfl (fun hb' => ?_) (fun hb' => ?_) (by decide) ?_
              · rfl
              · exact absurd (hb32.symm.trans hb') (by decide)
              clear hf; intro a ha hf; clear ha
              refine st_nil hf (th_n ?_)
              exact ⟨hf.sub ⟨(by rw [hb32]; rfl), trivial⟩, hp⟩
            · skip
              refine st_skip hf (wantN hf rfl rfl hb32) rfl (by decide) ?_ rfl
              clear hf; intro a hf
              refine st_skip hf (wantN hf rfl rfl hb32) rfl (by decide) ?_ rfl
              clear hf; intro a hf
              refine st_skip hf (wantN hf rfl rfl hb32) rfl (by decide) ?_ rfl
              clear hf; intro a hf
              refine st_skip hf (wantN hf rfl rfl hb32) rfl (by decide) ?_ rfl
              clear hf; intro a hf
              refine st_skip hf (wantN hf rfl rfl hb32) rfl (by decide) ?_ rfl
              clear hf; intro a hf
              refine st_skip hf (wantN hf rfl rfl hb32) rfl (by decide) ?_ rfl
              clear hf; intro a hf
              refine st_pick (v := .bool false) hf rfl rfl (fun hb' => ?_) (fun hb' => ?_) (by decide) ?_
              · exact absurd (hb32.symm.trans hb') (by decide)
              · rfl
              clear hf; intro a ha hf; clear ha
              refine st_nil hf (th_n ?_)
              exact ⟨hf.sub ⟨(by rw [hb32]; rfl), trivial⟩, hp⟩
          · rintro a w ⟨hf, hp⟩
            refine st_assign hf rfl rfl (by decide) ?_
            clear hf; intro a ha hf; clear ha
            refine st_nil hf ?_
            refine th_n ?_
            refine wp_ret ?_
            obtain rfl := Option.some.inj h
            have hp : Hp _ _ w (ow) := Hp.sel (pre := [Res.sl Ek.c128 36 v22 q28]) (tail := ow) (rs' := []) hp [] (by decide) (by simp) rfl
            exact ⟨rfl, ⟨hf.sub ⟨rfl, trivial⟩, hp⟩⟩

noncomputable def f_foghornlaw08_kept.s1c (z0 : (List (Fl × Fl))) (l1 : (List Int)) (i6 : Int) : Option (Int ⊕ (Unit ⊕ Bool)) := (if (decide (i6 < (z0.length : Int))) = true then (if 0 ≤ i6 ∧ i6 < (z0.length : Int) then ((fbits ((gt z0 i6).1)).bind fun q18 => (if 0 ≤ (IntKind.i64.wrap ((2 : Int) * i6)) ∧ (IntKind.i64.wrap ((2 : Int) * i6)) < (l1.length : Int) then ((if (q18 != (gt l1 (IntKind.i64.wrap ((2 : Int) * i6)))) = true then (some true) else (if 0 ≤ i6 ∧ i6 < (z0.length : Int) then ((fbits ((gt z0 i6).2)).bind fun q30 => (if 0 ≤ (IntKind.i64.wrap ((IntKind.i64.wrap ((2 : Int) * i6)) + (1 : Int))) ∧ (IntKind.i64.wrap ((IntKind.i64.wrap ((2 : Int) * i6)) + (1 : Int))) < (l1.length : Int) then (some (q30 != (gt l1 (IntKind.i64.wrap ((IntKind.i64.wrap ((2 : Int) * i6)) + (1 : Int)))))) else none)) else none)).bind fun z34 => (if z34 = true then (some (Sum.inr (Sum.inr false))) else (some (Sum.inl (IntKind.i64.wrap (i6 + (1 : Int))))))) else none)) else none) else (some (Sum.inr (Sum.inl ()))))
noncomputable def f_foghornlaw08_kept.s1 (z0 : (List (Fl × Fl))) (l1 : (List Int)) (s : Int) : Option (Int ⊕ (Unit ⊕ Bool)) := f_foghornlaw08_kept.s1c z0 l1 s
noncomputable def f_foghornlaw08_kept (z0 : (List (Fl × Fl))) (z0S : (List (Fl × Fl))) (l1 : (List Int)) : Option Bool := ((if ((z0.length : Int) != (IntKind.i64.wrap (((l1.length : Int)).tdiv (2 : Int)))) = true then (some true) else (if 0 ≤ (IntKind.i64.wrap ((z0.length : Int) + (1 : Int))) ∧ (IntKind.i64.wrap ((z0.length : Int) + (1 : Int))) ≤ ((z0 ++ z0S).length : Int) then (if 0 ≤ (z0.length : Int) ∧ (z0.length : Int) < (((z0 ++ z0S).take (((IntKind.i64.wrap ((z0.length : Int) + (1 : Int)))).toNat)).length : Int) then (some (!ceq (gt ((z0 ++ z0S).take (((IntKind.i64.wrap ((z0.length : Int) + (1 : Int)))).toNat)) (z0.length : Int)) (Fl.bits 4651892959631900672, Fl.bits 0))) else none) else none)).bind fun z3 => (if z3 = true then (some false) else ((loop (f_foghornlaw08_kept.s1 z0 l1) (0 : Int)).bind (fun q35 => sm q35 (fun q36 => (some true)) (fun q37 => (some q37))))))
theorem f_foghornlaw08_kept_c {S : Nat → Prop} {w0 w : World} {ow : List Res} (hp : Hp S w0 w ow) (vz0 : Value) (z0 : (List (Fl × Fl))) (z0S : (List (Fl × Fl))) (hz0 : RdX Ek.c128 S w0 vz0 z0 z0S) (vl1 : Value) (l1 : (List Int)) (hl1 : RdS (Ek.int .u64) S w0 vl1 l1) {r : Bool} (h : f_foghornlaw08_kept z0 z0S l1 = some r) :
    Calls Try.prog 13 #[vz0, vl1] w (fun e w' => e = .returned (.bool r) ∧ Hp S w0 w' (ow)) := by
  unfold f_foghornlaw08_kept at h
  refine enter (n := 56) (args := [vz0, vl1]) Try.func13 rfl rfl (Nat.le_of_ble_eq_true rfl) fun a hf => ?_
  replace hf : Fr 56 a [(0, vz0), (1, vl1)] := hf
  refine wp_mono (Q := fun e a w => e = .ret ∧ Fr 56 a [(4, .bool r)] ∧ Hp S w0 w (ow)) ?_ ?_
  rotate_left
  · rintro e a w ⟨rfl, hf, hp⟩
    exact ret1 hf rfl rfl ⟨rfl, hp⟩
  refine wp_seq ?_
  refine wp_reg ?_
  refine st_assign hf rfl rfl (by decide) ?_
  clear hf; intro a ha hf; clear ha
  refine st_nil hf ?_
  refine th_n ?_
  refine wp_seq ?_
  refine wp_reg ?_
  refine st_move hf rfl rfl (by decide) ?_
  clear hf; intro a ha hf; clear ha
  refine st_len (E := Ek.c128) hf (by decide) Try.underlying24 rfl rfl (hz0.rd.sl hp) ?_
  clear hf; intro a ha hf; clear ha
  refine st_assign hf rfl rfl (by decide) ?_
  clear hf; intro a ha hf; clear ha
  refine st_nil hf ?_
  refine th_n ?_
  refine wp_seq ?_
  refine wp_seq ?_
  refine wp_reg ?_
  refine st_move hf rfl rfl (by decide) ?_
  clear hf; intro a ha hf; clear ha
  refine st_move hf rfl rfl (by decide) ?_
  clear hf; intro a ha hf; clear ha
  refine st_len (E := (Ek.int .u64)) hf (by decide) Try.underlying22 rfl rfl (hl1.sl hp) ?_
  clear hf; intro a ha hf; clear ha
  refine st_iquo hf (by decide) rfl rfl rfl (by decide) ?_
  clear hf; intro a ha hf; clear ha
  refine st_ineq hf (by decide) rfl rfl rfl ?_
  clear hf; intro a ha hf; clear ha
  refine st_move hf rfl rfl (by decide) ?_
  clear hf; intro a ha hf; clear ha
  obtain ⟨z3, hz1, h⟩ := bnd h
  refine wpList_cut 9 (fun a w => Fr 56 a [(0, vz0), (1, vl1), (5, .int .i64 (z0.length : Int)), (23, .bool z3)] ∧ Hp S w0 w (ow)) ?_ ?_
  · rcases Bool.eq_false_or_eq_true ((z0.length : Int) != (IntKind.i64.wrap (((l1.length : Int)).tdiv (2 : Int)))) with hb2 | hb2
    · skip
      replace hz1 := ifT hz1 hb2
      refine st_skip hf (wantN hf rfl rfl hb2) rfl (by decide) ?_ rfl
      clear hf; intro a hf
      refine st_skip hf (wantN hf rfl rfl hb2) rfl (by decide) ?_ rfl
      clear hf; intro a hf
      refine st_skip hf (wantN hf rfl rfl hb2) rfl (by decide) ?_ rfl
      clear hf; intro a hf
      refine st_skip hf (wantN hf rfl rfl hb2) rfl (by decide) ?_ rfl
      clear hf; intro a hf
      refine st_skip hf (wantN hf rfl rfl hb2) rfl (by decide) ?_ rfl
      clear hf; intro a hf
      refine st_skip hf (wantN hf rfl rfl hb2) rfl (by decide) ?_ rfl
      clear hf; intro a hf
      refine st_skip hf (wantN hf rfl rfl hb2) rfl (by decide) ?_ rfl
      clear hf; intro a hf
      refine st_skip hf (wantN hf rfl rfl hb2) rfl (by decide) ?_ rfl
      clear hf; intro a hf
      obtain rfl := Option.some.inj hz1
      refine st_pick (v := .bool true) hf rfl rfl (fun hb' => ?_) (fun hb' => ?_) (by decide) ?_
      · rfl
      · exact absurd (hb2.symm.trans hb') (by decide)
      clear hf; intro a ha hf; clear ha
      refine st_nil hf (th_n ?_)
      exact ⟨hf.sub ⟨rfl, rfl, rfl, rfl, trivial⟩, hp⟩
    · skip
      replace hz1 := ifF hz1 hb2
      refine st_move hf (wantY hf rfl rfl hb2) rfl (by decide) ?_
      clear hf; intro a ha hf; clear ha
      refine st_move hf (wantY hf rfl rfl hb2) rfl (by decide) ?_
      clear hf; intro a ha hf; clear ha
      refine st_iadd hf (by decide) (wantY hf rfl rfl hb2) rfl rfl ?_
      clear hf; intro a ha hf; clear ha
      obtain ⟨hc4, hz1⟩ := chk hz1
      have hc5 : 0 ≤ ((IntKind.i64.wrap ((z0.length : Int) + (1 : Int)))).toNat := by omega
      have hc6 : ((IntKind.i64.wrap ((z0.length : Int) + (1 : Int)))).toNat ≤ (z0 ++ z0S).length := by omega
      refine st_cutXr (E := Ek.c128) hf (by decide) Try.underlying24 elt36 (hz0.now hp) (wantY hf rfl rfl hb2) rfl (.inl ⟨rfl, rfl⟩) (.inr ⟨_, _, rfl, evI rfl (by omega)⟩) hc5 hc6 ?_
      clear hf; intro a ha hf; clear ha
      refine st_move hf (wantY hf rfl rfl hb2) rfl (by decide) ?_
      clear hf; intro a ha hf; clear ha
      obtain ⟨hc7, hz1⟩ := chk hz1
      refine st_index (E := Ek.c128) hf (by decide) Try.underlying24 elt36 (wantY hf rfl rfl hb2) rfl rfl ((RdX.take hz0 hc6).sl hp) hc7.1 hc7.2 ?_
      clear hf; intro a ha hf; clear ha
      refine st_ldC hf (by decide) pl36 (wantY hf rfl rfl hb2) rfl ((RdX.take hz0 hc6).sl hp) hc7.1 hc7.2 ?_
      clear hf; intro a b8 b9 y10 y11 ha hf; clear ha
      refine st_ccmp (r_cne (x := (gt ((z0 ++ z0S).take (((IntKind.i64.wrap ((z0.length : Int) + (1 : Int)))).toNat)) (z0.length : Int))) (y := (Fl.bits 4651892959631900672, Fl.bits 0)) y10 y11 rfl rfl) hf (by decide) (wantY hf rfl rfl hb2) rfl rfl ?_
      clear hf; intro a ha hf; clear ha
      obtain rfl := Option.some.inj hz1
      refine st_pick (v := .bool (!ceq (gt ((z0 ++ z0S).take (((IntKind.i64.wrap ((z0.length : Int) + (1 : Int)))).toNat)) (z0.length : Int)) (Fl.bits 4651892959631900672, Fl.bits 0))) hf rfl rfl (fun hb' => ?_) (fun hb' => ?_) (by decide) ?_
      · exact absurd (hb2.symm.trans hb') (by decide)
      · rfl
      clear hf; intro a ha hf; clear ha
      refine st_nil hf (th_n ?_)
      exact ⟨hf.sub ⟨rfl, rfl, rfl, rfl, trivial⟩, hp⟩
  · rintro a w ⟨hf, hp⟩
    refine st_nil hf ?_
    refine th_n ?_
    refine wp_if hf rfl (fun hb => ?_) (fun hb => ?_)
    · replace h := ifT h hb
      refine wp_seq ?_
      refine wp_reg ?_
      refine st_assign hf rfl rfl (by decide) ?_
      clear hf; intro a ha hf; clear ha
      refine st_nil hf ?_
      refine th_n ?_
      refine wp_ret ?_
      refine th_r ?_
      obtain rfl := Option.some.inj h
      exact ⟨rfl, ⟨hf.sub ⟨rfl, trivial⟩, hp⟩⟩
    · replace h := ifF h hb
      refine wp_skip ?_
      refine th_n ?_
      refine wp_seq ?_
      refine wp_seq ?_
      refine wp_reg ?_
      refine st_assign hf rfl rfl (by decide) ?_
      clear hf; intro a ha hf; clear ha
      refine st_nil hf ?_
      refine th_n ?_
      refine wp_block ?_
      obtain ⟨q35, hl, h⟩ := bnd h
      refine wp_loop_pure (f := (f_foghornlaw08_kept.s1 z0 l1)) (s := (0 : Int)) (fun s a w => Fr 56 a [(0, vz0), (1, vl1), (5, .int .i64 (z0.length : Int)), (6, .int .i64 s)] ∧ Hp S w0 w (ow)) (fun q e a w => match q with | (Sum.inl q) => e = .exit 0 ∧ Fr 56 a [] ∧ Hp S w0 w (ow) | (Sum.inr q) => e = .ret ∧ Fr 56 a [(4, .bool q)] ∧ Hp S w0 w (ow)) ?_ hl ⟨hf.sub ⟨rfl, rfl, rfl, rfl, trivial⟩, hp⟩ ?_
      · clear hl hf hp
        intro s x a w h hI
        obtain ⟨i6, hs⟩ : ∃ z, z = s := ⟨s, rfl⟩; subst hs
        obtain ⟨hf, hp⟩ : Fr 56 a [(0, vz0), (1, vl1), (5, .int .i64 (z0.length : Int)), (6, .int .i64 i6)] ∧ Hp S w0 w (ow) := hI
        replace h : f_foghornlaw08_kept.s1c z0 l1 i6 = some x := h
        unfold f_foghornlaw08_kept.s1c at h
        refine wp_seq ?_
        refine wp_seq ?_
        refine wp_reg ?_
        refine st_move hf rfl rfl (by decide) ?_
        clear hf; intro a ha hf; clear ha
        refine st_move hf rfl rfl (by decide) ?_
        clear hf; intro a ha hf; clear ha
        refine st_ilss hf (by decide) rfl rfl rfl ?_
        clear hf; intro a ha hf; clear ha
        refine st_nil hf ?_
        refine th_n ?_
        refine wp_if hf rfl (fun hb => ?_) (fun hb => ?_)
        · replace h := ifT h hb
          refine wp_skip ?_
          refine th_n ?_
          refine wp_seq ?_
          refine wp_block ?_
          refine wp_seq ?_
          obtain ⟨hc12, h⟩ := chk h
          obtain ⟨b14, b15, y16, y17, hl13⟩ := RdS.pinC (p := i6) hz0.rd hc12.1 hc12.2
          obtain ⟨q18, hq19, h⟩ := bnd h
          obtain ⟨hc21, h⟩ := chk h
          obtain ⟨z34, hz22, h⟩ := bnd h
          refine wp_cutN (fun a w => Fr 56 a [(0, vz0), (1, vl1), (5, .int .i64 (z0.length : Int)), (6, .int .i64 i6), (55, .bool z34)] ∧ Hp S w0 w (ow)) ?_ ?_
          · have hp := hp.same (Same.drew w)
            rcases Bool.eq_false_or_eq_true (q18 != (gt l1 (IntKind.i64.wrap ((2 : Int) * i6)))) with hb23 | hb23
            · skip
              replace hz22 := ifT hz22 hb23
              replace hz22 := Option.some.inj hz22
              refine dr_begin' (fun a w => Fr 56 a [(0, vz0), (1, vl1), (5, .int .i64 (z0.length : Int)), (6, .int .i64 i6), (55, .bool z34)] ∧ Hp S w0 w (ow)) (fun w' => ∃ l, Hp S w0 w' l) [] (by kernel_rfl) ?_
              refine dr_take 0 (vz0) rfl (by kernel_rfl) (by kernel_rfl) (by kernel_rfl) (by kernel_rfl) rfl rfl hf (by decide) rfl (fun w hp => ?_) ⟨_, hp⟩ ?_
              · obtain ⟨_, hp⟩ := hp
                refine st_move hf rfl rfl (by decide) ?_
                clear hf; intro a ha hf
                exact st_nil hf (th_n ⟨ha, rfl⟩)
              clear hf; intro a hf
              refine dr_take 1 (.int .i64 i6) rfl (by kernel_rfl) (by kernel_rfl) (by kernel_rfl) (by kernel_rfl) rfl rfl hf (by decide) rfl (fun w hp => ?_) ⟨_, hp⟩ ?_
              · obtain ⟨_, hp⟩ := hp
                refine st_move hf rfl rfl (by decide) ?_
                clear hf; intro a ha hf
                exact st_nil hf (th_n ⟨ha, rfl⟩)
              clear hf; intro a hf
              refine dr_take 2 (eptr vz0 i6 1) rfl (by kernel_rfl) (by kernel_rfl) (by kernel_rfl) (by kernel_rfl) rfl rfl hf (by decide) rfl (fun w hp => ?_) ⟨_, hp⟩ ?_
              · obtain ⟨_, hp⟩ := hp
                refine st_index (E := Ek.c128) hf (by decide) Try.underlying24 elt36 rfl rfl rfl (hz0.rd.sl hp) hc12.1 hc12.2 ?_
                clear hf; intro a ha hf
                exact st_nil hf (th_n ⟨ha, rfl⟩)
              clear hf; intro a hf
              refine dr_take 3 (.complex .f64 b14 b15) rfl (by kernel_rfl) (by kernel_rfl) (by kernel_rfl) (by kernel_rfl) rfl rfl hf (by decide) rfl (fun w hp => ?_) ⟨_, hp⟩ ?_
              · obtain ⟨_, hp⟩ := hp
                refine st_ldP hf (by decide) pl36 rfl rfl (hl13 _ _ hp) ?_
                clear hf; intro a ha hf
                exact st_nil hf (th_n ⟨ha, rfl⟩)
              clear hf; intro a hf
              refine dr_take 4 (.float .f64 b14) rfl (by kernel_rfl) (by kernel_rfl) (by kernel_rfl) (by kernel_rfl) rfl rfl hf (by decide) rfl (fun w hp => ?_) ⟨_, hp⟩ ?_
              · obtain ⟨_, hp⟩ := hp
                refine st_real hf (by decide) rfl rfl ?_
                clear hf; intro a ha hf
                exact st_nil hf (th_n ⟨ha, rfl⟩)
              clear hf; intro a hf
              refine dr_take 6 (vl1) rfl (by kernel_rfl) (by kernel_rfl) (by kernel_rfl) (by kernel_rfl) rfl rfl hf (by decide) rfl (fun w hp => ?_) ⟨_, hp⟩ ?_
              · obtain ⟨_, hp⟩ := hp
                refine st_move hf rfl rfl (by decide) ?_
                clear hf; intro a ha hf
                exact st_nil hf (th_n ⟨ha, rfl⟩)
              clear hf; intro a hf
              refine dr_take 7 (.int .i64 i6) rfl (by kernel_rfl) (by kernel_rfl) (by kernel_rfl) (by kernel_rfl) rfl rfl hf (by decide) rfl (fun w hp => ?_) ⟨_, hp⟩ ?_
              · obtain ⟨_, hp⟩ := hp
                refine st_move hf rfl rfl (by decide) ?_
                clear hf; intro a ha hf
                exact st_nil hf (th_n ⟨ha, rfl⟩)
              clear hf; intro a hf
              refine dr_take 8 (.int .i64 (IntKind.i64.wrap ((2 : Int) * i6))) rfl (by kernel_rfl) (by kernel_rfl) (by kernel_rfl) (by kernel_rfl) rfl rfl hf (by decide) rfl (fun w hp => ?_) ⟨_, hp⟩ ?_
              · obtain ⟨_, hp⟩ := hp
                refine st_imul hf (by decide) rfl rfl rfl ?_
                clear hf; intro a ha hf
                exact st_nil hf (th_n ⟨ha, rfl⟩)
              clear hf; intro a hf
              refine dr_take 9 (eptr vl1 (IntKind.i64.wrap ((2 : Int) * i6)) 1) rfl (by kernel_rfl) (by kernel_rfl) (by kernel_rfl) (by kernel_rfl) rfl rfl hf (by decide) rfl (fun w hp => ?_) ⟨_, hp⟩ ?_
              · obtain ⟨_, hp⟩ := hp
                refine st_index (E := (Ek.int .u64)) hf (by decide) Try.underlying22 elt42 rfl rfl rfl (hl1.sl hp) hc21.1 hc21.2 ?_
                clear hf; intro a ha hf
                exact st_nil hf (th_n ⟨ha, rfl⟩)
              clear hf; intro a hf
              refine dr_take 10 (.int .u64 (gt l1 (IntKind.i64.wrap ((2 : Int) * i6)))) rfl (by kernel_rfl) (by kernel_rfl) (by kernel_rfl) (by kernel_rfl) rfl rfl hf (by decide) rfl (fun w hp => ?_) ⟨_, hp⟩ ?_
              · obtain ⟨_, hp⟩ := hp
                refine st_ldI hf (by decide) pl42 rfl rfl (hl1.sl hp) hc21.1 hc21.2 ?_
                clear hf; intro a ha hf
                exact st_nil hf (th_n ⟨ha, rfl⟩)
              clear hf; intro a hf
              refine dr_one 5 rfl (by kernel_rfl) ?_
              refine st_extern (ex := Extern.MathFloatBits.float64bits) (r := .int .u64 (b14 : Int)) (f := 30) (vs := [.float .f64 b14]) hf (by decide) Try.func30 rfl rfl (by kernel_rfl) (by kernel_rfl) rfl rfl rfl rfl ?_
              clear hf; intro a ha hf; clear ha
              have he20 := fbits_rep y16 hq19; rw [← he20] at hf
              refine st_nil hf (th_n ⟨fun _ _ => ⟨_, hp⟩, ?_⟩)
              refine dr_take 11 (.bool (q18 != (gt l1 (IntKind.i64.wrap ((2 : Int) * i6))))) rfl (by kernel_rfl) (by kernel_rfl) (by kernel_rfl) (by kernel_rfl) rfl rfl hf (by decide) rfl (fun w hp => ?_) ⟨_, hp⟩ ?_
              · obtain ⟨_, hp⟩ := hp
                refine st_ineq hf (by decide) rfl rfl rfl ?_
                clear hf; intro a ha hf
                exact st_nil hf (th_n ⟨ha, rfl⟩)
              clear hf; intro a hf
              refine dr_take 12 (.bool (q18 != (gt l1 (IntKind.i64.wrap ((2 : Int) * i6))))) rfl (by kernel_rfl) (by kernel_rfl) (by kernel_rfl) (by kernel_rfl) rfl rfl hf (by decide) rfl (fun w hp => ?_) ⟨_, hp⟩ ?_
              · obtain ⟨_, hp⟩ := hp
                refine st_move hf rfl rfl (by decide) ?_
                clear hf; intro a ha hf
                exact st_nil hf (th_n ⟨ha, rfl⟩)
              clear hf; intro a hf
              refine dr_out 13 rfl (by kernel_rfl) (by kernel_rfl) (by kernel_rfl) (by kernel_rfl) rfl hf (by decide) rfl (wantN hf rfl rfl hb23) ⟨_, hp⟩ ?_
              clear hf; intro a hf
              refine dr_out 14 rfl (by kernel_rfl) (by kernel_rfl) (by kernel_rfl) (by kernel_rfl) rfl hf (by decide) rfl (wantN hf rfl rfl hb23) ⟨_, hp⟩ ?_
              clear hf; intro a hf
              refine dr_out 15 rfl (by kernel_rfl) (by kernel_rfl) (by kernel_rfl) (by kernel_rfl) rfl hf (by decide) rfl (wantN hf rfl rfl hb23) ⟨_, hp⟩ ?_
              clear hf; intro a hf
              refine dr_out 16 rfl (by kernel_rfl) (by kernel_rfl) (by kernel_rfl) (by kernel_rfl) rfl hf (by decide) rfl (wantN hf rfl rfl hb23) ⟨_, hp⟩ ?_
              clear hf; intro a hf
              refine dr_out 17 rfl (by kernel_rfl) (by kernel_rfl) (by kernel_rfl) (by kernel_rfl) rfl hf (by decide) rfl (wantN hf rfl rfl hb23) ⟨_, hp⟩ ?_
              clear hf; intro a hf
              refine dr_out 18 rfl (by kernel_rfl) (by kernel_rfl) (by kernel_rfl) (by kernel_rfl) rfl hf (by decide) rfl (wantN hf rfl rfl hb23) ⟨_, hp⟩ ?_
              clear hf; intro a hf
              refine dr_out 19 rfl (by kernel_rfl) (by kernel_rfl) (by kernel_rfl) (by kernel_rfl) rfl hf (by decide) rfl (wantN hf rfl rfl hb23) ⟨_, hp⟩ ?_
              clear hf; intro a hf
              refine dr_out 20 rfl (by kernel_rfl) (by kernel_rfl) (by kernel_rfl) (by kernel_rfl) rfl hf (by decide) rfl (wantN hf rfl rfl hb23) ⟨_, hp⟩ ?_
              clear hf; intro a hf
              refine dr_out 21 rfl (by kernel_rfl) (by kernel_rfl) (by kernel_rfl) (by kernel_rfl) rfl hf (by decide) rfl (wantN hf rfl rfl hb23) ⟨_, hp⟩ ?_
              clear hf; intro a hf
              refine dr_out 22 rfl (by kernel_rfl) (by kernel_rfl) (by kernel_rfl) (by kernel_rfl) rfl hf (by decide) rfl (wantN hf rfl rfl hb23) ⟨_, hp⟩ ?_
              clear hf; intro a hf
              refine dr_out 23 rfl (by kernel_rfl) (by kernel_rfl) (by kernel_rfl) (by kernel_rfl) rfl hf (by decide) rfl (wantN hf rfl rfl hb23) ⟨_, hp⟩ ?_
              clear hf; intro a hf
              refine dr_out 24 rfl (by kernel_rfl) (by kernel_rfl) (by kernel_rfl) (by kernel_rfl) rfl hf (by decide) rfl (wantN hf rfl rfl hb23) ⟨_, hp⟩ ?_
              clear hf; intro a hf
              refine dr_out 25 rfl (by kernel_rfl) (by kernel_rfl) (by kernel_rfl) (by kernel_rfl) rfl hf (by decide) rfl (wantN hf rfl rfl hb23) ⟨_, hp⟩ ?_
              clear hf; intro a hf
              refine dr_take 26 (.bool z34) rfl (by kernel_rfl) (by kernel_rfl) (by kernel_rfl) (by kernel_rfl) rfl rfl hf (by decide) rfl (fun w hp => ?_) ⟨_, hp⟩ ?_
              · obtain ⟨_, hp⟩ := hp
                refine st_pick (v := .bool z34) hf rfl rfl (fun _ => by rw [← hz22]; rfl) (fun hb' => absurd (hb23.symm.trans hb') (by decide)) (by decide) ?_
                clear hf; intro a ha hf
                exact st_nil hf (th_n ⟨ha, rfl⟩)
              clear hf; intro a hf
              refine dr_end (by kernel_rfl) ?_ _
              exact ⟨hf.sub ⟨rfl, rfl, rfl, rfl, rfl, trivial⟩, hp⟩
            · skip
              replace hz22 := ifF hz22 hb23
              obtain ⟨hc24, hz22⟩ := chk hz22
              obtain ⟨b26, b27, y28, y29, hl25⟩ := RdS.pinC (p := i6) hz0.rd hc24.1 hc24.2
              obtain ⟨q30, hq31, hz22⟩ := bnd hz22
              obtain ⟨hc33, hz22⟩ := chk hz22
              replace hz22 := Option.some.inj hz22
              refine dr_begin' (fun a w => Fr 56 a [(0, vz0), (1, vl1), (5, .int .i64 (z0.length : Int)), (6, .int .i64 i6), (55, .bool z34)] ∧ Hp S w0 w (ow)) (fun w' => ∃ l, Hp S w0 w' l) [] (by kernel_rfl) ?_
              refine dr_take 0 (vz0) rfl (by kernel_rfl) (by kernel_rfl) (by kernel_rfl) (by kernel_rfl) rfl rfl hf (by decide) rfl (fun w hp => ?_) ⟨_, hp⟩ ?_
              · obtain ⟨_, hp⟩ := hp
                refine st_move hf rfl rfl (by decide) ?_
                clear hf; intro a ha hf
                exact st_nil hf (th_n ⟨ha, rfl⟩)
              clear hf; intro a hf
              refine dr_take 1 (.int .i64 i6) rfl (by kernel_rfl) (by kernel_rfl) (by kernel_rfl) (by kernel_rfl) rfl rfl hf (by decide) rfl (fun w hp => ?_) ⟨_, hp⟩ ?_
              · obtain ⟨_, hp⟩ := hp
                refine st_move hf rfl rfl (by decide) ?_
                clear hf; intro a ha hf
                exact st_nil hf (th_n ⟨ha, rfl⟩)
              clear hf; intro a hf
              refine dr_take 2 (eptr vz0 i6 1) rfl (by kernel_rfl) (by kernel_rfl) (by kernel_rfl) (by kernel_rfl) rfl rfl hf (by decide) rfl (fun w hp => ?_) ⟨_, hp⟩ ?_
              · obtain ⟨_, hp⟩ := hp
                refine st_index (E := Ek.c128) hf (by decide) Try.underlying24 elt36 rfl rfl rfl (hz0.rd.sl hp) hc12.1 hc12.2 ?_
                clear hf; intro a ha hf
                exact st_nil hf (th_n ⟨ha, rfl⟩)
              clear hf; intro a hf
              refine dr_take 3 (.complex .f64 b14 b15) rfl (by kernel_rfl) (by kernel_rfl) (by kernel_rfl) (by kernel_rfl) rfl rfl hf (by decide) rfl (fun w hp => ?_) ⟨_, hp⟩ ?_
              · obtain ⟨_, hp⟩ := hp
                refine st_ldP hf (by decide) pl36 rfl rfl (hl13 _ _ hp) ?_
                clear hf; intro a ha hf
                exact st_nil hf (th_n ⟨ha, rfl⟩)
              clear hf; intro a hf
              refine dr_take 4 (.float .f64 b14) rfl (by kernel_rfl) (by kernel_rfl) (by kernel_rfl) (by kernel_rfl) rfl rfl hf (by decide) rfl (fun w hp => ?_) ⟨_, hp⟩ ?_
              · obtain ⟨_, hp⟩ := hp
                refine st_real hf (by decide) rfl rfl ?_
                clear hf; intro a ha hf
                exact st_nil hf (th_n ⟨ha, rfl⟩)
              clear hf; intro a hf
              refine dr_take 6 (vl1) rfl (by kernel_rfl) (by kernel_rfl) (by kernel_rfl) (by kernel_rfl) rfl rfl hf (by decide) rfl (fun w hp => ?_) ⟨_, hp⟩ ?_
              · obtain ⟨_, hp⟩ := hp
                refine st_move hf rfl rfl (by decide) ?_
                clear hf; intro a ha hf
                exact st_nil hf (th_n ⟨ha, rfl⟩)
              clear hf; intro a hf
              refine dr_take 7 (.int .i64 i6) rfl (by kernel_rfl) (by kernel_rfl) (by kernel_rfl) (by kernel_rfl) rfl rfl hf (by decide) rfl (fun w hp => ?_) ⟨_, hp⟩ ?_
              · obtain ⟨_, hp⟩ := hp
                refine st_move hf rfl rfl (by decide) ?_
                clear hf; intro a ha hf
                exact st_nil hf (th_n ⟨ha, rfl⟩)
              clear hf; intro a hf
              refine dr_take 8 (.int .i64 (IntKind.i64.wrap ((2 : Int) * i6))) rfl (by kernel_rfl) (by kernel_rfl) (by kernel_rfl) (by kernel_rfl) rfl rfl hf (by decide) rfl (fun w hp => ?_) ⟨_, hp⟩ ?_
              · obtain ⟨_, hp⟩ := hp
                refine st_imul hf (by decide) rfl rfl rfl ?_
                clear hf; intro a ha hf
                exact st_nil hf (th_n ⟨ha, rfl⟩)
              clear hf; intro a hf
              refine dr_take 9 (eptr vl1 (IntKind.i64.wrap ((2 : Int) * i6)) 1) rfl (by kernel_rfl) (by kernel_rfl) (by kernel_rfl) (by kernel_rfl) rfl rfl hf (by decide) rfl (fun w hp => ?_) ⟨_, hp⟩ ?_
              · obtain ⟨_, hp⟩ := hp
                refine st_index (E := (Ek.int .u64)) hf (by decide) Try.underlying22 elt42 rfl rfl rfl (hl1.sl hp) hc21.1 hc21.2 ?_
                clear hf; intro a ha hf
                exact st_nil hf (th_n ⟨ha, rfl⟩)
              clear hf; intro a hf
              refine dr_take 10 (.int .u64 (gt l1 (IntKind.i64.wrap ((2 : Int) * i6)))) rfl (by kernel_rfl) (by kernel_rfl) (by kernel_rfl) (by kernel_rfl) rfl rfl hf (by decide) rfl (fun w hp => ?_) ⟨_, hp⟩ ?_
              · obtain ⟨_, hp⟩ := hp
                refine st_ldI hf (by decide) pl42 rfl rfl (hl1.sl hp) hc21.1 hc21.2 ?_
                clear hf; intro a ha hf
                exact st_nil hf (th_n ⟨ha, rfl⟩)
              clear hf; intro a hf
              refine dr_one 5 rfl (by kernel_rfl) ?_
              refine st_extern (ex := Extern.MathFloatBits.float64bits) (r := .int .u64 (b14 : Int)) (f := 30) (vs := [.float .f64 b14]) hf (by decide) Try.func30 rfl rfl (by kernel_rfl) (by kernel_rfl) rfl rfl rfl rfl ?_
              clear hf; intro a ha hf; clear ha
              have he20 := fbits_rep y16 hq19; rw [← he20] at hf
              refine st_nil hf (th_n ⟨fun _ _ => ⟨_, hp⟩, ?_⟩)
              refine dr_take 11 (.bool (q18 != (gt l1 (IntKind.i64.wrap ((2 : Int) * i6))))) rfl (by kernel_rfl) (by kernel_rfl) (by kernel_rfl) (by kernel_rfl) rfl rfl hf (by decide) rfl (fun w hp => ?_) ⟨_, hp⟩ ?_
              · obtain ⟨_, hp⟩ := hp
                refine st_ineq hf (by decide) rfl rfl rfl ?_
                clear hf; intro a ha hf
                exact st_nil hf (th_n ⟨ha, rfl⟩)
              clear hf; intro a hf
              refine dr_take 12 (.bool (q18 != (gt l1 (IntKind.i64.wrap ((2 : Int) * i6))))) rfl (by kernel_rfl) (by kernel_rfl) (by kernel_rfl) (by kernel_rfl) rfl rfl hf (by decide) rfl (fun w hp => ?_) ⟨_, hp⟩ ?_
              · obtain ⟨_, hp⟩ := hp
                refine st_move hf rfl rfl (by decide) ?_
                clear hf; intro a ha hf
                exact st_nil hf (th_n ⟨ha, rfl⟩)
              clear hf; intro a hf
              refine dr_take 13 (vz0) rfl (by kernel_rfl) (by kernel_rfl) (by kernel_rfl) (by kernel_rfl) rfl rfl hf (by decide) (wantY hf rfl rfl hb23) (fun w hp => ?_) ⟨_, hp⟩ ?_
              · obtain ⟨_, hp⟩ := hp
                refine st_move hf (wantY hf rfl rfl hb23) rfl (by decide) ?_
                clear hf; intro a ha hf
                exact st_nil hf (th_n ⟨ha, rfl⟩)
              clear hf; intro a hf
              refine dr_take 14 (.int .i64 i6) rfl (by kernel_rfl) (by kernel_rfl) (by kernel_rfl) (by kernel_rfl) rfl rfl hf (by decide) (wantY hf rfl rfl hb23) (fun w hp => ?_) ⟨_, hp⟩ ?_
              · obtain ⟨_, hp⟩ := hp
                refine st_move hf (wantY hf rfl rfl hb23) rfl (by decide) ?_
                clear hf; intro a ha hf
                exact st_nil hf (th_n ⟨ha, rfl⟩)
              clear hf; intro a hf
              refine dr_take 15 (eptr vz0 i6 1) rfl (by kernel_rfl) (by kernel_rfl) (by kernel_rfl) (by kernel_rfl) rfl rfl hf (by decide) (wantY hf rfl rfl hb23) (fun w hp => ?_) ⟨_, hp⟩ ?_
              · obtain ⟨_, hp⟩ := hp
                refine st_index (E := Ek.c128) hf (by decide) Try.underlying24 elt36 (wantY hf rfl rfl hb23) rfl rfl (hz0.rd.sl hp) hc24.1 hc24.2 ?_
                clear hf; intro a ha hf
                exact st_nil hf (th_n ⟨ha, rfl⟩)
              clear hf; intro a hf
              refine dr_take 16 (.complex .f64 b26 b27) rfl (by kernel_rfl) (by kernel_rfl) (by kernel_rfl) (by kernel_rfl) rfl rfl hf (by decide) (wantY hf rfl rfl hb23) (fun w hp => ?_) ⟨_, hp⟩ ?_
              · obtain ⟨_, hp⟩ := hp
                refine st_ldP hf (by decide) pl36 (wantY hf rfl rfl hb23) rfl (hl25 _ _ hp) ?_
                clear hf; intro a ha hf
                exact st_nil hf (th_n ⟨ha, rfl⟩)
              clear hf; intro a hf
              refine dr_take 17 (.float .f64 b27) rfl (by kernel_rfl) (by kernel_rfl) (by kernel_rfl) (by kernel_rfl) rfl rfl hf (by decide) (wantY hf rfl rfl hb23) (fun w hp => ?_) ⟨_, hp⟩ ?_
              · obtain ⟨_, hp⟩ := hp
                refine st_imag hf (by decide) (wantY hf rfl rfl hb23) rfl ?_
                clear hf; intro a ha hf
                exact st_nil hf (th_n ⟨ha, rfl⟩)
              clear hf; intro a hf
              refine dr_take 19 (vl1) rfl (by kernel_rfl) (by kernel_rfl) (by kernel_rfl) (by kernel_rfl) rfl rfl hf (by decide) (wantY hf rfl rfl hb23) (fun w hp => ?_) ⟨_, hp⟩ ?_
              · obtain ⟨_, hp⟩ := hp
                refine st_move hf (wantY hf rfl rfl hb23) rfl (by decide) ?_
                clear hf; intro a ha hf
                exact st_nil hf (th_n ⟨ha, rfl⟩)
              clear hf; intro a hf
              refine dr_take 20 (.int .i64 i6) rfl (by kernel_rfl) (by kernel_rfl) (by kernel_rfl) (by kernel_rfl) rfl rfl hf (by decide) (wantY hf rfl rfl hb23) (fun w hp => ?_) ⟨_, hp⟩ ?_
              · obtain ⟨_, hp⟩ := hp
                refine st_move hf (wantY hf rfl rfl hb23) rfl (by decide) ?_
                clear hf; intro a ha hf
                exact st_nil hf (th_n ⟨ha, rfl⟩)
              clear hf; intro a hf
              refine dr_take 21 (.int .i64 (IntKind.i64.wrap ((2 : Int) * i6))) rfl (by kernel_rfl) (by kernel_rfl) (by kernel_rfl) (by kernel_rfl) rfl rfl hf (by decide) (wantY hf rfl rfl hb23) (fun w hp => ?_) ⟨_, hp⟩ ?_
              · obtain ⟨_, hp⟩ := hp
                refine st_imul hf (by decide) (wantY hf rfl rfl hb23) rfl rfl ?_
                clear hf; intro a ha hf
                exact st_nil hf (th_n ⟨ha, rfl⟩)
              clear hf; intro a hf
              refine dr_take 22 (.int .i64 (IntKind.i64.wrap ((IntKind.i64.wrap ((2 : Int) * i6)) + (1 : Int)))) rfl (by kernel_rfl) (by kernel_rfl) (by kernel_rfl) (by kernel_rfl) rfl rfl hf (by decide) (wantY hf rfl rfl hb23) (fun w hp => ?_) ⟨_, hp⟩ ?_
              · obtain ⟨_, hp⟩ := hp
                refine st_iadd hf (by decide) (wantY hf rfl rfl hb23) rfl rfl ?_
                clear hf; intro a ha hf
                exact st_nil hf (th_n ⟨ha, rfl⟩)
              clear hf; intro a hf
              refine dr_take 23 (eptr vl1 (IntKind.i64.wrap ((IntKind.i64.wrap ((2 : Int) * i6)) + (1 : Int))) 1) rfl (by kernel_rfl) (by kernel_rfl) (by kernel_rfl) (by kernel_rfl) rfl rfl hf (by decide) (wantY hf rfl rfl hb23) (fun w hp => ?_) ⟨_, hp⟩ ?_
              · obtain ⟨_, hp⟩ := hp
                refine st_index (E := (Ek.int .u64)) hf (by decide) Try.underlying22 elt42 (wantY hf rfl rfl hb23) rfl rfl (hl1.sl hp) hc33.1 hc33.2 ?_
                clear hf; intro a ha hf
                exact st_nil hf (th_n ⟨ha, rfl⟩)
              clear hf; intro a hf
              refine dr_take 24 (.int .u64 (gt l1 (IntKind.i64.wrap ((IntKind.i64.wrap ((2 : Int) * i6)) + (1 : Int))))) rfl (by kernel_rfl) (by kernel_rfl) (by kernel_rfl) (by kernel_rfl) rfl rfl hf (by decide) (wantY hf rfl rfl hb23) (fun w hp => ?_) ⟨_, hp⟩ ?_
              · obtain ⟨_, hp⟩ := hp
                refine st_ldI hf (by decide) pl42 (wantY hf rfl rfl hb23) rfl (hl1.sl hp) hc33.1 hc33.2 ?_
                clear hf; intro a ha hf
                exact st_nil hf (th_n ⟨ha, rfl⟩)
              clear hf; intro a hf
              refine dr_one 18 rfl (by kernel_rfl) ?_
              refine st_extern (ex := Extern.MathFloatBits.float64bits) (r := .int .u64 (b27 : Int)) (f := 30) (vs := [.float .f64 b27]) hf (by decide) Try.func30 rfl rfl (by kernel_rfl) (by kernel_rfl) (wantY hf rfl rfl hb23) rfl rfl rfl ?_
              clear hf; intro a ha hf; clear ha
              have he32 := fbits_rep y29 hq31; rw [← he32] at hf
              refine st_nil hf (th_n ⟨fun _ _ => ⟨_, hp⟩, ?_⟩)
              refine dr_take 25 (.bool (q30 != (gt l1 (IntKind.i64.wrap ((IntKind.i64.wrap ((2 : Int) * i6)) + (1 : Int)))))) rfl (by kernel_rfl) (by kernel_rfl) (by kernel_rfl) (by kernel_rfl) rfl rfl hf (by decide) (wantY hf rfl rfl hb23) (fun w hp => ?_) ⟨_, hp⟩ ?_
              · obtain ⟨_, hp⟩ := hp
                refine st_ineq hf (by decide) (wantY hf rfl rfl hb23) rfl rfl ?_
                clear hf; intro a ha hf
                exact st_nil hf (th_n ⟨ha, rfl⟩)
              clear hf; intro a hf
              refine dr_take 26 (.bool z34) rfl (by kernel_rfl) (by kernel_rfl) (by kernel_rfl) (by kernel_rfl) rfl rfl hf (by decide) rfl (fun w hp => ?_) ⟨_, hp⟩ ?_
              · obtain ⟨_, hp⟩ := hp
                refine st_pick (v := .bool z34) hf rfl rfl (fun hb' => absurd (hb23.symm.trans hb') (by decide)) (fun _ => by rw [← hz22]; rfl) (by decide) ?_
                clear hf; intro a ha hf
                exact st_nil hf (th_n ⟨ha, rfl⟩)
              clear hf; intro a hf
              refine dr_end (by kernel_rfl) ?_ _
              exact ⟨hf.sub ⟨rfl, rfl, rfl, rfl, rfl, trivial⟩, hp⟩
          · rintro a w ⟨hf, hp⟩
            refine th_n ?_
            refine wp_if hf rfl (fun hb => ?_) (fun hb => ?_)
            · replace h := ifT h hb
              refine wp_seq ?_
              refine wp_reg ?_
              refine st_assign hf rfl rfl (by decide) ?_
              clear hf; intro a ha hf; clear ha
              refine st_nil hf ?_
              refine th_n ?_
              refine wp_ret ?_
              refine ib_r ?_
              refine th_r ?_
              obtain rfl := Option.some.inj h
              exact rnd_r (by simp) ⟨rfl, ⟨hf.sub ⟨rfl, trivial⟩, hp⟩⟩
            · replace h := ifF h hb
              refine wp_skip ?_
              refine ib_n ?_
              refine th_n ?_
              refine wp_reg ?_
              refine st_move hf rfl rfl (by decide) ?_
              clear hf; intro a ha hf; clear ha
              refine st_iadd hf (by decide) rfl rfl rfl ?_
              clear hf; intro a ha hf; clear ha
              refine st_assign hf rfl rfl (by decide) ?_
              clear hf; intro a ha hf; clear ha
              refine st_nil hf ?_
              obtain rfl := Option.some.inj h
              exact rnd_l ⟨hf.sub ⟨rfl, rfl, rfl, rfl, trivial⟩, hp⟩
        · replace h := ifF h hb
          refine wp_exit ?_
          refine th_e ?_
          obtain rfl := Option.some.inj h
          exact rnd_r (by simp) ⟨rfl, hf.sub trivial, hp⟩
      · clear hl hf hp
        intro e a w hne hO
        cases q35 with
        | inl q36 =>
          replace h := smL h
          obtain ⟨rfl, hf, hp⟩ := hO
          refine ib_same ?_
          refine th_n ?_
          refine wp_seq ?_
          refine wp_reg ?_
          refine st_assign hf rfl rfl (by decide) ?_
          clear hf; intro a ha hf; clear ha
          refine st_nil hf ?_
          refine th_n ?_
          refine wp_ret ?_
          obtain rfl := Option.some.inj h
          exact ⟨rfl, ⟨hf.sub ⟨rfl, trivial⟩, hp⟩⟩
        | inr q37 =>
          replace h := smR h
          obtain ⟨rfl, hf, hp⟩ := hO
          refine ib_r ?_
          refine th_r ?_
          obtain rfl := Option.some.inj h
          exact ⟨rfl, ⟨hf.sub ⟨rfl, trivial⟩, hp⟩⟩

noncomputable def f_foghornref08_Merge.s1c (rows0 : (List (List (Fl × Fl)))) (all4 : Int) (i5 : Int) : Option ((Int × Int) ⊕ (Unit ⊕ ((List (Fl × Fl)) × Int))) := (if (decide (i5 < (rows0.length : Int))) = true then (if 0 ≤ i5 ∧ i5 < (rows0.length : Int) then (if 0 ≤ (0 : Int) ∧ (0 : Int) < (rows0.length : Int) then ((if (((gt rows0 i5).length : Int) != ((gt rows0 (0 : Int)).length : Int)) = true then (some true) else (if 0 ≤ i5 ∧ i5 < (rows0.length : Int) then (some (decide ((IntKind.i64.wrap ((65536 : Int) - all4)) < ((gt rows0 i5).length : Int)))) else none)).bind fun z7 => (if z7 = true then (some (Sum.inr (Sum.inr ([], (1 : Int))))) else (if 0 ≤ i5 ∧ i5 < (rows0.length : Int) then (some (Sum.inl ((IntKind.i64.wrap (all4 + ((gt rows0 i5).length : Int))), (IntKind.i64.wrap (i5 + (1 : Int)))))) else none))) else none) else none) else (some (Sum.inr (Sum.inl ()))))
noncomputable def f_foghornref08_Merge.s1 (rows0 : (List (List (Fl × Fl)))) (s : (Int × Int)) : Option ((Int × Int) ⊕ (Unit ⊕ ((List (Fl × Fl)) × Int))) := f_foghornref08_Merge.s1c rows0 s.1 s.2
noncomputable def f_foghornref08_Merge.s3c (rows0 : (List (List (Fl × Fl)))) (n7 : Int) (out6 : (List (Fl × Fl))) (i8 : Int) : Option (((List (Fl × Fl)) × Int) ⊕ (List (Fl × Fl))) := (if (decide (i8 < (rows0.length : Int))) = true then (if 0 ≤ i8 ∧ i8 < (rows0.length : Int) then (if 0 ≤ n7 ∧ n7 < ((gt rows0 i8).length : Int) then (if (out6.length + ([(gt (gt rows0 i8) n7)]).length) * 16 ≤ 140737488355328 then (some (Sum.inl ((out6 ++ [(gt (gt rows0 i8) n7)]), (IntKind.i64.wrap (i8 + (1 : Int)))))) else none) else none) else none) else (some (Sum.inr out6)))
noncomputable def f_foghornref08_Merge.s3 (rows0 : (List (List (Fl × Fl)))) (n7 : Int) (s : ((List (Fl × Fl)) × Int)) : Option (((List (Fl × Fl)) × Int) ⊕ (List (Fl × Fl))) := f_foghornref08_Merge.s3c rows0 n7 s.1 s.2
noncomputable def f_foghornref08_Merge.s2c (rows0 : (List (List (Fl × Fl)))) (out6 : (List (Fl × Fl))) (n7 : Int) : Option (((List (Fl × Fl)) × Int) ⊕ (List (Fl × Fl))) := ((if (decide ((0 : Int) < (rows0.length : Int))) = true then (if 0 ≤ (0 : Int) ∧ (0 : Int) < (rows0.length : Int) then (some (decide (n7 < ((gt rows0 (0 : Int)).length : Int)))) else none) else (some false)).bind fun z19 => (if z19 = true then ((loop (f_foghornref08_Merge.s3 rows0 n7) (out6, (0 : Int))).bind (fun q35 => (some (Sum.inl (q35, (IntKind.i64.wrap (n7 + (1 : Int)))))))) else (some (Sum.inr out6))))
noncomputable def f_foghornref08_Merge.s2 (rows0 : (List (List (Fl × Fl)))) (s : ((List (Fl × Fl)) × Int)) : Option (((List (Fl × Fl)) × Int) ⊕ (List (Fl × Fl))) := f_foghornref08_Merge.s2c rows0 s.1 s.2
noncomputable def f_foghornref08_Merge (rows0 : (List (List (Fl × Fl)))) : Option ((List (Fl × Fl)) × Int) := (if (decide ((65536 : Int) < (rows0.length : Int))) = true then (some ([], (1 : Int))) else ((loop (f_foghornref08_Merge.s1 rows0) ((0 : Int), (0 : Int))).bind (fun q10 => sm q10 (fun q11 => ((loop (f_foghornref08_Merge.s2 rows0) ([], (0 : Int))).bind (fun q36 => (some (q36, (0 : Int)))))) (fun q12 => (some (q12.1, q12.2))))))
theorem f_foghornref08_Merge_c {S : Nat → Prop} {w0 w : World} {ow : List Res} (hp : Hp S w0 w ow) (vrows0 : Value) (srows0 : List Value) (rows0 : (List (List (Fl × Fl)))) (hrows0 : RdR (RowK.sl Ek.c128 36) S w0 vrows0 srows0 (rows0.map some)) {r : ((List (Fl × Fl)) × Int)} (h : f_foghornref08_Merge rows0 = some r) :
    Calls Try.prog 14 #[vrows0] w (fun e w' => ∃ (u0 : Value), e = .returned (.tuple #[u0, .int .i64 r.2]) ∧ Hp S w0 w' (Res.sl Ek.c128 36 u0 r.1 :: ow)) := by
  unfold f_foghornref08_Merge at h
  refine enter (n := 75) (args := [vrows0]) Try.func14 rfl rfl (Nat.le_of_ble_eq_true rfl) fun a hf => ?_
  replace hf : Fr 75 a [(0, vrows0)] := hf
  refine wp_mono (Q := fun e a w => e = .ret ∧ ∃ (u0 : Value), Fr 75 a [(2, u0), (3, .int .i64 r.2)] ∧ Hp S w0 w (Res.sl Ek.c128 36 u0 r.1 :: ow)) ?_ ?_
  rotate_left
  · rintro e a w ⟨rfl, x0, hf, hp⟩
    exact ret2 hf rfl rfl rfl ⟨x0, rfl, hp⟩
  refine wp_seq ?_
  refine wp_reg ?_
  refine st_assign hf rfl rfl (by decide) ?_
  clear hf; intro a ha hf; clear ha
  refine st_assign hf rfl rfl (by decide) ?_
  clear hf; intro a ha hf; clear ha
  refine st_nil hf ?_
  refine th_n ?_
  refine wp_seq ?_
  refine wp_seq ?_
  refine wp_reg ?_
  refine st_move hf rfl rfl (by decide) ?_
  clear hf; intro a ha hf; clear ha
  refine st_lenV hf (by decide) Try.underlying31 rfl rfl (hrows0.ob hp).shapeVY ?_
  clear hf; intro a ha hf; clear ha
  refine st_igtr hf (by decide) rfl rfl rfl ?_
  clear hf; intro a ha hf; clear ha
  refine st_nil hf ?_
  refine th_n ?_
  refine wp_if hf rfl (fun hb => ?_) (fun hb => ?_)
  · replace h := ifT h hb
    refine wp_seq ?_
    refine wp_reg ?_
    refine st_assign hf rfl rfl (by decide) ?_
    clear hf; intro a ha hf; clear ha
    refine st_assign hf rfl rfl (by decide) ?_
    clear hf; intro a ha hf; clear ha
    refine st_nil hf ?_
    refine th_n ?_
    refine wp_ret ?_
    refine th_r ?_
    obtain rfl := Option.some.inj h
    have hp := hp.nil Ek.c128 36
    exact ⟨rfl, ⟨_, hf.sub ⟨rfl, rfl, trivial⟩, hp⟩⟩
  · replace h := ifF h hb
    refine wp_skip ?_
    refine th_n ?_
    refine wp_seq ?_
    refine wp_reg ?_
    refine st_assign hf rfl rfl (by decide) ?_
    clear hf; intro a ha hf; clear ha
    refine st_nil hf ?_
    refine th_n ?_
    refine wp_seq ?_
    refine wp_seq ?_
    refine wp_reg ?_
    refine st_assign hf rfl rfl (by decide) ?_
    clear hf; intro a ha hf; clear ha
    refine st_nil hf ?_
    refine th_n ?_
    refine wp_block ?_
    obtain ⟨q10, hl, h⟩ := bnd h
    refine wp_loop_pure (f := (f_foghornref08_Merge.s1 rows0)) (s := ((0 : Int), (0 : Int))) (fun s a w => Fr 75 a [(0, vrows0), (4, .int .i64 s.1), (5, .int .i64 s.2)] ∧ Hp S w0 w (ow)) (fun q e a w => match q with | (Sum.inl q) => e = .exit 0 ∧ Fr 75 a [(0, vrows0)] ∧ Hp S w0 w (ow) | (Sum.inr q) => e = .ret ∧ ∃ (u0 : Value), Fr 75 a [(2, u0), (3, .int .i64 q.2)] ∧ Hp S w0 w (Res.sl Ek.c128 36 u0 q.1 :: ow)) ?_ hl ⟨hf.sub ⟨rfl, rfl, rfl, trivial⟩, hp⟩ ?_
    · clear hl hf hp
      intro s x a w h hI
      obtain ⟨all4, i5⟩ := s
      obtain ⟨hf, hp⟩ : Fr 75 a [(0, vrows0), (4, .int .i64 all4), (5, .int .i64 i5)] ∧ Hp S w0 w (ow) := hI
      replace h : f_foghornref08_Merge.s1c rows0 all4 i5 = some x := h
      unfold f_foghornref08_Merge.s1c at h
      refine wp_seq ?_
      refine wp_seq ?_
      refine wp_reg ?_
      refine st_move hf rfl rfl (by decide) ?_
      clear hf; intro a ha hf; clear ha
      refine st_move hf rfl rfl (by decide) ?_
      clear hf; intro a ha hf; clear ha
      refine st_lenV hf (by decide) Try.underlying31 rfl rfl (hrows0.ob hp).shapeVY ?_
      clear hf; intro a ha hf; clear ha
      refine st_ilss hf (by decide) rfl rfl rfl ?_
      clear hf; intro a ha hf; clear ha
      refine st_nil hf ?_
      refine th_n ?_
      refine wp_if hf rfl (fun hb => ?_) (fun hb => ?_)
      · replace h := ifT h hb
        refine wp_skip ?_
        refine th_n ?_
        refine wp_seq ?_
        refine wp_block ?_
        refine wp_seq ?_
        refine wp_seq ?_
        obtain ⟨hc2, h⟩ := chk h
        obtain ⟨hc3, h⟩ := chk h
        obtain ⟨z7, hz4, h⟩ := bnd h
        refine wp_cutN (fun a w => Fr 75 a [(0, vrows0), (4, .int .i64 all4), (5, .int .i64 i5), (37, .bool z7)] ∧ Hp S w0 w (ow)) ?_ ?_
        · have hp := hp.same (Same.drew w)
          rcases Bool.eq_false_or_eq_true (((gt rows0 i5).length : Int) != ((gt rows0 (0 : Int)).length : Int)) with hb5 | hb5
          · skip
            replace hz4 := ifT hz4 hb5
            replace hz4 := Option.some.inj hz4
            refine dr_begin' (fun a w => Fr 75 a [(0, vrows0), (4, .int .i64 all4), (5, .int .i64 i5), (37, .bool z7)] ∧ Hp S w0 w (ow)) (fun w' => ∃ l, Hp S w0 w' l) [] (by kernel_rfl) ?_
            refine dr_take 0 (vrows0) rfl (by kernel_rfl) (by kernel_rfl) (by kernel_rfl) (by kernel_rfl) rfl rfl hf (by decide) rfl (fun w hp => ?_) ⟨_, hp⟩ ?_
            · obtain ⟨_, hp⟩ := hp
              refine st_move hf rfl rfl (by decide) ?_
              clear hf; intro a ha hf
              exact st_nil hf (th_n ⟨ha, rfl⟩)
            clear hf; intro a hf
            refine dr_take 1 (.int .i64 i5) rfl (by kernel_rfl) (by kernel_rfl) (by kernel_rfl) (by kernel_rfl) rfl rfl hf (by decide) rfl (fun w hp => ?_) ⟨_, hp⟩ ?_
            · obtain ⟨_, hp⟩ := hp
              refine st_move hf rfl rfl (by decide) ?_
              clear hf; intro a ha hf
              exact st_nil hf (th_n ⟨ha, rfl⟩)
            clear hf; intro a hf
            refine dr_take 2 (eptr vrows0 i5 1) rfl (by kernel_rfl) (by kernel_rfl) (by kernel_rfl) (by kernel_rfl) rfl rfl hf (by decide) rfl (fun w hp => ?_) ⟨_, hp⟩ ?_
            · obtain ⟨_, hp⟩ := hp
              refine st_indexV (E := Ek.val) (m := rows0.length) hf (by decide) Try.underlying31 eltv24 rfl rfl rfl (hrows0.ob hp).shapeNY hc2.1 hc2.2 ?_
              clear hf; intro a ha hf
              exact st_nil hf (th_n ⟨ha, rfl⟩)
            clear hf; intro a hf
            refine dr_take 3 ((gtv srows0 i5)) rfl (by kernel_rfl) (by kernel_rfl) (by kernel_rfl) (by kernel_rfl) rfl rfl hf (by decide) rfl (fun w hp => ?_) ⟨_, hp⟩ ?_
            · obtain ⟨_, hp⟩ := hp
              refine st_ldRY hf (by decide) pl24 rfl rfl (hrows0.ob hp) hc2.1 hc2.2 ?_
              clear hf; intro a ha hf
              exact st_nil hf (th_n ⟨ha, rfl⟩)
            clear hf; intro a hf
            refine dr_take 4 (.int .i64 ((gt rows0 i5).length : Int)) rfl (by kernel_rfl) (by kernel_rfl) (by kernel_rfl) (by kernel_rfl) rfl rfl hf (by decide) rfl (fun w hp => ?_) ⟨_, hp⟩ ?_
            · obtain ⟨_, hp⟩ := hp
              refine st_len (E := Ek.c128) hf (by decide) Try.underlying24 rfl rfl ((RdR.rowS hrows0 hc2.1 hc2.2).sl hp) ?_
              clear hf; intro a ha hf
              exact st_nil hf (th_n ⟨ha, rfl⟩)
            clear hf; intro a hf
            refine dr_take 5 (vrows0) rfl (by kernel_rfl) (by kernel_rfl) (by kernel_rfl) (by kernel_rfl) rfl rfl hf (by decide) rfl (fun w hp => ?_) ⟨_, hp⟩ ?_
            · obtain ⟨_, hp⟩ := hp
              refine st_move hf rfl rfl (by decide) ?_
              clear hf; intro a ha hf
              exact st_nil hf (th_n ⟨ha, rfl⟩)
            clear hf; intro a hf
            refine dr_take 6 (eptr vrows0 (0 : Int) 1) rfl (by kernel_rfl) (by kernel_rfl) (by kernel_rfl) (by kernel_rfl) rfl rfl hf (by decide) rfl (fun w hp => ?_) ⟨_, hp⟩ ?_
            · obtain ⟨_, hp⟩ := hp
              refine st_indexV (E := Ek.val) (m := rows0.length) hf (by decide) Try.underlying31 eltv24 rfl rfl rfl (hrows0.ob hp).shapeNY hc3.1 hc3.2 ?_
              clear hf; intro a ha hf
              exact st_nil hf (th_n ⟨ha, rfl⟩)
            clear hf; intro a hf
            refine dr_take 7 ((gtv srows0 (0 : Int))) rfl (by kernel_rfl) (by kernel_rfl) (by kernel_rfl) (by kernel_rfl) rfl rfl hf (by decide) rfl (fun w hp => ?_) ⟨_, hp⟩ ?_
            · obtain ⟨_, hp⟩ := hp
              refine st_ldRY hf (by decide) pl24 rfl rfl (hrows0.ob hp) hc3.1 hc3.2 ?_
              clear hf; intro a ha hf
              exact st_nil hf (th_n ⟨ha, rfl⟩)
            clear hf; intro a hf
            refine dr_take 8 (.int .i64 ((gt rows0 (0 : Int)).length : Int)) rfl (by kernel_rfl) (by kernel_rfl) (by kernel_rfl) (by kernel_rfl) rfl rfl hf (by decide) rfl (fun w hp => ?_) ⟨_, hp⟩ ?_
            · obtain ⟨_, hp⟩ := hp
              refine st_len (E := Ek.c128) hf (by decide) Try.underlying24 rfl rfl ((RdR.rowS hrows0 hc3.1 hc3.2).sl hp) ?_
              clear hf; intro a ha hf
              exact st_nil hf (th_n ⟨ha, rfl⟩)
            clear hf; intro a hf
            refine dr_take 9 (.bool (((gt rows0 i5).length : Int) != ((gt rows0 (0 : Int)).length : Int))) rfl (by kernel_rfl) (by kernel_rfl) (by kernel_rfl) (by kernel_rfl) rfl rfl hf (by decide) rfl (fun w hp => ?_) ⟨_, hp⟩ ?_
            · obtain ⟨_, hp⟩ := hp
              refine st_ineq hf (by decide) rfl rfl rfl ?_
              clear hf; intro a ha hf
              exact st_nil hf (th_n ⟨ha, rfl⟩)
            clear hf; intro a hf
            refine dr_take 10 (.bool (((gt rows0 i5).length : Int) != ((gt rows0 (0 : Int)).length : Int))) rfl (by kernel_rfl) (by kernel_rfl) (by kernel_rfl) (by kernel_rfl) rfl rfl hf (by decide) rfl (fun w hp => ?_) ⟨_, hp⟩ ?_
            · obtain ⟨_, hp⟩ := hp
              refine st_move hf rfl rfl (by decide) ?_
              clear hf; intro a ha hf
              exact st_nil hf (th_n ⟨ha, rfl⟩)
            clear hf; intro a hf
            refine dr_out 11 rfl (by kernel_rfl) (by kernel_rfl) (by kernel_rfl) (by kernel_rfl) rfl hf (by decide) rfl (wantN hf rfl rfl hb5) ⟨_, hp⟩ ?_
            clear hf; intro a hf
            refine dr_out 12 rfl (by kernel_rfl) (by kernel_rfl) (by kernel_rfl) (by kernel_rfl) rfl hf (by decide) rfl (wantN hf rfl rfl hb5) ⟨_, hp⟩ ?_
            clear hf; intro a hf
            refine dr_out 13 rfl (by kernel_rfl) (by kernel_rfl) (by kernel_rfl) (by kernel_rfl) rfl hf (by decide) rfl (wantN hf rfl rfl hb5) ⟨_, hp⟩ ?_
            clear hf; intro a hf
            refine dr_out 14 rfl (by kernel_rfl) (by kernel_rfl) (by kernel_rfl) (by kernel_rfl) rfl hf (by decide) rfl (wantN hf rfl rfl hb5) ⟨_, hp⟩ ?_
            clear hf; intro a hf
            refine dr_out 15 rfl (by kernel_rfl) (by kernel_rfl) (by kernel_rfl) (by kernel_rfl) rfl hf (by decide) rfl (wantN hf rfl rfl hb5) ⟨_, hp⟩ ?_
            clear hf; intro a hf
            refine dr_out 16 rfl (by kernel_rfl) (by kernel_rfl) (by kernel_rfl) (by kernel_rfl) rfl hf (by decide) rfl (wantN hf rfl rfl hb5) ⟨_, hp⟩ ?_
            clear hf; intro a hf
            refine dr_out 17 rfl (by kernel_rfl) (by kernel_rfl) (by kernel_rfl) (by kernel_rfl) rfl hf (by decide) rfl (wantN hf rfl rfl hb5) ⟨_, hp⟩ ?_
            clear hf; intro a hf
            refine dr_out 18 rfl (by kernel_rfl) (by kernel_rfl) (by kernel_rfl) (by kernel_rfl) rfl hf (by decide) rfl (wantN hf rfl rfl hb5) ⟨_, hp⟩ ?_
            clear hf; intro a hf
            refine dr_take 19 (.bool z7) rfl (by kernel_rfl) (by kernel_rfl) (by kernel_rfl) (by kernel_rfl) rfl rfl hf (by decide) rfl (fun w hp => ?_) ⟨_, hp⟩ ?_
            · obtain ⟨_, hp⟩ := hp
              refine st_pick (v := .bool z7) hf rfl rfl (fun _ => by rw [← hz4]; rfl) (fun hb' => absurd (hb5.symm.trans hb') (by decide)) (by decide) ?_
              clear hf; intro a ha hf
              exact st_nil hf (th_n ⟨ha, rfl⟩)
            clear hf; intro a hf
            refine dr_end (by kernel_rfl) ?_ _
            exact ⟨hf.sub ⟨rfl, rfl, rfl, rfl, trivial⟩, hp⟩
          · skip
            replace hz4 := ifF hz4 hb5
            obtain ⟨hc6, hz4⟩ := chk hz4
            replace hz4 := Option.some.inj hz4
            refine dr_begin' (fun a w => Fr 75 a [(0, vrows0), (4, .int .i64 all4), (5, .int .i64 i5), (37, .bool z7)] ∧ Hp S w0 w (ow)) (fun w' => ∃ l, Hp S w0 w' l) [] (by kernel_rfl) ?_
            refine dr_take 0 (vrows0) rfl (by kernel_rfl) (by kernel_rfl) (by kernel_rfl) (by kernel_rfl) rfl rfl hf (by decide) rfl (fun w hp => ?_) ⟨_, hp⟩ ?_
            · obtain ⟨_, hp⟩ := hp
              refine st_move hf rfl rfl (by decide) ?_
              clear hf; intro a ha hf
              exact st_nil hf (th_n ⟨ha, rfl⟩)
            clear hf; intro a hf
            refine dr_take 1 (.int .i64 i5) rfl (by kernel_rfl) (by kernel_rfl) (by kernel_rfl) (by kernel_rfl) rfl rfl hf (by decide) rfl (fun w hp => ?_) ⟨_, hp⟩ ?_
            · obtain ⟨_, hp⟩ := hp
              refine st_move hf rfl rfl (by decide) ?_
              clear hf; intro a ha hf
              exact st_nil hf (th_n ⟨ha, rfl⟩)
            clear hf; intro a hf
            refine dr_take 2 (eptr vrows0 i5 1) rfl (by kernel_rfl) (by kernel_rfl) (by kernel_rfl) (by kernel_rfl) rfl rfl hf (by decide) rfl (fun w hp => ?_) ⟨_, hp⟩ ?_
            · obtain ⟨_, hp⟩ := hp
              refine st_indexV (E := Ek.val) (m := rows0.length) hf (by decide) Try.underlying31 eltv24 rfl rfl rfl (hrows0.ob hp).shapeNY hc2.1 hc2.2 ?_
              clear hf; intro a ha hf
              exact st_nil hf (th_n ⟨ha, rfl⟩)
            clear hf; intro a hf
            refine dr_take 3 ((gtv srows0 i5)) rfl (by kernel_rfl) (by kernel_rfl) (by kernel_rfl) (by kernel_rfl) rfl rfl hf (by decide) rfl (fun w hp => ?_) ⟨_, hp⟩ ?_
            · obtain ⟨_, hp⟩ := hp
              refine st_ldRY hf (by decide) pl24 rfl rfl (hrows0.ob hp) hc2.1 hc2.2 ?_
              clear hf; intro a ha hf
              exact st_nil hf (th_n ⟨ha, rfl⟩)
            clear hf; intro a hf
            refine dr_take 4 (.int .i64 ((gt rows0 i5).length : Int)) rfl (by kernel_rfl) (by kernel_rfl) (by kernel_rfl) (by kernel_rfl) rfl rfl hf (by decide) rfl (fun w hp => ?_) ⟨_, hp⟩ ?_
            · obtain ⟨_, hp⟩ := hp
              refine st_len (E := Ek.c128) hf (by decide) Try.underlying24 rfl rfl ((RdR.rowS hrows0 hc2.1 hc2.2).sl hp) ?_
              clear hf; intro a ha hf
              exact st_nil hf (th_n ⟨ha, rfl⟩)
            clear hf; intro a hf
            refine dr_take 5 (vrows0) rfl (by kernel_rfl) (by kernel_rfl) (by kernel_rfl) (by kernel_rfl) rfl rfl hf (by decide) rfl (fun w hp => ?_) ⟨_, hp⟩ ?_
            · obtain ⟨_, hp⟩ := hp
              refine st_move hf rfl rfl (by decide) ?_
              clear hf; intro a ha hf
              exact st_nil hf (th_n ⟨ha, rfl⟩)
            clear hf; intro a hf
            refine dr_take 6 (eptr vrows0 (0 : Int) 1) rfl (by kernel_rfl) (by kernel_rfl) (by kernel_rfl) (by kernel_rfl) rfl rfl hf (by decide) rfl (fun w hp => ?_) ⟨_, hp⟩ ?_
            · obtain ⟨_, hp⟩ := hp
              refine st_indexV (E := Ek.val) (m := rows0.length) hf (by decide) Try.underlying31 eltv24 rfl rfl rfl (hrows0.ob hp).shapeNY hc3.1 hc3.2 ?_
              clear hf; intro a ha hf
              exact st_nil hf (th_n ⟨ha, rfl⟩)
            clear hf; intro a hf
            refine dr_take 7 ((gtv srows0 (0 : Int))) rfl (by kernel_rfl) (by kernel_rfl) (by kernel_rfl) (by kernel_rfl) rfl rfl hf (by decide) rfl (fun w hp => ?_) ⟨_, hp⟩ ?_
            · obtain ⟨_, hp⟩ := hp
              refine st_ldRY hf (by decide) pl24 rfl rfl (hrows0.ob hp) hc3.1 hc3.2 ?_
              clear hf; intro a ha hf
              exact st_nil hf (th_n ⟨ha, rfl⟩)
            clear hf; intro a hf
            refine dr_take 8 (.int .i64 ((gt rows0 (0 : Int)).length : Int)) rfl (by kernel_rfl) (by kernel_rfl) (by kernel_rfl) (by kernel_rfl) rfl rfl hf (by decide) rfl (fun w hp => ?_) ⟨_, hp⟩ ?_
            · obtain ⟨_, hp⟩ := hp
              refine st_len (E := Ek.c128) hf (by decide) Try.underlying24 rfl rfl ((RdR.rowS hrows0 hc3.1 hc3.2).sl hp) ?_
              clear hf; intro a ha hf
              exact st_nil hf (th_n ⟨ha, rfl⟩)
            clear hf; intro a hf
            refine dr_take 9 (.bool (((gt rows0 i5).length : Int) != ((gt rows0 (0 : Int)).length : Int))) rfl (by kernel_rfl) (by kernel_rfl) (by kernel_rfl) (by kernel_rfl) rfl rfl hf (by decide) rfl (fun w hp => ?_) ⟨_, hp⟩ ?_
            · obtain ⟨_, hp⟩ := hp
              refine st_ineq hf (by decide) rfl rfl rfl ?_
              clear hf; intro a ha hf
              exact st_nil hf (th_n ⟨ha, rfl⟩)
            clear hf; intro a hf
            refine dr_take 10 (.bool (((gt rows0 i5).length : Int) != ((gt rows0 (0 : Int)).length : Int))) rfl (by kernel_rfl) (by kernel_rfl) (by kernel_rfl) (by kernel_rfl) rfl rfl hf (by decide) rfl (fun w hp => ?_) ⟨_, hp⟩ ?_
            · obtain ⟨_, hp⟩ := hp
              refine st_move hf rfl rfl (by decide) ?_
              clear hf; intro a ha hf
              exact st_nil hf (th_n ⟨ha, rfl⟩)
            clear hf; intro a hf
            refine dr_take 11 (vrows0) rfl (by kernel_rfl) (by kernel_rfl) (by kernel_rfl) (by kernel_rfl) rfl rfl hf (by decide) (wantY hf rfl rfl hb5) (fun w hp => ?_) ⟨_, hp⟩ ?_
            · obtain ⟨_, hp⟩ := hp
              refine st_move hf (wantY hf rfl rfl hb5) rfl (by decide) ?_
              clear hf; intro a ha hf
              exact st_nil hf (th_n ⟨ha, rfl⟩)
            clear hf; intro a hf
            refine dr_take 12 (.int .i64 i5) rfl (by kernel_rfl) (by kernel_rfl) (by kernel_rfl) (by kernel_rfl) rfl rfl hf (by decide) (wantY hf rfl rfl hb5) (fun w hp => ?_) ⟨_, hp⟩ ?_
            · obtain ⟨_, hp⟩ := hp
              refine st_move hf (wantY hf rfl rfl hb5) rfl (by decide) ?_
              clear hf; intro a ha hf
              exact st_nil hf (th_n ⟨ha, rfl⟩)
            clear hf; intro a hf
            refine dr_take 13 (eptr vrows0 i5 1) rfl (by kernel_rfl) (by kernel_rfl) (by kernel_rfl) (by kernel_rfl) rfl rfl hf (by decide) (wantY hf rfl rfl hb5) (fun w hp => ?_) ⟨_, hp⟩ ?_
            · obtain ⟨_, hp⟩ := hp
              refine st_indexV (E := Ek.val) (m := rows0.length) hf (by decide) Try.underlying31 eltv24 (wantY hf rfl rfl hb5) rfl rfl (hrows0.ob hp).shapeNY hc6.1 hc6.2 ?_
              clear hf; intro a ha hf
              exact st_nil hf (th_n ⟨ha, rfl⟩)
            clear hf; intro a hf
            refine dr_take 14 ((gtv srows0 i5)) rfl (by kernel_rfl) (by kernel_rfl) (by kernel_rfl) (by kernel_rfl) rfl rfl hf (by decide) (wantY hf rfl rfl hb5) (fun w hp => ?_) ⟨_, hp⟩ ?_
            · obtain ⟨_, hp⟩ := hp
              refine st_ldRY hf (by decide) pl24 (wantY hf rfl rfl hb5) rfl (hrows0.ob hp) hc6.1 hc6.2 ?_
              clear hf; intro a ha hf
              exact st_nil hf (th_n ⟨ha, rfl⟩)
            clear hf; intro a hf
            refine dr_take 15 (.int .i64 ((gt rows0 i5).length : Int)) rfl (by kernel_rfl) (by kernel_rfl) (by kernel_rfl) (by kernel_rfl) rfl rfl hf (by decide) (wantY hf rfl rfl hb5) (fun w hp => ?_) ⟨_, hp⟩ ?_
            · obtain ⟨_, hp⟩ := hp
              refine st_len (E := Ek.c128) hf (by decide) Try.underlying24 (wantY hf rfl rfl hb5) rfl ((RdR.rowS hrows0 hc6.1 hc6.2).sl hp) ?_
              clear hf; intro a ha hf
              exact st_nil hf (th_n ⟨ha, rfl⟩)
            clear hf; intro a hf
            refine dr_take 16 (.int .i64 all4) rfl (by kernel_rfl) (by kernel_rfl) (by kernel_rfl) (by kernel_rfl) rfl rfl hf (by decide) (wantY hf rfl rfl hb5) (fun w hp => ?_) ⟨_, hp⟩ ?_
            · obtain ⟨_, hp⟩ := hp
              refine st_move hf (wantY hf rfl rfl hb5) rfl (by decide) ?_
              clear hf; intro a ha hf
              exact st_nil hf (th_n ⟨ha, rfl⟩)
            clear hf; intro a hf
            refine dr_take 17 (.int .i64 (IntKind.i64.wrap ((65536 : Int) - all4))) rfl (by kernel_rfl) (by kernel_rfl) (by kernel_rfl) (by kernel_rfl) rfl rfl hf (by decide) (wantY hf rfl rfl hb5) (fun w hp => ?_) ⟨_, hp⟩ ?_
            · obtain ⟨_, hp⟩ := hp
              refine st_isub hf (by decide) (wantY hf rfl rfl hb5) rfl rfl ?_
              clear hf; intro a ha hf
              exact st_nil hf (th_n ⟨ha, rfl⟩)
            clear hf; intro a hf
            refine dr_take 18 (.bool (decide ((IntKind.i64.wrap ((65536 : Int) - all4)) < ((gt rows0 i5).length : Int)))) rfl (by kernel_rfl) (by kernel_rfl) (by kernel_rfl) (by kernel_rfl) rfl rfl hf (by decide) (wantY hf rfl rfl hb5) (fun w hp => ?_) ⟨_, hp⟩ ?_
            · obtain ⟨_, hp⟩ := hp
              refine st_igtr hf (by decide) (wantY hf rfl rfl hb5) rfl rfl ?_
              clear hf; intro a ha hf
              exact st_nil hf (th_n ⟨ha, rfl⟩)
            clear hf; intro a hf
            refine dr_take 19 (.bool z7) rfl (by kernel_rfl) (by kernel_rfl) (by kernel_rfl) (by kernel_rfl) rfl rfl hf (by decide) rfl (fun w hp => ?_) ⟨_, hp⟩ ?_
            · obtain ⟨_, hp⟩ := hp
              refine st_pick (v := .bool z7) hf rfl rfl (fun hb' => absurd (hb5.symm.trans hb') (by decide)) (fun _ => by rw [← hz4]; rfl) (by decide) ?_
              clear hf; intro a ha hf
              exact st_nil hf (th_n ⟨ha, rfl⟩)
            clear hf; intro a hf
            refine dr_end (by kernel_rfl) ?_ _
            exact ⟨hf.sub ⟨rfl, rfl, rfl, rfl, trivial⟩, hp⟩
        · rintro a w ⟨hf, hp⟩
          refine th_n ?_
          refine wp_if hf rfl (fun hb => ?_) (fun hb => ?_)
          · replace h := ifT h hb
            refine wp_seq ?_
            refine wp_reg ?_
            refine st_assign hf rfl rfl (by decide) ?_
            clear hf; intro a ha hf; clear ha
            refine st_assign hf rfl rfl (by decide) ?_
            clear hf; intro a ha hf; clear ha
            refine st_nil hf ?_
            refine th_n ?_
            refine wp_ret ?_
            refine th_r ?_
            refine ib_r ?_
            refine th_r ?_
            obtain rfl := Option.some.inj h
            have hp := hp.nil Ek.c128 36
            exact rnd_r (by simp) ⟨rfl, ⟨_, hf.sub ⟨rfl, rfl, trivial⟩, hp⟩⟩
          · replace h := ifF h hb
            refine wp_skip ?_
            refine th_n ?_
            refine wp_reg ?_
            refine st_move hf rfl rfl (by decide) ?_
            clear hf; intro a ha hf; clear ha
            refine st_move hf rfl rfl (by decide) ?_
            clear hf; intro a ha hf; clear ha
            refine st_move hf rfl rfl (by decide) ?_
            clear hf; intro a ha hf; clear ha
            obtain ⟨hc9, h⟩ := chk h
            refine st_indexV (E := Ek.val) (m := rows0.length) hf (by decide) Try.underlying31 eltv24 rfl rfl rfl (hrows0.ob hp).shapeNY hc9.1 hc9.2 ?_
            clear hf; intro a ha hf; clear ha
            refine st_ldRY hf (by decide) pl24 rfl rfl (hrows0.ob hp) hc9.1 hc9.2 ?_
            clear hf; intro a ha hf; clear ha
            refine st_len (E := Ek.c128) hf (by decide) Try.underlying24 rfl rfl ((RdR.rowS hrows0 hc9.1 hc9.2).sl hp) ?_
            clear hf; intro a ha hf; clear ha
            refine st_iadd hf (by decide) rfl rfl rfl ?_
            clear hf; intro a ha hf; clear ha
            refine st_assign hf rfl rfl (by decide) ?_
            clear hf; intro a ha hf; clear ha
            refine st_nil hf ?_
            refine ib_n ?_
            refine th_n ?_
            refine wp_reg ?_
            refine st_move hf rfl rfl (by decide) ?_
            clear hf; intro a ha hf; clear ha
            refine st_iadd hf (by decide) rfl rfl rfl ?_
            clear hf; intro a ha hf; clear ha
            refine st_assign hf rfl rfl (by decide) ?_
            clear hf; intro a ha hf; clear ha
            refine st_nil hf ?_
            obtain rfl := Option.some.inj h
            exact rnd_l ⟨hf.sub ⟨rfl, rfl, rfl, trivial⟩, hp⟩
      · replace h := ifF h hb
        refine wp_exit ?_
        refine th_e ?_
        obtain rfl := Option.some.inj h
        exact rnd_r (by simp) ⟨rfl, hf.sub ⟨rfl, trivial⟩, hp⟩
    · clear hl hf hp
      intro e a w hne hO
      cases q10 with
      | inl q11 =>
        replace h := smL h
        obtain ⟨rfl, hf, hp⟩ := hO
        refine ib_same ?_
        refine th_n ?_
        refine wp_seq ?_
        refine wp_reg ?_
        refine st_assign hf rfl rfl (by decide) ?_
        clear hf; intro a ha hf; clear ha
        refine st_nil hf ?_
        refine th_n ?_
        refine wp_seq ?_
        refine wp_seq ?_
        refine wp_reg ?_
        refine st_assign hf rfl rfl (by decide) ?_
        clear hf; intro a ha hf; clear ha
        refine st_nil hf ?_
        refine th_n ?_
        refine wp_block ?_
        obtain ⟨q36, hl, h⟩ := bnd h
        have hp := hp.nil Ek.c128 36
        refine wp_loop_pure (f := (f_foghornref08_Merge.s2 rows0)) (s := ([], (0 : Int))) (fun s a w => ∃ (v13 : Value), Fr 75 a [(0, vrows0), (6, v13), (7, .int .i64 s.2)] ∧ Hp S w0 w (Res.sl Ek.c128 36 v13 s.1 :: ow)) (fun q e a w => e = .exit 2 ∧ ∃ (v15 : Value), Fr 75 a [(6, v15)] ∧ Hp S w0 w (Res.sl Ek.c128 36 v15 q :: ow)) ?_ hl ⟨_, hf.sub ⟨rfl, rfl, rfl, trivial⟩, hp⟩ ?_
        · clear hl hf hp
          intro s x a w h hI
          obtain ⟨out6, n7⟩ := s
          obtain ⟨v13, hf, hp⟩ : ∃ (v13 : Value), Fr 75 a [(0, vrows0), (6, v13), (7, .int .i64 n7)] ∧ Hp S w0 w (Res.sl Ek.c128 36 v13 out6 :: ow) := hI
          replace h : f_foghornref08_Merge.s2c rows0 out6 n7 = some x := h
          unfold f_foghornref08_Merge.s2c at h
          refine wp_seq ?_
          refine wp_seq ?_
          refine wp_reg ?_
          refine st_move hf rfl rfl (by decide) ?_
          clear hf; intro a ha hf; clear ha
          refine st_lenV hf (by decide) Try.underlying31 rfl rfl (hrows0.ob hp).shapeVY ?_
          clear hf; intro a ha hf; clear ha
          refine st_igtr hf (by decide) rfl rfl rfl ?_
          clear hf; intro a ha hf; clear ha
          refine st_move hf rfl rfl (by decide) ?_
          clear hf; intro a ha hf; clear ha
          obtain ⟨z19, hz17, h⟩ := bnd h
          refine wpList_cut 7 (fun a w => Fr 75 a [(0, vrows0), (6, v13), (7, .int .i64 n7), (55, .bool z19)] ∧ Hp S w0 w (Res.sl Ek.c128 36 v13 out6 :: ow)) ?_ ?_
          · rcases Bool.eq_false_or_eq_true (decide ((0 : Int) < (rows0.length : Int))) with hb18 | hb18
            · skip
              replace hz17 := ifT hz17 hb18
              refine st_move hf (wantY hf rfl rfl hb18) rfl (by decide) ?_
              clear hf; intro a ha hf; clear ha
              refine st_move hf (wantY hf rfl rfl hb18) rfl (by decide) ?_
              clear hf; intro a ha hf; clear ha
              obtain ⟨hc20, hz17⟩ := chk hz17
              refine st_indexV (E := Ek.val) (m := rows0.length) hf (by decide) Try.underlying31 eltv24 (wantY hf rfl rfl hb18) rfl rfl (hrows0.ob hp).shapeNY hc20.1 hc20.2 ?_
              clear hf; intro a ha hf; clear ha
              refine st_ldRY hf (by decide) pl24 (wantY hf rfl rfl hb18) rfl (hrows0.ob hp) hc20.1 hc20.2 ?_
              clear hf; intro a ha hf; clear ha
              refine st_len (E := Ek.c128) hf (by decide) Try.underlying24 (wantY hf rfl rfl hb18) rfl ((RdR.rowS hrows0 hc20.1 hc20.2).sl hp) ?_
              clear hf; intro a ha hf; clear ha
              refine st_ilss hf (by decide) (wantY hf rfl rfl hb18) rfl rfl ?_
              clear hf; intro a ha hf; clear ha
              obtain rfl := Option.some.inj hz17
              refine st_pick (v := .bool (decide (n7 < ((gt rows0 (0 : Int)).length : Int)))) hf rfl rfl (fun hb' => ?_) (fun hb' => ?_) (by decide) ?_
              · rfl
              · exact absurd (hb18.symm.trans hb') (by decide)
              clear hf; intro a ha hf; clear ha
              refine st_nil hf (th_n ?_)
              exact ⟨hf.sub ⟨rfl, rfl, rfl, rfl, trivial⟩, hp⟩
            · skip
              replace hz17 := ifF hz17 hb18
              refine st_skip hf (wantN hf rfl rfl hb18) rfl (by decide) ?_ rfl
              clear hf; intro a hf
              refine st_skip hf (wantN hf rfl rfl hb18) rfl (by decide) ?_ rfl
              clear hf; intro a hf
              refine st_skip hf (wantN hf rfl rfl hb18) rfl (by decide) ?_ rfl
              clear hf; intro a hf
              refine st_skip hf (wantN hf rfl rfl hb18) rfl (by decide) ?_ rfl
              clear hf; intro a hf
              refine st_skip hf (wantN hf rfl rfl hb18) rfl (by decide) ?_ rfl
              clear hf; intro a hf
              refine st_skip hf (wantN hf rfl rfl hb18) rfl (by decide) ?_ rfl
              clear hf; intro a hf
              obtain rfl := Option.some.inj hz17
              refine st_pick (v := .bool false) hf rfl rfl (fun hb' => ?_) (fun hb' => ?_) (by decide) ?_
              · exact absurd (hb18.symm.trans hb') (by decide)
              · rfl
              clear hf; intro a ha hf; clear ha
              refine st_nil hf (th_n ?_)
              exact ⟨hf.sub ⟨rfl, rfl, rfl, rfl, trivial⟩, hp⟩
          · rintro a w ⟨hf, hp⟩
            refine st_nil hf ?_
            refine th_n ?_
            refine wp_if hf rfl (fun hb => ?_) (fun hb => ?_)
            · replace h := ifT h hb
              refine wp_skip ?_
              refine th_n ?_
              refine wp_seq ?_
              refine wp_block ?_
              refine wp_seq ?_
              refine wp_reg ?_
              refine st_assign hf rfl rfl (by decide) ?_
              clear hf; intro a ha hf; clear ha
              refine st_nil hf ?_
              refine th_n ?_
              refine wp_block ?_
              obtain ⟨q35, hl, h⟩ := bnd h
              refine wp_loop_pure (f := (f_foghornref08_Merge.s3 rows0 n7)) (s := (out6, (0 : Int))) (fun s a w => ∃ (v21 : Value), Fr 75 a [(0, vrows0), (6, v21), (7, .int .i64 n7), (8, .int .i64 s.2)] ∧ Hp S w0 w (Res.sl Ek.c128 36 v21 s.1 :: ow)) (fun q e a w => e = .exit 4 ∧ ∃ (v23 : Value), Fr 75 a [(0, vrows0), (6, v23), (7, .int .i64 n7)] ∧ Hp S w0 w (Res.sl Ek.c128 36 v23 q :: ow)) ?_ hl ⟨_, hf.sub ⟨rfl, rfl, rfl, rfl, trivial⟩, hp⟩ ?_
              · clear hl hf hp
                intro s x a w h hI
                obtain ⟨out6, i8⟩ := s
                obtain ⟨v21, hf, hp⟩ : ∃ (v21 : Value), Fr 75 a [(0, vrows0), (6, v21), (7, .int .i64 n7), (8, .int .i64 i8)] ∧ Hp S w0 w (Res.sl Ek.c128 36 v21 out6 :: ow) := hI
                replace h : f_foghornref08_Merge.s3c rows0 n7 out6 i8 = some x := h
                unfold f_foghornref08_Merge.s3c at h
                refine wp_seq ?_
                refine wp_seq ?_
                refine wp_reg ?_
                refine st_move hf rfl rfl (by decide) ?_
                clear hf; intro a ha hf; clear ha
                refine st_move hf rfl rfl (by decide) ?_
                clear hf; intro a ha hf; clear ha
                refine st_lenV hf (by decide) Try.underlying31 rfl rfl (hrows0.ob hp).shapeVY ?_
                clear hf; intro a ha hf; clear ha
                refine st_ilss hf (by decide) rfl rfl rfl ?_
                clear hf; intro a ha hf; clear ha
                refine st_nil hf ?_
                refine th_n ?_
                refine wp_if hf rfl (fun hb => ?_) (fun hb => ?_)
                · replace h := ifT h hb
                  refine wp_skip ?_
                  refine th_n ?_
                  refine wp_seq ?_
                  refine wp_block ?_
                  refine wp_reg ?_
                  refine st_move hf rfl rfl (by decide) ?_
                  clear hf; intro a ha hf; clear ha
                  refine st_move hf rfl rfl (by decide) ?_
                  clear hf; intro a ha hf; clear ha
                  refine st_move hf rfl rfl (by decide) ?_
                  clear hf; intro a ha hf; clear ha
                  obtain ⟨hc25, h⟩ := chk h
                  refine st_indexV (E := Ek.val) (m := rows0.length) hf (by decide) Try.underlying31 eltv24 rfl rfl rfl (hrows0.ob hp).shapeNY hc25.1 hc25.2 ?_
                  clear hf; intro a ha hf; clear ha
                  refine st_ldRY hf (by decide) pl24 rfl rfl (hrows0.ob hp) hc25.1 hc25.2 ?_
                  clear hf; intro a ha hf; clear ha
                  refine st_move hf rfl rfl (by decide) ?_
                  clear hf; intro a ha hf; clear ha
                  obtain ⟨hc26, h⟩ := chk h
                  refine st_index (E := Ek.c128) hf (by decide) Try.underlying24 elt36 rfl rfl rfl ((RdR.rowS hrows0 hc25.1 hc25.2).sl hp) hc26.1 hc26.2 ?_
                  clear hf; intro a ha hf; clear ha
                  refine st_ldC hf (by decide) pl36 rfl rfl ((RdR.rowS hrows0 hc25.1 hc25.2).sl hp) hc26.1 hc26.2 ?_
                  clear hf; intro a b27 b28 y29 y30 ha hf; clear ha
                  refine st_build (E := Ek.c128) (xs := [(gt (gt rows0 i8) n7)]) hf (by decide) elt36 Try.underlying24 hp (vals := #[(0, .complex .f64 b27 b28)]) (cells := #[.complex .f64 b27 b28]) rfl (by simp [hf.ev (x := (Operand.tmp 71)) rfl]) (by decide) (by decide) (z := .complex .f64 0 0) (by kernel_rfl) (by kernel_rfl) rfl (reps_cons (cs := [.complex .f64 b27 b28]) (show Ek.c128.rep [.complex .f64 b27 b28] (gt (gt rows0 i8) n7) from ⟨_, _, rfl, y29, y30⟩) (reps_nil _)) ?_
                  clear hf; intro a w v31 hf hp0; clear hp; have hp := hp0; clear hp0
                  replace hp : Hp _ _ w (Res.sl Ek.c128 36 v31 ([(gt (gt rows0 i8) n7)]) :: Res.sl Ek.c128 36 v21 out6 :: ow) := hp
                  obtain ⟨hc33, h⟩ := chk h
                  refine st_append (E := Ek.c128) hf (by decide) elt36 Try.underlying24 (by decide) hp (i := 1) rfl rfl rfl rfl (hp.sl (i := 0) rfl) hc33 ?_
                  clear hf; intro a w v34 hf hp0; clear hp; have hp := hp0; clear hp0
                  replace hp : Hp _ _ w (Res.sl Ek.c128 36 v31 ([(gt (gt rows0 i8) n7)]) :: Res.sl Ek.c128 36 v34 (out6 ++ [(gt (gt rows0 i8) n7)]) :: ow) := hp
                  refine st_assign hf rfl rfl (by decide) ?_
                  clear hf; intro a ha hf; clear ha
                  refine st_nil hf ?_
                  refine ib_n ?_
                  refine th_n ?_
                  refine wp_reg ?_
                  refine st_move hf rfl rfl (by decide) ?_
                  clear hf; intro a ha hf; clear ha
                  refine st_iadd hf (by decide) rfl rfl rfl ?_
                  clear hf; intro a ha hf; clear ha
                  refine st_assign hf rfl rfl (by decide) ?_
                  clear hf; intro a ha hf; clear ha
                  refine st_nil hf ?_
                  obtain rfl := Option.some.inj h
                  have hp : Hp _ _ w (Res.sl Ek.c128 36 v34 (out6 ++ [(gt (gt rows0 i8) n7)]) :: ow) := Hp.sel (pre := [Res.sl Ek.c128 36 v31 ([(gt (gt rows0 i8) n7)]), Res.sl Ek.c128 36 v34 (out6 ++ [(gt (gt rows0 i8) n7)])]) (tail := ow) (rs' := [Res.sl Ek.c128 36 v34 (out6 ++ [(gt (gt rows0 i8) n7)])]) hp [1] (by decide) (by simp) rfl
                  exact rnd_l ⟨_, hf.sub ⟨rfl, rfl, rfl, rfl, trivial⟩, hp⟩
                · replace h := ifF h hb
                  refine wp_exit ?_
                  refine th_e ?_
                  obtain rfl := Option.some.inj h
                  exact rnd_r (by simp) ⟨rfl, _, hf.sub ⟨rfl, rfl, rfl, trivial⟩, hp⟩
              · clear hl hf hp
                intro e a w hne hO
                obtain ⟨rfl, v23, hf, hp⟩ := hO
                refine ib_same ?_
                refine ib_n ?_
                refine th_n ?_
                refine wp_reg ?_
                refine st_move hf rfl rfl (by decide) ?_
                clear hf; intro a ha hf; clear ha
                refine st_iadd hf (by decide) rfl rfl rfl ?_
                clear hf; intro a ha hf; clear ha
                refine st_assign hf rfl rfl (by decide) ?_
                clear hf; intro a ha hf; clear ha
                refine st_nil hf ?_
                obtain rfl := Option.some.inj h
                exact rnd_l ⟨_, hf.sub ⟨rfl, rfl, rfl, trivial⟩, hp⟩
            · replace h := ifF h hb
              refine wp_exit ?_
              refine th_e ?_
              obtain rfl := Option.some.inj h
              exact rnd_r (by simp) ⟨rfl, _, hf.sub ⟨rfl, trivial⟩, hp⟩
        · clear hl hf hp
          intro e a w hne hO
          obtain ⟨rfl, v15, hf, hp⟩ := hO
          refine ib_same ?_
          refine th_n ?_
          refine wp_seq ?_
          refine wp_reg ?_
          refine st_move hf rfl rfl (by decide) ?_
          clear hf; intro a ha hf; clear ha
          refine st_assign hf rfl rfl (by decide) ?_
          clear hf; intro a ha hf; clear ha
          refine st_assign hf rfl rfl (by decide) ?_
          clear hf; intro a ha hf; clear ha
          refine st_nil hf ?_
          refine th_n ?_
          refine wp_ret ?_
          obtain rfl := Option.some.inj h
          exact ⟨rfl, ⟨_, hf.sub ⟨rfl, rfl, trivial⟩, hp⟩⟩
      | inr q12 =>
        replace h := smR h
        obtain ⟨rfl, x0, hf, hp⟩ := hO
        refine ib_r ?_
        refine th_r ?_
        obtain rfl := Option.some.inj h
        exact ⟨rfl, ⟨_, hf.sub ⟨rfl, rfl, trivial⟩, hp⟩⟩

noncomputable def f_mix_Merge.s1c (rows0 : (List (List (Fl × Fl)))) (t24 : Int) : Option (Int ⊕ (Unit ⊕ ((List (Fl × Fl)) × Int))) := (if (decide (t24 < (rows0.length : Int))) = true then (if 0 ≤ t24 ∧ t24 < (rows0.length : Int) then ((if (((gt rows0 t24).length : Int) != ((gt rows0 (0 : Int)).length : Int)) = true then (some true) else (if (rows0.length : Int) ≠ 0 then (some (decide ((IntKind.i64.wrap (((65536 : Int)).tdiv (rows0.length : Int))) < ((gt rows0 (0 : Int)).length : Int)))) else none)).bind fun z9 => (if z9 = true then (some (Sum.inr (Sum.inr ([], (1 : Int))))) else (some (Sum.inl (IntKind.i64.wrap (t24 + (1 : Int))))))) else none) else (some (Sum.inr (Sum.inl ()))))
noncomputable def f_mix_Merge.s1 (rows0 : (List (List (Fl × Fl)))) (s : Int) : Option (Int ⊕ (Unit ⊕ ((List (Fl × Fl)) × Int))) := f_mix_Merge.s1c rows0 s
noncomputable def f_mix_Merge.s3c (rows0 : (List (List (Fl × Fl)))) (t46 : Int) (out7 : (List (Fl × Fl))) (t51 : Int) : Option (((List (Fl × Fl)) × Int) ⊕ (List (Fl × Fl))) := (if (decide (t51 < (rows0.length : Int))) = true then (if 0 ≤ t51 ∧ t51 < (rows0.length : Int) then (if 0 ≤ t46 ∧ t46 < ((gt rows0 t51).length : Int) then (if (out7.length + ([(gt (gt rows0 t51) t46)]).length) * 16 ≤ 140737488355328 then (some (Sum.inl ((out7 ++ [(gt (gt rows0 t51) t46)]), (IntKind.i64.wrap (t51 + (1 : Int)))))) else none) else none) else none) else (some (Sum.inr out7)))
noncomputable def f_mix_Merge.s3 (rows0 : (List (List (Fl × Fl)))) (t46 : Int) (s : ((List (Fl × Fl)) × Int)) : Option (((List (Fl × Fl)) × Int) ⊕ (List (Fl × Fl))) := f_mix_Merge.s3c rows0 t46 s.1 s.2
noncomputable def f_mix_Merge.s2c (rows0 : (List (List (Fl × Fl)))) (out7 : (List (Fl × Fl))) (t46 : Int) : Option (((List (Fl × Fl)) × Int) ⊕ (List (Fl × Fl))) := (if (decide (t46 < ((gt rows0 (0 : Int)).length : Int))) = true then ((loop (f_mix_Merge.s3 rows0 t46) (out7, (0 : Int))).bind (fun q36 => (some (Sum.inl (q36, (IntKind.i64.wrap (t46 + (1 : Int)))))))) else (some (Sum.inr out7)))
noncomputable def f_mix_Merge.s2 (rows0 : (List (List (Fl × Fl)))) (s : ((List (Fl × Fl)) × Int)) : Option (((List (Fl × Fl)) × Int) ⊕ (List (Fl × Fl))) := f_mix_Merge.s2c rows0 s.1 s.2
noncomputable def f_mix_Merge (rows0 : (List (List (Fl × Fl)))) : Option ((List (Fl × Fl)) × Int) := ((f_mix_fits (rows0.length : Int)).bind fun q1 => (if (!q1) = true then (some ([], (1 : Int))) else (if ((rows0.length : Int) == (0 : Int)) = true then (some ([], (0 : Int))) else (if 0 ≤ (0 : Int) ∧ (0 : Int) < (rows0.length : Int) then ((loop (f_mix_Merge.s1 rows0) (0 : Int)).bind (fun q12 => sm q12 (fun q13 => (if 0 ≤ (0 : Int) ∧ (0 : Int) ≤ (IntKind.i64.wrap (((gt rows0 (0 : Int)).length : Int) * (rows0.length : Int))) ∧ (IntKind.i64.wrap (((gt rows0 (0 : Int)).length : Int) * (rows0.length : Int))) * 16 ≤ 281474976710656 then ((loop (f_mix_Merge.s2 rows0) ((List.replicate ((0 : Int)).toNat (Fl.bits 0, Fl.bits 0)), (0 : Int))).bind (fun q37 => (some (q37, (0 : Int))))) else none)) (fun q14 => (some (q14.1, q14.2))))) else none))))
theorem f_mix_Merge_c {S : Nat → Prop} {w0 w : World} {ow : List Res} (hp : Hp S w0 w ow) (vrows0 : Value) (srows0 : List Value) (rows0 : (List (List (Fl × Fl)))) (hrows0 : RdR (RowK.sl Ek.c128 36) S w0 vrows0 srows0 (rows0.map some)) {r : ((List (Fl × Fl)) × Int)} (h : f_mix_Merge rows0 = some r) :
    Calls Try.prog 15 #[vrows0] w (fun e w' => ∃ (u0 : Value), e = .returned (.tuple #[u0, .int .i64 r.2]) ∧ Hp S w0 w' (Res.sl Ek.c128 36 u0 r.1 :: ow)) := by
  unfold f_mix_Merge at h
  refine enter (n := 65) (args := [vrows0]) Try.func15 rfl rfl (Nat.le_of_ble_eq_true rfl) fun a hf => ?_
  replace hf : Fr 65 a [(0, vrows0)] := hf
  refine wp_mono (Q := fun e a w => e = .ret ∧ ∃ (u0 : Value), Fr 65 a [(2, u0), (3, .int .i64 r.2)] ∧ Hp S w0 w (Res.sl Ek.c128 36 u0 r.1 :: ow)) ?_ ?_
  rotate_left
  · rintro e a w ⟨rfl, x0, hf, hp⟩
    exact ret2 hf rfl rfl rfl ⟨x0, rfl, hp⟩
  refine wp_seq ?_
  refine wp_reg ?_
  refine st_assign hf rfl rfl (by decide) ?_
  clear hf; intro a ha hf; clear ha
  refine st_assign hf rfl rfl (by decide) ?_
  clear hf; intro a ha hf; clear ha
  refine st_nil hf ?_
  refine th_n ?_
  refine wp_seq ?_
  refine wp_seq ?_
  refine wp_reg ?_
  refine st_move hf rfl rfl (by decide) ?_
  clear hf; intro a ha hf; clear ha
  refine st_lenV hf (by decide) Try.underlying31 rfl rfl (hrows0.ob hp).shapeVY ?_
  clear hf; intro a ha hf; clear ha
  obtain ⟨q1, hcall2, h⟩ := bnd h
  refine st_call hf (by decide) Try.func34 rfl rfl rfl rfl rfl (f_mix_fits_c hp _ hcall2) ?_
  rintro _ w ⟨rfl, hp0⟩
  clear hp; have hp := hp0; clear hp0
  replace hp : Hp _ _ w (ow) := hp
  refine ⟨_, rfl, ?_⟩
  clear hf; intro a hf
  refine st_not hf (by decide) rfl rfl ?_
  clear hf; intro a ha hf; clear ha
  refine st_nil hf ?_
  refine th_n ?_
  refine wp_if hf rfl (fun hb => ?_) (fun hb => ?_)
  · replace h := ifT h hb
    refine wp_seq ?_
    refine wp_reg ?_
    refine st_assign hf rfl rfl (by decide) ?_
    clear hf; intro a ha hf; clear ha
    refine st_assign hf rfl rfl (by decide) ?_
    clear hf; intro a ha hf; clear ha
    refine st_nil hf ?_
    refine th_n ?_
    refine wp_ret ?_
    refine th_r ?_
    obtain rfl := Option.some.inj h
    have hp := hp.nil Ek.c128 36
    exact ⟨rfl, ⟨_, hf.sub ⟨rfl, rfl, trivial⟩, hp⟩⟩
  · replace h := ifF h hb
    refine wp_skip ?_
    refine th_n ?_
    refine wp_seq ?_
    refine wp_seq ?_
    refine wp_reg ?_
    refine st_move hf rfl rfl (by decide) ?_
    clear hf; intro a ha hf; clear ha
    refine st_lenV hf (by decide) Try.underlying31 rfl rfl (hrows0.ob hp).shapeVY ?_
    clear hf; intro a ha hf; clear ha
    refine st_ieql hf (by decide) rfl rfl rfl ?_
    clear hf; intro a ha hf; clear ha
    refine st_nil hf ?_
    refine th_n ?_
    refine wp_if hf rfl (fun hb => ?_) (fun hb => ?_)
    · replace h := ifT h hb
      refine wp_seq ?_
      refine wp_reg ?_
      refine st_assign hf rfl rfl (by decide) ?_
      clear hf; intro a ha hf; clear ha
      refine st_assign hf rfl rfl (by decide) ?_
      clear hf; intro a ha hf; clear ha
      refine st_nil hf ?_
      refine th_n ?_
      refine wp_ret ?_
      refine th_r ?_
      obtain rfl := Option.some.inj h
      have hp := hp.nil Ek.c128 36
      exact ⟨rfl, ⟨_, hf.sub ⟨rfl, rfl, trivial⟩, hp⟩⟩
    · replace h := ifF h hb
      refine wp_skip ?_
      refine th_n ?_
      refine wp_seq ?_
      refine wp_reg ?_
      refine st_move hf rfl rfl (by decide) ?_
      clear hf; intro a ha hf; clear ha
      obtain ⟨hc5, h⟩ := chk h
      refine st_indexV (E := Ek.val) (m := rows0.length) hf (by decide) Try.underlying31 eltv24 rfl rfl rfl (hrows0.ob hp).shapeNY hc5.1 hc5.2 ?_
      clear hf; intro a ha hf; clear ha
      refine st_ldRY hf (by decide) pl24 rfl rfl (hrows0.ob hp) hc5.1 hc5.2 ?_
      clear hf; intro a ha hf; clear ha
      refine st_len (E := Ek.c128) hf (by decide) Try.underlying24 rfl rfl ((RdR.rowS hrows0 hc5.1 hc5.2).sl hp) ?_
      clear hf; intro a ha hf; clear ha
      refine st_assign hf rfl rfl (by decide) ?_
      clear hf; intro a ha hf; clear ha
      refine st_nil hf ?_
      refine th_n ?_
      refine wp_seq ?_
      refine wp_seq ?_
      refine wp_reg ?_
      refine st_move hf rfl rfl (by decide) ?_
      clear hf; intro a ha hf; clear ha
      refine st_lenV hf (by decide) Try.underlying31 rfl rfl (hrows0.ob hp).shapeVY ?_
      clear hf; intro a ha hf; clear ha
      refine st_move hf rfl rfl (by decide) ?_
      clear hf; intro a ha hf; clear ha
      refine st_nil hf ?_
      refine th_n ?_
      refine wp_block ?_
      obtain ⟨q12, hl, h⟩ := bnd h
      refine wp_loop_pure (f := (f_mix_Merge.s1 rows0)) (s := (0 : Int)) (fun s a w => Fr 65 a [(0, vrows0), (4, .int .i64 ((gt rows0 (0 : Int)).length : Int)), (22, vrows0), (23, .int .i64 (rows0.length : Int)), (24, .int .i64 s)] ∧ Hp S w0 w (ow)) (fun q e a w => match q with | (Sum.inl q) => e = .exit 0 ∧ Fr 65 a [(0, vrows0), (4, .int .i64 ((gt rows0 (0 : Int)).length : Int))] ∧ Hp S w0 w (ow) | (Sum.inr q) => e = .ret ∧ ∃ (u0 : Value), Fr 65 a [(2, u0), (3, .int .i64 q.2)] ∧ Hp S w0 w (Res.sl Ek.c128 36 u0 q.1 :: ow)) ?_ hl ⟨hf.sub ⟨rfl, rfl, rfl, rfl, rfl, trivial⟩, hp⟩ ?_
      · clear hl hf hp
        intro s x a w h hI
        obtain ⟨t24, hs⟩ : ∃ z, z = s := ⟨s, rfl⟩; subst hs
        obtain ⟨hf, hp⟩ : Fr 65 a [(0, vrows0), (4, .int .i64 ((gt rows0 (0 : Int)).length : Int)), (22, vrows0), (23, .int .i64 (rows0.length : Int)), (24, .int .i64 t24)] ∧ Hp S w0 w (ow) := hI
        replace h : f_mix_Merge.s1c rows0 t24 = some x := h
        unfold f_mix_Merge.s1c at h
        refine wp_seq ?_
        refine wp_reg ?_
        refine st_ilss hf (by decide) rfl rfl rfl ?_
        clear hf; intro a ha hf; clear ha
        refine st_nil hf ?_
        refine th_n ?_
        refine wp_seq ?_
        refine wp_if hf rfl (fun hb => ?_) (fun hb => ?_)
        · replace h := ifT h hb
          refine wp_skip ?_
          refine th_n ?_
          refine wp_seq ?_
          refine wp_block ?_
          refine wp_seq ?_
          refine wp_reg ?_
          obtain ⟨hc6, h⟩ := chk h
          refine st_indexV (E := Ek.val) (m := rows0.length) hf (by decide) Try.underlying31 eltv24 rfl rfl rfl (hrows0.ob hp).shapeNY hc6.1 hc6.2 ?_
          clear hf; intro a ha hf; clear ha
          refine st_ldRY hf (by decide) pl24 rfl rfl (hrows0.ob hp) hc6.1 hc6.2 ?_
          clear hf; intro a ha hf; clear ha
          refine st_assign hf rfl rfl (by decide) ?_
          clear hf; intro a ha hf; clear ha
          refine st_nil hf ?_
          refine th_n ?_
          refine wp_seq ?_
          refine wp_reg ?_
          refine st_move hf rfl rfl (by decide) ?_
          clear hf; intro a ha hf; clear ha
          refine st_len (E := Ek.c128) hf (by decide) Try.underlying24 rfl rfl ((RdR.rowS hrows0 hc6.1 hc6.2).sl hp) ?_
          clear hf; intro a ha hf; clear ha
          refine st_move hf rfl rfl (by decide) ?_
          clear hf; intro a ha hf; clear ha
          refine st_ineq hf (by decide) rfl rfl rfl ?_
          clear hf; intro a ha hf; clear ha
          refine st_move hf rfl rfl (by decide) ?_
          clear hf; intro a ha hf; clear ha
          obtain ⟨z9, hz7, h⟩ := bnd h
          refine wpList_cut 6 (fun a w => Fr 65 a [(0, vrows0), (4, .int .i64 ((gt rows0 (0 : Int)).length : Int)), (22, vrows0), (23, .int .i64 (rows0.length : Int)), (24, .int .i64 t24), (38, .bool z9)] ∧ Hp S w0 w (ow)) ?_ ?_
          · rcases Bool.eq_false_or_eq_true (((gt rows0 t24).length : Int) != ((gt rows0 (0 : Int)).length : Int)) with hb8 | hb8
            · skip
              replace hz7 := ifT hz7 hb8
              refine st_skip hf (wantN hf rfl rfl hb8) rfl (by decide) ?_ rfl
              clear hf; intro a hf
              refine st_skip hf (wantN hf rfl rfl hb8) rfl (by decide) ?_ rfl
              clear hf; intro a hf
              refine st_skip hf (wantN hf rfl rfl hb8) rfl (by decide) ?_ rfl
              clear hf; intro a hf
              refine st_skip hf (wantN hf rfl rfl hb8) rfl (by decide) ?_ rfl
              clear hf; intro a hf
              refine st_skip hf (wantN hf rfl rfl hb8) rfl (by decide) ?_ rfl
              clear hf; intro a hf
              obtain rfl := Option.some.inj hz7
              refine st_pick (v := .bool true) hf rfl rfl (fun hb' => ?_) (fun hb' => ?_) (by decide) ?_
              · rfl
              · exact absurd (hb8.symm.trans hb') (by decide)
              clear hf; intro a ha hf; clear ha
              refine st_nil hf (th_n ?_)
              exact ⟨hf.sub ⟨rfl, rfl, rfl, rfl, rfl, rfl, trivial⟩, hp⟩
            · skip
              replace hz7 := ifF hz7 hb8
              refine st_move hf (wantY hf rfl rfl hb8) rfl (by decide) ?_
              clear hf; intro a ha hf; clear ha
              refine st_move hf (wantY hf rfl rfl hb8) rfl (by decide) ?_
              clear hf; intro a ha hf; clear ha
              refine st_lenV hf (by decide) Try.underlying31 (wantY hf rfl rfl hb8) rfl (hrows0.ob hp).shapeVY ?_
              clear hf; intro a ha hf; clear ha
              obtain ⟨hc10, hz7⟩ := chk hz7
              refine st_iquo hf (by decide) (wantY hf rfl rfl hb8) rfl rfl hc10 ?_
              clear hf; intro a ha hf; clear ha
              refine st_igtr hf (by decide) (wantY hf rfl rfl hb8) rfl rfl ?_
              clear hf; intro a ha hf; clear ha
              obtain rfl := Option.some.inj hz7
              refine st_pick (v := .bool (decide ((IntKind.i64.wrap (((65536 : Int)).tdiv (rows0.length : Int))) < ((gt rows0 (0 : Int)).length : Int)))) hf rfl rfl (fun hb' => ?_) (fun hb' => ?_) (by decide) ?_
              · exact absurd (hb8.symm.trans hb') (by decide)
              · rfl
              clear hf; intro a ha hf; clear ha
              refine st_nil hf (th_n ?_)
              exact ⟨hf.sub ⟨rfl, rfl, rfl, rfl, rfl, rfl, trivial⟩, hp⟩
          · rintro a w ⟨hf, hp⟩
            refine st_nil hf ?_
            refine th_n ?_
            refine wp_if hf rfl (fun hb => ?_) (fun hb => ?_)
            · replace h := ifT h hb
              refine wp_seq ?_
              refine wp_reg ?_
              refine st_assign hf rfl rfl (by decide) ?_
              clear hf; intro a ha hf; clear ha
              refine st_assign hf rfl rfl (by decide) ?_
              clear hf; intro a ha hf; clear ha
              refine st_nil hf ?_
              refine th_n ?_
              refine wp_ret ?_
              refine ib_r ?_
              refine th_r ?_
              obtain rfl := Option.some.inj h
              have hp := hp.nil Ek.c128 36
              exact rnd_r (by simp) ⟨rfl, ⟨_, hf.sub ⟨rfl, rfl, trivial⟩, hp⟩⟩
            · replace h := ifF h hb
              refine wp_skip ?_
              refine ib_n ?_
              refine th_n ?_
              refine wp_reg ?_
              refine st_iadd hf (by decide) rfl rfl rfl ?_
              clear hf; intro a ha hf; clear ha
              refine st_move hf rfl rfl (by decide) ?_
              clear hf; intro a ha hf; clear ha
              refine st_nil hf ?_
              obtain rfl := Option.some.inj h
              exact rnd_l ⟨hf.sub ⟨rfl, rfl, rfl, rfl, rfl, trivial⟩, hp⟩
        · replace h := ifF h hb
          refine wp_exit ?_
          refine th_e ?_
          obtain rfl := Option.some.inj h
          exact rnd_r (by simp) ⟨rfl, hf.sub ⟨rfl, rfl, trivial⟩, hp⟩
      · clear hl hf hp
        intro e a w hne hO
        cases q12 with
        | inl q13 =>
          replace h := smL h
          obtain ⟨rfl, hf, hp⟩ := hO
          refine ib_same ?_
          refine th_n ?_
          refine wp_seq ?_
          refine wp_reg ?_
          refine st_move hf rfl rfl (by decide) ?_
          clear hf; intro a ha hf; clear ha
          refine st_move hf rfl rfl (by decide) ?_
          clear hf; intro a ha hf; clear ha
          refine st_lenV hf (by decide) Try.underlying31 rfl rfl (hrows0.ob hp).shapeVY ?_
          clear hf; intro a ha hf; clear ha
          refine st_imul hf (by decide) rfl rfl rfl ?_
          clear hf; intro a ha hf; clear ha
          obtain ⟨hc15, h⟩ := chk h
          refine st_make (E := Ek.c128) hf (by decide) elt36 Try.underlying24 (by decide) hp rfl rfl rfl hc15.1 hc15.2.1 hc15.2.2 ?_
          clear hf; intro a w v16 hf hp0; clear hp; have hp := hp0; clear hp0
          replace hp : Hp _ _ w (Res.sl Ek.c128 36 v16 (List.replicate ((0 : Int)).toNat (Fl.bits 0, Fl.bits 0)) :: ow) := hp
          refine st_assign hf rfl rfl (by decide) ?_
          clear hf; intro a ha hf; clear ha
          refine st_nil hf ?_
          refine th_n ?_
          refine wp_seq ?_
          refine wp_seq ?_
          refine wp_reg ?_
          refine st_move hf rfl rfl (by decide) ?_
          clear hf; intro a ha hf; clear ha
          refine st_move hf rfl rfl (by decide) ?_
          clear hf; intro a ha hf; clear ha
          refine st_nil hf ?_
          refine th_n ?_
          refine wp_block ?_
          obtain ⟨q37, hl, h⟩ := bnd h
          refine wp_loop_pure (f := (f_mix_Merge.s2 rows0)) (s := ((List.replicate ((0 : Int)).toNat (Fl.bits 0, Fl.bits 0)), (0 : Int))) (fun s a w => ∃ (v18 : Value), Fr 65 a [(0, vrows0), (7, v18), (45, .int .i64 ((gt rows0 (0 : Int)).length : Int)), (46, .int .i64 s.2)] ∧ Hp S w0 w (Res.sl Ek.c128 36 v18 s.1 :: ow)) (fun q e a w => e = .exit 2 ∧ ∃ (v20 : Value), Fr 65 a [(7, v20)] ∧ Hp S w0 w (Res.sl Ek.c128 36 v20 q :: ow)) ?_ hl ⟨_, hf.sub ⟨rfl, rfl, rfl, rfl, trivial⟩, hp⟩ ?_
          · clear hl hf hp
            intro s x a w h hI
            obtain ⟨out7, t46⟩ := s
            obtain ⟨v18, hf, hp⟩ : ∃ (v18 : Value), Fr 65 a [(0, vrows0), (7, v18), (45, .int .i64 ((gt rows0 (0 : Int)).length : Int)), (46, .int .i64 t46)] ∧ Hp S w0 w (Res.sl Ek.c128 36 v18 out7 :: ow) := hI
            replace h : f_mix_Merge.s2c rows0 out7 t46 = some x := h
            unfold f_mix_Merge.s2c at h
            refine wp_seq ?_
            refine wp_reg ?_
            refine st_ilss hf (by decide) rfl rfl rfl ?_
            clear hf; intro a ha hf; clear ha
            refine st_nil hf ?_
            refine th_n ?_
            refine wp_seq ?_
            refine wp_if hf rfl (fun hb => ?_) (fun hb => ?_)
            · replace h := ifT h hb
              refine wp_skip ?_
              refine th_n ?_
              refine wp_seq ?_
              refine wp_block ?_
              refine wp_seq ?_
              refine wp_reg ?_
              refine st_move hf rfl rfl (by decide) ?_
              clear hf; intro a ha hf; clear ha
              refine st_assign hf rfl rfl (by decide) ?_
              clear hf; intro a ha hf; clear ha
              refine st_nil hf ?_
              refine th_n ?_
              refine wp_seq ?_
              refine wp_reg ?_
              refine st_move hf rfl rfl (by decide) ?_
              clear hf; intro a ha hf; clear ha
              refine st_lenV hf (by decide) Try.underlying31 rfl rfl (hrows0.ob hp).shapeVY ?_
              clear hf; intro a ha hf; clear ha
              refine st_move hf rfl rfl (by decide) ?_
              clear hf; intro a ha hf; clear ha
              refine st_nil hf ?_
              refine th_n ?_
              refine wp_block ?_
              obtain ⟨q36, hl, h⟩ := bnd h
              refine wp_loop_pure (f := (f_mix_Merge.s3 rows0 t46)) (s := (out7, (0 : Int))) (fun s a w => ∃ (v22 : Value), Fr 65 a [(0, vrows0), (7, v22), (8, .int .i64 t46), (45, .int .i64 ((gt rows0 (0 : Int)).length : Int)), (46, .int .i64 t46), (49, vrows0), (50, .int .i64 (rows0.length : Int)), (51, .int .i64 s.2)] ∧ Hp S w0 w (Res.sl Ek.c128 36 v22 s.1 :: ow)) (fun q e a w => e = .exit 4 ∧ ∃ (v24 : Value), Fr 65 a [(0, vrows0), (7, v24), (45, .int .i64 ((gt rows0 (0 : Int)).length : Int)), (46, .int .i64 t46)] ∧ Hp S w0 w (Res.sl Ek.c128 36 v24 q :: ow)) ?_ hl ⟨_, hf.sub ⟨rfl, rfl, rfl, rfl, rfl, rfl, rfl, rfl, trivial⟩, hp⟩ ?_
              · clear hl hf hp
                intro s x a w h hI
                obtain ⟨out7, t51⟩ := s
                obtain ⟨v22, hf, hp⟩ : ∃ (v22 : Value), Fr 65 a [(0, vrows0), (7, v22), (8, .int .i64 t46), (45, .int .i64 ((gt rows0 (0 : Int)).length : Int)), (46, .int .i64 t46), (49, vrows0), (50, .int .i64 (rows0.length : Int)), (51, .int .i64 t51)] ∧ Hp S w0 w (Res.sl Ek.c128 36 v22 out7 :: ow) := hI
                replace h : f_mix_Merge.s3c rows0 t46 out7 t51 = some x := h
                unfold f_mix_Merge.s3c at h
                refine wp_seq ?_
                refine wp_reg ?_
                refine st_ilss hf (by decide) rfl rfl rfl ?_
                clear hf; intro a ha hf; clear ha
                refine st_nil hf ?_
                refine th_n ?_
                refine wp_seq ?_
                refine wp_if hf rfl (fun hb => ?_) (fun hb => ?_)
                · replace h := ifT h hb
                  refine wp_skip ?_
                  refine th_n ?_
                  refine wp_seq ?_
                  refine wp_block ?_
                  refine wp_seq ?_
                  refine wp_reg ?_
                  obtain ⟨hc26, h⟩ := chk h
                  refine st_indexV (E := Ek.val) (m := rows0.length) hf (by decide) Try.underlying31 eltv24 rfl rfl rfl (hrows0.ob hp).shapeNY hc26.1 hc26.2 ?_
                  clear hf; intro a ha hf; clear ha
                  refine st_ldRY hf (by decide) pl24 rfl rfl (hrows0.ob hp) hc26.1 hc26.2 ?_
                  clear hf; intro a ha hf; clear ha
                  refine st_assign hf rfl rfl (by decide) ?_
                  clear hf; intro a ha hf; clear ha
                  refine st_nil hf ?_
                  refine th_n ?_
                  refine wp_reg ?_
                  refine st_move hf rfl rfl (by decide) ?_
                  clear hf; intro a ha hf; clear ha
                  refine st_move hf rfl rfl (by decide) ?_
                  clear hf; intro a ha hf; clear ha
                  refine st_move hf rfl rfl (by decide) ?_
                  clear hf; intro a ha hf; clear ha
                  obtain ⟨hc27, h⟩ := chk h
                  refine st_index (E := Ek.c128) hf (by decide) Try.underlying24 elt36 rfl rfl rfl ((RdR.rowS hrows0 hc26.1 hc26.2).sl hp) hc27.1 hc27.2 ?_
                  clear hf; intro a ha hf; clear ha
                  refine st_ldC hf (by decide) pl36 rfl rfl ((RdR.rowS hrows0 hc26.1 hc26.2).sl hp) hc27.1 hc27.2 ?_
                  clear hf; intro a b28 b29 y30 y31 ha hf; clear ha
                  refine st_build (E := Ek.c128) (xs := [(gt (gt rows0 t51) t46)]) hf (by decide) elt36 Try.underlying24 hp (vals := #[(0, .complex .f64 b28 b29)]) (cells := #[.complex .f64 b28 b29]) rfl (by simp [hf.ev (x := (Operand.tmp 59)) rfl]) (by decide) (by decide) (z := .complex .f64 0 0) (by kernel_rfl) (by kernel_rfl) rfl (reps_cons (cs := [.complex .f64 b28 b29]) (show Ek.c128.rep [.complex .f64 b28 b29] (gt (gt rows0 t51) t46) from ⟨_, _, rfl, y30, y31⟩) (reps_nil _)) ?_
                  clear hf; intro a w v32 hf hp0; clear hp; have hp := hp0; clear hp0
                  replace hp : Hp _ _ w (Res.sl Ek.c128 36 v32 ([(gt (gt rows0 t51) t46)]) :: Res.sl Ek.c128 36 v22 out7 :: ow) := hp
                  obtain ⟨hc34, h⟩ := chk h
                  refine st_append (E := Ek.c128) hf (by decide) elt36 Try.underlying24 (by decide) hp (i := 1) rfl rfl rfl rfl (hp.sl (i := 0) rfl) hc34 ?_
                  clear hf; intro a w v35 hf hp0; clear hp; have hp := hp0; clear hp0
                  replace hp : Hp _ _ w (Res.sl Ek.c128 36 v32 ([(gt (gt rows0 t51) t46)]) :: Res.sl Ek.c128 36 v35 (out7 ++ [(gt (gt rows0 t51) t46)]) :: ow) := hp
                  refine st_assign hf rfl rfl (by decide) ?_
                  clear hf; intro a ha hf; clear ha
                  refine st_nil hf ?_
                  refine ib_n ?_
                  refine th_n ?_
                  refine wp_reg ?_
                  refine st_iadd hf (by decide) rfl rfl rfl ?_
                  clear hf; intro a ha hf; clear ha
                  refine st_move hf rfl rfl (by decide) ?_
                  clear hf; intro a ha hf; clear ha
                  refine st_nil hf ?_
                  obtain rfl := Option.some.inj h
                  have hp : Hp _ _ w (Res.sl Ek.c128 36 v35 (out7 ++ [(gt (gt rows0 t51) t46)]) :: ow) := Hp.sel (pre := [Res.sl Ek.c128 36 v32 ([(gt (gt rows0 t51) t46)]), Res.sl Ek.c128 36 v35 (out7 ++ [(gt (gt rows0 t51) t46)])]) (tail := ow) (rs' := [Res.sl Ek.c128 36 v35 (out7 ++ [(gt (gt rows0 t51) t46)])]) hp [1] (by decide) (by simp) rfl
                  exact rnd_l ⟨_, hf.sub ⟨rfl, rfl, rfl, rfl, rfl, rfl, rfl, rfl, trivial⟩, hp⟩
                · replace h := ifF h hb
                  refine wp_exit ?_
                  refine th_e ?_
                  obtain rfl := Option.some.inj h
                  exact rnd_r (by simp) ⟨rfl, _, hf.sub ⟨rfl, rfl, rfl, rfl, trivial⟩, hp⟩
              · clear hl hf hp
                intro e a w hne hO
                obtain ⟨rfl, v24, hf, hp⟩ := hO
                refine ib_same ?_
                refine ib_n ?_
                refine th_n ?_
                refine wp_reg ?_
                refine st_iadd hf (by decide) rfl rfl rfl ?_
                clear hf; intro a ha hf; clear ha
                refine st_move hf rfl rfl (by decide) ?_
                clear hf; intro a ha hf; clear ha
                refine st_nil hf ?_
                obtain rfl := Option.some.inj h
                exact rnd_l ⟨_, hf.sub ⟨rfl, rfl, rfl, rfl, trivial⟩, hp⟩
            · replace h := ifF h hb
              refine wp_exit ?_
              refine th_e ?_
              obtain rfl := Option.some.inj h
              exact rnd_r (by simp) ⟨rfl, _, hf.sub ⟨rfl, trivial⟩, hp⟩
          · clear hl hf hp
            intro e a w hne hO
            obtain ⟨rfl, v20, hf, hp⟩ := hO
            refine ib_same ?_
            refine th_n ?_
            refine wp_seq ?_
            refine wp_reg ?_
            refine st_move hf rfl rfl (by decide) ?_
            clear hf; intro a ha hf; clear ha
            refine st_assign hf rfl rfl (by decide) ?_
            clear hf; intro a ha hf; clear ha
            refine st_assign hf rfl rfl (by decide) ?_
            clear hf; intro a ha hf; clear ha
            refine st_nil hf ?_
            refine th_n ?_
            refine wp_ret ?_
            obtain rfl := Option.some.inj h
            exact ⟨rfl, ⟨_, hf.sub ⟨rfl, rfl, trivial⟩, hp⟩⟩
        | inr q14 =>
          replace h := smR h
          obtain ⟨rfl, x0, hf, hp⟩ := hO
          refine ib_r ?_
          refine th_r ?_
          obtain rfl := Option.some.inj h
          exact ⟨rfl, ⟨_, hf.sub ⟨rfl, rfl, trivial⟩, hp⟩⟩

end Go.Proofs.Ytfppofbdmhihpaa
