/- The functions foghorn foghornlaw08.MixLines: what each answers, as a plain function, and that its call answers it; printed by gen.py. -/
import Derived.Test.YtfppofbdmhihpaaProg
import Derived.Test.YtfppofbdmhihpaaGlN
import Derived.KernelRfl
import Derived.Test.YtfppofbdmhihpaaG2p1
set_option linter.unusedVariables false
set_option maxRecDepth 100000
set_option maxHeartbeats 4000000
namespace Go.Proofs.Ytfppofbdmhihpaa
open GL
noncomputable def f_foghornlaw08_MixLines.s1c (r1 : (List Int)) (line6 : (List Fl)) (i7 : Int) : Option (((List Fl) × Int) ⊕ (List Fl)) := (if (decide (i7 < (r1.length : Int))) = true then (if 0 ≤ i7 ∧ i7 < (r1.length : Int) then (if (line6.length + ([(Fl.bits ((gt r1 i7)).toNat)]).length) * 8 ≤ 140737488355328 then (some (Sum.inl ((line6 ++ [(Fl.bits ((gt r1 i7)).toNat)]), (IntKind.i64.wrap (i7 + (1 : Int)))))) else none) else none) else (some (Sum.inr line6)))
noncomputable def f_foghornlaw08_MixLines.s1 (r1 : (List Int)) (s : ((List Fl) × Int)) : Option (((List Fl) × Int) ⊕ (List Fl)) := f_foghornlaw08_MixLines.s1c r1 s.1 s.2
noncomputable def f_foghornlaw08_MixLines.s2c (b11 : (List Fl)) (i15 : Int) : Option (((List Fl) × Int) ⊕ (List Fl)) := (if (decide (i15 < (b11.length : Int))) = true then (if 0 ≤ i15 ∧ i15 < (b11.length : Int) then (some (Sum.inl ((b11.set (i15).toNat (Fl.bits 4617315517961601024)), (IntKind.i64.wrap (i15 + (1 : Int)))))) else none) else (some (Sum.inr b11)))
noncomputable def f_foghornlaw08_MixLines.s2  (s : ((List Fl) × Int)) : Option (((List Fl) × Int) ⊕ (List Fl)) := f_foghornlaw08_MixLines.s2c s.1 s.2
noncomputable def f_foghornlaw08_MixLines.s3c (b11 : (List Fl)) (k16 : Int) : Option (((List Fl) × Int) ⊕ (List Fl)) := (if (decide (k16 < (20 : Int))) = true then (if (b11.length + ([(Fl.bits 4618441417868443648)]).length) * 8 ≤ 140737488355328 then (some (Sum.inl ((b11 ++ [(Fl.bits 4618441417868443648)]), (IntKind.i64.wrap (k16 + (1 : Int)))))) else none) else (some (Sum.inr b11)))
noncomputable def f_foghornlaw08_MixLines.s3  (s : ((List Fl) × Int)) : Option (((List Fl) × Int) ⊕ (List Fl)) := f_foghornlaw08_MixLines.s3c s.1 s.2
noncomputable def f_foghornlaw08_MixLines.s4c (r1 : (List Int)) (q14 : (List Fl)) (i23 : Int) : Option (Int ⊕ (Unit ⊕ Bool)) := (if (decide (i23 < (((((([] : List Fl) ++ q14) ++ [(Fl.bits 4651892959631900672)]) ++ ([] : List Fl)).take (((q14.length : Int)).toNat)).length : Int))) = true then (if 0 ≤ i23 ∧ i23 < (((((([] : List Fl) ++ q14) ++ [(Fl.bits 4651892959631900672)]) ++ ([] : List Fl)).take (((q14.length : Int)).toNat)).length : Int) then ((fbits (gt ((((([] : List Fl) ++ q14) ++ [(Fl.bits 4651892959631900672)]) ++ ([] : List Fl)).take (((q14.length : Int)).toNat)) i23)).bind fun q189 => (if 0 ≤ i23 ∧ i23 < (r1.length : Int) then (if (q189 != (gt r1 i23)) = true then (some (Sum.inr (Sum.inr false))) else (some (Sum.inl (IntKind.i64.wrap (i23 + (1 : Int)))))) else none)) else none) else (some (Sum.inr (Sum.inl ()))))
noncomputable def f_foghornlaw08_MixLines.s4 (r1 : (List Int)) (q14 : (List Fl)) (s : Int) : Option (Int ⊕ (Unit ⊕ Bool)) := f_foghornlaw08_MixLines.s4c r1 q14 s
noncomputable def f_foghornlaw08_MixLines (l0 : (List Int)) (r1 : (List Int)) : Option Bool := ((f_foghornlaw08_numbers l0).bind fun q1 => ((loop (f_foghornlaw08_MixLines.s1 r1) ([], (0 : Int))).bind (fun q14 => (if (([] : List Fl).length + q14.length) * 8 ≤ 140737488355328 then (if ((([] : List Fl) ++ q14).length + ([(Fl.bits 4651892959631900672)]).length) * 8 ≤ 140737488355328 then (if 0 ≤ (q14.length : Int) ∧ (q14.length : Int) ≤ ((((([] : List Fl) ++ q14) ++ [(Fl.bits 4651892959631900672)]) ++ ([] : List Fl)).length : Int) then ((f_foghornref08_Line q1.1).bind fun q27 => ((f_mix_Line q1.1).bind fun q36 => ((f_mix_Line q1.1).bind fun q45 => ((if (q36.2 != q27.2) = true then (some true) else ((f_foghornref08_Floats q36.1 q27.1).bind fun q57 => (some (!q57)))).bind fun z56 => ((if z56 = true then (some true) else ((f_foghornref08_Floats q45.1 q27.1).bind fun q72 => (some (!q72)))).bind fun z71 => ((if z71 = true then (some true) else ((f_foghornlaw08_kept q1.1 q1.2 l0).bind fun q87 => (some (!q87)))).bind fun z86 => (if z86 = true then (some false) else ((loop f_foghornlaw08_MixLines.s2 (q36.1, (0 : Int))).bind (fun q99 => ((loop f_foghornlaw08_MixLines.s3 (q99, (0 : Int))).bind (fun q108 => ((f_foghornref08_Unline q14).bind fun q109 => ((f_mix_Unline ((((([] : List Fl) ++ q14) ++ [(Fl.bits 4651892959631900672)]) ++ ([] : List Fl)).take (((q14.length : Int)).toNat))).bind fun q118 => ((f_mix_Unline ((((([] : List Fl) ++ q14) ++ [(Fl.bits 4651892959631900672)]) ++ ([] : List Fl)).take (((q14.length : Int)).toNat))).bind fun q127 => ((if (q118.2 != q109.2) = true then (some true) else ((f_foghornlaw08_fresh q118.1 q127.1 q109.1).bind fun q139 => (some (!q139)))).bind fun z138 => ((if z138 = true then (some true) else ((f_foghornref08_Floats q45.1 q27.1).bind fun q155 => (some (!q155)))).bind fun z154 => ((if (z154 || (decide ((q108.length : Int) < (20 : Int)))) = true then (some true) else (if 0 ≤ (IntKind.i64.wrap ((q14.length : Int) + (1 : Int))) ∧ (IntKind.i64.wrap ((q14.length : Int) + (1 : Int))) ≤ ((((((([] : List Fl) ++ q14) ++ [(Fl.bits 4651892959631900672)]) ++ ([] : List Fl)).take (((q14.length : Int)).toNat)) ++ ((((([] : List Fl) ++ q14) ++ [(Fl.bits 4651892959631900672)]) ++ ([] : List Fl)).drop (((q14.length : Int)).toNat))).length : Int) then (if 0 ≤ (q14.length : Int) ∧ (q14.length : Int) < (((((((([] : List Fl) ++ q14) ++ [(Fl.bits 4651892959631900672)]) ++ ([] : List Fl)).take (((q14.length : Int)).toNat)) ++ ((((([] : List Fl) ++ q14) ++ [(Fl.bits 4651892959631900672)]) ++ ([] : List Fl)).drop (((q14.length : Int)).toNat))).take (((IntKind.i64.wrap ((q14.length : Int) + (1 : Int)))).toNat)).length : Int) then (some (fne (gt ((((((([] : List Fl) ++ q14) ++ [(Fl.bits 4651892959631900672)]) ++ ([] : List Fl)).take (((q14.length : Int)).toNat)) ++ ((((([] : List Fl) ++ q14) ++ [(Fl.bits 4651892959631900672)]) ++ ([] : List Fl)).drop (((q14.length : Int)).toNat))).take (((IntKind.i64.wrap ((q14.length : Int) + (1 : Int)))).toNat)) (q14.length : Int)) (Fl.bits 4651892959631900672))) else none) else none)).bind fun z171 => (if z171 = true then (some false) else ((loop (f_foghornlaw08_MixLines.s4 r1 q14) (0 : Int)).bind (fun q193 => sm q193 (fun q194 => (some true)) (fun q195 => (some q195)))))))))))))))))))))) else none) else none) else none))))
theorem f_foghornlaw08_MixLines_c {S : Nat → Prop} {w0 w : World} {ow : List Res} (hp : Hp S w0 w ow) (vl0 : Value) (l0 : (List Int)) (hl0 : RdS (Ek.int .u64) S w0 vl0 l0) (vr1 : Value) (r1 : (List Int)) (hr1 : RdS (Ek.int .u64) S w0 vr1 r1) {r : Bool} (h : f_foghornlaw08_MixLines l0 r1 = some r) :
    Calls Try.prog 5 #[vl0, vr1] w (fun e w' => e = .returned (.bool r) ∧ Hp S w0 w' (ow)) := by
  unfold f_foghornlaw08_MixLines at h
  refine enter (n := 164) (args := [vl0, vr1]) Try.func5 rfl rfl (Nat.le_of_ble_eq_true rfl) fun a hf => ?_
  replace hf : Fr 164 a [(0, vl0), (1, vr1)] := hf
  refine wp_mono (Q := fun e a w => e = .ret ∧ Fr 164 a [(4, .bool r)] ∧ Hp S w0 w (ow)) ?_ ?_
  rotate_left
  · rintro e a w ⟨rfl, hf, hp⟩
    exact ret1 hf rfl rfl ⟨rfl, hp⟩
  refine wp_seq ?_
  refine wp_reg ?_
  refine st_assign hf rfl rfl (by decide) ?_
  clear hf; intro a ha hf; clear ha
  refine st_nil hf ?_
  refine th_n ?_
  refine wp_seq ?_
  refine wp_reg ?_
  refine st_move hf rfl rfl (by decide) ?_
  clear hf; intro a ha hf; clear ha
  obtain ⟨q1, hcall2, h⟩ := bnd h
  refine st_call hf (by decide) Try.func9 rfl rfl rfl rfl rfl (f_foghornlaw08_numbers_c hp _ _ hl0 hcall2) ?_
  rintro _ w ⟨v3, rfl, hp0⟩
  clear hp; have hp := hp0; clear hp0
  replace hp : Hp _ _ w (Res.slx Ek.c128 36 v3 q1.1 q1.2 :: ow) := hp
  refine ⟨_, rfl, ?_⟩
  clear hf; intro a hf
  refine st_assign hf rfl rfl (by decide) ?_
  clear hf; intro a ha hf; clear ha
  refine st_nil hf ?_
  refine th_n ?_
  refine wp_seq ?_
  refine wp_reg ?_
  refine st_assign hf rfl rfl (by decide) ?_
  clear hf; intro a ha hf; clear ha
  refine st_nil hf ?_
  refine th_n ?_
  refine wp_seq ?_
  refine wp_seq ?_
  refine wp_reg ?_
  refine st_assign hf rfl rfl (by decide) ?_
  clear hf; intro a ha hf; clear ha
  refine st_nil hf ?_
  refine th_n ?_
  refine wp_block ?_
  obtain ⟨q14, hl, h⟩ := bnd h
  have hp := hp.nil Ek.f64 37
  refine wp_loop_pure (f := (f_foghornlaw08_MixLines.s1 r1)) (s := ([], (0 : Int))) (fun s a w => ∃ (v5 : Value), Fr 164 a [(0, vl0), (1, vr1), (5, v3), (6, v5), (7, .int .i64 s.2)] ∧ Hp S w0 w (Res.sl Ek.f64 37 v5 s.1 :: Res.slx Ek.c128 36 v3 q1.1 q1.2 :: ow)) (fun q e a w => e = .exit 0 ∧ ∃ (v7 : Value), Fr 164 a [(0, vl0), (1, vr1), (5, v3), (6, v7)] ∧ Hp S w0 w (Res.sl Ek.f64 37 v7 q :: Res.slx Ek.c128 36 v3 q1.1 q1.2 :: ow)) ?_ hl ⟨_, hf.sub ⟨rfl, rfl, rfl, rfl, rfl, trivial⟩, hp⟩ ?_
  · clear hl hf hp
    intro s x a w h hI
    obtain ⟨line6, i7⟩ := s
    obtain ⟨v5, hf, hp⟩ : ∃ (v5 : Value), Fr 164 a [(0, vl0), (1, vr1), (5, v3), (6, v5), (7, .int .i64 i7)] ∧ Hp S w0 w (Res.sl Ek.f64 37 v5 line6 :: Res.slx Ek.c128 36 v3 q1.1 q1.2 :: ow) := hI
    replace h : f_foghornlaw08_MixLines.s1c r1 line6 i7 = some x := h
    unfold f_foghornlaw08_MixLines.s1c at h
    refine wp_seq ?_
    refine wp_seq ?_
    refine wp_reg ?_
    refine st_move hf rfl rfl (by decide) ?_
    clear hf; intro a ha hf; clear ha
    refine st_move hf rfl rfl (by decide) ?_
    clear hf; intro a ha hf; clear ha
    refine st_len (E := (Ek.int .u64)) hf (by decide) Try.underlying22 rfl rfl (hr1.sl hp) ?_
    clear hf; intro a ha hf; clear ha
    refine st_ilss hf (by decide) rfl rfl rfl ?_
    clear hf; intro a ha hf; clear ha
    refine st_nil hf ?_
    refine th_n ?_
    refine wp_if hf rfl (fun hb => ?_) (fun hb => ?_)
    · replace h := ifT h hb
      refine wp_skip ?_
      refine th_n ?_
      refine wp_seq ?_
      refine wp_block ?_
      refine wp_reg ?_
      refine st_move hf rfl rfl (by decide) ?_
      clear hf; intro a ha hf; clear ha
      refine st_move hf rfl rfl (by decide) ?_
      clear hf; intro a ha hf; clear ha
      refine st_move hf rfl rfl (by decide) ?_
      clear hf; intro a ha hf; clear ha
      obtain ⟨hc9, h⟩ := chk h
      refine st_index (E := (Ek.int .u64)) hf (by decide) Try.underlying22 elt42 rfl rfl rfl (hr1.sl hp) hc9.1 hc9.2 ?_
      clear hf; intro a ha hf; clear ha
      refine st_ldI hf (by decide) pl42 rfl rfl (hr1.sl hp) hc9.1 hc9.2 ?_
      clear hf; intro a ha hf; clear ha
      refine st_extern (ex := Extern.MathFloatBits.float64frombits) (r := .float .f64 ((gt r1 i7)).toNat) (f := 24) (vs := [.int .u64 (gt r1 i7)]) hf (by decide) Try.func24 rfl rfl (by kernel_rfl) (by kernel_rfl) rfl rfl rfl rfl ?_
      clear hf; intro a ha hf; clear ha
      refine st_build (E := Ek.f64) (xs := [(Fl.bits ((gt r1 i7)).toNat)]) hf (by decide) elt37 Try.underlying40 hp (vals := #[(0, .float .f64 ((gt r1 i7)).toNat)]) (cells := #[.float .f64 ((gt r1 i7)).toNat]) rfl (by simp [hf.ev (x := (Operand.tmp 37)) rfl]) (by decide) (by decide) (z := .float .f64 0) (by kernel_rfl) (by kernel_rfl) rfl (reps_cons (cs := [.float .f64 ((gt r1 i7)).toNat]) (show Ek.f64.rep [.float .f64 ((gt r1 i7)).toNat] (Fl.bits ((gt r1 i7)).toNat) from ⟨_, rfl, rfl⟩) (reps_nil _)) ?_
      clear hf; intro a w v10 hf hp0; clear hp; have hp := hp0; clear hp0
      replace hp : Hp _ _ w (Res.sl Ek.f64 37 v10 ([(Fl.bits ((gt r1 i7)).toNat)]) :: Res.sl Ek.f64 37 v5 line6 :: Res.slx Ek.c128 36 v3 q1.1 q1.2 :: ow) := hp
      obtain ⟨hc12, h⟩ := chk h
      refine st_append (E := Ek.f64) hf (by decide) elt37 Try.underlying40 (by decide) hp (i := 1) rfl rfl rfl rfl (hp.sl (i := 0) rfl) hc12 ?_
      clear hf; intro a w v13 hf hp0; clear hp; have hp := hp0; clear hp0
      replace hp : Hp _ _ w (Res.sl Ek.f64 37 v10 ([(Fl.bits ((gt r1 i7)).toNat)]) :: Res.sl Ek.f64 37 v13 (line6 ++ [(Fl.bits ((gt r1 i7)).toNat)]) :: Res.slx Ek.c128 36 v3 q1.1 q1.2 :: ow) := hp
      refine st_assign hf rfl rfl (by decide) ?_
      clear hf; intro a ha hf; clear ha
      refine st_nil hf ?_
      refine ib_n ?_
      refine th_n ?_
      refine wp_reg ?_
      refine st_move hf rfl rfl (by decide) ?_
      clear hf; intro a ha hf; clear ha
      refine st_iadd hf (by decide) rfl rfl rfl ?_
      clear hf; intro a ha hf; clear ha
      refine st_assign hf rfl rfl (by decide) ?_
      clear hf; intro a ha hf; clear ha
      refine st_nil hf ?_
      obtain rfl := Option.some.inj h
      have hp : Hp _ _ w (Res.sl Ek.f64 37 v13 (line6 ++ [(Fl.bits ((gt r1 i7)).toNat)]) :: Res.slx Ek.c128 36 v3 q1.1 q1.2 :: ow) := Hp.sel (pre := [Res.sl Ek.f64 37 v10 ([(Fl.bits ((gt r1 i7)).toNat)]), Res.sl Ek.f64 37 v13 (line6 ++ [(Fl.bits ((gt r1 i7)).toNat)]), Res.slx Ek.c128 36 v3 q1.1 q1.2]) (tail := ow) (rs' := [Res.sl Ek.f64 37 v13 (line6 ++ [(Fl.bits ((gt r1 i7)).toNat)]), Res.slx Ek.c128 36 v3 q1.1 q1.2]) hp [1, 2] (by decide) (by simp) rfl
      exact rnd_l ⟨_, hf.sub ⟨rfl, rfl, rfl, rfl, rfl, trivial⟩, hp⟩
    · replace h := ifF h hb
      refine wp_exit ?_
      refine th_e ?_
      obtain rfl := Option.some.inj h
      exact rnd_r (by simp) ⟨rfl, _, hf.sub ⟨rfl, rfl, rfl, rfl, trivial⟩, hp⟩
  · clear hl hf hp
    intro e a w hne hO
    obtain ⟨rfl, v7, hf, hp⟩ := hO
    refine ib_same ?_
    refine th_n ?_
    refine wp_seq ?_
    refine wp_reg ?_
    refine st_build0 (E := Ek.f64) hf (by decide) elt37 Try.underlying40 hp rfl ?_
    clear hf; intro a w v16 hf hp0; clear hp; have hp := hp0; clear hp0
    replace hp : Hp _ _ w (Res.sl Ek.f64 37 v16 ([] : List Fl) :: Res.sl Ek.f64 37 v7 q14 :: Res.slx Ek.c128 36 v3 q1.1 q1.2 :: ow) := hp
    refine st_move hf rfl rfl (by decide) ?_
    clear hf; intro a ha hf; clear ha
    obtain ⟨hc18, h⟩ := chk h
    refine st_append (E := Ek.f64) hf (by decide) elt37 Try.underlying40 (by decide) hp (i := 0) rfl rfl rfl rfl (hp.sl (i := 1) rfl) hc18 ?_
    clear hf; intro a w v19 hf hp0; clear hp; have hp := hp0; clear hp0
    replace hp : Hp _ _ w (Res.sl Ek.f64 37 v19 (([] : List Fl) ++ q14) :: Res.sl Ek.f64 37 v7 q14 :: Res.slx Ek.c128 36 v3 q1.1 q1.2 :: ow) := hp
    refine st_build (E := Ek.f64) (xs := [(Fl.bits 4651892959631900672)]) hf (by decide) elt37 Try.underlying40 hp (vals := #[(0, .float .f64 4651892959631900672)]) (cells := #[.float .f64 4651892959631900672]) rfl (by simp [hf.ev (x := (Operand.const (.float .f64 4651892959631900672))) rfl]) (by decide) (by decide) (z := .float .f64 0) (by kernel_rfl) (by kernel_rfl) rfl (reps_cons (cs := [.float .f64 4651892959631900672]) (show Ek.f64.rep [.float .f64 4651892959631900672] (Fl.bits 4651892959631900672) from ⟨_, rfl, rfl⟩) (reps_nil _)) ?_
    clear hf; intro a w v20 hf hp0; clear hp; have hp := hp0; clear hp0
    replace hp : Hp _ _ w (Res.sl Ek.f64 37 v20 ([(Fl.bits 4651892959631900672)]) :: Res.sl Ek.f64 37 v19 (([] : List Fl) ++ q14) :: Res.sl Ek.f64 37 v7 q14 :: Res.slx Ek.c128 36 v3 q1.1 q1.2 :: ow) := hp
    obtain ⟨hc22, h⟩ := chk h
    refine st_append (E := Ek.f64) hf (by decide) elt37 Try.underlying40 (by decide) hp (i := 1) rfl rfl rfl rfl (hp.sl (i := 0) rfl) hc22 ?_
    clear hf; intro a w v23 hf hp0; clear hp; have hp := hp0; clear hp0
    replace hp : Hp _ _ w (Res.sl Ek.f64 37 v20 ([(Fl.bits 4651892959631900672)]) :: Res.sl Ek.f64 37 v23 ((([] : List Fl) ++ q14) ++ [(Fl.bits 4651892959631900672)]) :: Res.sl Ek.f64 37 v7 q14 :: Res.slx Ek.c128 36 v3 q1.1 q1.2 :: ow) := hp
    refine st_move hf rfl rfl (by decide) ?_
    clear hf; intro a ha hf; clear ha
    refine st_len (E := Ek.f64) hf (by decide) Try.underlying40 rfl rfl (hp.sl (i := 2) rfl) ?_
    clear hf; intro a ha hf; clear ha
    obtain ⟨hc24, h⟩ := chk h
    have hc25 : 0 ≤ ((q14.length : Int)).toNat := by omega
    have hc26 : ((q14.length : Int)).toNat ≤ (((([] : List Fl) ++ q14) ++ [(Fl.bits 4651892959631900672)]) ++ ([] : List Fl)).length := by omega
    refine st_cutX (E := Ek.f64) hf (by decide) Try.underlying40 elt37 hp (i := 1) rfl rfl rfl (.inl ⟨rfl, rfl⟩) (.inr ⟨_, _, rfl, evI rfl (by omega)⟩) hc25 hc26 ?_
    clear hf; intro a ha hf; clear ha
    replace hp : Hp _ _ w (Res.sl Ek.f64 37 v20 ([(Fl.bits 4651892959631900672)]) :: Res.slx Ek.f64 37 (GL.cut v23 0 (((q14.length : Int)).toNat) 1) ((((([] : List Fl) ++ q14) ++ [(Fl.bits 4651892959631900672)]) ++ ([] : List Fl)).take (((q14.length : Int)).toNat)) ((((([] : List Fl) ++ q14) ++ [(Fl.bits 4651892959631900672)]) ++ ([] : List Fl)).drop (((q14.length : Int)).toNat)) :: Res.sl Ek.f64 37 v7 q14 :: Res.slx Ek.c128 36 v3 q1.1 q1.2 :: ow) := hp.cutOwn (i := 1) rfl hc26
    refine st_assign hf rfl rfl (by decide) ?_
    clear hf; intro a ha hf; clear ha
    refine st_nil hf ?_
    refine th_n ?_
    refine wp_seq ?_
    refine wp_reg ?_
    refine st_move hf rfl rfl (by decide) ?_
    clear hf; intro a ha hf; clear ha
    obtain ⟨q27, hcall28, h⟩ := bnd h
    obtain ⟨S29, hp30, rd31, up32, bk33⟩ := Hp.lendS hp (i := 3) rfl
    refine st_call hf (by decide) Try.func25 rfl rfl rfl rfl rfl (f_foghornref08_Line_c hp30 _ _ rd31 hcall28) ?_
    rintro _ w ⟨v34, rfl, hp0⟩
    have hp0 := bk33 _ _ hp0
    clear hp; have hp := hp0; clear hp0
    replace hp : Hp _ _ w (Res.slx Ek.c128 36 v3 q1.1 q1.2 :: Res.sl Ek.f64 37 v34 q27.1 :: Res.sl Ek.f64 37 v20 ([(Fl.bits 4651892959631900672)]) :: Res.slx Ek.f64 37 (GL.cut v23 0 (((q14.length : Int)).toNat) 1) ((((([] : List Fl) ++ q14) ++ [(Fl.bits 4651892959631900672)]) ++ ([] : List Fl)).take (((q14.length : Int)).toNat)) ((((([] : List Fl) ++ q14) ++ [(Fl.bits 4651892959631900672)]) ++ ([] : List Fl)).drop (((q14.length : Int)).toNat)) :: Res.sl Ek.f64 37 v7 q14 :: ow) := hp
    refine ⟨_, rfl, ?_⟩
    clear hf; intro a hf
    refine st_move hf rfl rfl (by decide) ?_
    clear hf; intro a ha hf; clear ha
    refine st_extract hf (by decide) rfl rfl rfl ?_
    clear hf; intro a ha hf; clear ha
    refine st_extract hf (by decide) rfl rfl rfl ?_
    clear hf; intro a ha hf; clear ha
    refine st_assign hf rfl rfl (by decide) ?_
    clear hf; intro a ha hf; clear ha
    refine st_assign hf rfl rfl (by decide) ?_
    clear hf; intro a ha hf; clear ha
    refine st_nil hf ?_
    refine th_n ?_
    refine wp_seq ?_
    refine wp_reg ?_
    refine st_move hf rfl rfl (by decide) ?_
    clear hf; intro a ha hf; clear ha
    obtain ⟨q36, hcall37, h⟩ := bnd h
    obtain ⟨S38, hp39, rd40, up41, bk42⟩ := Hp.lendS hp (i := 0) rfl
    refine st_call hf (by decide) Try.func26 rfl rfl rfl rfl rfl (f_mix_Line_c hp39 _ _ rd40 hcall37) ?_
    rintro _ w ⟨v43, rfl, hp0⟩
    have hp0 := bk42 _ _ hp0
    clear hp; have hp := hp0; clear hp0
    replace hp : Hp _ _ w (Res.slx Ek.c128 36 v3 q1.1 q1.2 :: Res.sl Ek.f64 37 v43 q36.1 :: Res.sl Ek.f64 37 v34 q27.1 :: Res.sl Ek.f64 37 v20 ([(Fl.bits 4651892959631900672)]) :: Res.slx Ek.f64 37 (GL.cut v23 0 (((q14.length : Int)).toNat) 1) ((((([] : List Fl) ++ q14) ++ [(Fl.bits 4651892959631900672)]) ++ ([] : List Fl)).take (((q14.length : Int)).toNat)) ((((([] : List Fl) ++ q14) ++ [(Fl.bits 4651892959631900672)]) ++ ([] : List Fl)).drop (((q14.length : Int)).toNat)) :: Res.sl Ek.f64 37 v7 q14 :: ow) := hp
    refine ⟨_, rfl, ?_⟩
    clear hf; intro a hf
    refine st_move hf rfl rfl (by decide) ?_
    clear hf; intro a ha hf; clear ha
    refine st_extract hf (by decide) rfl rfl rfl ?_
    clear hf; intro a ha hf; clear ha
    refine st_extract hf (by decide) rfl rfl rfl ?_
    clear hf; intro a ha hf; clear ha
    refine st_assign hf rfl rfl (by decide) ?_
    clear hf; intro a ha hf; clear ha
    refine st_assign hf rfl rfl (by decide) ?_
    clear hf; intro a ha hf; clear ha
    refine st_nil hf ?_
    refine th_n ?_
    refine wp_seq ?_
    refine wp_reg ?_
    refine st_move hf rfl rfl (by decide) ?_
    clear hf; intro a ha hf; clear ha
    obtain ⟨q45, hcall46, h⟩ := bnd h
    obtain ⟨S47, hp48, rd49, up50, bk51⟩ := Hp.lendS hp (i := 0) rfl
    refine st_call hf (by decide) Try.func26 rfl rfl rfl rfl rfl (f_mix_Line_c hp48 _ _ rd49 hcall46) ?_
    rintro _ w ⟨v52, rfl, hp0⟩
    have hp0 := bk51 _ _ hp0
    clear hp; have hp := hp0; clear hp0
    replace hp : Hp _ _ w (Res.slx Ek.c128 36 v3 q1.1 q1.2 :: Res.sl Ek.f64 37 v52 q45.1 :: Res.sl Ek.f64 37 v43 q36.1 :: Res.sl Ek.f64 37 v34 q27.1 :: Res.sl Ek.f64 37 v20 ([(Fl.bits 4651892959631900672)]) :: Res.slx Ek.f64 37 (GL.cut v23 0 (((q14.length : Int)).toNat) 1) ((((([] : List Fl) ++ q14) ++ [(Fl.bits 4651892959631900672)]) ++ ([] : List Fl)).take (((q14.length : Int)).toNat)) ((((([] : List Fl) ++ q14) ++ [(Fl.bits 4651892959631900672)]) ++ ([] : List Fl)).drop (((q14.length : Int)).toNat)) :: Res.sl Ek.f64 37 v7 q14 :: ow) := hp
    refine ⟨_, rfl, ?_⟩
    clear hf; intro a hf
    refine st_move hf rfl rfl (by decide) ?_
    clear hf; intro a ha hf; clear ha
    refine st_extract hf (by decide) rfl rfl rfl ?_
    clear hf; intro a ha hf; clear ha
    refine st_extract hf (by decide) rfl rfl rfl ?_
    clear hf; intro a ha hf; clear ha
    refine st_assign hf rfl rfl (by decide) ?_
    clear hf; intro a ha hf; clear ha
    refine st_assign hf rfl rfl (by decide) ?_
    clear hf; intro a ha hf; clear ha
    refine st_nil hf ?_
    refine th_n ?_
    refine wp_seq ?_
    refine wp_seq ?_
    refine wp_reg ?_
    refine st_move hf rfl rfl (by decide) ?_
    clear hf; intro a ha hf; clear ha
    refine st_move hf rfl rfl (by decide) ?_
    clear hf; intro a ha hf; clear ha
    refine st_ineq hf (by decide) rfl rfl rfl ?_
    clear hf; intro a ha hf; clear ha
    refine st_move hf rfl rfl (by decide) ?_
    clear hf; intro a ha hf; clear ha
    obtain ⟨z56, hz54, h⟩ := bnd h
    refine wpList_cut 5 (fun a w => Fr 164 a [(0, vl0), (1, vr1), (5, v3), (6, v7), (8, (GL.cut v23 0 (((q14.length : Int)).toNat) 1)), (9, v34), (11, v43), (13, v52), (71, .bool z56)] ∧ Hp S w0 w (Res.slx Ek.c128 36 v3 q1.1 q1.2 :: Res.sl Ek.f64 37 v52 q45.1 :: Res.sl Ek.f64 37 v43 q36.1 :: Res.sl Ek.f64 37 v34 q27.1 :: Res.sl Ek.f64 37 v20 ([(Fl.bits 4651892959631900672)]) :: Res.slx Ek.f64 37 (GL.cut v23 0 (((q14.length : Int)).toNat) 1) ((((([] : List Fl) ++ q14) ++ [(Fl.bits 4651892959631900672)]) ++ ([] : List Fl)).take (((q14.length : Int)).toNat)) ((((([] : List Fl) ++ q14) ++ [(Fl.bits 4651892959631900672)]) ++ ([] : List Fl)).drop (((q14.length : Int)).toNat)) :: Res.sl Ek.f64 37 v7 q14 :: ow)) ?_ ?_
    · rcases Bool.eq_false_or_eq_true (q36.2 != q27.2) with hb55 | hb55
      · skip
        replace hz54 := ifT hz54 hb55
        refine st_skip hf (wantN hf rfl rfl hb55) rfl (by decide) ?_ rfl
        clear hf; intro a hf
        refine st_skip hf (wantN hf rfl rfl hb55) rfl (by decide) ?_ rfl
        clear hf; intro a hf
        refine st_skip hf (wantN hf rfl rfl hb55) rfl (by decide) ?_ rfl
        clear hf; intro a hf
        refine st_skip hf (wantN hf rfl rfl hb55) rfl (by decide) ?_ rfl
        clear hf; intro a hf
        obtain rfl := Option.some.inj hz54
        refine st_pick (v := .bool true) hf rfl rfl (fun hb' => ?_) (fun hb' => ?_) (by decide) ?_
        · rfl
        · exact absurd (hb55.symm.trans hb') (by decide)
        clear hf; intro a ha hf; clear ha
        refine st_nil hf (th_n ?_)
        exact ⟨hf.sub ⟨rfl, rfl, rfl, rfl, rfl, rfl, rfl, rfl, rfl, trivial⟩, hp⟩
      · skip
        replace hz54 := ifF hz54 hb55
        refine st_move hf (wantY hf rfl rfl hb55) rfl (by decide) ?_
        clear hf; intro a ha hf; clear ha
        refine st_move hf (wantY hf rfl rfl hb55) rfl (by decide) ?_
        clear hf; intro a ha hf; clear ha
        obtain ⟨q57, hcall58, hz54⟩ := bnd hz54
        obtain ⟨S59, hp60, rd61, up62, bk63⟩ := Hp.lendS hp (i := 2) rfl
        obtain ⟨S64, hp65, rd66, up67, bk68⟩ := Hp.lendS hp60 (i := 2) rfl
        refine st_call hf (by decide) Try.func27 rfl rfl (wantY hf rfl rfl hb55) rfl rfl (f_foghornref08_Floats_c hp65 _ _ ((rd61.now hp60).mono up67) _ _ rd66 hcall58) ?_
        rintro _ w ⟨rfl, hp0⟩
        have hp0 := bk68 _ _ hp0
        have hp0 := bk63 _ _ hp0
        clear hp; have hp := hp0; clear hp0
        replace hp : Hp _ _ w (Res.sl Ek.f64 37 v43 q36.1 :: Res.sl Ek.f64 37 v34 q27.1 :: Res.slx Ek.c128 36 v3 q1.1 q1.2 :: Res.sl Ek.f64 37 v52 q45.1 :: Res.sl Ek.f64 37 v20 ([(Fl.bits 4651892959631900672)]) :: Res.slx Ek.f64 37 (GL.cut v23 0 (((q14.length : Int)).toNat) 1) ((((([] : List Fl) ++ q14) ++ [(Fl.bits 4651892959631900672)]) ++ ([] : List Fl)).take (((q14.length : Int)).toNat)) ((((([] : List Fl) ++ q14) ++ [(Fl.bits 4651892959631900672)]) ++ ([] : List Fl)).drop (((q14.length : Int)).toNat)) :: Res.sl Ek.f64 37 v7 q14 :: ow) := hp
        refine ⟨_, rfl, ?_⟩
        clear hf; intro a hf
        refine st_not hf (by decide) (wantY hf rfl rfl hb55) rfl ?_
        clear hf; intro a ha hf; clear ha
        obtain rfl := Option.some.inj hz54
        refine st_pick (v := .bool (!q57)) hf rfl rfl (fun hb' => ?_) (fun hb' => ?_) (by decide) ?_
        · exact absurd (hb55.symm.trans hb') (by decide)
        · rfl
        clear hf; intro a ha hf; clear ha
        refine st_nil hf (th_n ?_)
        have hp : Hp _ _ w (Res.slx Ek.c128 36 v3 q1.1 q1.2 :: Res.sl Ek.f64 37 v52 q45.1 :: Res.sl Ek.f64 37 v43 q36.1 :: Res.sl Ek.f64 37 v34 q27.1 :: Res.sl Ek.f64 37 v20 ([(Fl.bits 4651892959631900672)]) :: Res.slx Ek.f64 37 (GL.cut v23 0 (((q14.length : Int)).toNat) 1) ((((([] : List Fl) ++ q14) ++ [(Fl.bits 4651892959631900672)]) ++ ([] : List Fl)).take (((q14.length : Int)).toNat)) ((((([] : List Fl) ++ q14) ++ [(Fl.bits 4651892959631900672)]) ++ ([] : List Fl)).drop (((q14.length : Int)).toNat)) :: Res.sl Ek.f64 37 v7 q14 :: ow) := Hp.sel (pre := [Res.sl Ek.f64 37 v43 q36.1, Res.sl Ek.f64 37 v34 q27.1, Res.slx Ek.c128 36 v3 q1.1 q1.2, Res.sl Ek.f64 37 v52 q45.1, Res.sl Ek.f64 37 v20 ([(Fl.bits 4651892959631900672)]), Res.slx Ek.f64 37 (GL.cut v23 0 (((q14.length : Int)).toNat) 1) ((((([] : List Fl) ++ q14) ++ [(Fl.bits 4651892959631900672)]) ++ ([] : List Fl)).take (((q14.length : Int)).toNat)) ((((([] : List Fl) ++ q14) ++ [(Fl.bits 4651892959631900672)]) ++ ([] : List Fl)).drop (((q14.length : Int)).toNat)), Res.sl Ek.f64 37 v7 q14]) (tail := ow) (rs' := [Res.slx Ek.c128 36 v3 q1.1 q1.2, Res.sl Ek.f64 37 v52 q45.1, Res.sl Ek.f64 37 v43 q36.1, Res.sl Ek.f64 37 v34 q27.1, Res.sl Ek.f64 37 v20 ([(Fl.bits 4651892959631900672)]), Res.slx Ek.f64 37 (GL.cut v23 0 (((q14.length : Int)).toNat) 1) ((((([] : List Fl) ++ q14) ++ [(Fl.bits 4651892959631900672)]) ++ ([] : List Fl)).take (((q14.length : Int)).toNat)) ((((([] : List Fl) ++ q14) ++ [(Fl.bits 4651892959631900672)]) ++ ([] : List Fl)).drop (((q14.length : Int)).toNat)), Res.sl Ek.f64 37 v7 q14]) hp [2, 3, 0, 1, 4, 5, 6] (by decide) (by simp) rfl
        exact ⟨hf.sub ⟨rfl, rfl, rfl, rfl, rfl, rfl, rfl, rfl, rfl, trivial⟩, hp⟩
    · rintro a w ⟨hf, hp⟩
      refine st_move hf rfl rfl (by decide) ?_
      clear hf; intro a ha hf; clear ha
      obtain ⟨z71, hz69, h⟩ := bnd h
      refine wpList_cut 5 (fun a w => Fr 164 a [(0, vl0), (1, vr1), (5, v3), (6, v7), (8, (GL.cut v23 0 (((q14.length : Int)).toNat) 1)), (9, v34), (11, v43), (13, v52), (77, .bool z71)] ∧ Hp S w0 w (Res.slx Ek.c128 36 v3 q1.1 q1.2 :: Res.sl Ek.f64 37 v52 q45.1 :: Res.sl Ek.f64 37 v43 q36.1 :: Res.sl Ek.f64 37 v34 q27.1 :: Res.sl Ek.f64 37 v20 ([(Fl.bits 4651892959631900672)]) :: Res.slx Ek.f64 37 (GL.cut v23 0 (((q14.length : Int)).toNat) 1) ((((([] : List Fl) ++ q14) ++ [(Fl.bits 4651892959631900672)]) ++ ([] : List Fl)).take (((q14.length : Int)).toNat)) ((((([] : List Fl) ++ q14) ++ [(Fl.bits 4651892959631900672)]) ++ ([] : List Fl)).drop (((q14.length : Int)).toNat)) :: Res.sl Ek.f64 37 v7 q14 :: ow)) ?_ ?_
      · rcases Bool.eq_false_or_eq_true z56 with hb70 | hb70
        · skip
          replace hz69 := ifT hz69 hb70
          refine st_skip hf (wantN hf rfl rfl hb70) rfl (by decide) ?_ rfl
          clear hf; intro a hf
          refine st_skip hf (wantN hf rfl rfl hb70) rfl (by decide) ?_ rfl
          clear hf; intro a hf
          refine st_skip hf (wantN hf rfl rfl hb70) rfl (by decide) ?_ rfl
          clear hf; intro a hf
          refine st_skip hf (wantN hf rfl rfl hb70) rfl (by decide) ?_ rfl
          clear hf; intro a hf
          obtain rfl := Option.some.inj hz69
          refine st_pick (v := .bool true) hf rfl rfl (fun hb' => ?_) (fun hb' => ?_) (by decide) ?_
          · rfl
          · exact absurd (hb70.symm.trans hb') (by decide)
          clear hf; intro a ha hf; clear ha
          refine st_nil hf (th_n ?_)
          exact ⟨hf.sub ⟨rfl, rfl, rfl, rfl, rfl, rfl, rfl, rfl, rfl, trivial⟩, hp⟩
        · skip
          replace hz69 := ifF hz69 hb70
          refine st_move hf (wantY hf rfl rfl hb70) rfl (by decide) ?_
          clear hf; intro a ha hf; clear ha
          refine st_move hf (wantY hf rfl rfl hb70) rfl (by decide) ?_
          clear hf; intro a ha hf; clear ha
          obtain ⟨q72, hcall73, hz69⟩ := bnd hz69
          obtain ⟨S74, hp75, rd76, up77, bk78⟩ := Hp.lendS hp (i := 1) rfl
          obtain ⟨S79, hp80, rd81, up82, bk83⟩ := Hp.lendS hp75 (i := 2) rfl
          refine st_call hf (by decide) Try.func27 rfl rfl (wantY hf rfl rfl hb70) rfl rfl (f_foghornref08_Floats_c hp80 _ _ ((rd76.now hp75).mono up82) _ _ rd81 hcall73) ?_
          rintro _ w ⟨rfl, hp0⟩
          have hp0 := bk83 _ _ hp0
          have hp0 := bk78 _ _ hp0
          clear hp; have hp := hp0; clear hp0
          replace hp : Hp _ _ w (Res.sl Ek.f64 37 v52 q45.1 :: Res.sl Ek.f64 37 v34 q27.1 :: Res.slx Ek.c128 36 v3 q1.1 q1.2 :: Res.sl Ek.f64 37 v43 q36.1 :: Res.sl Ek.f64 37 v20 ([(Fl.bits 4651892959631900672)]) :: Res.slx Ek.f64 37 (GL.cut v23 0 (((q14.length : Int)).toNat) 1) ((((([] : List Fl) ++ q14) ++ [(Fl.bits 4651892959631900672)]) ++ ([] : List Fl)).take (((q14.length : Int)).toNat)) ((((([] : List Fl) ++ q14) ++ [(Fl.bits 4651892959631900672)]) ++ ([] : List Fl)).drop (((q14.length : Int)).toNat)) :: Res.sl Ek.f64 37 v7 q14 :: ow) := hp
          refine ⟨_, rfl, ?_⟩
          clear hf; intro a hf
          refine st_not hf (by decide) (wantY hf rfl rfl hb70) rfl ?_
          clear hf; intro a ha hf; clear ha
          obtain rfl := Option.some.inj hz69
          refine st_pick (v := .bool (!q72)) hf rfl rfl (fun hb' => ?_) (fun hb' => ?_) (by decide) ?_
          · exact absurd (hb70.symm.trans hb') (by decide)
          · rfl
          clear hf; intro a ha hf; clear ha
          refine st_nil hf (th_n ?_)
          have hp : Hp _ _ w (Res.slx Ek.c128 36 v3 q1.1 q1.2 :: Res.sl Ek.f64 37 v52 q45.1 :: Res.sl Ek.f64 37 v43 q36.1 :: Res.sl Ek.f64 37 v34 q27.1 :: Res.sl Ek.f64 37 v20 ([(Fl.bits 4651892959631900672)]) :: Res.slx Ek.f64 37 (GL.cut v23 0 (((q14.length : Int)).toNat) 1) ((((([] : List Fl) ++ q14) ++ [(Fl.bits 4651892959631900672)]) ++ ([] : List Fl)).take (((q14.length : Int)).toNat)) ((((([] : List Fl) ++ q14) ++ [(Fl.bits 4651892959631900672)]) ++ ([] : List Fl)).drop (((q14.length : Int)).toNat)) :: Res.sl Ek.f64 37 v7 q14 :: ow) := Hp.sel (pre := [Res.sl Ek.f64 37 v52 q45.1, Res.sl Ek.f64 37 v34 q27.1, Res.slx Ek.c128 36 v3 q1.1 q1.2, Res.sl Ek.f64 37 v43 q36.1, Res.sl Ek.f64 37 v20 ([(Fl.bits 4651892959631900672)]), Res.slx Ek.f64 37 (GL.cut v23 0 (((q14.length : Int)).toNat) 1) ((((([] : List Fl) ++ q14) ++ [(Fl.bits 4651892959631900672)]) ++ ([] : List Fl)).take (((q14.length : Int)).toNat)) ((((([] : List Fl) ++ q14) ++ [(Fl.bits 4651892959631900672)]) ++ ([] : List Fl)).drop (((q14.length : Int)).toNat)), Res.sl Ek.f64 37 v7 q14]) (tail := ow) (rs' := [Res.slx Ek.c128 36 v3 q1.1 q1.2, Res.sl Ek.f64 37 v52 q45.1, Res.sl Ek.f64 37 v43 q36.1, Res.sl Ek.f64 37 v34 q27.1, Res.sl Ek.f64 37 v20 ([(Fl.bits 4651892959631900672)]), Res.slx Ek.f64 37 (GL.cut v23 0 (((q14.length : Int)).toNat) 1) ((((([] : List Fl) ++ q14) ++ [(Fl.bits 4651892959631900672)]) ++ ([] : List Fl)).take (((q14.length : Int)).toNat)) ((((([] : List Fl) ++ q14) ++ [(Fl.bits 4651892959631900672)]) ++ ([] : List Fl)).drop (((q14.length : Int)).toNat)), Res.sl Ek.f64 37 v7 q14]) hp [2, 0, 3, 1, 4, 5, 6] (by decide) (by simp) rfl
          exact ⟨hf.sub ⟨rfl, rfl, rfl, rfl, rfl, rfl, rfl, rfl, rfl, trivial⟩, hp⟩
      · rintro a w ⟨hf, hp⟩
        refine st_move hf rfl rfl (by decide) ?_
        clear hf; intro a ha hf; clear ha
        obtain ⟨z86, hz84, h⟩ := bnd h
        refine wpList_cut 5 (fun a w => Fr 164 a [(1, vr1), (6, v7), (8, (GL.cut v23 0 (((q14.length : Int)).toNat) 1)), (9, v34), (11, v43), (13, v52), (83, .bool z86)] ∧ Hp S w0 w (Res.slx Ek.c128 36 v3 q1.1 q1.2 :: Res.sl Ek.f64 37 v52 q45.1 :: Res.sl Ek.f64 37 v43 q36.1 :: Res.sl Ek.f64 37 v34 q27.1 :: Res.sl Ek.f64 37 v20 ([(Fl.bits 4651892959631900672)]) :: Res.slx Ek.f64 37 (GL.cut v23 0 (((q14.length : Int)).toNat) 1) ((((([] : List Fl) ++ q14) ++ [(Fl.bits 4651892959631900672)]) ++ ([] : List Fl)).take (((q14.length : Int)).toNat)) ((((([] : List Fl) ++ q14) ++ [(Fl.bits 4651892959631900672)]) ++ ([] : List Fl)).drop (((q14.length : Int)).toNat)) :: Res.sl Ek.f64 37 v7 q14 :: ow)) ?_ ?_
        · rcases Bool.eq_false_or_eq_true z71 with hb85 | hb85
          · skip
            replace hz84 := ifT hz84 hb85
            refine st_skip hf (wantN hf rfl rfl hb85) rfl (by decide) ?_ rfl
            clear hf; intro a hf
            refine st_skip hf (wantN hf rfl rfl hb85) rfl (by decide) ?_ rfl
            clear hf; intro a hf
            refine st_skip hf (wantN hf rfl rfl hb85) rfl (by decide) ?_ rfl
            clear hf; intro a hf
            refine st_skip hf (wantN hf rfl rfl hb85) rfl (by decide) ?_ rfl
            clear hf; intro a hf
            obtain rfl := Option.some.inj hz84
            refine st_pick (v := .bool true) hf rfl rfl (fun hb' => ?_) (fun hb' => ?_) (by decide) ?_
            · rfl
            · exact absurd (hb85.symm.trans hb') (by decide)
            clear hf; intro a ha hf; clear ha
            refine st_nil hf (th_n ?_)
            exact ⟨hf.sub ⟨rfl, rfl, rfl, rfl, rfl, rfl, rfl, trivial⟩, hp⟩
          · skip
            replace hz84 := ifF hz84 hb85
            refine st_move hf (wantY hf rfl rfl hb85) rfl (by decide) ?_
            clear hf; intro a ha hf; clear ha
            refine st_move hf (wantY hf rfl rfl hb85) rfl (by decide) ?_
            clear hf; intro a ha hf; clear ha
            obtain ⟨q87, hcall88, hz84⟩ := bnd hz84
            obtain ⟨S89, hp90, rd91, up92, bk93⟩ := Hp.lendX hp (i := 0) rfl
            refine st_call hf (by decide) Try.func13 rfl rfl (wantY hf rfl rfl hb85) rfl rfl (f_foghornlaw08_kept_c hp90 _ _ _ rd91 _ _ ((hl0.now hp).mono up92) hcall88) ?_
            rintro _ w ⟨rfl, hp0⟩
            have hp0 := bk93 _ _ hp0
            clear hp; have hp := hp0; clear hp0
            replace hp : Hp _ _ w (Res.slx Ek.c128 36 v3 q1.1 q1.2 :: Res.sl Ek.f64 37 v52 q45.1 :: Res.sl Ek.f64 37 v43 q36.1 :: Res.sl Ek.f64 37 v34 q27.1 :: Res.sl Ek.f64 37 v20 ([(Fl.bits 4651892959631900672)]) :: Res.slx Ek.f64 37 (GL.cut v23 0 (((q14.length : Int)).toNat) 1) ((((([] : List Fl) ++ q14) ++ [(Fl.bits 4651892959631900672)]) ++ ([] : List Fl)).take (((q14.length : Int)).toNat)) ((((([] : List Fl) ++ q14) ++ [(Fl.bits 4651892959631900672)]) ++ ([] : List Fl)).drop (((q14.length : Int)).toNat)) :: Res.sl Ek.f64 37 v7 q14 :: ow) := hp
            refine ⟨_, rfl, ?_⟩
            clear hf; intro a hf
            refine st_not hf (by decide) (wantY hf rfl rfl hb85) rfl ?_
            clear hf; intro a ha hf; clear ha
            obtain rfl := Option.some.inj hz84
            refine st_pick (v := .bool (!q87)) hf rfl rfl (fun hb' => ?_) (fun hb' => ?_) (by decide) ?_
            · exact absurd (hb85.symm.trans hb') (by decide)
            · rfl
            clear hf; intro a ha hf; clear ha
            refine st_nil hf (th_n ?_)
            exact ⟨hf.sub ⟨rfl, rfl, rfl, rfl, rfl, rfl, rfl, trivial⟩, hp⟩
        · rintro a w ⟨hf, hp⟩
          refine st_nil hf ?_
          refine th_n ?_
          refine wp_if hf rfl (fun hb => ?_) (fun hb => ?_)
          · replace h := ifT h hb
            refine wp_seq ?_
            refine wp_reg ?_
            refine st_assign hf rfl rfl (by decide) ?_
            clear hf; intro a ha hf; clear ha
            refine st_nil hf ?_
            refine th_n ?_
            refine wp_ret ?_
            refine th_r ?_
            obtain rfl := Option.some.inj h
            have hp : Hp _ _ w (ow) := Hp.sel (pre := [Res.slx Ek.c128 36 v3 q1.1 q1.2, Res.sl Ek.f64 37 v52 q45.1, Res.sl Ek.f64 37 v43 q36.1, Res.sl Ek.f64 37 v34 q27.1, Res.sl Ek.f64 37 v20 ([(Fl.bits 4651892959631900672)]), Res.slx Ek.f64 37 (GL.cut v23 0 (((q14.length : Int)).toNat) 1) ((((([] : List Fl) ++ q14) ++ [(Fl.bits 4651892959631900672)]) ++ ([] : List Fl)).take (((q14.length : Int)).toNat)) ((((([] : List Fl) ++ q14) ++ [(Fl.bits 4651892959631900672)]) ++ ([] : List Fl)).drop (((q14.length : Int)).toNat)), Res.sl Ek.f64 37 v7 q14]) (tail := ow) (rs' := []) hp [] (by decide) (by simp) rfl
            exact ⟨rfl, ⟨hf.sub ⟨rfl, trivial⟩, hp⟩⟩
          · replace h := ifF h hb
            refine wp_skip ?_
            refine th_n ?_
            refine wp_seq ?_
            refine wp_seq ?_
            refine wp_reg ?_
            refine st_assign hf rfl rfl (by decide) ?_
            clear hf; intro a ha hf; clear ha
            refine st_nil hf ?_
            refine th_n ?_
            refine wp_block ?_
            obtain ⟨q99, hl, h⟩ := bnd h
            have hp : Hp _ _ w (Res.sl Ek.f64 37 v43 q36.1 :: Res.sl Ek.f64 37 v7 q14 :: Res.slx Ek.f64 37 (GL.cut v23 0 (((q14.length : Int)).toNat) 1) ((((([] : List Fl) ++ q14) ++ [(Fl.bits 4651892959631900672)]) ++ ([] : List Fl)).take (((q14.length : Int)).toNat)) ((((([] : List Fl) ++ q14) ++ [(Fl.bits 4651892959631900672)]) ++ ([] : List Fl)).drop (((q14.length : Int)).toNat)) :: Res.sl Ek.f64 37 v34 q27.1 :: Res.sl Ek.f64 37 v52 q45.1 :: ow) := Hp.sel (pre := [Res.slx Ek.c128 36 v3 q1.1 q1.2, Res.sl Ek.f64 37 v52 q45.1, Res.sl Ek.f64 37 v43 q36.1, Res.sl Ek.f64 37 v34 q27.1, Res.sl Ek.f64 37 v20 ([(Fl.bits 4651892959631900672)]), Res.slx Ek.f64 37 (GL.cut v23 0 (((q14.length : Int)).toNat) 1) ((((([] : List Fl) ++ q14) ++ [(Fl.bits 4651892959631900672)]) ++ ([] : List Fl)).take (((q14.length : Int)).toNat)) ((((([] : List Fl) ++ q14) ++ [(Fl.bits 4651892959631900672)]) ++ ([] : List Fl)).drop (((q14.length : Int)).toNat)), Res.sl Ek.f64 37 v7 q14]) (tail := ow) (rs' := [Res.sl Ek.f64 37 v43 q36.1, Res.sl Ek.f64 37 v7 q14, Res.slx Ek.f64 37 (GL.cut v23 0 (((q14.length : Int)).toNat) 1) ((((([] : List Fl) ++ q14) ++ [(Fl.bits 4651892959631900672)]) ++ ([] : List Fl)).take (((q14.length : Int)).toNat)) ((((([] : List Fl) ++ q14) ++ [(Fl.bits 4651892959631900672)]) ++ ([] : List Fl)).drop (((q14.length : Int)).toNat)), Res.sl Ek.f64 37 v34 q27.1, Res.sl Ek.f64 37 v52 q45.1]) hp [2, 6, 5, 3, 1] (by decide) (by simp) rfl
            refine wp_loop_pure (f := f_foghornlaw08_MixLines.s2) (s := (q36.1, (0 : Int))) (fun s a w => ∃ (v94 : Value), Fr 164 a [(1, vr1), (6, v7), (8, (GL.cut v23 0 (((q14.length : Int)).toNat) 1)), (9, v34), (11, v94), (13, v52), (15, .int .i64 s.2)] ∧ Hp S w0 w (Res.sl Ek.f64 37 v94 s.1 :: Res.sl Ek.f64 37 v7 q14 :: Res.slx Ek.f64 37 (GL.cut v23 0 (((q14.length : Int)).toNat) 1) ((((([] : List Fl) ++ q14) ++ [(Fl.bits 4651892959631900672)]) ++ ([] : List Fl)).take (((q14.length : Int)).toNat)) ((((([] : List Fl) ++ q14) ++ [(Fl.bits 4651892959631900672)]) ++ ([] : List Fl)).drop (((q14.length : Int)).toNat)) :: Res.sl Ek.f64 37 v34 q27.1 :: Res.sl Ek.f64 37 v52 q45.1 :: ow)) (fun q e a w => e = .exit 2 ∧ ∃ (v96 : Value), Fr 164 a [(1, vr1), (6, v7), (8, (GL.cut v23 0 (((q14.length : Int)).toNat) 1)), (9, v34), (11, v96), (13, v52)] ∧ Hp S w0 w (Res.sl Ek.f64 37 v96 q :: Res.sl Ek.f64 37 v7 q14 :: Res.slx Ek.f64 37 (GL.cut v23 0 (((q14.length : Int)).toNat) 1) ((((([] : List Fl) ++ q14) ++ [(Fl.bits 4651892959631900672)]) ++ ([] : List Fl)).take (((q14.length : Int)).toNat)) ((((([] : List Fl) ++ q14) ++ [(Fl.bits 4651892959631900672)]) ++ ([] : List Fl)).drop (((q14.length : Int)).toNat)) :: Res.sl Ek.f64 37 v34 q27.1 :: Res.sl Ek.f64 37 v52 q45.1 :: ow)) ?_ hl ⟨_, hf.sub ⟨rfl, rfl, rfl, rfl, rfl, rfl, rfl, trivial⟩, hp⟩ ?_
            · clear hl hf hp
              intro s x a w h hI
              obtain ⟨b11, i15⟩ := s
              obtain ⟨v94, hf, hp⟩ : ∃ (v94 : Value), Fr 164 a [(1, vr1), (6, v7), (8, (GL.cut v23 0 (((q14.length : Int)).toNat) 1)), (9, v34), (11, v94), (13, v52), (15, .int .i64 i15)] ∧ Hp S w0 w (Res.sl Ek.f64 37 v94 b11 :: Res.sl Ek.f64 37 v7 q14 :: Res.slx Ek.f64 37 (GL.cut v23 0 (((q14.length : Int)).toNat) 1) ((((([] : List Fl) ++ q14) ++ [(Fl.bits 4651892959631900672)]) ++ ([] : List Fl)).take (((q14.length : Int)).toNat)) ((((([] : List Fl) ++ q14) ++ [(Fl.bits 4651892959631900672)]) ++ ([] : List Fl)).drop (((q14.length : Int)).toNat)) :: Res.sl Ek.f64 37 v34 q27.1 :: Res.sl Ek.f64 37 v52 q45.1 :: ow) := hI
              replace h : f_foghornlaw08_MixLines.s2c b11 i15 = some x := h
              unfold f_foghornlaw08_MixLines.s2c at h
              refine wp_seq ?_
              refine wp_seq ?_
              refine wp_reg ?_
              refine st_move hf rfl rfl (by decide) ?_
              clear hf; intro a ha hf; clear ha
              refine st_move hf rfl rfl (by decide) ?_
              clear hf; intro a ha hf; clear ha
              refine st_len (E := Ek.f64) hf (by decide) Try.underlying40 rfl rfl (hp.sl (i := 0) rfl) ?_
              clear hf; intro a ha hf; clear ha
              refine st_ilss hf (by decide) rfl rfl rfl ?_
              clear hf; intro a ha hf; clear ha
              refine st_nil hf ?_
              refine th_n ?_
              refine wp_if hf rfl (fun hb => ?_) (fun hb => ?_)
              · replace h := ifT h hb
                refine wp_skip ?_
                refine th_n ?_
                refine wp_seq ?_
                refine wp_block ?_
                refine wp_reg ?_
                refine st_move hf rfl rfl (by decide) ?_
                clear hf; intro a ha hf; clear ha
                refine st_move hf rfl rfl (by decide) ?_
                clear hf; intro a ha hf; clear ha
                obtain ⟨hc98, h⟩ := chk h
                refine st_index (E := Ek.f64) hf (by decide) Try.underlying40 elt37 rfl rfl rfl (hp.sl (i := 0) rfl) hc98.1 hc98.2 ?_
                clear hf; intro a ha hf; clear ha
                refine st_store (E := Ek.f64) hf elt37 hp (i := 0) rfl rfl rfl rfl (show Ek.f64.rep [.float .f64 4617315517961601024] (Fl.bits 4617315517961601024) from ⟨_, rfl, rfl⟩) hc98.1 hc98.2 ?_
                clear hf; intro a w hf hp0; clear hp; have hp := hp0; clear hp0
                replace hp : Hp _ _ w (Res.sl Ek.f64 37 v94 (b11.set (i15).toNat (Fl.bits 4617315517961601024)) :: Res.sl Ek.f64 37 v7 q14 :: Res.slx Ek.f64 37 (GL.cut v23 0 (((q14.length : Int)).toNat) 1) ((((([] : List Fl) ++ q14) ++ [(Fl.bits 4651892959631900672)]) ++ ([] : List Fl)).take (((q14.length : Int)).toNat)) ((((([] : List Fl) ++ q14) ++ [(Fl.bits 4651892959631900672)]) ++ ([] : List Fl)).drop (((q14.length : Int)).toNat)) :: Res.sl Ek.f64 37 v34 q27.1 :: Res.sl Ek.f64 37 v52 q45.1 :: ow) := hp
                refine st_nil hf ?_
                refine ib_n ?_
                refine th_n ?_
                refine wp_reg ?_
                refine st_move hf rfl rfl (by decide) ?_
                clear hf; intro a ha hf; clear ha
                refine st_iadd hf (by decide) rfl rfl rfl ?_
                clear hf; intro a ha hf; clear ha
                refine st_assign hf rfl rfl (by decide) ?_
                clear hf; intro a ha hf; clear ha
                refine st_nil hf ?_
                obtain rfl := Option.some.inj h
                exact rnd_l ⟨_, hf.sub ⟨rfl, rfl, rfl, rfl, rfl, rfl, rfl, trivial⟩, hp⟩
              · replace h := ifF h hb
                refine wp_exit ?_
                refine th_e ?_
                obtain rfl := Option.some.inj h
                exact rnd_r (by simp) ⟨rfl, _, hf.sub ⟨rfl, rfl, rfl, rfl, rfl, rfl, trivial⟩, hp⟩
            · clear hl hf hp
              intro e a w hne hO
              obtain ⟨rfl, v96, hf, hp⟩ := hO
              refine ib_same ?_
              refine th_n ?_
              refine wp_seq ?_
              refine wp_seq ?_
              refine wp_reg ?_
              refine st_assign hf rfl rfl (by decide) ?_
              clear hf; intro a ha hf; clear ha
              refine st_nil hf ?_
              refine th_n ?_
              refine wp_block ?_
              obtain ⟨q108, hl, h⟩ := bnd h
              refine wp_loop_pure (f := f_foghornlaw08_MixLines.s3) (s := (q99, (0 : Int))) (fun s a w => ∃ (v100 : Value), Fr 164 a [(1, vr1), (6, v7), (8, (GL.cut v23 0 (((q14.length : Int)).toNat) 1)), (9, v34), (11, v100), (13, v52), (16, .int .i64 s.2)] ∧ Hp S w0 w (Res.sl Ek.f64 37 v100 s.1 :: Res.sl Ek.f64 37 v7 q14 :: Res.slx Ek.f64 37 (GL.cut v23 0 (((q14.length : Int)).toNat) 1) ((((([] : List Fl) ++ q14) ++ [(Fl.bits 4651892959631900672)]) ++ ([] : List Fl)).take (((q14.length : Int)).toNat)) ((((([] : List Fl) ++ q14) ++ [(Fl.bits 4651892959631900672)]) ++ ([] : List Fl)).drop (((q14.length : Int)).toNat)) :: Res.sl Ek.f64 37 v34 q27.1 :: Res.sl Ek.f64 37 v52 q45.1 :: ow)) (fun q e a w => e = .exit 4 ∧ ∃ (v102 : Value), Fr 164 a [(1, vr1), (6, v7), (8, (GL.cut v23 0 (((q14.length : Int)).toNat) 1)), (9, v34), (11, v102), (13, v52)] ∧ Hp S w0 w (Res.sl Ek.f64 37 v102 q :: Res.sl Ek.f64 37 v7 q14 :: Res.slx Ek.f64 37 (GL.cut v23 0 (((q14.length : Int)).toNat) 1) ((((([] : List Fl) ++ q14) ++ [(Fl.bits 4651892959631900672)]) ++ ([] : List Fl)).take (((q14.length : Int)).toNat)) ((((([] : List Fl) ++ q14) ++ [(Fl.bits 4651892959631900672)]) ++ ([] : List Fl)).drop (((q14.length : Int)).toNat)) :: Res.sl Ek.f64 37 v34 q27.1 :: Res.sl Ek.f64 37 v52 q45.1 :: ow)) ?_ hl ⟨_, hf.sub ⟨rfl, rfl, rfl, rfl, rfl, rfl, rfl, trivial⟩, hp⟩ ?_
              · clear hl hf hp
                intro s x a w h hI
                obtain ⟨b11, k16⟩ := s
                obtain ⟨v100, hf, hp⟩ : ∃ (v100 : Value), Fr 164 a [(1, vr1), (6, v7), (8, (GL.cut v23 0 (((q14.length : Int)).toNat) 1)), (9, v34), (11, v100), (13, v52), (16, .int .i64 k16)] ∧ Hp S w0 w (Res.sl Ek.f64 37 v100 b11 :: Res.sl Ek.f64 37 v7 q14 :: Res.slx Ek.f64 37 (GL.cut v23 0 (((q14.length : Int)).toNat) 1) ((((([] : List Fl) ++ q14) ++ [(Fl.bits 4651892959631900672)]) ++ ([] : List Fl)).take (((q14.length : Int)).toNat)) ((((([] : List Fl) ++ q14) ++ [(Fl.bits 4651892959631900672)]) ++ ([] : List Fl)).drop (((q14.length : Int)).toNat)) :: Res.sl Ek.f64 37 v34 q27.1 :: Res.sl Ek.f64 37 v52 q45.1 :: ow) := hI
                replace h : f_foghornlaw08_MixLines.s3c b11 k16 = some x := h
                unfold f_foghornlaw08_MixLines.s3c at h
                refine wp_seq ?_
                refine wp_seq ?_
                refine wp_reg ?_
                refine st_move hf rfl rfl (by decide) ?_
                clear hf; intro a ha hf; clear ha
                refine st_ilss hf (by decide) rfl rfl rfl ?_
                clear hf; intro a ha hf; clear ha
                refine st_nil hf ?_
                refine th_n ?_
                refine wp_if hf rfl (fun hb => ?_) (fun hb => ?_)
                · replace h := ifT h hb
                  refine wp_skip ?_
                  refine th_n ?_
                  refine wp_seq ?_
                  refine wp_block ?_
                  refine wp_reg ?_
                  refine st_move hf rfl rfl (by decide) ?_
                  clear hf; intro a ha hf; clear ha
                  refine st_build (E := Ek.f64) (xs := [(Fl.bits 4618441417868443648)]) hf (by decide) elt37 Try.underlying40 hp (vals := #[(0, .float .f64 4618441417868443648)]) (cells := #[.float .f64 4618441417868443648]) rfl (by simp [hf.ev (x := (Operand.const (.float .f64 4618441417868443648))) rfl]) (by decide) (by decide) (z := .float .f64 0) (by kernel_rfl) (by kernel_rfl) rfl (reps_cons (cs := [.float .f64 4618441417868443648]) (show Ek.f64.rep [.float .f64 4618441417868443648] (Fl.bits 4618441417868443648) from ⟨_, rfl, rfl⟩) (reps_nil _)) ?_
                  clear hf; intro a w v104 hf hp0; clear hp; have hp := hp0; clear hp0
                  replace hp : Hp _ _ w (Res.sl Ek.f64 37 v104 ([(Fl.bits 4618441417868443648)]) :: Res.sl Ek.f64 37 v100 b11 :: Res.sl Ek.f64 37 v7 q14 :: Res.slx Ek.f64 37 (GL.cut v23 0 (((q14.length : Int)).toNat) 1) ((((([] : List Fl) ++ q14) ++ [(Fl.bits 4651892959631900672)]) ++ ([] : List Fl)).take (((q14.length : Int)).toNat)) ((((([] : List Fl) ++ q14) ++ [(Fl.bits 4651892959631900672)]) ++ ([] : List Fl)).drop (((q14.length : Int)).toNat)) :: Res.sl Ek.f64 37 v34 q27.1 :: Res.sl Ek.f64 37 v52 q45.1 :: ow) := hp
                  obtain ⟨hc106, h⟩ := chk h
                  refine st_append (E := Ek.f64) hf (by decide) elt37 Try.underlying40 (by decide) hp (i := 1) rfl rfl rfl rfl (hp.sl (i := 0) rfl) hc106 ?_
                  clear hf; intro a w v107 hf hp0; clear hp; have hp := hp0; clear hp0
                  replace hp : Hp _ _ w (Res.sl Ek.f64 37 v104 ([(Fl.bits 4618441417868443648)]) :: Res.sl Ek.f64 37 v107 (b11 ++ [(Fl.bits 4618441417868443648)]) :: Res.sl Ek.f64 37 v7 q14 :: Res.slx Ek.f64 37 (GL.cut v23 0 (((q14.length : Int)).toNat) 1) ((((([] : List Fl) ++ q14) ++ [(Fl.bits 4651892959631900672)]) ++ ([] : List Fl)).take (((q14.length : Int)).toNat)) ((((([] : List Fl) ++ q14) ++ [(Fl.bits 4651892959631900672)]) ++ ([] : List Fl)).drop (((q14.length : Int)).toNat)) :: Res.sl Ek.f64 37 v34 q27.1 :: Res.sl Ek.f64 37 v52 q45.1 :: ow) := hp
                  refine st_assign hf rfl rfl (by decide) ?_
                  clear hf; intro a ha hf; clear ha
                  refine st_nil hf ?_
                  refine ib_n ?_
                  refine th_n ?_
                  refine wp_reg ?_
                  refine st_move hf rfl rfl (by decide) ?_
                  clear hf; intro a ha hf; clear ha
                  refine st_iadd hf (by decide) rfl rfl rfl ?_
                  clear hf; intro a ha hf; clear ha
                  refine st_assign hf rfl rfl (by decide) ?_
                  clear hf; intro a ha hf; clear ha
                  refine st_nil hf ?_
                  obtain rfl := Option.some.inj h
                  have hp : Hp _ _ w (Res.sl Ek.f64 37 v107 (b11 ++ [(Fl.bits 4618441417868443648)]) :: Res.sl Ek.f64 37 v7 q14 :: Res.slx Ek.f64 37 (GL.cut v23 0 (((q14.length : Int)).toNat) 1) ((((([] : List Fl) ++ q14) ++ [(Fl.bits 4651892959631900672)]) ++ ([] : List Fl)).take (((q14.length : Int)).toNat)) ((((([] : List Fl) ++ q14) ++ [(Fl.bits 4651892959631900672)]) ++ ([] : List Fl)).drop (((q14.length : Int)).toNat)) :: Res.sl Ek.f64 37 v34 q27.1 :: Res.sl Ek.f64 37 v52 q45.1 :: ow) := Hp.sel (pre := [Res.sl Ek.f64 37 v104 ([(Fl.bits 4618441417868443648)]), Res.sl Ek.f64 37 v107 (b11 ++ [(Fl.bits 4618441417868443648)]), Res.sl Ek.f64 37 v7 q14, Res.slx Ek.f64 37 (GL.cut v23 0 (((q14.length : Int)).toNat) 1) ((((([] : List Fl) ++ q14) ++ [(Fl.bits 4651892959631900672)]) ++ ([] : List Fl)).take (((q14.length : Int)).toNat)) ((((([] : List Fl) ++ q14) ++ [(Fl.bits 4651892959631900672)]) ++ ([] : List Fl)).drop (((q14.length : Int)).toNat)), Res.sl Ek.f64 37 v34 q27.1, Res.sl Ek.f64 37 v52 q45.1]) (tail := ow) (rs' := [Res.sl Ek.f64 37 v107 (b11 ++ [(Fl.bits 4618441417868443648)]), Res.sl Ek.f64 37 v7 q14, Res.slx Ek.f64 37 (GL.cut v23 0 (((q14.length : Int)).toNat) 1) ((((([] : List Fl) ++ q14) ++ [(Fl.bits 4651892959631900672)]) ++ ([] : List Fl)).take (((q14.length : Int)).toNat)) ((((([] : List Fl) ++ q14) ++ [(Fl.bits 4651892959631900672)]) ++ ([] : List Fl)).drop (((q14.length : Int)).toNat)), Res.sl Ek.f64 37 v34 q27.1, Res.sl Ek.f64 37 v52 q45.1]) hp [1, 2, 3, 4, 5] (by decide) (by simp) rfl
                  exact rnd_l ⟨_, hf.sub ⟨rfl, rfl, rfl, rfl, rfl, rfl, rfl, trivial⟩, hp⟩
                · replace h := ifF h hb
                  refine wp_exit ?_
                  refine th_e ?_
                  obtain rfl := Option.some.inj h
                  exact rnd_r (by simp) ⟨rfl, _, hf.sub ⟨rfl, rfl, rfl, rfl, rfl, rfl, trivial⟩, hp⟩
              · clear hl hf hp
                intro e a w hne hO
                obtain ⟨rfl, v102, hf, hp⟩ := hO
                refine ib_same ?_
                refine th_n ?_
                refine wp_seq ?_
                refine wp_reg ?_
                refine st_move hf rfl rfl (by decide) ?_
                clear hf; intro a ha hf; clear ha
                obtain ⟨q109, hcall110, h⟩ := bnd h
                obtain ⟨S111, hp112, rd113, up114, bk115⟩ := Hp.lendS hp (i := 1) rfl
                refine st_call hf (by decide) Try.func28 rfl rfl rfl rfl rfl (f_foghornref08_Unline_c hp112 _ _ rd113 hcall110) ?_
                rintro _ w ⟨v116, rfl, hp0⟩
                have hp0 := bk115 _ _ hp0
                clear hp; have hp := hp0; clear hp0
                replace hp : Hp _ _ w (Res.sl Ek.f64 37 v7 q14 :: Res.sl Ek.c128 36 v116 q109.1 :: Res.sl Ek.f64 37 v102 q108 :: Res.slx Ek.f64 37 (GL.cut v23 0 (((q14.length : Int)).toNat) 1) ((((([] : List Fl) ++ q14) ++ [(Fl.bits 4651892959631900672)]) ++ ([] : List Fl)).take (((q14.length : Int)).toNat)) ((((([] : List Fl) ++ q14) ++ [(Fl.bits 4651892959631900672)]) ++ ([] : List Fl)).drop (((q14.length : Int)).toNat)) :: Res.sl Ek.f64 37 v34 q27.1 :: Res.sl Ek.f64 37 v52 q45.1 :: ow) := hp
                refine ⟨_, rfl, ?_⟩
                clear hf; intro a hf
                refine st_move hf rfl rfl (by decide) ?_
                clear hf; intro a ha hf; clear ha
                refine st_extract hf (by decide) rfl rfl rfl ?_
                clear hf; intro a ha hf; clear ha
                refine st_extract hf (by decide) rfl rfl rfl ?_
                clear hf; intro a ha hf; clear ha
                refine st_assign hf rfl rfl (by decide) ?_
                clear hf; intro a ha hf; clear ha
                refine st_assign hf rfl rfl (by decide) ?_
                clear hf; intro a ha hf; clear ha
                refine st_nil hf ?_
                refine th_n ?_
                refine wp_seq ?_
                refine wp_reg ?_
                refine st_move hf rfl rfl (by decide) ?_
                clear hf; intro a ha hf; clear ha
                obtain ⟨q118, hcall119, h⟩ := bnd h
                obtain ⟨S120, hp121, rd122, up123, bk124⟩ := Hp.lendS hp (i := 3) rfl
                refine st_call hf (by decide) Try.func29 rfl rfl rfl rfl rfl (f_mix_Unline_c hp121 _ _ rd122 hcall119) ?_
                rintro _ w ⟨v125, rfl, hp0⟩
                have hp0 := bk124 _ _ hp0
                clear hp; have hp := hp0; clear hp0
                replace hp : Hp _ _ w (Res.slx Ek.f64 37 (GL.cut v23 0 (((q14.length : Int)).toNat) 1) ((((([] : List Fl) ++ q14) ++ [(Fl.bits 4651892959631900672)]) ++ ([] : List Fl)).take (((q14.length : Int)).toNat)) ((((([] : List Fl) ++ q14) ++ [(Fl.bits 4651892959631900672)]) ++ ([] : List Fl)).drop (((q14.length : Int)).toNat)) :: Res.sl Ek.c128 36 v125 q118.1 :: Res.sl Ek.f64 37 v7 q14 :: Res.sl Ek.c128 36 v116 q109.1 :: Res.sl Ek.f64 37 v102 q108 :: Res.sl Ek.f64 37 v34 q27.1 :: Res.sl Ek.f64 37 v52 q45.1 :: ow) := hp
                refine ⟨_, rfl, ?_⟩
                clear hf; intro a hf
                refine st_move hf rfl rfl (by decide) ?_
                clear hf; intro a ha hf; clear ha
                refine st_extract hf (by decide) rfl rfl rfl ?_
                clear hf; intro a ha hf; clear ha
                refine st_extract hf (by decide) rfl rfl rfl ?_
                clear hf; intro a ha hf; clear ha
                refine st_assign hf rfl rfl (by decide) ?_
                clear hf; intro a ha hf; clear ha
                refine st_assign hf rfl rfl (by decide) ?_
                clear hf; intro a ha hf; clear ha
                refine st_nil hf ?_
                refine th_n ?_
                refine wp_seq ?_
                refine wp_reg ?_
                refine st_move hf rfl rfl (by decide) ?_
                clear hf; intro a ha hf; clear ha
                obtain ⟨q127, hcall128, h⟩ := bnd h
                obtain ⟨S129, hp130, rd131, up132, bk133⟩ := Hp.lendS hp (i := 0) rfl
                refine st_call hf (by decide) Try.func29 rfl rfl rfl rfl rfl (f_mix_Unline_c hp130 _ _ rd131 hcall128) ?_
                rintro _ w ⟨v134, rfl, hp0⟩
                have hp0 := bk133 _ _ hp0
                clear hp; have hp := hp0; clear hp0
                replace hp : Hp _ _ w (Res.slx Ek.f64 37 (GL.cut v23 0 (((q14.length : Int)).toNat) 1) ((((([] : List Fl) ++ q14) ++ [(Fl.bits 4651892959631900672)]) ++ ([] : List Fl)).take (((q14.length : Int)).toNat)) ((((([] : List Fl) ++ q14) ++ [(Fl.bits 4651892959631900672)]) ++ ([] : List Fl)).drop (((q14.length : Int)).toNat)) :: Res.sl Ek.c128 36 v134 q127.1 :: Res.sl Ek.c128 36 v125 q118.1 :: Res.sl Ek.f64 37 v7 q14 :: Res.sl Ek.c128 36 v116 q109.1 :: Res.sl Ek.f64 37 v102 q108 :: Res.sl Ek.f64 37 v34 q27.1 :: Res.sl Ek.f64 37 v52 q45.1 :: ow) := hp
                refine ⟨_, rfl, ?_⟩
                clear hf; intro a hf
                refine st_move hf rfl rfl (by decide) ?_
                clear hf; intro a ha hf; clear ha
                refine st_extract hf (by decide) rfl rfl rfl ?_
                clear hf; intro a ha hf; clear ha
                refine st_extract hf (by decide) rfl rfl rfl ?_
                clear hf; intro a ha hf; clear ha
                refine st_assign hf rfl rfl (by decide) ?_
                clear hf; intro a ha hf; clear ha
                refine st_assign hf rfl rfl (by decide) ?_
                clear hf; intro a ha hf; clear ha
                refine st_nil hf ?_
                refine th_n ?_
                refine wp_seq ?_
                refine wp_seq ?_
                refine wp_reg ?_
                refine st_move hf rfl rfl (by decide) ?_
                clear hf; intro a ha hf; clear ha
                refine st_move hf rfl rfl (by decide) ?_
                clear hf; intro a ha hf; clear ha
                refine st_ineq hf (by decide) rfl rfl rfl ?_
                clear hf; intro a ha hf; clear ha
                refine st_move hf rfl rfl (by decide) ?_
                clear hf; intro a ha hf; clear ha
                obtain ⟨z138, hz136, h⟩ := bnd h
                refine wpList_cut 6 (fun a w => Fr 164 a [(1, vr1), (6, v7), (8, (GL.cut v23 0 (((q14.length : Int)).toNat) 1)), (9, v34), (11, v102), (13, v52), (124, .bool z138)] ∧ Hp S w0 w (Res.slx Ek.f64 37 (GL.cut v23 0 (((q14.length : Int)).toNat) 1) ((((([] : List Fl) ++ q14) ++ [(Fl.bits 4651892959631900672)]) ++ ([] : List Fl)).take (((q14.length : Int)).toNat)) ((((([] : List Fl) ++ q14) ++ [(Fl.bits 4651892959631900672)]) ++ ([] : List Fl)).drop (((q14.length : Int)).toNat)) :: Res.sl Ek.c128 36 v134 q127.1 :: Res.sl Ek.f64 37 v7 q14 :: Res.sl Ek.c128 36 v116 q109.1 :: Res.sl Ek.f64 37 v102 q108 :: Res.sl Ek.f64 37 v34 q27.1 :: Res.sl Ek.f64 37 v52 q45.1 :: ow)) ?_ ?_
                · rcases Bool.eq_false_or_eq_true (q118.2 != q109.2) with hb137 | hb137
                  · skip
                    replace hz136 := ifT hz136 hb137
                    refine st_skip hf (wantN hf rfl rfl hb137) rfl (by decide) ?_ rfl
                    clear hf; intro a hf
                    refine st_skip hf (wantN hf rfl rfl hb137) rfl (by decide) ?_ rfl
                    clear hf; intro a hf
                    refine st_skip hf (wantN hf rfl rfl hb137) rfl (by decide) ?_ rfl
                    clear hf; intro a hf
                    refine st_skip hf (wantN hf rfl rfl hb137) rfl (by decide) ?_ rfl
                    clear hf; intro a hf
                    refine st_skip hf (wantN hf rfl rfl hb137) rfl (by decide) ?_ rfl
                    clear hf; intro a hf
                    obtain rfl := Option.some.inj hz136
                    refine st_pick (v := .bool true) hf rfl rfl (fun hb' => ?_) (fun hb' => ?_) (by decide) ?_
                    · rfl
                    · exact absurd (hb137.symm.trans hb') (by decide)
                    clear hf; intro a ha hf; clear ha
                    refine st_nil hf (th_n ?_)
                    have hp : Hp _ _ w (Res.slx Ek.f64 37 (GL.cut v23 0 (((q14.length : Int)).toNat) 1) ((((([] : List Fl) ++ q14) ++ [(Fl.bits 4651892959631900672)]) ++ ([] : List Fl)).take (((q14.length : Int)).toNat)) ((((([] : List Fl) ++ q14) ++ [(Fl.bits 4651892959631900672)]) ++ ([] : List Fl)).drop (((q14.length : Int)).toNat)) :: Res.sl Ek.c128 36 v134 q127.1 :: Res.sl Ek.f64 37 v7 q14 :: Res.sl Ek.c128 36 v116 q109.1 :: Res.sl Ek.f64 37 v102 q108 :: Res.sl Ek.f64 37 v34 q27.1 :: Res.sl Ek.f64 37 v52 q45.1 :: ow) := Hp.sel (pre := [Res.slx Ek.f64 37 (GL.cut v23 0 (((q14.length : Int)).toNat) 1) ((((([] : List Fl) ++ q14) ++ [(Fl.bits 4651892959631900672)]) ++ ([] : List Fl)).take (((q14.length : Int)).toNat)) ((((([] : List Fl) ++ q14) ++ [(Fl.bits 4651892959631900672)]) ++ ([] : List Fl)).drop (((q14.length : Int)).toNat)), Res.sl Ek.c128 36 v134 q127.1, Res.sl Ek.c128 36 v125 q118.1, Res.sl Ek.f64 37 v7 q14, Res.sl Ek.c128 36 v116 q109.1, Res.sl Ek.f64 37 v102 q108, Res.sl Ek.f64 37 v34 q27.1, Res.sl Ek.f64 37 v52 q45.1]) (tail := ow) (rs' := [Res.slx Ek.f64 37 (GL.cut v23 0 (((q14.length : Int)).toNat) 1) ((((([] : List Fl) ++ q14) ++ [(Fl.bits 4651892959631900672)]) ++ ([] : List Fl)).take (((q14.length : Int)).toNat)) ((((([] : List Fl) ++ q14) ++ [(Fl.bits 4651892959631900672)]) ++ ([] : List Fl)).drop (((q14.length : Int)).toNat)), Res.sl Ek.c128 36 v134 q127.1, Res.sl Ek.f64 37 v7 q14, Res.sl Ek.c128 36 v116 q109.1, Res.sl Ek.f64 37 v102 q108, Res.sl Ek.f64 37 v34 q27.1, Res.sl Ek.f64 37 v52 q45.1]) hp [0, 1, 3, 4, 5, 6, 7] (by decide) (by simp) rfl
                    exact ⟨hf.sub ⟨rfl, rfl, rfl, rfl, rfl, rfl, rfl, trivial⟩, hp⟩
                  · skip
                    replace hz136 := ifF hz136 hb137
                    refine st_move hf (wantY hf rfl rfl hb137) rfl (by decide) ?_
                    clear hf; intro a ha hf; clear ha
                    refine st_move hf (wantY hf rfl rfl hb137) rfl (by decide) ?_
                    clear hf; intro a ha hf; clear ha
                    refine st_move hf (wantY hf rfl rfl hb137) rfl (by decide) ?_
                    clear hf; intro a ha hf; clear ha
                    obtain ⟨q139, hcall140, hz136⟩ := bnd hz136
                    obtain ⟨S141, hp142, rd143, up144, bk145⟩ := Hp.lendS hp (i := 1) rfl
                    obtain ⟨S146, hp147, rd148, up149, bk150⟩ := Hp.lendS hp142 (i := 3) rfl
                    have hp151 : Hp _ _ w (Res.sl Ek.c128 36 v125 q118.1 :: Res.slx Ek.f64 37 (GL.cut v23 0 (((q14.length : Int)).toNat) 1) ((((([] : List Fl) ++ q14) ++ [(Fl.bits 4651892959631900672)]) ++ ([] : List Fl)).take (((q14.length : Int)).toNat)) ((((([] : List Fl) ++ q14) ++ [(Fl.bits 4651892959631900672)]) ++ ([] : List Fl)).drop (((q14.length : Int)).toNat)) :: Res.sl Ek.f64 37 v7 q14 :: Res.sl Ek.f64 37 v102 q108 :: Res.sl Ek.f64 37 v34 q27.1 :: Res.sl Ek.f64 37 v52 q45.1 :: ow) := Hp.sel (pre := [Res.slx Ek.f64 37 (GL.cut v23 0 (((q14.length : Int)).toNat) 1) ((((([] : List Fl) ++ q14) ++ [(Fl.bits 4651892959631900672)]) ++ ([] : List Fl)).take (((q14.length : Int)).toNat)) ((((([] : List Fl) ++ q14) ++ [(Fl.bits 4651892959631900672)]) ++ ([] : List Fl)).drop (((q14.length : Int)).toNat)), Res.sl Ek.c128 36 v125 q118.1, Res.sl Ek.f64 37 v7 q14, Res.sl Ek.f64 37 v102 q108, Res.sl Ek.f64 37 v34 q27.1, Res.sl Ek.f64 37 v52 q45.1]) (tail := ow) (rs' := [Res.sl Ek.c128 36 v125 q118.1, Res.slx Ek.f64 37 (GL.cut v23 0 (((q14.length : Int)).toNat) 1) ((((([] : List Fl) ++ q14) ++ [(Fl.bits 4651892959631900672)]) ++ ([] : List Fl)).take (((q14.length : Int)).toNat)) ((((([] : List Fl) ++ q14) ++ [(Fl.bits 4651892959631900672)]) ++ ([] : List Fl)).drop (((q14.length : Int)).toNat)), Res.sl Ek.f64 37 v7 q14, Res.sl Ek.f64 37 v102 q108, Res.sl Ek.f64 37 v34 q27.1, Res.sl Ek.f64 37 v52 q45.1]) hp147 [1, 0, 2, 3, 4, 5] (by decide) (by simp) rfl
                    refine st_call hf (by decide) Try.func12 rfl rfl (wantY hf rfl rfl hb137) rfl rfl (f_foghornlaw08_fresh_c _ _ _ _ ((rd143.now hp142).mono up149) _ _ rd148 hp151 hcall140) ?_
                    rintro _ w ⟨rfl, hp0⟩
                    have hp0 := bk150 _ _ hp0
                    have hp0 := bk145 _ _ hp0
                    clear hp; have hp := hp0; clear hp0
                    replace hp : Hp _ _ w (Res.sl Ek.c128 36 v134 q127.1 :: Res.sl Ek.c128 36 v116 q109.1 :: Res.slx Ek.f64 37 (GL.cut v23 0 (((q14.length : Int)).toNat) 1) ((((([] : List Fl) ++ q14) ++ [(Fl.bits 4651892959631900672)]) ++ ([] : List Fl)).take (((q14.length : Int)).toNat)) ((((([] : List Fl) ++ q14) ++ [(Fl.bits 4651892959631900672)]) ++ ([] : List Fl)).drop (((q14.length : Int)).toNat)) :: Res.sl Ek.f64 37 v7 q14 :: Res.sl Ek.f64 37 v102 q108 :: Res.sl Ek.f64 37 v34 q27.1 :: Res.sl Ek.f64 37 v52 q45.1 :: ow) := hp
                    refine ⟨_, rfl, ?_⟩
                    clear hf; intro a hf
                    refine st_not hf (by decide) (wantY hf rfl rfl hb137) rfl ?_
                    clear hf; intro a ha hf; clear ha
                    obtain rfl := Option.some.inj hz136
                    refine st_pick (v := .bool (!q139)) hf rfl rfl (fun hb' => ?_) (fun hb' => ?_) (by decide) ?_
                    · exact absurd (hb137.symm.trans hb') (by decide)
                    · rfl
                    clear hf; intro a ha hf; clear ha
                    refine st_nil hf (th_n ?_)
                    have hp : Hp _ _ w (Res.slx Ek.f64 37 (GL.cut v23 0 (((q14.length : Int)).toNat) 1) ((((([] : List Fl) ++ q14) ++ [(Fl.bits 4651892959631900672)]) ++ ([] : List Fl)).take (((q14.length : Int)).toNat)) ((((([] : List Fl) ++ q14) ++ [(Fl.bits 4651892959631900672)]) ++ ([] : List Fl)).drop (((q14.length : Int)).toNat)) :: Res.sl Ek.c128 36 v134 q127.1 :: Res.sl Ek.f64 37 v7 q14 :: Res.sl Ek.c128 36 v116 q109.1 :: Res.sl Ek.f64 37 v102 q108 :: Res.sl Ek.f64 37 v34 q27.1 :: Res.sl Ek.f64 37 v52 q45.1 :: ow) := Hp.sel (pre := [Res.sl Ek.c128 36 v134 q127.1, Res.sl Ek.c128 36 v116 q109.1, Res.slx Ek.f64 37 (GL.cut v23 0 (((q14.length : Int)).toNat) 1) ((((([] : List Fl) ++ q14) ++ [(Fl.bits 4651892959631900672)]) ++ ([] : List Fl)).take (((q14.length : Int)).toNat)) ((((([] : List Fl) ++ q14) ++ [(Fl.bits 4651892959631900672)]) ++ ([] : List Fl)).drop (((q14.length : Int)).toNat)), Res.sl Ek.f64 37 v7 q14, Res.sl Ek.f64 37 v102 q108, Res.sl Ek.f64 37 v34 q27.1, Res.sl Ek.f64 37 v52 q45.1]) (tail := ow) (rs' := [Res.slx Ek.f64 37 (GL.cut v23 0 (((q14.length : Int)).toNat) 1) ((((([] : List Fl) ++ q14) ++ [(Fl.bits 4651892959631900672)]) ++ ([] : List Fl)).take (((q14.length : Int)).toNat)) ((((([] : List Fl) ++ q14) ++ [(Fl.bits 4651892959631900672)]) ++ ([] : List Fl)).drop (((q14.length : Int)).toNat)), Res.sl Ek.c128 36 v134 q127.1, Res.sl Ek.f64 37 v7 q14, Res.sl Ek.c128 36 v116 q109.1, Res.sl Ek.f64 37 v102 q108, Res.sl Ek.f64 37 v34 q27.1, Res.sl Ek.f64 37 v52 q45.1]) hp [2, 0, 3, 1, 4, 5, 6] (by decide) (by simp) rfl
                    exact ⟨hf.sub ⟨rfl, rfl, rfl, rfl, rfl, rfl, rfl, trivial⟩, hp⟩
                · rintro a w ⟨hf, hp⟩
                  refine st_move hf rfl rfl (by decide) ?_
                  clear hf; intro a ha hf; clear ha
                  obtain ⟨z154, hz152, h⟩ := bnd h
                  refine wpList_cut 5 (fun a w => Fr 164 a [(1, vr1), (6, v7), (8, (GL.cut v23 0 (((q14.length : Int)).toNat) 1)), (11, v102), (130, .bool z154)] ∧ Hp S w0 w (Res.slx Ek.f64 37 (GL.cut v23 0 (((q14.length : Int)).toNat) 1) ((((([] : List Fl) ++ q14) ++ [(Fl.bits 4651892959631900672)]) ++ ([] : List Fl)).take (((q14.length : Int)).toNat)) ((((([] : List Fl) ++ q14) ++ [(Fl.bits 4651892959631900672)]) ++ ([] : List Fl)).drop (((q14.length : Int)).toNat)) :: Res.sl Ek.c128 36 v134 q127.1 :: Res.sl Ek.f64 37 v7 q14 :: Res.sl Ek.c128 36 v116 q109.1 :: Res.sl Ek.f64 37 v102 q108 :: Res.sl Ek.f64 37 v34 q27.1 :: Res.sl Ek.f64 37 v52 q45.1 :: ow)) ?_ ?_
                  · rcases Bool.eq_false_or_eq_true z138 with hb153 | hb153
                    · skip
                      replace hz152 := ifT hz152 hb153
                      refine st_skip hf (wantN hf rfl rfl hb153) rfl (by decide) ?_ rfl
                      clear hf; intro a hf
                      refine st_skip hf (wantN hf rfl rfl hb153) rfl (by decide) ?_ rfl
                      clear hf; intro a hf
                      refine st_skip hf (wantN hf rfl rfl hb153) rfl (by decide) ?_ rfl
                      clear hf; intro a hf
                      refine st_skip hf (wantN hf rfl rfl hb153) rfl (by decide) ?_ rfl
                      clear hf; intro a hf
                      obtain rfl := Option.some.inj hz152
                      refine st_pick (v := .bool true) hf rfl rfl (fun hb' => ?_) (fun hb' => ?_) (by decide) ?_
                      · rfl
                      · exact absurd (hb153.symm.trans hb') (by decide)
                      clear hf; intro a ha hf; clear ha
                      refine st_nil hf (th_n ?_)
                      exact ⟨hf.sub ⟨rfl, rfl, rfl, rfl, rfl, trivial⟩, hp⟩
                    · skip
                      replace hz152 := ifF hz152 hb153
                      refine st_move hf (wantY hf rfl rfl hb153) rfl (by decide) ?_
                      clear hf; intro a ha hf; clear ha
                      refine st_move hf (wantY hf rfl rfl hb153) rfl (by decide) ?_
                      clear hf; intro a ha hf; clear ha
                      obtain ⟨q155, hcall156, hz152⟩ := bnd hz152
                      obtain ⟨S157, hp158, rd159, up160, bk161⟩ := Hp.lendS hp (i := 6) rfl
                      obtain ⟨S162, hp163, rd164, up165, bk166⟩ := Hp.lendS hp158 (i := 5) rfl
                      refine st_call hf (by decide) Try.func27 rfl rfl (wantY hf rfl rfl hb153) rfl rfl (f_foghornref08_Floats_c hp163 _ _ ((rd159.now hp158).mono up165) _ _ rd164 hcall156) ?_
                      rintro _ w ⟨rfl, hp0⟩
                      have hp0 := bk166 _ _ hp0
                      have hp0 := bk161 _ _ hp0
                      clear hp; have hp := hp0; clear hp0
                      replace hp : Hp _ _ w (Res.sl Ek.f64 37 v52 q45.1 :: Res.sl Ek.f64 37 v34 q27.1 :: Res.slx Ek.f64 37 (GL.cut v23 0 (((q14.length : Int)).toNat) 1) ((((([] : List Fl) ++ q14) ++ [(Fl.bits 4651892959631900672)]) ++ ([] : List Fl)).take (((q14.length : Int)).toNat)) ((((([] : List Fl) ++ q14) ++ [(Fl.bits 4651892959631900672)]) ++ ([] : List Fl)).drop (((q14.length : Int)).toNat)) :: Res.sl Ek.c128 36 v134 q127.1 :: Res.sl Ek.f64 37 v7 q14 :: Res.sl Ek.c128 36 v116 q109.1 :: Res.sl Ek.f64 37 v102 q108 :: ow) := hp
                      refine ⟨_, rfl, ?_⟩
                      clear hf; intro a hf
                      refine st_not hf (by decide) (wantY hf rfl rfl hb153) rfl ?_
                      clear hf; intro a ha hf; clear ha
                      obtain rfl := Option.some.inj hz152
                      refine st_pick (v := .bool (!q155)) hf rfl rfl (fun hb' => ?_) (fun hb' => ?_) (by decide) ?_
                      · exact absurd (hb153.symm.trans hb') (by decide)
                      · rfl
                      clear hf; intro a ha hf; clear ha
                      refine st_nil hf (th_n ?_)
                      have hp : Hp _ _ w (Res.slx Ek.f64 37 (GL.cut v23 0 (((q14.length : Int)).toNat) 1) ((((([] : List Fl) ++ q14) ++ [(Fl.bits 4651892959631900672)]) ++ ([] : List Fl)).take (((q14.length : Int)).toNat)) ((((([] : List Fl) ++ q14) ++ [(Fl.bits 4651892959631900672)]) ++ ([] : List Fl)).drop (((q14.length : Int)).toNat)) :: Res.sl Ek.c128 36 v134 q127.1 :: Res.sl Ek.f64 37 v7 q14 :: Res.sl Ek.c128 36 v116 q109.1 :: Res.sl Ek.f64 37 v102 q108 :: Res.sl Ek.f64 37 v34 q27.1 :: Res.sl Ek.f64 37 v52 q45.1 :: ow) := Hp.sel (pre := [Res.sl Ek.f64 37 v52 q45.1, Res.sl Ek.f64 37 v34 q27.1, Res.slx Ek.f64 37 (GL.cut v23 0 (((q14.length : Int)).toNat) 1) ((((([] : List Fl) ++ q14) ++ [(Fl.bits 4651892959631900672)]) ++ ([] : List Fl)).take (((q14.length : Int)).toNat)) ((((([] : List Fl) ++ q14) ++ [(Fl.bits 4651892959631900672)]) ++ ([] : List Fl)).drop (((q14.length : Int)).toNat)), Res.sl Ek.c128 36 v134 q127.1, Res.sl Ek.f64 37 v7 q14, Res.sl Ek.c128 36 v116 q109.1, Res.sl Ek.f64 37 v102 q108]) (tail := ow) (rs' := [Res.slx Ek.f64 37 (GL.cut v23 0 (((q14.length : Int)).toNat) 1) ((((([] : List Fl) ++ q14) ++ [(Fl.bits 4651892959631900672)]) ++ ([] : List Fl)).take (((q14.length : Int)).toNat)) ((((([] : List Fl) ++ q14) ++ [(Fl.bits 4651892959631900672)]) ++ ([] : List Fl)).drop (((q14.length : Int)).toNat)), Res.sl Ek.c128 36 v134 q127.1, Res.sl Ek.f64 37 v7 q14, Res.sl Ek.c128 36 v116 q109.1, Res.sl Ek.f64 37 v102 q108, Res.sl Ek.f64 37 v34 q27.1, Res.sl Ek.f64 37 v52 q45.1]) hp [2, 3, 4, 5, 6, 1, 0] (by decide) (by simp) rfl
                      exact ⟨hf.sub ⟨rfl, rfl, rfl, rfl, rfl, trivial⟩, hp⟩
                  · rintro a w ⟨hf, hp⟩
                    refine st_move hf rfl rfl (by decide) ?_
                    clear hf; intro a ha hf; clear ha
                    refine wpList_cut 4 (fun a w => Fr 164 a [(1, vr1), (6, v7), (8, (GL.cut v23 0 (((q14.length : Int)).toNat) 1)), (135, .bool (z154 || (decide ((q108.length : Int) < (20 : Int)))))] ∧ Hp S w0 w (Res.slx Ek.f64 37 (GL.cut v23 0 (((q14.length : Int)).toNat) 1) ((((([] : List Fl) ++ q14) ++ [(Fl.bits 4651892959631900672)]) ++ ([] : List Fl)).take (((q14.length : Int)).toNat)) ((((([] : List Fl) ++ q14) ++ [(Fl.bits 4651892959631900672)]) ++ ([] : List Fl)).drop (((q14.length : Int)).toNat)) :: Res.sl Ek.c128 36 v134 q127.1 :: Res.sl Ek.f64 37 v7 q14 :: Res.sl Ek.c128 36 v116 q109.1 :: Res.sl Ek.f64 37 v102 q108 :: Res.sl Ek.f64 37 v34 q27.1 :: Res.sl Ek.f64 37 v52 q45.1 :: ow)) ?_ ?_
                    · rcases Bool.eq_false_or_eq_true z154 with hb168 | hb168
                      · skip
                        refine st_skip hf (wantN hf rfl rfl hb168) rfl (by decide) ?_ rfl
                        clear hf; intro a hf
                        refine st_skip hf (wantN hf rfl rfl hb168) rfl (by decide) ?_ rfl
                        clear hf; intro a hf
                        refine st_skip hf (wantN hf rfl rfl hb168) rfl (by decide) ?_ rfl
                        clear hf; intro a hf
                        refine st_pick (v := .bool true) hf rfl rfl (fun hb' => ?_) (fun hb' => ?_) (by decide) ?_
                        · rfl
                        · exact absurd (hb168.symm.trans hb') (by decide)
                        clear hf; intro a ha hf; clear ha
                        refine st_nil hf (th_n ?_)
                        exact ⟨hf.sub ⟨rfl, rfl, rfl, (by rw [hb168]; rfl), trivial⟩, hp⟩
                      · skip
                        refine st_move hf (wantY hf rfl rfl hb168) rfl (by decide) ?_
                        clear hf; intro a ha hf; clear ha
                        refine st_len (E := Ek.f64) hf (by decide) Try.underlying40 (wantY hf rfl rfl hb168) rfl (hp.sl (i := 4) rfl) ?_
                        clear hf; intro a ha hf; clear ha
                        refine st_ilss hf (by decide) (wantY hf rfl rfl hb168) rfl rfl ?_
                        clear hf; intro a ha hf; clear ha
                        refine st_pick (v := .bool (decide ((q108.length : Int) < (20 : Int)))) hf rfl rfl (fun hb' => ?_) (fun hb' => ?_) (by decide) ?_
                        · exact absurd (hb168.symm.trans hb') (by decide)
                        · rfl
                        clear hf; intro a ha hf; clear ha
                        refine st_nil hf (th_n ?_)
                        exact ⟨hf.sub ⟨rfl, rfl, rfl, (by rw [hb168]; rfl), trivial⟩, hp⟩
                    · rintro a w ⟨hf, hp⟩
                      refine st_move hf rfl rfl (by decide) ?_
                      clear hf; intro a ha hf; clear ha
                      obtain ⟨z171, hz169, h⟩ := bnd h
                      refine wpList_cut 11 (fun a w => Fr 164 a [(1, vr1), (8, (GL.cut v23 0 (((q14.length : Int)).toNat) 1)), (147, .bool z171)] ∧ Hp S w0 w (Res.slx Ek.f64 37 (GL.cut v23 0 (((q14.length : Int)).toNat) 1) ((((([] : List Fl) ++ q14) ++ [(Fl.bits 4651892959631900672)]) ++ ([] : List Fl)).take (((q14.length : Int)).toNat)) ((((([] : List Fl) ++ q14) ++ [(Fl.bits 4651892959631900672)]) ++ ([] : List Fl)).drop (((q14.length : Int)).toNat)) :: Res.sl Ek.c128 36 v134 q127.1 :: Res.sl Ek.f64 37 v7 q14 :: Res.sl Ek.c128 36 v116 q109.1 :: Res.sl Ek.f64 37 v102 q108 :: Res.sl Ek.f64 37 v34 q27.1 :: Res.sl Ek.f64 37 v52 q45.1 :: ow)) ?_ ?_
                      · rcases Bool.eq_false_or_eq_true (z154 || (decide ((q108.length : Int) < (20 : Int)))) with hb170 | hb170
                        · skip
                          replace hz169 := ifT hz169 hb170
                          refine st_skip hf (wantN hf rfl rfl hb170) rfl (by decide) ?_ rfl
                          clear hf; intro a hf
                          refine st_skip hf (wantN hf rfl rfl hb170) rfl (by decide) ?_ rfl
                          clear hf; intro a hf
                          refine st_skip hf (wantN hf rfl rfl hb170) rfl (by decide) ?_ rfl
                          clear hf; intro a hf
                          refine st_skip hf (wantN hf rfl rfl hb170) rfl (by decide) ?_ rfl
                          clear hf; intro a hf
                          refine st_skip hf (wantN hf rfl rfl hb170) rfl (by decide) ?_ rfl
                          clear hf; intro a hf
                          refine st_skip hf (wantN hf rfl rfl hb170) rfl (by decide) ?_ rfl
                          clear hf; intro a hf
                          refine st_skip hf (wantN hf rfl rfl hb170) rfl (by decide) ?_ rfl
                          clear hf; intro a hf
                          refine st_skip hf (wantN hf rfl rfl hb170) rfl (by decide) ?_ rfl
                          clear hf; intro a hf
                          refine st_skip hf (wantN hf rfl rfl hb170) rfl (by decide) ?_ rfl
                          clear hf; intro a hf
                          refine st_skip hf (wantN hf rfl rfl hb170) rfl (by decide) ?_ rfl
                          clear hf; intro a hf
                          obtain rfl := Option.some.inj hz169
                          refine st_pick (v := .bool true) hf rfl rfl (fun hb' => ?_) (fun hb' => ?_) (by decide) ?_
                          · rfl
                          · exact absurd (hb170.symm.trans hb') (by decide)
                          clear hf; intro a ha hf; clear ha
                          refine st_nil hf (th_n ?_)
                          exact ⟨hf.sub ⟨rfl, rfl, rfl, trivial⟩, hp⟩
                        · skip
                          replace hz169 := ifF hz169 hb170
                          refine st_move hf (wantY hf rfl rfl hb170) rfl (by decide) ?_
                          clear hf; intro a ha hf; clear ha
                          refine st_move hf (wantY hf rfl rfl hb170) rfl (by decide) ?_
                          clear hf; intro a ha hf; clear ha
                          refine st_len (E := Ek.f64) hf (by decide) Try.underlying40 (wantY hf rfl rfl hb170) rfl (hp.sl (i := 2) rfl) ?_
                          clear hf; intro a ha hf; clear ha
                          refine st_iadd hf (by decide) (wantY hf rfl rfl hb170) rfl rfl ?_
                          clear hf; intro a ha hf; clear ha
                          obtain ⟨hc172, hz169⟩ := chk hz169
                          have hc173 : 0 ≤ ((IntKind.i64.wrap ((q14.length : Int) + (1 : Int)))).toNat := by omega
                          have hc174 : ((IntKind.i64.wrap ((q14.length : Int) + (1 : Int)))).toNat ≤ (((((([] : List Fl) ++ q14) ++ [(Fl.bits 4651892959631900672)]) ++ ([] : List Fl)).take (((q14.length : Int)).toNat)) ++ ((((([] : List Fl) ++ q14) ++ [(Fl.bits 4651892959631900672)]) ++ ([] : List Fl)).drop (((q14.length : Int)).toNat))).length := by omega
                          refine st_cutX (E := Ek.f64) hf (by decide) Try.underlying40 elt37 hp (i := 0) rfl (wantY hf rfl rfl hb170) rfl (.inl ⟨rfl, rfl⟩) (.inr ⟨_, _, rfl, evI rfl (by omega)⟩) hc173 hc174 ?_
                          clear hf; intro a ha hf; clear ha
                          refine st_move hf (wantY hf rfl rfl hb170) rfl (by decide) ?_
                          clear hf; intro a ha hf; clear ha
                          refine st_len (E := Ek.f64) hf (by decide) Try.underlying40 (wantY hf rfl rfl hb170) rfl (hp.sl (i := 2) rfl) ?_
                          clear hf; intro a ha hf; clear ha
                          obtain ⟨hc175, hz169⟩ := chk hz169
                          refine st_index (E := Ek.f64) hf (by decide) Try.underlying40 elt37 (wantY hf rfl rfl hb170) rfl rfl (hp.slAll (i := 0) rfl hc174) hc175.1 hc175.2 ?_
                          clear hf; intro a ha hf; clear ha
                          refine st_ldF hf (by decide) pl37 (wantY hf rfl rfl hb170) rfl (hp.slAll (i := 0) rfl hc174) hc175.1 hc175.2 ?_
                          clear hf; intro a b176 y177 ha hf; clear ha
                          refine st_fcmp (r_fne (fx := (gt ((((((([] : List Fl) ++ q14) ++ [(Fl.bits 4651892959631900672)]) ++ ([] : List Fl)).take (((q14.length : Int)).toNat)) ++ ((((([] : List Fl) ++ q14) ++ [(Fl.bits 4651892959631900672)]) ++ ([] : List Fl)).drop (((q14.length : Int)).toNat))).take (((IntKind.i64.wrap ((q14.length : Int) + (1 : Int)))).toNat)) (q14.length : Int))) (fy := (Fl.bits 4651892959631900672)) y177 rfl) hf (by decide) (wantY hf rfl rfl hb170) rfl rfl ?_
                          clear hf; intro a ha hf; clear ha
                          obtain rfl := Option.some.inj hz169
                          refine st_pick (v := .bool (fne (gt ((((((([] : List Fl) ++ q14) ++ [(Fl.bits 4651892959631900672)]) ++ ([] : List Fl)).take (((q14.length : Int)).toNat)) ++ ((((([] : List Fl) ++ q14) ++ [(Fl.bits 4651892959631900672)]) ++ ([] : List Fl)).drop (((q14.length : Int)).toNat))).take (((IntKind.i64.wrap ((q14.length : Int) + (1 : Int)))).toNat)) (q14.length : Int)) (Fl.bits 4651892959631900672))) hf rfl rfl (fun hb' => ?_) (fun hb' => ?_) (by decide) ?_
                          · exact absurd (hb170.symm.trans hb') (by decide)
                          · rfl
                          clear hf; intro a ha hf; clear ha
                          refine st_nil hf (th_n ?_)
                          exact ⟨hf.sub ⟨rfl, rfl, rfl, trivial⟩, hp⟩
                      · rintro a w ⟨hf, hp⟩
                        refine st_nil hf ?_
                        refine th_n ?_
                        refine wp_if hf rfl (fun hb => ?_) (fun hb => ?_)
                        · replace h := ifT h hb
                          refine wp_seq ?_
                          refine wp_reg ?_
                          refine st_assign hf rfl rfl (by decide) ?_
                          clear hf; intro a ha hf; clear ha
                          refine st_nil hf ?_
                          refine th_n ?_
                          refine wp_ret ?_
                          refine th_r ?_
                          obtain rfl := Option.some.inj h
                          have hp : Hp _ _ w (ow) := Hp.sel (pre := [Res.slx Ek.f64 37 (GL.cut v23 0 (((q14.length : Int)).toNat) 1) ((((([] : List Fl) ++ q14) ++ [(Fl.bits 4651892959631900672)]) ++ ([] : List Fl)).take (((q14.length : Int)).toNat)) ((((([] : List Fl) ++ q14) ++ [(Fl.bits 4651892959631900672)]) ++ ([] : List Fl)).drop (((q14.length : Int)).toNat)), Res.sl Ek.c128 36 v134 q127.1, Res.sl Ek.f64 37 v7 q14, Res.sl Ek.c128 36 v116 q109.1, Res.sl Ek.f64 37 v102 q108, Res.sl Ek.f64 37 v34 q27.1, Res.sl Ek.f64 37 v52 q45.1]) (tail := ow) (rs' := []) hp [] (by decide) (by simp) rfl
                          exact ⟨rfl, ⟨hf.sub ⟨rfl, trivial⟩, hp⟩⟩
                        · replace h := ifF h hb
                          refine wp_skip ?_
                          refine th_n ?_
                          refine wp_seq ?_
                          refine wp_seq ?_
                          refine wp_reg ?_
                          refine st_assign hf rfl rfl (by decide) ?_
                          clear hf; intro a ha hf; clear ha
                          refine st_nil hf ?_
                          refine th_n ?_
                          refine wp_block ?_
                          obtain ⟨q193, hl, h⟩ := bnd h
                          have hp : Hp _ _ w (Res.slx Ek.f64 37 (GL.cut v23 0 (((q14.length : Int)).toNat) 1) ((((([] : List Fl) ++ q14) ++ [(Fl.bits 4651892959631900672)]) ++ ([] : List Fl)).take (((q14.length : Int)).toNat)) ((((([] : List Fl) ++ q14) ++ [(Fl.bits 4651892959631900672)]) ++ ([] : List Fl)).drop (((q14.length : Int)).toNat)) :: ow) := Hp.sel (pre := [Res.slx Ek.f64 37 (GL.cut v23 0 (((q14.length : Int)).toNat) 1) ((((([] : List Fl) ++ q14) ++ [(Fl.bits 4651892959631900672)]) ++ ([] : List Fl)).take (((q14.length : Int)).toNat)) ((((([] : List Fl) ++ q14) ++ [(Fl.bits 4651892959631900672)]) ++ ([] : List Fl)).drop (((q14.length : Int)).toNat)), Res.sl Ek.c128 36 v134 q127.1, Res.sl Ek.f64 37 v7 q14, Res.sl Ek.c128 36 v116 q109.1, Res.sl Ek.f64 37 v102 q108, Res.sl Ek.f64 37 v34 q27.1, Res.sl Ek.f64 37 v52 q45.1]) (tail := ow) (rs' := [Res.slx Ek.f64 37 (GL.cut v23 0 (((q14.length : Int)).toNat) 1) ((((([] : List Fl) ++ q14) ++ [(Fl.bits 4651892959631900672)]) ++ ([] : List Fl)).take (((q14.length : Int)).toNat)) ((((([] : List Fl) ++ q14) ++ [(Fl.bits 4651892959631900672)]) ++ ([] : List Fl)).drop (((q14.length : Int)).toNat))]) hp [0] (by decide) (by simp) rfl
                          refine wp_loop_pure (f := (f_foghornlaw08_MixLines.s4 r1 q14)) (s := (0 : Int)) (fun s a w => Fr 164 a [(1, vr1), (8, (GL.cut v23 0 (((q14.length : Int)).toNat) 1)), (23, .int .i64 s)] ∧ Hp S w0 w (Res.slx Ek.f64 37 (GL.cut v23 0 (((q14.length : Int)).toNat) 1) ((((([] : List Fl) ++ q14) ++ [(Fl.bits 4651892959631900672)]) ++ ([] : List Fl)).take (((q14.length : Int)).toNat)) ((((([] : List Fl) ++ q14) ++ [(Fl.bits 4651892959631900672)]) ++ ([] : List Fl)).drop (((q14.length : Int)).toNat)) :: ow)) (fun q e a w => match q with | (Sum.inl q) => e = .exit 6 ∧ Fr 164 a [] ∧ Hp S w0 w (ow) | (Sum.inr q) => e = .ret ∧ Fr 164 a [(4, .bool q)] ∧ Hp S w0 w (ow)) ?_ hl ⟨hf.sub ⟨rfl, rfl, rfl, trivial⟩, hp⟩ ?_
                          · clear hl hf hp
                            intro s x a w h hI
                            obtain ⟨i23, hs⟩ : ∃ z, z = s := ⟨s, rfl⟩; subst hs
                            obtain ⟨hf, hp⟩ : Fr 164 a [(1, vr1), (8, (GL.cut v23 0 (((q14.length : Int)).toNat) 1)), (23, .int .i64 i23)] ∧ Hp S w0 w (Res.slx Ek.f64 37 (GL.cut v23 0 (((q14.length : Int)).toNat) 1) ((((([] : List Fl) ++ q14) ++ [(Fl.bits 4651892959631900672)]) ++ ([] : List Fl)).take (((q14.length : Int)).toNat)) ((((([] : List Fl) ++ q14) ++ [(Fl.bits 4651892959631900672)]) ++ ([] : List Fl)).drop (((q14.length : Int)).toNat)) :: ow) := hI
                            replace h : f_foghornlaw08_MixLines.s4c r1 q14 i23 = some x := h
                            unfold f_foghornlaw08_MixLines.s4c at h
                            refine wp_seq ?_
                            refine wp_seq ?_
                            refine wp_reg ?_
                            refine st_move hf rfl rfl (by decide) ?_
                            clear hf; intro a ha hf; clear ha
                            refine st_move hf rfl rfl (by decide) ?_
                            clear hf; intro a ha hf; clear ha
                            refine st_len (E := Ek.f64) hf (by decide) Try.underlying40 rfl rfl (hp.sl (i := 0) rfl) ?_
                            clear hf; intro a ha hf; clear ha
                            refine st_ilss hf (by decide) rfl rfl rfl ?_
                            clear hf; intro a ha hf; clear ha
                            refine st_nil hf ?_
                            refine th_n ?_
                            refine wp_if hf rfl (fun hb => ?_) (fun hb => ?_)
                            · replace h := ifT h hb
                              refine wp_skip ?_
                              refine th_n ?_
                              refine wp_seq ?_
                              refine wp_block ?_
                              refine wp_seq ?_
                              obtain ⟨S178, hp179, rd180, up181, bk182⟩ := Hp.lendS hp (i := 0) rfl
                              have rl183 := ((hr1.now hp).mono up181)
                              have rl184 := rd180
                              obtain ⟨hc185, h⟩ := chk h
                              obtain ⟨b187, y188, hl186⟩ := RdS.pinF (p := i23) rl184 hc185.1 hc185.2
                              obtain ⟨q189, hq190, h⟩ := bnd h
                              obtain ⟨hc192, h⟩ := chk h
                              refine wp_cutN (fun a w => Fr 164 a [(1, vr1), (8, (GL.cut v23 0 (((q14.length : Int)).toNat) 1)), (23, .int .i64 i23), (163, .bool (q189 != (gt r1 i23)))] ∧ Hp S w0 w (Res.slx Ek.f64 37 (GL.cut v23 0 (((q14.length : Int)).toNat) 1) ((((([] : List Fl) ++ q14) ++ [(Fl.bits 4651892959631900672)]) ++ ([] : List Fl)).take (((q14.length : Int)).toNat)) ((((([] : List Fl) ++ q14) ++ [(Fl.bits 4651892959631900672)]) ++ ([] : List Fl)).drop (((q14.length : Int)).toNat)) :: ow)) ?_ ?_
                              · have hp := hp179.same (Same.drew w)
                                refine dr_begin' (fun a w => Fr 164 a [(1, vr1), (8, (GL.cut v23 0 (((q14.length : Int)).toNat) 1)), (23, .int .i64 i23), (163, .bool (q189 != (gt r1 i23)))] ∧ Hp S w0 w (Res.slx Ek.f64 37 (GL.cut v23 0 (((q14.length : Int)).toNat) 1) ((((([] : List Fl) ++ q14) ++ [(Fl.bits 4651892959631900672)]) ++ ([] : List Fl)).take (((q14.length : Int)).toNat)) ((((([] : List Fl) ++ q14) ++ [(Fl.bits 4651892959631900672)]) ++ ([] : List Fl)).drop (((q14.length : Int)).toNat)) :: ow)) (fun w' => ∃ l, Hp S178 w w' l) [] (by kernel_rfl) ?_
                                refine dr_take 0 ((GL.cut v23 0 (((q14.length : Int)).toNat) 1)) rfl (by kernel_rfl) (by kernel_rfl) (by kernel_rfl) (by kernel_rfl) rfl rfl hf (by decide) rfl (fun w hp => ?_) ⟨_, hp⟩ ?_
                                · obtain ⟨_, hp⟩ := hp
                                  refine st_move hf rfl rfl (by decide) ?_
                                  clear hf; intro a ha hf
                                  exact st_nil hf (th_n ⟨ha, rfl⟩)
                                clear hf; intro a hf
                                refine dr_take 1 (.int .i64 i23) rfl (by kernel_rfl) (by kernel_rfl) (by kernel_rfl) (by kernel_rfl) rfl rfl hf (by decide) rfl (fun w hp => ?_) ⟨_, hp⟩ ?_
                                · obtain ⟨_, hp⟩ := hp
                                  refine st_move hf rfl rfl (by decide) ?_
                                  clear hf; intro a ha hf
                                  exact st_nil hf (th_n ⟨ha, rfl⟩)
                                clear hf; intro a hf
                                refine dr_take 2 (eptr (GL.cut v23 0 (((q14.length : Int)).toNat) 1) i23 1) rfl (by kernel_rfl) (by kernel_rfl) (by kernel_rfl) (by kernel_rfl) rfl rfl hf (by decide) rfl (fun w hp => ?_) ⟨_, hp⟩ ?_
                                · obtain ⟨_, hp⟩ := hp
                                  refine st_index (E := Ek.f64) hf (by decide) Try.underlying40 elt37 rfl rfl rfl (rl184.sl hp) hc185.1 hc185.2 ?_
                                  clear hf; intro a ha hf
                                  exact st_nil hf (th_n ⟨ha, rfl⟩)
                                clear hf; intro a hf
                                refine dr_take 3 (.float .f64 b187) rfl (by kernel_rfl) (by kernel_rfl) (by kernel_rfl) (by kernel_rfl) rfl rfl hf (by decide) rfl (fun w hp => ?_) ⟨_, hp⟩ ?_
                                · obtain ⟨_, hp⟩ := hp
                                  refine st_ldP hf (by decide) pl37 rfl rfl (hl186 _ _ hp) ?_
                                  clear hf; intro a ha hf
                                  exact st_nil hf (th_n ⟨ha, rfl⟩)
                                clear hf; intro a hf
                                refine dr_take 5 (vr1) rfl (by kernel_rfl) (by kernel_rfl) (by kernel_rfl) (by kernel_rfl) rfl rfl hf (by decide) rfl (fun w hp => ?_) ⟨_, hp⟩ ?_
                                · obtain ⟨_, hp⟩ := hp
                                  refine st_move hf rfl rfl (by decide) ?_
                                  clear hf; intro a ha hf
                                  exact st_nil hf (th_n ⟨ha, rfl⟩)
                                clear hf; intro a hf
                                refine dr_take 6 (.int .i64 i23) rfl (by kernel_rfl) (by kernel_rfl) (by kernel_rfl) (by kernel_rfl) rfl rfl hf (by decide) rfl (fun w hp => ?_) ⟨_, hp⟩ ?_
                                · obtain ⟨_, hp⟩ := hp
                                  refine st_move hf rfl rfl (by decide) ?_
                                  clear hf; intro a ha hf
                                  exact st_nil hf (th_n ⟨ha, rfl⟩)
                                clear hf; intro a hf
                                refine dr_take 7 (eptr vr1 i23 1) rfl (by kernel_rfl) (by kernel_rfl) (by kernel_rfl) (by kernel_rfl) rfl rfl hf (by decide) rfl (fun w hp => ?_) ⟨_, hp⟩ ?_
                                · obtain ⟨_, hp⟩ := hp
                                  refine st_index (E := (Ek.int .u64)) hf (by decide) Try.underlying22 elt42 rfl rfl rfl (rl183.sl hp) hc192.1 hc192.2 ?_
                                  clear hf; intro a ha hf
                                  exact st_nil hf (th_n ⟨ha, rfl⟩)
                                clear hf; intro a hf
                                refine dr_take 8 (.int .u64 (gt r1 i23)) rfl (by kernel_rfl) (by kernel_rfl) (by kernel_rfl) (by kernel_rfl) rfl rfl hf (by decide) rfl (fun w hp => ?_) ⟨_, hp⟩ ?_
                                · obtain ⟨_, hp⟩ := hp
                                  refine st_ldI hf (by decide) pl42 rfl rfl (rl183.sl hp) hc192.1 hc192.2 ?_
                                  clear hf; intro a ha hf
                                  exact st_nil hf (th_n ⟨ha, rfl⟩)
                                clear hf; intro a hf
                                refine dr_one 4 rfl (by kernel_rfl) ?_
                                refine st_extern (ex := Extern.MathFloatBits.float64bits) (r := .int .u64 (b187 : Int)) (f := 30) (vs := [.float .f64 b187]) hf (by decide) Try.func30 rfl rfl (by kernel_rfl) (by kernel_rfl) rfl rfl rfl rfl ?_
                                clear hf; intro a ha hf; clear ha
                                have he191 := fbits_rep y188 hq190; rw [← he191] at hf
                                refine st_nil hf (th_n ⟨fun _ => ⟨_, hp⟩, ?_⟩)
                                refine dr_take 9 (.bool (q189 != (gt r1 i23))) rfl (by kernel_rfl) (by kernel_rfl) (by kernel_rfl) (by kernel_rfl) rfl rfl hf (by decide) rfl (fun w hp => ?_) ⟨_, hp⟩ ?_
                                · obtain ⟨_, hp⟩ := hp
                                  refine st_ineq hf (by decide) rfl rfl rfl ?_
                                  clear hf; intro a ha hf
                                  exact st_nil hf (th_n ⟨ha, rfl⟩)
                                clear hf; intro a hf
                                refine dr_end (by kernel_rfl) ?_ _
                                have hp := bk182 _ _ hp
                                exact ⟨hf.sub ⟨rfl, rfl, rfl, rfl, trivial⟩, hp⟩
                              · rintro a w ⟨hf, hp⟩
                                refine th_n ?_
                                refine wp_if hf rfl (fun hb => ?_) (fun hb => ?_)
                                · replace h := ifT h hb
                                  refine wp_seq ?_
                                  refine wp_reg ?_
                                  refine st_assign hf rfl rfl (by decide) ?_
                                  clear hf; intro a ha hf; clear ha
                                  refine st_nil hf ?_
                                  refine th_n ?_
                                  refine wp_ret ?_
                                  refine ib_r ?_
                                  refine th_r ?_
                                  obtain rfl := Option.some.inj h
                                  have hp : Hp _ _ w (ow) := Hp.sel (pre := [Res.slx Ek.f64 37 (GL.cut v23 0 (((q14.length : Int)).toNat) 1) ((((([] : List Fl) ++ q14) ++ [(Fl.bits 4651892959631900672)]) ++ ([] : List Fl)).take (((q14.length : Int)).toNat)) ((((([] : List Fl) ++ q14) ++ [(Fl.bits 4651892959631900672)]) ++ ([] : List Fl)).drop (((q14.length : Int)).toNat))]) (tail := ow) (rs' := []) hp [] (by decide) (by simp) rfl
                                  exact rnd_r (by simp) ⟨rfl, ⟨hf.sub ⟨rfl, trivial⟩, hp⟩⟩
                                · replace h := ifF h hb
                                  refine wp_skip ?_
                                  refine ib_n ?_
                                  refine th_n ?_
                                  refine wp_reg ?_
                                  refine st_move hf rfl rfl (by decide) ?_
                                  clear hf; intro a ha hf; clear ha
                                  refine st_iadd hf (by decide) rfl rfl rfl ?_
                                  clear hf; intro a ha hf; clear ha
                                  refine st_assign hf rfl rfl (by decide) ?_
                                  clear hf; intro a ha hf; clear ha
                                  refine st_nil hf ?_
                                  obtain rfl := Option.some.inj h
                                  exact rnd_l ⟨hf.sub ⟨rfl, rfl, rfl, trivial⟩, hp⟩
                            · replace h := ifF h hb
                              refine wp_exit ?_
                              refine th_e ?_
                              obtain rfl := Option.some.inj h
                              have hp : Hp _ _ w (ow) := Hp.sel (pre := [Res.slx Ek.f64 37 (GL.cut v23 0 (((q14.length : Int)).toNat) 1) ((((([] : List Fl) ++ q14) ++ [(Fl.bits 4651892959631900672)]) ++ ([] : List Fl)).take (((q14.length : Int)).toNat)) ((((([] : List Fl) ++ q14) ++ [(Fl.bits 4651892959631900672)]) ++ ([] : List Fl)).drop (((q14.length : Int)).toNat))]) (tail := ow) (rs' := []) hp [] (by decide) (by simp) rfl
                              exact rnd_r (by simp) ⟨rfl, hf.sub trivial, hp⟩
                          · clear hl hf hp
                            intro e a w hne hO
                            cases q193 with
                            | inl q194 =>
                              replace h := smL h
                              obtain ⟨rfl, hf, hp⟩ := hO
                              refine ib_same ?_
                              refine th_n ?_
                              refine wp_seq ?_
                              refine wp_reg ?_
                              refine st_assign hf rfl rfl (by decide) ?_
                              clear hf; intro a ha hf; clear ha
                              refine st_nil hf ?_
                              refine th_n ?_
                              refine wp_ret ?_
                              obtain rfl := Option.some.inj h
                              exact ⟨rfl, ⟨hf.sub ⟨rfl, trivial⟩, hp⟩⟩
                            | inr q195 =>
                              replace h := smR h
                              obtain ⟨rfl, hf, hp⟩ := hO
                              refine ib_r ?_
                              refine th_r ?_
                              obtain rfl := Option.some.inj h
                              exact ⟨rfl, ⟨hf.sub ⟨rfl, trivial⟩, hp⟩⟩

end Go.Proofs.Ytfppofbdmhihpaa
