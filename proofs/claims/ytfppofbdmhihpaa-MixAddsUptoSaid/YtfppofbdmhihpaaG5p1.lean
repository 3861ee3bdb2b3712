/- The functions foghorn foghornlaw08.MixAdds: what each answers, as a plain function, and that its call answers it; printed by gen.py. -/
import Derived.Test.YtfppofbdmhihpaaProg
import Derived.Test.YtfppofbdmhihpaaGlU
import Derived.KernelRfl
set_option linter.unusedVariables false
set_option linter.unusedSimpArgs false
set_option maxRecDepth 100000
set_option maxHeartbeats 4000000
namespace Go.Proofs.Ytfppofbdmhihpaa
open GL
theorem elt36 : ElT Try.prog Ek.c128 36 16 (Fl.bits 0, Fl.bits 0) := ElT.of (z := .complex .f64 0 0) (by kernel_rfl) ⟨_, _, rfl, rfl, rfl⟩
theorem elt37 : ElT Try.prog Ek.f64 37 8 (Fl.bits 0) := ElT.of (z := .float .f64 0) (by kernel_rfl) ⟨_, rfl, rfl⟩
theorem elt64 : ElT Try.prog (Ek.int .u16) 64 2 (0 : Int) := ElT.of (z := .int .u16 0) (by kernel_rfl) rfl
theorem pl36 : Plain Try.prog 36 := ⟨⟨_, Try.underlying36, trivial⟩⟩
theorem pl37 : Plain Try.prog 37 := ⟨⟨_, Try.underlying37, trivial⟩⟩
theorem pl57 : Plain Try.prog 57 := ⟨⟨_, Try.underlying57, trivial⟩⟩
theorem pl64 : Plain Try.prog 64 := ⟨⟨_, Try.underlying64, trivial⟩⟩
noncomputable def f_mix_fits (n0 : Int) : Option Bool := (some (decide (n0 ≤ (65536 : Int))))
theorem f_mix_fits_c {S : Nat → Prop} {w0 w : World} {ow : List Res} (hp : Hp S w0 w ow) (n0 : Int) {r : Bool} (h : f_mix_fits n0 = some r) :
    Calls Try.prog 34 #[.int .i64 n0] w (fun e w' => e = .returned (.bool r) ∧ Hp S w0 w' (ow)) := by
  unfold f_mix_fits at h
  refine enter (n := 5) (args := [.int .i64 n0]) Try.func34 rfl rfl (Nat.le_of_ble_eq_true rfl) fun a hf => ?_
  replace hf : Fr 5 a [(0, .int .i64 n0)] := hf
  refine wp_mono (Q := fun e a w => e = .ret ∧ Fr 5 a [(2, .bool r)] ∧ Hp S w0 w (ow)) ?_ ?_
  rotate_left
  · rintro e a w ⟨rfl, hf, hp⟩
    exact ret1 hf rfl rfl ⟨rfl, hp⟩
  refine wp_seq ?_
  refine wp_reg ?_
  refine st_assign hf rfl rfl (by decide) ?_
  clear hf; intro a ha hf; clear ha
  refine st_nil hf ?_
  refine th_n ?_
  refine wp_seq ?_
  refine wp_reg ?_
  refine st_move hf rfl rfl (by decide) ?_
  clear hf; intro a ha hf; clear ha
  refine st_ileq hf (by decide) rfl rfl rfl ?_
  clear hf; intro a ha hf; clear ha
  refine st_assign hf rfl rfl (by decide) ?_
  clear hf; intro a ha hf; clear ha
  refine st_nil hf ?_
  refine th_n ?_
  refine wp_ret ?_
  obtain rfl := Option.some.inj h
  exact ⟨rfl, ⟨hf.sub ⟨rfl, trivial⟩, hp⟩⟩

noncomputable def f_mix_turns  : Option Unit := (some ())
theorem f_mix_turns_c {S : Nat → Prop} {w0 w : World} {ow : List Res} (hp : Hp S w0 w ow) {r : Unit} (h : f_mix_turns = some r) :
    Calls Try.prog 36 #[] w (fun e w' => e = .returned (.agg #[.func (.func 39) #[] #[], .func (.func 40) #[] #[], .func (.func 41) #[] #[], .func (.func 42) #[] #[]]) ∧ Hp S w0 w' (ow)) := by
  unfold f_mix_turns at h
  refine enter (n := 6) (args := []) Try.func36 rfl rfl (Nat.le_of_ble_eq_true rfl) fun a hf => ?_
  replace hf : Fr 6 a [] := hf
  refine wp_mono (Q := fun e a w => e = .ret ∧ ∃ (c0 : Value), Fr 6 a [(0, optr c0 0)] ∧ Hp S w0 w (Res.obj 60 c0 [.func (.func 39) #[] #[], .func (.func 40) #[] #[], .func (.func 41) #[] #[], .func (.func 42) #[] #[]] :: ow)) ?_ ?_
  rotate_left
  · rintro e a w ⟨rfl, c0, hf, hp⟩
    exact retG1 hf rfl ⟨_, _, rfl, hp.ob (i := 0) rfl, .inr ⟨by kernel_rfl, rfl⟩⟩ ⟨rfl, hp.drop⟩
  refine wp_seq ?_
  refine wp_reg ?_
  refine st_alloc (cs := [.nilFunc, .nilFunc, .nilFunc, .nilFunc]) (zv := .agg #[.nilFunc, .nilFunc, .nilFunc, .nilFunc]) hf (by decide) (by kernel_rfl) rfl hp rfl ?_
  clear hf; intro a w v1 hf hp0; clear hp; have hp := hp0; clear hp0
  replace hp : Hp _ _ _ (Res.obj 60 v1 [.nilFunc, .nilFunc, .nilFunc, .nilFunc] :: ow) := hp
  refine st_nil hf ?_
  refine th_n ?_
  refine wp_seq ?_
  refine wp_reg ?_
  refine st_buildA (vals := [(0, .func (.func 39) #[] #[])]) (cells := [.func (.func 39) #[] #[]]) hf (by decide) rfl (by simp [hf.ev (x := (Operand.func 39)) rfl]) (fun w => by kernel_rfl) ?_
  clear hf; intro a ha hf; clear ha
  refine st_buildA (vals := [(0, .func (.func 40) #[] #[])]) (cells := [.func (.func 40) #[] #[]]) hf (by decide) rfl (by simp [hf.ev (x := (Operand.func 40)) rfl]) (fun w => by kernel_rfl) ?_
  clear hf; intro a ha hf; clear ha
  refine st_buildA (vals := [(0, .func (.func 41) #[] #[])]) (cells := [.func (.func 41) #[] #[]]) hf (by decide) rfl (by simp [hf.ev (x := (Operand.func 41)) rfl]) (fun w => by kernel_rfl) ?_
  clear hf; intro a ha hf; clear ha
  refine st_buildA (vals := [(0, .func (.func 42) #[] #[])]) (cells := [.func (.func 42) #[] #[]]) hf (by decide) rfl (by simp [hf.ev (x := (Operand.func 42)) rfl]) (fun w => by kernel_rfl) ?_
  clear hf; intro a ha hf; clear ha
  refine st_buildA (vals := [(0, .agg #[.func (.func 39) #[] #[]]), (1, .agg #[.func (.func 40) #[] #[]]), (2, .agg #[.func (.func 41) #[] #[]]), (3, .agg #[.func (.func 42) #[] #[]])]) (cells := [.func (.func 39) #[] #[], .func (.func 40) #[] #[], .func (.func 41) #[] #[], .func (.func 42) #[] #[]]) hf (by decide) rfl (by simp [hf.ev (x := (Operand.tmp 1)) rfl, hf.ev (x := (Operand.tmp 2)) rfl, hf.ev (x := (Operand.tmp 3)) rfl, hf.ev (x := (Operand.tmp 4)) rfl]) (fun w => by kernel_rfl) ?_
  clear hf; intro a ha hf; clear ha
  refine st_stO (us := [.func (.func 39) #[] #[], .func (.func 40) #[] #[], .func (.func 41) #[] #[], .func (.func 42) #[] #[]]) hf hp (i := 0) rfl rfl rfl rfl rfl (by rfl) (by kernel_rfl) (Nat.le_of_ble_eq_true rfl) ?_
  clear hf; intro a w hf hp0; clear hp; have hp := hp0; clear hp0
  replace hp : Hp _ _ _ (Res.obj 60 v1 [.func (.func 39) #[] #[], .func (.func 40) #[] #[], .func (.func 41) #[] #[], .func (.func 42) #[] #[]] :: ow) := hp
  refine st_nil hf ?_
  refine th_n ?_
  refine wp_ret ?_
  obtain rfl := Option.some.inj h
  exact ⟨rfl, ⟨_, hf.sub ⟨rfl, trivial⟩, hp⟩⟩

noncomputable def f_mix_by (quarters0 : Int) : Option Int := (some (iand .i64 quarters0 (3 : Int)))
theorem f_mix_by_c {S : Nat → Prop} {w0 w : World} {ow : List Res} (hp : Hp S w0 w ow) (quarters0 : Int) {r : Int} (h : f_mix_by quarters0 = some r) :
    Calls Try.prog 37 #[.int .i64 quarters0] w (fun e w' => e = .returned (.int .i64 r) ∧ Hp S w0 w' (ow)) := by
  unfold f_mix_by at h
  refine enter (n := 5) (args := [.int .i64 quarters0]) Try.func37 rfl rfl (Nat.le_of_ble_eq_true rfl) fun a hf => ?_
  replace hf : Fr 5 a [(0, .int .i64 quarters0)] := hf
  refine wp_mono (Q := fun e a w => e = .ret ∧ Fr 5 a [(2, .int .i64 r)] ∧ Hp S w0 w (ow)) ?_ ?_
  rotate_left
  · rintro e a w ⟨rfl, hf, hp⟩
    exact ret1 hf rfl rfl ⟨rfl, hp⟩
  refine wp_seq ?_
  refine wp_reg ?_
  refine st_assign hf rfl rfl (by decide) ?_
  clear hf; intro a ha hf; clear ha
  refine st_nil hf ?_
  refine th_n ?_
  refine wp_seq ?_
  refine wp_reg ?_
  refine st_move hf rfl rfl (by decide) ?_
  clear hf; intro a ha hf; clear ha
  refine st_iand hf (by decide) rfl rfl rfl ?_
  clear hf; intro a ha hf; clear ha
  refine st_assign hf rfl rfl (by decide) ?_
  clear hf; intro a ha hf; clear ha
  refine st_nil hf ?_
  refine th_n ?_
  refine wp_ret ?_
  obtain rfl := Option.some.inj h
  exact ⟨rfl, ⟨hf.sub ⟨rfl, trivial⟩, hp⟩⟩

noncomputable def f_mix_turns_1 (zx0 : (Fl × Fl)) : Option (Fl × Fl) := (some zx0)
theorem f_mix_turns_1_c {S : Nat → Prop} {w0 w : World} {ow : List Res} (hp : Hp S w0 w ow) (bzx0 czx0 : Nat) (zx0 : Fl × Fl) (hzx0 : zx0.1.rep bzx0) (kzx0 : zx0.2.rep czx0) {r : (Fl × Fl)} (h : f_mix_turns_1 zx0 = some r) :
    Calls Try.prog 39 #[.complex .f64 bzx0 czx0] w (fun e w' => ∃ (b0 : Nat) (b1 : Nat), e = .returned (.complex .f64 b0 b1) ∧ Fl.rep b0 r.1 ∧ Fl.rep b1 r.2 ∧ Hp S w0 w' (ow)) := by
  unfold f_mix_turns_1 at h
  refine enter (n := 4) (args := [.complex .f64 bzx0 czx0]) Try.func39 rfl rfl (Nat.le_of_ble_eq_true rfl) fun a hf => ?_
  replace hf : Fr 4 a [(0, .complex .f64 bzx0 czx0)] := hf
  refine wp_mono (Q := fun e a w => e = .ret ∧ ∃ (b0 : Nat) (b1 : Nat), Fr 4 a [(2, .complex .f64 b0 b1)] ∧ Fl.rep b0 r.1 ∧ Fl.rep b1 r.2 ∧ Hp S w0 w (ow)) ?_ ?_
  rotate_left
  · rintro e a w ⟨rfl, x0, x1, hf, y0, y1, hp⟩
    exact ret1 hf rfl rfl ⟨x0, x1, rfl, y0, y1, hp⟩
  refine wp_seq ?_
  refine wp_reg ?_
  refine st_assign hf rfl rfl (by decide) ?_
  clear hf; intro a ha hf; clear ha
  refine st_nil hf ?_
  refine th_n ?_
  refine wp_seq ?_
  refine wp_reg ?_
  refine st_move hf rfl rfl (by decide) ?_
  clear hf; intro a ha hf; clear ha
  refine st_assign hf rfl rfl (by decide) ?_
  clear hf; intro a ha hf; clear ha
  refine st_nil hf ?_
  refine th_n ?_
  refine wp_ret ?_
  obtain rfl := Option.some.inj h
  exact ⟨rfl, ⟨_, _, hf.sub ⟨rfl, trivial⟩, hzx0, kzx0, hp⟩⟩

noncomputable def f_mix_turns_2 (zx0 : (Fl × Fl)) : Option (Fl × Fl) := (some ((fneg zx0.2), zx0.1))
theorem f_mix_turns_2_c {S : Nat → Prop} {w0 w : World} {ow : List Res} (hp : Hp S w0 w ow) (bzx0 czx0 : Nat) (zx0 : Fl × Fl) (hzx0 : zx0.1.rep bzx0) (kzx0 : zx0.2.rep czx0) {r : (Fl × Fl)} (h : f_mix_turns_2 zx0 = some r) :
    Calls Try.prog 40 #[.complex .f64 bzx0 czx0] w (fun e w' => ∃ (b0 : Nat) (b1 : Nat), e = .returned (.complex .f64 b0 b1) ∧ Fl.rep b0 r.1 ∧ Fl.rep b1 r.2 ∧ Hp S w0 w' (ow)) := by
  unfold f_mix_turns_2 at h
  refine enter (n := 9) (args := [.complex .f64 bzx0 czx0]) Try.func40 rfl rfl (Nat.le_of_ble_eq_true rfl) fun a hf => ?_
  replace hf : Fr 9 a [(0, .complex .f64 bzx0 czx0)] := hf
  refine wp_mono (Q := fun e a w => e = .ret ∧ ∃ (b0 : Nat) (b1 : Nat), Fr 9 a [(2, .complex .f64 b0 b1)] ∧ Fl.rep b0 r.1 ∧ Fl.rep b1 r.2 ∧ Hp S w0 w (ow)) ?_ ?_
  rotate_left
  · rintro e a w ⟨rfl, x0, x1, hf, y0, y1, hp⟩
    exact ret1 hf rfl rfl ⟨x0, x1, rfl, y0, y1, hp⟩
  refine wp_seq ?_
  refine wp_reg ?_
  refine st_assign hf rfl rfl (by decide) ?_
  clear hf; intro a ha hf; clear ha
  refine st_nil hf ?_
  refine th_n ?_
  refine wp_seq ?_
  refine wp_reg ?_
  refine st_move hf rfl rfl (by decide) ?_
  clear hf; intro a ha hf; clear ha
  refine st_imag hf (by decide) rfl rfl ?_
  clear hf; intro a ha hf; clear ha
  refine st_fneg hf (by decide) rfl rfl ?_
  clear hf; intro a ha hf; clear ha
  refine st_move hf rfl rfl (by decide) ?_
  clear hf; intro a ha hf; clear ha
  refine st_real hf (by decide) rfl rfl ?_
  clear hf; intro a ha hf; clear ha
  refine st_complex hf (by decide) rfl rfl rfl ?_
  clear hf; intro a ha hf; clear ha
  refine st_assign hf rfl rfl (by decide) ?_
  clear hf; intro a ha hf; clear ha
  refine st_nil hf ?_
  refine th_n ?_
  refine wp_ret ?_
  obtain rfl := Option.some.inj h
  exact ⟨rfl, ⟨_, _, hf.sub ⟨rfl, trivial⟩, (fneg_rep kzx0), hzx0, hp⟩⟩

noncomputable def f_mix_turns_3 (zx0 : (Fl × Fl)) : Option (Fl × Fl) := (some ((fneg zx0.1), (fneg zx0.2)))
theorem f_mix_turns_3_c {S : Nat → Prop} {w0 w : World} {ow : List Res} (hp : Hp S w0 w ow) (bzx0 czx0 : Nat) (zx0 : Fl × Fl) (hzx0 : zx0.1.rep bzx0) (kzx0 : zx0.2.rep czx0) {r : (Fl × Fl)} (h : f_mix_turns_3 zx0 = some r) :
    Calls Try.prog 41 #[.complex .f64 bzx0 czx0] w (fun e w' => ∃ (b0 : Nat) (b1 : Nat), e = .returned (.complex .f64 b0 b1) ∧ Fl.rep b0 r.1 ∧ Fl.rep b1 r.2 ∧ Hp S w0 w' (ow)) := by
  unfold f_mix_turns_3 at h
  refine enter (n := 10) (args := [.complex .f64 bzx0 czx0]) Try.func41 rfl rfl (Nat.le_of_ble_eq_true rfl) fun a hf => ?_
  replace hf : Fr 10 a [(0, .complex .f64 bzx0 czx0)] := hf
  refine wp_mono (Q := fun e a w => e = .ret ∧ ∃ (b0 : Nat) (b1 : Nat), Fr 10 a [(2, .complex .f64 b0 b1)] ∧ Fl.rep b0 r.1 ∧ Fl.rep b1 r.2 ∧ Hp S w0 w (ow)) ?_ ?_
  rotate_left
  · rintro e a w ⟨rfl, x0, x1, hf, y0, y1, hp⟩
    exact ret1 hf rfl rfl ⟨x0, x1, rfl, y0, y1, hp⟩
  refine wp_seq ?_
  refine wp_reg ?_
  refine st_assign hf rfl rfl (by decide) ?_
  clear hf; intro a ha hf; clear ha
  refine st_nil hf ?_
  refine th_n ?_
  refine wp_seq ?_
  refine wp_reg ?_
  refine st_move hf rfl rfl (by decide) ?_
  clear hf; intro a ha hf; clear ha
  refine st_real hf (by decide) rfl rfl ?_
  clear hf; intro a ha hf; clear ha
  refine st_fneg hf (by decide) rfl rfl ?_
  clear hf; intro a ha hf; clear ha
  refine st_move hf rfl rfl (by decide) ?_
  clear hf; intro a ha hf; clear ha
  refine st_imag hf (by decide) rfl rfl ?_
  clear hf; intro a ha hf; clear ha
  refine st_fneg hf (by decide) rfl rfl ?_
  clear hf; intro a ha hf; clear ha
  refine st_complex hf (by decide) rfl rfl rfl ?_
  clear hf; intro a ha hf; clear ha
  refine st_assign hf rfl rfl (by decide) ?_
  clear hf; intro a ha hf; clear ha
  refine st_nil hf ?_
  refine th_n ?_
  refine wp_ret ?_
  obtain rfl := Option.some.inj h
  exact ⟨rfl, ⟨_, _, hf.sub ⟨rfl, trivial⟩, (fneg_rep hzx0), (fneg_rep kzx0), hp⟩⟩

noncomputable def f_mix_turns_4 (zx0 : (Fl × Fl)) : Option (Fl × Fl) := (some (zx0.2, (fneg zx0.1)))
theorem f_mix_turns_4_c {S : Nat → Prop} {w0 w : World} {ow : List Res} (hp : Hp S w0 w ow) (bzx0 czx0 : Nat) (zx0 : Fl × Fl) (hzx0 : zx0.1.rep bzx0) (kzx0 : zx0.2.rep czx0) {r : (Fl × Fl)} (h : f_mix_turns_4 zx0 = some r) :
    Calls Try.prog 42 #[.complex .f64 bzx0 czx0] w (fun e w' => ∃ (b0 : Nat) (b1 : Nat), e = .returned (.complex .f64 b0 b1) ∧ Fl.rep b0 r.1 ∧ Fl.rep b1 r.2 ∧ Hp S w0 w' (ow)) := by
  unfold f_mix_turns_4 at h
  refine enter (n := 9) (args := [.complex .f64 bzx0 czx0]) Try.func42 rfl rfl (Nat.le_of_ble_eq_true rfl) fun a hf => ?_
  replace hf : Fr 9 a [(0, .complex .f64 bzx0 czx0)] := hf
  refine wp_mono (Q := fun e a w => e = .ret ∧ ∃ (b0 : Nat) (b1 : Nat), Fr 9 a [(2, .complex .f64 b0 b1)] ∧ Fl.rep b0 r.1 ∧ Fl.rep b1 r.2 ∧ Hp S w0 w (ow)) ?_ ?_
  rotate_left
  · rintro e a w ⟨rfl, x0, x1, hf, y0, y1, hp⟩
    exact ret1 hf rfl rfl ⟨x0, x1, rfl, y0, y1, hp⟩
  refine wp_seq ?_
  refine wp_reg ?_
  refine st_assign hf rfl rfl (by decide) ?_
  clear hf; intro a ha hf; clear ha
  refine st_nil hf ?_
  refine th_n ?_
  refine wp_seq ?_
  refine wp_reg ?_
  refine st_move hf rfl rfl (by decide) ?_
  clear hf; intro a ha hf; clear ha
  refine st_imag hf (by decide) rfl rfl ?_
  clear hf; intro a ha hf; clear ha
  refine st_move hf rfl rfl (by decide) ?_
  clear hf; intro a ha hf; clear ha
  refine st_real hf (by decide) rfl rfl ?_
  clear hf; intro a ha hf; clear ha
  refine st_fneg hf (by decide) rfl rfl ?_
  clear hf; intro a ha hf; clear ha
  refine st_complex hf (by decide) rfl rfl rfl ?_
  clear hf; intro a ha hf; clear ha
  refine st_assign hf rfl rfl (by decide) ?_
  clear hf; intro a ha hf; clear ha
  refine st_nil hf ?_
  refine th_n ?_
  refine wp_ret ?_
  obtain rfl := Option.some.inj h
  exact ⟨rfl, ⟨_, _, hf.sub ⟨rfl, trivial⟩, kzx0, (fneg_rep hzx0), hp⟩⟩

noncomputable def f_mix_Up.s1c (l0 : (List (Fl × Fl))) (q8 : Int) (at8 : Int) (out9 : (List (Fl × Fl))) (t24 : Int) : Option ((Int × (List (Fl × Fl)) × Int) ⊕ (List (Fl × Fl))) := (if (decide (t24 < (l0.length : Int))) = true then (if 0 ≤ t24 ∧ t24 < (l0.length : Int) then (if 0 ≤ at8 ∧ at8 < (4 : Int) then (((if at8 = (0 : Int) then (f_mix_turns_1 (gt l0 t24)) else (if at8 = (1 : Int) then (f_mix_turns_2 (gt l0 t24)) else (if at8 = (2 : Int) then (f_mix_turns_3 (gt l0 t24)) else (f_mix_turns_4 (gt l0 t24)))))).bind fun q23 => (if (out9.length + ([q23]).length) * 16 ≤ 140737488355328 then ((f_mix_by (IntKind.i64.wrap (at8 + q8))).bind fun q34 => (some (Sum.inl (q34, (out9 ++ [q23]), (IntKind.i64.wrap (t24 + (1 : Int))))))) else none)) else none) else none) else (some (Sum.inr out9)))
noncomputable def f_mix_Up.s1 (l0 : (List (Fl × Fl))) (q8 : Int) (s : (Int × (List (Fl × Fl)) × Int)) : Option ((Int × (List (Fl × Fl)) × Int) ⊕ (List (Fl × Fl))) := f_mix_Up.s1c l0 q8 s.1 s.2.1 s.2.2
noncomputable def f_mix_Up (l0 : (List (Fl × Fl))) (quarters1 : Int) : Option ((List (Fl × Fl)) × Int) := ((f_mix_fits (l0.length : Int)).bind fun q1 => (if (!q1) = true then (some ([], (1 : Int))) else ((f_mix_turns).bind fun q4 => ((f_mix_by quarters1).bind fun q8 => (if 0 ≤ (0 : Int) ∧ (0 : Int) ≤ (l0.length : Int) ∧ (l0.length : Int) * 16 ≤ 281474976710656 then ((loop (f_mix_Up.s1 l0 q8) ((0 : Int), (List.replicate ((0 : Int)).toNat (Fl.bits 0, Fl.bits 0)), (0 : Int))).bind (fun q36 => (some (q36, (0 : Int))))) else none)))))
theorem f_mix_Up_c {S : Nat → Prop} {w0 w : World} {ow : List Res} (hp : Hp S w0 w ow) (vl0 : Value) (l0 : (List (Fl × Fl))) (hl0 : RdS Ek.c128 S w0 vl0 l0) (quarters1 : Int) {r : ((List (Fl × Fl)) × Int)} (h : f_mix_Up l0 quarters1 = some r) :
    Calls Try.prog 17 #[vl0, .int .i64 quarters1] w (fun e w' => ∃ (u0 : Value), e = .returned (.tuple #[u0, .int .i64 r.2]) ∧ Hp S w0 w' (Res.sl Ek.c128 36 u0 r.1 :: ow)) := by
  unfold f_mix_Up at h
  refine enter (n := 43) (args := [vl0, .int .i64 quarters1]) Try.func17 rfl rfl (Nat.le_of_ble_eq_true rfl) fun a hf => ?_
  replace hf : Fr 43 a [(0, vl0), (1, .int .i64 quarters1)] := hf
  refine wp_mono (Q := fun e a w => e = .ret ∧ ∃ (u0 : Value), Fr 43 a [(4, u0), (5, .int .i64 r.2)] ∧ Hp S w0 w (Res.sl Ek.c128 36 u0 r.1 :: ow)) ?_ ?_
  rotate_left
  · rintro e a w ⟨rfl, x0, hf, hp⟩
    exact ret2 hf rfl rfl rfl ⟨x0, rfl, hp⟩
  refine wp_seq ?_
  refine wp_reg ?_
  refine st_assign hf rfl rfl (by decide) ?_
  clear hf; intro a ha hf; clear ha
  refine st_assign hf rfl rfl (by decide) ?_
  clear hf; intro a ha hf; clear ha
  refine st_nil hf ?_
  refine th_n ?_
  refine wp_seq ?_
  refine wp_seq ?_
  refine wp_reg ?_
  refine st_move hf rfl rfl (by decide) ?_
  clear hf; intro a ha hf; clear ha
  refine st_len (E := Ek.c128) hf (by decide) Try.underlying24 rfl rfl (hl0.sl hp) ?_
  clear hf; intro a ha hf; clear ha
  obtain ⟨q1, hcall2, h⟩ := bnd h
  refine st_call hf (by decide) Try.func34 rfl rfl rfl rfl rfl (f_mix_fits_c hp _ hcall2) ?_
  rintro _ w ⟨rfl, hp0⟩
  clear hp; have hp := hp0; clear hp0
  replace hp : Hp _ _ _ (ow) := hp
  refine ⟨_, rfl, ?_⟩
  clear hf; intro a hf
  refine st_not hf (by decide) rfl rfl ?_
  clear hf; intro a ha hf; clear ha
  refine st_nil hf ?_
  refine th_n ?_
  refine wp_if hf rfl (fun hb => ?_) (fun hb => ?_)
  · replace h := ifT h hb
    refine wp_seq ?_
    refine wp_reg ?_
    refine st_assign hf rfl rfl (by decide) ?_
    clear hf; intro a ha hf; clear ha
    refine st_assign hf rfl rfl (by decide) ?_
    clear hf; intro a ha hf; clear ha
    refine st_nil hf ?_
    refine th_n ?_
    refine wp_ret ?_
    refine th_r ?_
    obtain rfl := Option.some.inj h
    have hp := hp.nil Ek.c128 36
    exact ⟨rfl, ⟨_, hf.sub ⟨rfl, rfl, trivial⟩, hp⟩⟩
  replace h := ifF h hb
  refine wp_skip ?_
  refine th_n ?_
  refine wp_seq ?_
  refine wp_reg ?_
  obtain ⟨q4, hcall5, h⟩ := bnd h
  refine st_call hf (by decide) Try.func36 rfl rfl rfl rfl rfl (f_mix_turns_c hp  hcall5) ?_
  rintro _ w ⟨rfl, hp0⟩
  clear hp; have hp := hp0; clear hp0
  replace hp : Hp _ _ _ (ow) := hp
  refine ⟨_, rfl, ?_⟩
  clear hf; intro a hf
  refine st_alloc (cs := [.nilFunc, .nilFunc, .nilFunc, .nilFunc]) (zv := .agg #[.nilFunc, .nilFunc, .nilFunc, .nilFunc]) hf (by decide) (by kernel_rfl) rfl hp rfl ?_
  clear hf; intro a w v6 hf hp0; clear hp; have hp := hp0; clear hp0
  replace hp : Hp _ _ _ (Res.obj 60 v6 [.nilFunc, .nilFunc, .nilFunc, .nilFunc] :: ow) := hp
  refine st_stO (us := [.func (.func 39) #[] #[], .func (.func 40) #[] #[], .func (.func 41) #[] #[], .func (.func 42) #[] #[]]) hf hp (i := 0) rfl rfl rfl rfl rfl (by rfl) (by kernel_rfl) (Nat.le_of_ble_eq_true rfl) ?_
  clear hf; intro a w hf hp0; clear hp; have hp := hp0; clear hp0
  replace hp : Hp _ _ _ (Res.obj 60 v6 [.func (.func 39) #[] #[], .func (.func 40) #[] #[], .func (.func 41) #[] #[], .func (.func 42) #[] #[]] :: ow) := hp
  refine st_nil hf ?_
  refine th_n ?_
  refine wp_seq ?_
  refine wp_reg ?_
  refine st_move hf rfl rfl (by decide) ?_
  clear hf; intro a ha hf; clear ha
  obtain ⟨q8, hcall9, h⟩ := bnd h
  refine st_call hf (by decide) Try.func37 rfl rfl rfl rfl rfl (f_mix_by_c hp _ hcall9) ?_
  rintro _ w ⟨rfl, hp0⟩
  clear hp; have hp := hp0; clear hp0
  replace hp : Hp _ _ _ (Res.obj 60 v6 [.func (.func 39) #[] #[], .func (.func 40) #[] #[], .func (.func 41) #[] #[], .func (.func 42) #[] #[]] :: ow) := hp
  refine ⟨_, rfl, ?_⟩
  clear hf; intro a hf
  refine st_assign hf rfl rfl (by decide) ?_
  clear hf; intro a ha hf; clear ha
  refine st_assign hf rfl rfl (by decide) ?_
  clear hf; intro a ha hf; clear ha
  refine st_nil hf ?_
  refine th_n ?_
  refine wp_seq ?_
  refine wp_reg ?_
  refine st_move hf rfl rfl (by decide) ?_
  clear hf; intro a ha hf; clear ha
  refine st_len (E := Ek.c128) hf (by decide) Try.underlying24 rfl rfl (hl0.sl hp) ?_
  clear hf; intro a ha hf; clear ha
  obtain ⟨hc10, h⟩ := chk h
  refine st_make (E := Ek.c128) hf (by decide) elt36 Try.underlying24 (by decide) hp rfl rfl rfl hc10.1 hc10.2.1 hc10.2.2 ?_
  clear hf; intro a w v11 hf hp0; clear hp; have hp := hp0; clear hp0
  replace hp : Hp _ _ _ (Res.sl Ek.c128 36 v11 (List.replicate ((0 : Int)).toNat (Fl.bits 0, Fl.bits 0)) :: Res.obj 60 v6 [.func (.func 39) #[] #[], .func (.func 40) #[] #[], .func (.func 41) #[] #[], .func (.func 42) #[] #[]] :: ow) := hp
  refine st_assign hf rfl rfl (by decide) ?_
  clear hf; intro a ha hf; clear ha
  refine st_nil hf ?_
  refine th_n ?_
  refine wp_seq ?_
  refine wp_seq ?_
  refine wp_reg ?_
  refine st_move hf rfl rfl (by decide) ?_
  clear hf; intro a ha hf; clear ha
  refine st_len (E := Ek.c128) hf (by decide) Try.underlying24 rfl rfl (hl0.sl hp) ?_
  clear hf; intro a ha hf; clear ha
  refine st_move hf rfl rfl (by decide) ?_
  clear hf; intro a ha hf; clear ha
  refine st_nil hf ?_
  refine th_n ?_
  refine wp_block ?_
  obtain ⟨q36, hl, h⟩ := bnd h
  refine wp_loop_pure (f := (f_mix_Up.s1 l0 q8)) (s := ((0 : Int), (List.replicate ((0 : Int)).toNat (Fl.bits 0, Fl.bits 0)), (0 : Int))) (fun s a w => ∃ (v13 : Value), Fr 43 a [(6, optr v6 0), (7, .int .i64 q8), (8, .int .i64 s.1), (9, v13), (22, vl0), (23, .int .i64 (l0.length : Int)), (24, .int .i64 s.2.2)] ∧ Hp S w0 w (Res.sl Ek.c128 36 v13 s.2.1 :: Res.obj 60 v6 [.func (.func 39) #[] #[], .func (.func 40) #[] #[], .func (.func 41) #[] #[], .func (.func 42) #[] #[]] :: ow)) (fun q e a w => e = .exit 0 ∧ ∃ (v15 : Value), Fr 43 a [(9, v15)] ∧ Hp S w0 w (Res.sl Ek.c128 36 v15 q :: ow)) ?_ hl ⟨_, hf.sub ⟨rfl, rfl, rfl, rfl, rfl, rfl, rfl, trivial⟩, hp⟩ ?_
  · clear hl hf hp
    intro s x a w h hI
    obtain ⟨at8, out9, t24⟩ := s
    obtain ⟨v13, hf, hp⟩ : ∃ (v13 : Value), Fr 43 a [(6, optr v6 0), (7, .int .i64 q8), (8, .int .i64 at8), (9, v13), (22, vl0), (23, .int .i64 (l0.length : Int)), (24, .int .i64 t24)] ∧ Hp S w0 w (Res.sl Ek.c128 36 v13 out9 :: Res.obj 60 v6 [.func (.func 39) #[] #[], .func (.func 40) #[] #[], .func (.func 41) #[] #[], .func (.func 42) #[] #[]] :: ow) := hI
    replace h : f_mix_Up.s1c l0 q8 at8 out9 t24 = some x := h
    unfold f_mix_Up.s1c at h
    refine wp_seq ?_
    refine wp_reg ?_
    refine st_ilss hf (by decide) rfl rfl rfl ?_
    clear hf; intro a ha hf; clear ha
    refine st_nil hf ?_
    refine th_n ?_
    refine wp_seq ?_
    refine wp_if hf rfl (fun hb => ?_) (fun hb => ?_)
    · replace h := ifT h hb
      refine wp_skip ?_
      refine th_n ?_
      refine wp_seq ?_
      refine wp_block ?_
      refine wp_seq ?_
      refine wp_reg ?_
      obtain ⟨hc17, h⟩ := chk h
      refine st_index (E := Ek.c128) hf (by decide) Try.underlying24 elt36 rfl rfl rfl (hl0.sl hp) hc17.1 hc17.2 ?_
      clear hf; intro a ha hf; clear ha
      refine st_ldC hf (by decide) pl36 rfl rfl (hl0.sl hp) hc17.1 hc17.2 ?_
      clear hf; intro a bb18 bb19 y20 y21 ha hf; clear ha
      refine st_assign hf rfl rfl (by decide) ?_
      clear hf; intro a ha hf; clear ha
      refine st_nil hf ?_
      refine th_n ?_
      refine wp_seq ?_
      refine wp_reg ?_
      refine st_move hf rfl rfl (by decide) ?_
      clear hf; intro a ha hf; clear ha
      refine st_move hf rfl rfl (by decide) ?_
      clear hf; intro a ha hf; clear ha
      obtain ⟨hc22, h⟩ := chk h
      refine st_ia (o' := 0 + (at8).toNat * 1) hf (by decide) Try.underlying60 (sz := 1) (by kernel_rfl) rfl rfl rfl (hp.ob (i := 1) rfl) hc22.1 hc22.2 rfl ?_
      clear hf; intro a ha hf; clear ha
      refine st_fa (o' := 0 + (at8).toNat * 1 + 0) hf (by decide) (off := 0) (sz := 1) (by kernel_rfl) (by decide) rfl rfl (hp.ob (i := 1) rfl) rfl ?_
      clear hf; intro a ha hf; clear ha
      refine st_ldO hf (by decide) pl57 rfl rfl (hp.ob (i := 1) rfl) (sel_get hc22) ?_
      clear hf; intro a ha hf; clear ha
      refine st_move hf rfl rfl (by decide) ?_
      clear hf; intro a ha hf; clear ha
      obtain ⟨q23, hcall24, h⟩ := bnd h
      have hs29 : ∃ f fn c, (([.func (.func 39) #[] #[], .func (.func 40) #[] #[], .func (.func 41) #[] #[], .func (.func 42) #[] #[]] : List Value).getD (at8).toNat undef) = .func (.func f) #[] #[] ∧ Try.prog.funcs[f]? = some fn ∧ (fn.name == "runtime.NumGoroutine") = false ∧ fn.body = some c ∧ Calls Try.prog f #[.complex .f64 bb18 bb19] w (fun e w' => ∃ (b0 : Nat) (b1 : Nat), e = .returned (.complex .f64 b0 b1) ∧ Fl.rep b0 q23.1 ∧ Fl.rep b1 q23.2 ∧ Hp S w0 w' (Res.sl Ek.c128 36 v13 out9 :: Res.obj 60 v6 [.func (.func 39) #[] #[], .func (.func 40) #[] #[], .func (.func 41) #[] #[], .func (.func 42) #[] #[]] :: ow)) := by
        have hsel : at8 = (0 : Int) ∨ at8 = (1 : Int) ∨ at8 = (2 : Int) ∨ at8 = (3 : Int) := by omega
        rcases hsel with hsel | hsel | hsel | hsel
        · exact ⟨39, _, _, by rw [hsel]; rfl, Try.func39, rfl, rfl, f_mix_turns_1_c hp _ _ _ (show Fl.rep bb18 ((gt l0 t24)).1 from y20) (show Fl.rep bb19 ((gt l0 t24)).2 from y21) (by simpa [hsel] using hcall24)⟩
        · exact ⟨40, _, _, by rw [hsel]; rfl, Try.func40, rfl, rfl, f_mix_turns_2_c hp _ _ _ (show Fl.rep bb18 ((gt l0 t24)).1 from y20) (show Fl.rep bb19 ((gt l0 t24)).2 from y21) (by simpa [hsel] using hcall24)⟩
        · exact ⟨41, _, _, by rw [hsel]; rfl, Try.func41, rfl, rfl, f_mix_turns_3_c hp _ _ _ (show Fl.rep bb18 ((gt l0 t24)).1 from y20) (show Fl.rep bb19 ((gt l0 t24)).2 from y21) (by simpa [hsel] using hcall24)⟩
        · exact ⟨42, _, _, by rw [hsel]; rfl, Try.func42, rfl, rfl, f_mix_turns_4_c hp _ _ _ (show Fl.rep bb18 ((gt l0 t24)).1 from y20) (show Fl.rep bb19 ((gt l0 t24)).2 from y21) (by simpa [hsel] using hcall24)⟩
      refine st_callW hf (by decide) rfl rfl rfl hs29 ?_
      rintro _ w ⟨v25, v26, rfl, y27, y28, hp0⟩
      clear hp hs29; have hp := hp0; clear hp0
      refine ⟨_, rfl, ?_⟩
      clear hf; intro a hf
      refine st_build (E := Ek.c128) (xs := [q23]) hf (by decide) elt36 Try.underlying24 hp (vals := #[(0, .complex .f64 v25 v26)]) (cells := #[.complex .f64 v25 v26]) rfl (by simp [hf.ev (x := (Operand.tmp 34)) rfl]) (by decide) (by decide) (z := .complex .f64 0 0) (by kernel_rfl) (by kernel_rfl) rfl (reps_cons (cs := [.complex .f64 v25 v26]) (show Ek.c128.rep [.complex .f64 v25 v26] q23 from ⟨_, _, rfl, y27, y28⟩) (reps_nil _)) ?_
      clear hf; intro a w v30 hf hp0; clear hp; have hp := hp0; clear hp0
      replace hp : Hp _ _ _ (Res.sl Ek.c128 36 v30 ([q23]) :: Res.sl Ek.c128 36 v13 out9 :: Res.obj 60 v6 [.func (.func 39) #[] #[], .func (.func 40) #[] #[], .func (.func 41) #[] #[], .func (.func 42) #[] #[]] :: ow) := hp
      obtain ⟨hc32, h⟩ := chk h
      refine st_append (E := Ek.c128) hf (by decide) elt36 Try.underlying24 (by decide) hp (i := 1) rfl rfl rfl rfl (hp.sl (i := 0) rfl) hc32 ?_
      clear hf; intro a w v33 hf hp0; clear hp; have hp := hp0; clear hp0
      replace hp : Hp _ _ _ (Res.sl Ek.c128 36 v30 ([q23]) :: Res.sl Ek.c128 36 v33 (out9 ++ [q23]) :: Res.obj 60 v6 [.func (.func 39) #[] #[], .func (.func 40) #[] #[], .func (.func 41) #[] #[], .func (.func 42) #[] #[]] :: ow) := hp
      refine st_assign hf rfl rfl (by decide) ?_
      clear hf; intro a ha hf; clear ha
      refine st_nil hf ?_
      refine th_n ?_
      refine wp_reg ?_
      refine st_move hf rfl rfl (by decide) ?_
      clear hf; intro a ha hf; clear ha
      refine st_move hf rfl rfl (by decide) ?_
      clear hf; intro a ha hf; clear ha
      refine st_iadd hf (by decide) rfl rfl rfl ?_
      clear hf; intro a ha hf; clear ha
      obtain ⟨q34, hcall35, h⟩ := bnd h
      refine st_call hf (by decide) Try.func37 rfl rfl rfl rfl rfl (f_mix_by_c hp _ hcall35) ?_
      rintro _ w ⟨rfl, hp0⟩
      clear hp; have hp := hp0; clear hp0
      replace hp : Hp _ _ _ (Res.sl Ek.c128 36 v30 ([q23]) :: Res.sl Ek.c128 36 v33 (out9 ++ [q23]) :: Res.obj 60 v6 [.func (.func 39) #[] #[], .func (.func 40) #[] #[], .func (.func 41) #[] #[], .func (.func 42) #[] #[]] :: ow) := hp
      refine ⟨_, rfl, ?_⟩
      clear hf; intro a hf
      refine st_assign hf rfl rfl (by decide) ?_
      clear hf; intro a ha hf; clear ha
      refine st_nil hf ?_
      refine ib_n ?_
      refine th_n ?_
      refine wp_reg ?_
      refine st_iadd hf (by decide) rfl rfl rfl ?_
      clear hf; intro a ha hf; clear ha
      refine st_move hf rfl rfl (by decide) ?_
      clear hf; intro a ha hf; clear ha
      refine st_nil hf ?_
      obtain rfl := Option.some.inj h
      have hp : Hp _ _ _ (Res.sl Ek.c128 36 v33 (out9 ++ [q23]) :: Res.obj 60 v6 [.func (.func 39) #[] #[], .func (.func 40) #[] #[], .func (.func 41) #[] #[], .func (.func 42) #[] #[]] :: ow) := Hp.sel (pre := [Res.sl Ek.c128 36 v30 ([q23]), Res.sl Ek.c128 36 v33 (out9 ++ [q23]), Res.obj 60 v6 [.func (.func 39) #[] #[], .func (.func 40) #[] #[], .func (.func 41) #[] #[], .func (.func 42) #[] #[]]]) (tail := ow) (rs' := [Res.sl Ek.c128 36 v33 (out9 ++ [q23]), Res.obj 60 v6 [.func (.func 39) #[] #[], .func (.func 40) #[] #[], .func (.func 41) #[] #[], .func (.func 42) #[] #[]]]) hp [1, 2] (by decide) (by simp) rfl
      exact rnd_l ⟨_, hf.sub ⟨rfl, rfl, rfl, rfl, rfl, rfl, rfl, trivial⟩, hp⟩
    replace h := ifF h hb
    refine wp_exit ?_
    refine th_e ?_
    obtain rfl := Option.some.inj h
    have hp : Hp _ _ _ (Res.sl Ek.c128 36 v13 out9 :: ow) := Hp.sel (pre := [Res.sl Ek.c128 36 v13 out9, Res.obj 60 v6 [.func (.func 39) #[] #[], .func (.func 40) #[] #[], .func (.func 41) #[] #[], .func (.func 42) #[] #[]]]) (tail := ow) (rs' := [Res.sl Ek.c128 36 v13 out9]) hp [0] (by decide) (by simp) rfl
    exact rnd_r (by simp) ⟨rfl, _, hf.sub ⟨rfl, trivial⟩, hp⟩
  clear hl hf hp
  intro e a w hne hO
  obtain ⟨rfl, v15, hf, hp⟩ := hO
  refine ib_same ?_
  refine th_n ?_
  refine wp_seq ?_
  refine wp_reg ?_
  refine st_move hf rfl rfl (by decide) ?_
  clear hf; intro a ha hf; clear ha
  refine st_assign hf rfl rfl (by decide) ?_
  clear hf; intro a ha hf; clear ha
  refine st_assign hf rfl rfl (by decide) ?_
  clear hf; intro a ha hf; clear ha
  refine st_nil hf ?_
  refine th_n ?_
  refine wp_ret ?_
  obtain rfl := Option.some.inj h
  exact ⟨rfl, ⟨_, hf.sub ⟨rfl, rfl, trivial⟩, hp⟩⟩

noncomputable def f_mix_Line.s1c (q4 : ((List (Fl × Fl)) × Int)) (out6 : (List Fl)) (t25 : Int) : Option (((List Fl) × Int) ⊕ (List Fl)) := (if (decide (t25 < (q4.1.length : Int))) = true then (if 0 ≤ t25 ∧ t25 < (q4.1.length : Int) then (if (out6.length + ([(gt q4.1 t25).1, (gt q4.1 t25).2]).length) * 8 ≤ 140737488355328 then (some (Sum.inl ((out6 ++ [(gt q4.1 t25).1, (gt q4.1 t25).2]), (IntKind.i64.wrap (t25 + (1 : Int)))))) else none) else none) else (some (Sum.inr out6)))
noncomputable def f_mix_Line.s1 (q4 : ((List (Fl × Fl)) × Int)) (s : ((List Fl) × Int)) : Option (((List Fl) × Int) ⊕ (List Fl)) := f_mix_Line.s1c q4 s.1 s.2
noncomputable def f_mix_Line (l0 : (List (Fl × Fl))) : Option ((List Fl) × Int) := ((f_mix_fits (IntKind.i64.wrap ((2 : Int) * (l0.length : Int)))).bind fun q1 => (if (!q1) = true then (some ([], (1 : Int))) else ((f_mix_Up l0 (1 : Int)).bind fun q4 => (if 0 ≤ (0 : Int) ∧ (0 : Int) ≤ (IntKind.i64.wrap ((2 : Int) * (l0.length : Int))) ∧ (IntKind.i64.wrap ((2 : Int) * (l0.length : Int))) * 8 ≤ 281474976710656 then ((loop (f_mix_Line.s1 q4) ((List.replicate ((0 : Int)).toNat (Fl.bits 0)), (0 : Int))).bind (fun q24 => (some (q24, (0 : Int))))) else none))))
theorem f_mix_Line_c {S : Nat → Prop} {w0 w : World} {ow : List Res} (hp : Hp S w0 w ow) (vl0 : Value) (l0 : (List (Fl × Fl))) (hl0 : RdS Ek.c128 S w0 vl0 l0) {r : ((List Fl) × Int)} (h : f_mix_Line l0 = some r) :
    Calls Try.prog 26 #[vl0] w (fun e w' => ∃ (u0 : Value), e = .returned (.tuple #[u0, .int .i64 r.2]) ∧ Hp S w0 w' (Res.sl Ek.f64 37 u0 r.1 :: ow)) := by
  unfold f_mix_Line at h
  refine enter (n := 38) (args := [vl0]) Try.func26 rfl rfl (Nat.le_of_ble_eq_true rfl) fun a hf => ?_
  replace hf : Fr 38 a [(0, vl0)] := hf
  refine wp_mono (Q := fun e a w => e = .ret ∧ ∃ (u0 : Value), Fr 38 a [(2, u0), (3, .int .i64 r.2)] ∧ Hp S w0 w (Res.sl Ek.f64 37 u0 r.1 :: ow)) ?_ ?_
  rotate_left
  · rintro e a w ⟨rfl, x0, hf, hp⟩
    exact ret2 hf rfl rfl rfl ⟨x0, rfl, hp⟩
  refine wp_seq ?_
  refine wp_reg ?_
  refine st_assign hf rfl rfl (by decide) ?_
  clear hf; intro a ha hf; clear ha
  refine st_assign hf rfl rfl (by decide) ?_
  clear hf; intro a ha hf; clear ha
  refine st_nil hf ?_
  refine th_n ?_
  refine wp_seq ?_
  refine wp_seq ?_
  refine wp_reg ?_
  refine st_move hf rfl rfl (by decide) ?_
  clear hf; intro a ha hf; clear ha
  refine st_len (E := Ek.c128) hf (by decide) Try.underlying24 rfl rfl (hl0.sl hp) ?_
  clear hf; intro a ha hf; clear ha
  refine st_imul hf (by decide) rfl rfl rfl ?_
  clear hf; intro a ha hf; clear ha
  obtain ⟨q1, hcall2, h⟩ := bnd h
  refine st_call hf (by decide) Try.func34 rfl rfl rfl rfl rfl (f_mix_fits_c hp _ hcall2) ?_
  rintro _ w ⟨rfl, hp0⟩
  clear hp; have hp := hp0; clear hp0
  replace hp : Hp _ _ _ (ow) := hp
  refine ⟨_, rfl, ?_⟩
  clear hf; intro a hf
  refine st_not hf (by decide) rfl rfl ?_
  clear hf; intro a ha hf; clear ha
  refine st_nil hf ?_
  refine th_n ?_
  refine wp_if hf rfl (fun hb => ?_) (fun hb => ?_)
  · replace h := ifT h hb
    refine wp_seq ?_
    refine wp_reg ?_
    refine st_assign hf rfl rfl (by decide) ?_
    clear hf; intro a ha hf; clear ha
    refine st_assign hf rfl rfl (by decide) ?_
    clear hf; intro a ha hf; clear ha
    refine st_nil hf ?_
    refine th_n ?_
    refine wp_ret ?_
    refine th_r ?_
    obtain rfl := Option.some.inj h
    have hp := hp.nil Ek.f64 37
    exact ⟨rfl, ⟨_, hf.sub ⟨rfl, rfl, trivial⟩, hp⟩⟩
  replace h := ifF h hb
  refine wp_skip ?_
  refine th_n ?_
  refine wp_seq ?_
  refine wp_reg ?_
  refine st_move hf rfl rfl (by decide) ?_
  clear hf; intro a ha hf; clear ha
  obtain ⟨q4, hcall5, h⟩ := bnd h
  refine st_call hf (by decide) Try.func17 rfl rfl rfl rfl rfl (f_mix_Up_c hp _ _ hl0 _ hcall5) ?_
  rintro _ w ⟨v6, rfl, hp0⟩
  clear hp; have hp := hp0; clear hp0
  replace hp : Hp _ _ _ (Res.sl Ek.c128 36 v6 q4.1 :: ow) := hp
  refine ⟨_, rfl, ?_⟩
  clear hf; intro a hf
  refine st_move hf rfl rfl (by decide) ?_
  clear hf; intro a ha hf; clear ha
  refine st_extract hf (by decide) rfl rfl rfl ?_
  clear hf; intro a ha hf; clear ha
  refine st_extract hf (by decide) rfl rfl rfl ?_
  clear hf; intro a ha hf; clear ha
  refine st_assign hf rfl rfl (by decide) ?_
  clear hf; intro a ha hf; clear ha
  refine st_assign hf rfl rfl (by decide) ?_
  clear hf; intro a ha hf; clear ha
  refine st_nil hf ?_
  refine th_n ?_
  refine wp_seq ?_
  refine wp_reg ?_
  refine st_move hf rfl rfl (by decide) ?_
  clear hf; intro a ha hf; clear ha
  refine st_len (E := Ek.c128) hf (by decide) Try.underlying24 rfl rfl (hl0.sl hp) ?_
  clear hf; intro a ha hf; clear ha
  refine st_imul hf (by decide) rfl rfl rfl ?_
  clear hf; intro a ha hf; clear ha
  obtain ⟨hc8, h⟩ := chk h
  refine st_make (E := Ek.f64) hf (by decide) elt37 Try.underlying40 (by decide) hp rfl rfl rfl hc8.1 hc8.2.1 hc8.2.2 ?_
  clear hf; intro a w v9 hf hp0; clear hp; have hp := hp0; clear hp0
  replace hp : Hp _ _ _ (Res.sl Ek.f64 37 v9 (List.replicate ((0 : Int)).toNat (Fl.bits 0)) :: Res.sl Ek.c128 36 v6 q4.1 :: ow) := hp
  refine st_assign hf rfl rfl (by decide) ?_
  clear hf; intro a ha hf; clear ha
  refine st_nil hf ?_
  refine th_n ?_
  refine wp_seq ?_
  refine wp_seq ?_
  refine wp_reg ?_
  refine st_move hf rfl rfl (by decide) ?_
  clear hf; intro a ha hf; clear ha
  refine st_len (E := Ek.c128) hf (by decide) Try.underlying24 rfl rfl (hp.sl (i := 1) rfl) ?_
  clear hf; intro a ha hf; clear ha
  refine st_move hf rfl rfl (by decide) ?_
  clear hf; intro a ha hf; clear ha
  refine st_nil hf ?_
  refine th_n ?_
  refine wp_block ?_
  obtain ⟨q24, hl, h⟩ := bnd h
  refine wp_loop_pure (f := (f_mix_Line.s1 q4)) (s := ((List.replicate ((0 : Int)).toNat (Fl.bits 0)), (0 : Int))) (fun s a w => ∃ (v11 : Value), Fr 38 a [(6, v11), (23, v6), (24, .int .i64 (q4.1.length : Int)), (25, .int .i64 s.2)] ∧ Hp S w0 w (Res.sl Ek.f64 37 v11 s.1 :: Res.sl Ek.c128 36 v6 q4.1 :: ow)) (fun q e a w => e = .exit 0 ∧ ∃ (v13 : Value), Fr 38 a [(6, v13)] ∧ Hp S w0 w (Res.sl Ek.f64 37 v13 q :: ow)) ?_ hl ⟨_, hf.sub ⟨rfl, rfl, rfl, rfl, trivial⟩, hp⟩ ?_
  · clear hl hf hp
    intro s x a w h hI
    obtain ⟨out6, t25⟩ := s
    obtain ⟨v11, hf, hp⟩ : ∃ (v11 : Value), Fr 38 a [(6, v11), (23, v6), (24, .int .i64 (q4.1.length : Int)), (25, .int .i64 t25)] ∧ Hp S w0 w (Res.sl Ek.f64 37 v11 out6 :: Res.sl Ek.c128 36 v6 q4.1 :: ow) := hI
    replace h : f_mix_Line.s1c q4 out6 t25 = some x := h
    unfold f_mix_Line.s1c at h
    refine wp_seq ?_
    refine wp_reg ?_
    refine st_ilss hf (by decide) rfl rfl rfl ?_
    clear hf; intro a ha hf; clear ha
    refine st_nil hf ?_
    refine th_n ?_
    refine wp_seq ?_
    refine wp_if hf rfl (fun hb => ?_) (fun hb => ?_)
    · replace h := ifT h hb
      refine wp_skip ?_
      refine th_n ?_
      refine wp_seq ?_
      refine wp_block ?_
      refine wp_seq ?_
      refine wp_reg ?_
      obtain ⟨hc15, h⟩ := chk h
      refine st_index (E := Ek.c128) hf (by decide) Try.underlying24 elt36 rfl rfl rfl (hp.sl (i := 1) rfl) hc15.1 hc15.2 ?_
      clear hf; intro a ha hf; clear ha
      refine st_ldC hf (by decide) pl36 rfl rfl (hp.sl (i := 1) rfl) hc15.1 hc15.2 ?_
      clear hf; intro a bb16 bb17 y18 y19 ha hf; clear ha
      refine st_assign hf rfl rfl (by decide) ?_
      clear hf; intro a ha hf; clear ha
      refine st_nil hf ?_
      refine th_n ?_
      refine wp_reg ?_
      refine st_move hf rfl rfl (by decide) ?_
      clear hf; intro a ha hf; clear ha
      refine st_move hf rfl rfl (by decide) ?_
      clear hf; intro a ha hf; clear ha
      refine st_real hf (by decide) rfl rfl ?_
      clear hf; intro a ha hf; clear ha
      refine st_move hf rfl rfl (by decide) ?_
      clear hf; intro a ha hf; clear ha
      refine st_imag hf (by decide) rfl rfl ?_
      clear hf; intro a ha hf; clear ha
      refine st_build (E := Ek.f64) (xs := [(gt q4.1 t25).1, (gt q4.1 t25).2]) hf (by decide) elt37 Try.underlying40 hp (vals := #[(0, .float .f64 bb16), (1, .float .f64 bb17)]) (cells := #[.float .f64 bb16, .float .f64 bb17]) rfl (by simp [hf.ev (x := (Operand.tmp 31)) rfl, hf.ev (x := (Operand.tmp 33)) rfl]) (by decide) (by decide) (z := .float .f64 0) (by kernel_rfl) (by kernel_rfl) rfl (reps_cons (cs := [.float .f64 bb16]) (show Ek.f64.rep [.float .f64 bb16] ((gt q4.1 t25).1) from ⟨_, rfl, y18⟩) (reps_cons (cs := [.float .f64 bb17]) (show Ek.f64.rep [.float .f64 bb17] ((gt q4.1 t25).2) from ⟨_, rfl, y19⟩) (reps_nil _))) ?_
      clear hf; intro a w v20 hf hp0; clear hp; have hp := hp0; clear hp0
      replace hp : Hp _ _ _ (Res.sl Ek.f64 37 v20 ([(gt q4.1 t25).1, (gt q4.1 t25).2]) :: Res.sl Ek.f64 37 v11 out6 :: Res.sl Ek.c128 36 v6 q4.1 :: ow) := hp
      obtain ⟨hc22, h⟩ := chk h
      refine st_append (E := Ek.f64) hf (by decide) elt37 Try.underlying40 (by decide) hp (i := 1) rfl rfl rfl rfl (hp.sl (i := 0) rfl) hc22 ?_
      clear hf; intro a w v23 hf hp0; clear hp; have hp := hp0; clear hp0
      replace hp : Hp _ _ _ (Res.sl Ek.f64 37 v20 ([(gt q4.1 t25).1, (gt q4.1 t25).2]) :: Res.sl Ek.f64 37 v23 (out6 ++ [(gt q4.1 t25).1, (gt q4.1 t25).2]) :: Res.sl Ek.c128 36 v6 q4.1 :: ow) := hp
      refine st_assign hf rfl rfl (by decide) ?_
      clear hf; intro a ha hf; clear ha
      refine st_nil hf ?_
      refine ib_n ?_
      refine th_n ?_
      refine wp_reg ?_
      refine st_iadd hf (by decide) rfl rfl rfl ?_
      clear hf; intro a ha hf; clear ha
      refine st_move hf rfl rfl (by decide) ?_
      clear hf; intro a ha hf; clear ha
      refine st_nil hf ?_
      obtain rfl := Option.some.inj h
      have hp : Hp _ _ _ (Res.sl Ek.f64 37 v23 (out6 ++ [(gt q4.1 t25).1, (gt q4.1 t25).2]) :: Res.sl Ek.c128 36 v6 q4.1 :: ow) := Hp.sel (pre := [Res.sl Ek.f64 37 v20 ([(gt q4.1 t25).1, (gt q4.1 t25).2]), Res.sl Ek.f64 37 v23 (out6 ++ [(gt q4.1 t25).1, (gt q4.1 t25).2]), Res.sl Ek.c128 36 v6 q4.1]) (tail := ow) (rs' := [Res.sl Ek.f64 37 v23 (out6 ++ [(gt q4.1 t25).1, (gt q4.1 t25).2]), Res.sl Ek.c128 36 v6 q4.1]) hp [1, 2] (by decide) (by simp) rfl
      exact rnd_l ⟨_, hf.sub ⟨rfl, rfl, rfl, rfl, trivial⟩, hp⟩
    replace h := ifF h hb
    refine wp_exit ?_
    refine th_e ?_
    obtain rfl := Option.some.inj h
    have hp : Hp _ _ _ (Res.sl Ek.f64 37 v11 out6 :: ow) := Hp.sel (pre := [Res.sl Ek.f64 37 v11 out6, Res.sl Ek.c128 36 v6 q4.1]) (tail := ow) (rs' := [Res.sl Ek.f64 37 v11 out6]) hp [0] (by decide) (by simp) rfl
    exact rnd_r (by simp) ⟨rfl, _, hf.sub ⟨rfl, trivial⟩, hp⟩
  clear hl hf hp
  intro e a w hne hO
  obtain ⟨rfl, v13, hf, hp⟩ := hO
  refine ib_same ?_
  refine th_n ?_
  refine wp_seq ?_
  refine wp_reg ?_
  refine st_move hf rfl rfl (by decide) ?_
  clear hf; intro a ha hf; clear ha
  refine st_assign hf rfl rfl (by decide) ?_
  clear hf; intro a ha hf; clear ha
  refine st_assign hf rfl rfl (by decide) ?_
  clear hf; intro a ha hf; clear ha
  refine st_nil hf ?_
  refine th_n ?_
  refine wp_ret ?_
  obtain rfl := Option.some.inj h
  exact ⟨rfl, ⟨_, hf.sub ⟨rfl, rfl, trivial⟩, hp⟩⟩

noncomputable def f_foghornref08_Float (ax0 : Fl) (bx1 : Fl) : Option Bool := (some ((feq ax0 bx1) || ((fne ax0 ax0) && (fne bx1 bx1))))
theorem f_foghornref08_Float_c {S : Nat → Prop} {w0 w : World} {ow : List Res} (hp : Hp S w0 w ow) (bax0 : Nat) (ax0 : Fl) (hax0 : ax0.rep bax0) (bbx1 : Nat) (bx1 : Fl) (hbx1 : bx1.rep bbx1) {r : Bool} (h : f_foghornref08_Float ax0 bx1 = some r) :
    Calls Try.prog 38 #[.float .f64 bax0, .float .f64 bbx1] w (fun e w' => e = .returned (.bool r) ∧ Hp S w0 w' (ow)) := by
  unfold f_foghornref08_Float at h
  refine enter (n := 18) (args := [.float .f64 bax0, .float .f64 bbx1]) Try.func38 rfl rfl (Nat.le_of_ble_eq_true rfl) fun a hf => ?_
  replace hf : Fr 18 a [(0, .float .f64 bax0), (1, .float .f64 bbx1)] := hf
  refine wp_mono (Q := fun e a w => e = .ret ∧ Fr 18 a [(4, .bool r)] ∧ Hp S w0 w (ow)) ?_ ?_
  rotate_left
  · rintro e a w ⟨rfl, hf, hp⟩
    exact ret1 hf rfl rfl ⟨rfl, hp⟩
  refine wp_seq ?_
  refine wp_reg ?_
  refine st_assign hf rfl rfl (by decide) ?_
  clear hf; intro a ha hf; clear ha
  refine st_nil hf ?_
  refine th_n ?_
  refine wp_seq ?_
  refine wp_reg ?_
  refine st_move hf rfl rfl (by decide) ?_
  clear hf; intro a ha hf; clear ha
  refine st_move hf rfl rfl (by decide) ?_
  clear hf; intro a ha hf; clear ha
  refine st_fcmp (r_feq (fx := ax0) (fy := bx1) hax0 hbx1) hf (by decide) rfl rfl rfl ?_
  clear hf; intro a ha hf; clear ha
  refine st_move hf rfl rfl (by decide) ?_
  clear hf; intro a ha hf; clear ha
  refine wpList_cut 9 (fun a w => Fr 18 a [(17, .bool ((feq ax0 bx1) || ((fne ax0 ax0) && (fne bx1 bx1))))] ∧ Hp S w0 w (ow)) ?_ ?_
  · rcases Bool.eq_false_or_eq_true (feq ax0 bx1) with hb2 | hb2
    · skip
      refine st_skip hf (wantN hf rfl rfl hb2) rfl (by decide) ?_ rfl
      clear hf; intro a hf
      refine st_skip hf (wantN hf rfl rfl hb2) rfl (by decide) ?_ rfl
      clear hf; intro a hf
      refine st_skip hf (wantN hf rfl rfl hb2) rfl (by decide) ?_ rfl
      clear hf; intro a hf
      refine st_skipU hf (wantN hf rfl rfl hb2) rfl (by decide) ?_
      clear hf; intro a hf
      refine st_skip hf (wantU hf rfl rfl) rfl (by decide) ?_ rfl
      clear hf; intro a hf
      refine st_skip hf (wantU hf rfl rfl) rfl (by decide) ?_ rfl
      clear hf; intro a hf
      refine st_skip hf (wantU hf rfl rfl) rfl (by decide) ?_ rfl
      clear hf; intro a hf
      refine st_skip hf (wantN hf rfl rfl hb2) rfl (by decide) ?_ rfl
      clear hf; intro a hf
      refine st_pick (v := .bool true) hf rfl rfl (fun hb' => ?_) (fun hb' => ?_) (by decide) ?_
      · rfl
      · exact absurd (hb2.symm.trans hb') (by decide)
      clear hf; intro a ha hf; clear ha
      refine st_nil hf (th_n ?_)
      exact ⟨hf.sub ⟨(by rw [hb2]; rfl), trivial⟩, hp⟩
    refine st_move hf (wantY hf rfl rfl hb2) rfl (by decide) ?_
    clear hf; intro a ha hf; clear ha
    refine st_move hf (wantY hf rfl rfl hb2) rfl (by decide) ?_
    clear hf; intro a ha hf; clear ha
    refine st_fcmp (r_fne (fx := ax0) (fy := ax0) hax0 hax0) hf (by decide) (wantY hf rfl rfl hb2) rfl rfl ?_
    clear hf; intro a ha hf; clear ha
    refine st_move hf (wantY hf rfl rfl hb2) rfl (by decide) ?_
    clear hf; intro a ha hf; clear ha
    refine wpList_cut 4 (fun a w => Fr 18 a [(8, .bool (feq ax0 bx1)), (16, .bool ((fne ax0 ax0) && (fne bx1 bx1)))] ∧ Hp S w0 w (ow)) ?_ ?_
    · rcases Bool.eq_false_or_eq_true (fne ax0 ax0) with hb4 | hb4
      · skip
        refine st_move hf (wantY hf rfl rfl hb4) rfl (by decide) ?_
        clear hf; intro a ha hf; clear ha
        refine st_move hf (wantY hf rfl rfl hb4) rfl (by decide) ?_
        clear hf; intro a ha hf; clear ha
        refine st_fcmp (r_fne (fx := bx1) (fy := bx1) hbx1 hbx1) hf (by decide) (wantY hf rfl rfl hb4) rfl rfl ?_
        clear hf; intro a ha hf; clear ha
        refine st_pick (v := .bool (fne bx1 bx1)) hf (wantY hf rfl rfl hb2) rfl (fun hb' => ?_) (fun hb' => ?_) (by decide) ?_
        · rfl
        · exact absurd (hb4.symm.trans hb') (by decide)
        clear hf; intro a ha hf; clear ha
        refine st_nil hf (th_n ?_)
        exact ⟨hf.sub ⟨rfl, (by rw [hb4]; rfl), trivial⟩, hp⟩
      refine st_skip hf (wantN hf rfl rfl hb4) rfl (by decide) ?_ rfl
      clear hf; intro a hf
      refine st_skip hf (wantN hf rfl rfl hb4) rfl (by decide) ?_ rfl
      clear hf; intro a hf
      refine st_skip hf (wantN hf rfl rfl hb4) rfl (by decide) ?_ rfl
      clear hf; intro a hf
      refine st_pick (v := .bool false) hf (wantY hf rfl rfl hb2) rfl (fun hb' => ?_) (fun hb' => ?_) (by decide) ?_
      · exact absurd (hb4.symm.trans hb') (by decide)
      · rfl
      clear hf; intro a ha hf; clear ha
      refine st_nil hf (th_n ?_)
      exact ⟨hf.sub ⟨rfl, (by rw [hb4]; rfl), trivial⟩, hp⟩
    rintro a w ⟨hf, hp⟩
    refine st_pick (v := .bool ((fne ax0 ax0) && (fne bx1 bx1))) hf rfl rfl (fun hb' => ?_) (fun hb' => ?_) (by decide) ?_
    · exact absurd (hb2.symm.trans hb') (by decide)
    · rfl
    clear hf; intro a ha hf; clear ha
    refine st_nil hf (th_n ?_)
    exact ⟨hf.sub ⟨(by rw [hb2]; rfl), trivial⟩, hp⟩
  rintro a w ⟨hf, hp⟩
  refine st_assign hf rfl rfl (by decide) ?_
  clear hf; intro a ha hf; clear ha
  refine st_nil hf ?_
  refine th_n ?_
  refine wp_ret ?_
  obtain rfl := Option.some.inj h
  exact ⟨rfl, ⟨hf.sub ⟨rfl, trivial⟩, hp⟩⟩

noncomputable def f_foghornref08_Same.s1c (ax0 : (List (Fl × Fl))) (bx1 : (List (Fl × Fl))) (i5 : Int) : Option (Int ⊕ (Unit ⊕ Bool)) := (if (decide (i5 < (ax0.length : Int))) = true then (if 0 ≤ i5 ∧ i5 < (ax0.length : Int) then (if 0 ≤ i5 ∧ i5 < (bx1.length : Int) then ((f_foghornref08_Float ((gt ax0 i5).1) ((gt bx1 i5).1)).bind fun q13 => ((if (!q13) = true then (some true) else (if 0 ≤ i5 ∧ i5 < (ax0.length : Int) then (if 0 ≤ i5 ∧ i5 < (bx1.length : Int) then ((f_foghornref08_Float ((gt ax0 i5).2) ((gt bx1 i5).2)).bind fun q29 => (some (!q29))) else none) else none)).bind fun z31 => (if z31 = true then (some (Sum.inr (Sum.inr false))) else (some (Sum.inl (IntKind.i64.wrap (i5 + (1 : Int)))))))) else none) else none) else (some (Sum.inr (Sum.inl ()))))
noncomputable def f_foghornref08_Same.s1 (ax0 : (List (Fl × Fl))) (bx1 : (List (Fl × Fl))) (s : Int) : Option (Int ⊕ (Unit ⊕ Bool)) := f_foghornref08_Same.s1c ax0 bx1 s
noncomputable def f_foghornref08_Same (ax0 : (List (Fl × Fl))) (bx1 : (List (Fl × Fl))) : Option Bool := (if ((ax0.length : Int) != (bx1.length : Int)) = true then (some false) else ((loop (f_foghornref08_Same.s1 ax0 bx1) (0 : Int)).bind (fun q32 => sm q32 (fun q33 => (some true)) (fun q34 => (some q34)))))
theorem f_foghornref08_Same_c {S : Nat → Prop} {w0 w : World} {ow : List Res} (hp : Hp S w0 w ow) (vax0 : Value) (ax0 : (List (Fl × Fl))) (hax0 : RdS Ek.c128 S w0 vax0 ax0) (vbx1 : Value) (bx1 : (List (Fl × Fl))) (hbx1 : RdS Ek.c128 S w0 vbx1 bx1) {r : Bool} (h : f_foghornref08_Same ax0 bx1 = some r) :
    Calls Try.prog 33 #[vax0, vbx1] w (fun e w' => e = .returned (.bool r) ∧ Hp S w0 w' (ow)) := by
  unfold f_foghornref08_Same at h
  refine enter (n := 43) (args := [vax0, vbx1]) Try.func33 rfl rfl (Nat.le_of_ble_eq_true rfl) fun a hf => ?_
  replace hf : Fr 43 a [(0, vax0), (1, vbx1)] := hf
  refine wp_mono (Q := fun e a w => e = .ret ∧ Fr 43 a [(4, .bool r)] ∧ Hp S w0 w (ow)) ?_ ?_
  rotate_left
  · rintro e a w ⟨rfl, hf, hp⟩
    exact ret1 hf rfl rfl ⟨rfl, hp⟩
  refine wp_seq ?_
  refine wp_reg ?_
  refine st_assign hf rfl rfl (by decide) ?_
  clear hf; intro a ha hf; clear ha
  refine st_nil hf ?_
  refine th_n ?_
  refine wp_seq ?_
  refine wp_seq ?_
  refine wp_reg ?_
  refine st_move hf rfl rfl (by decide) ?_
  clear hf; intro a ha hf; clear ha
  refine st_len (E := Ek.c128) hf (by decide) Try.underlying24 rfl rfl (hax0.sl hp) ?_
  clear hf; intro a ha hf; clear ha
  refine st_move hf rfl rfl (by decide) ?_
  clear hf; intro a ha hf; clear ha
  refine st_len (E := Ek.c128) hf (by decide) Try.underlying24 rfl rfl (hbx1.sl hp) ?_
  clear hf; intro a ha hf; clear ha
  refine st_ineq hf (by decide) rfl rfl rfl ?_
  clear hf; intro a ha hf; clear ha
  refine st_nil hf ?_
  refine th_n ?_
  refine wp_if hf rfl (fun hb => ?_) (fun hb => ?_)
  · replace h := ifT h hb
    refine wp_seq ?_
    refine wp_reg ?_
    refine st_assign hf rfl rfl (by decide) ?_
    clear hf; intro a ha hf; clear ha
    refine st_nil hf ?_
    refine th_n ?_
    refine wp_ret ?_
    refine th_r ?_
    obtain rfl := Option.some.inj h
    exact ⟨rfl, ⟨hf.sub ⟨rfl, trivial⟩, hp⟩⟩
  replace h := ifF h hb
  refine wp_skip ?_
  refine th_n ?_
  refine wp_seq ?_
  refine wp_seq ?_
  refine wp_reg ?_
  refine st_assign hf rfl rfl (by decide) ?_
  clear hf; intro a ha hf; clear ha
  refine st_nil hf ?_
  refine th_n ?_
  refine wp_block ?_
  obtain ⟨q32, hl, h⟩ := bnd h
  refine wp_loop_pure (f := (f_foghornref08_Same.s1 ax0 bx1)) (s := (0 : Int)) (fun s a w => Fr 43 a [(0, vax0), (1, vbx1), (5, .int .i64 s)] ∧ Hp S w0 w (ow)) (fun q e a w => match q with | (Sum.inl q) => e = .exit 0 ∧ Fr 43 a [] ∧ Hp S w0 w (ow) | (Sum.inr q) => e = .ret ∧ Fr 43 a [(4, .bool q)] ∧ Hp S w0 w (ow)) ?_ hl ⟨hf.sub ⟨rfl, rfl, rfl, trivial⟩, hp⟩ ?_
  · clear hl hf hp
    intro s x a w h hI
    obtain ⟨i5, hs⟩ : ∃ z, z = s := ⟨s, rfl⟩; subst hs
    obtain ⟨hf, hp⟩ : Fr 43 a [(0, vax0), (1, vbx1), (5, .int .i64 i5)] ∧ Hp S w0 w (ow) := hI
    replace h : f_foghornref08_Same.s1c ax0 bx1 i5 = some x := h
    unfold f_foghornref08_Same.s1c at h
    refine wp_seq ?_
    refine wp_seq ?_
    refine wp_reg ?_
    refine st_move hf rfl rfl (by decide) ?_
    clear hf; intro a ha hf; clear ha
    refine st_move hf rfl rfl (by decide) ?_
    clear hf; intro a ha hf; clear ha
    refine st_len (E := Ek.c128) hf (by decide) Try.underlying24 rfl rfl (hax0.sl hp) ?_
    clear hf; intro a ha hf; clear ha
    refine st_ilss hf (by decide) rfl rfl rfl ?_
    clear hf; intro a ha hf; clear ha
    refine st_nil hf ?_
    refine th_n ?_
    refine wp_if hf rfl (fun hb => ?_) (fun hb => ?_)
    · replace h := ifT h hb
      refine wp_skip ?_
      refine th_n ?_
      refine wp_seq ?_
      refine wp_block ?_
      refine wp_seq ?_
      obtain ⟨hc1, h⟩ := chk h
      obtain ⟨bb3, bb4, y5, y6, hl2⟩ := RdS.pinC (p := i5) hax0 hc1.1 hc1.2
      obtain ⟨hc7, h⟩ := chk h
      obtain ⟨bb9, bb10, y11, y12, hl8⟩ := RdS.pinC (p := i5) hbx1 hc7.1 hc7.2
      obtain ⟨q13, hcall14, h⟩ := bnd h
      obtain ⟨z31, hz15, h⟩ := bnd h
      refine wp_cutN (fun a w => Fr 43 a [(0, vax0), (1, vbx1), (5, .int .i64 i5), (42, .bool z31)] ∧ Hp S w0 w (ow)) ?_ ?_
      · have hp := hp.same (Same.drew w)
        rcases Bool.eq_false_or_eq_true (!q13) with hb16 | hb16
        · skip
          replace hz15 := ifT hz15 hb16
          replace hz15 := Option.some.inj hz15
          refine dr_begin' (fun a w => Fr 43 a [(0, vax0), (1, vbx1), (5, .int .i64 i5), (42, .bool z31)] ∧ Hp S w0 w (ow)) (fun w' => ∃ l, Hp S w0 w' l) [] (by kernel_rfl) ?_
          refine dr_take 0 (vax0) rfl (by kernel_rfl) (by kernel_rfl) (by kernel_rfl) (by kernel_rfl) rfl rfl hf (by decide) rfl (fun w hp => ?_) ⟨_, hp⟩ ?_
          · obtain ⟨_, hp⟩ := hp
            refine st_move hf rfl rfl (by decide) ?_
            clear hf; intro a ha hf
            exact st_nil hf (th_n ⟨ha, rfl⟩)
          clear hf; intro a hf
          refine dr_take 1 (.int .i64 i5) rfl (by kernel_rfl) (by kernel_rfl) (by kernel_rfl) (by kernel_rfl) rfl rfl hf (by decide) rfl (fun w hp => ?_) ⟨_, hp⟩ ?_
          · obtain ⟨_, hp⟩ := hp
            refine st_move hf rfl rfl (by decide) ?_
            clear hf; intro a ha hf
            exact st_nil hf (th_n ⟨ha, rfl⟩)
          clear hf; intro a hf
          refine dr_take 2 (eptr vax0 i5 1) rfl (by kernel_rfl) (by kernel_rfl) (by kernel_rfl) (by kernel_rfl) rfl rfl hf (by decide) rfl (fun w hp => ?_) ⟨_, hp⟩ ?_
          · obtain ⟨_, hp⟩ := hp
            refine st_index (E := Ek.c128) hf (by decide) Try.underlying24 elt36 rfl rfl rfl (hax0.sl hp) hc1.1 hc1.2 ?_
            clear hf; intro a ha hf
            exact st_nil hf (th_n ⟨ha, rfl⟩)
          clear hf; intro a hf
          refine dr_take 3 (.complex .f64 bb3 bb4) rfl (by kernel_rfl) (by kernel_rfl) (by kernel_rfl) (by kernel_rfl) rfl rfl hf (by decide) rfl (fun w hp => ?_) ⟨_, hp⟩ ?_
          · obtain ⟨_, hp⟩ := hp
            refine st_ldP hf (by decide) pl36 rfl rfl (hl2 _ _ hp) ?_
            clear hf; intro a ha hf
            exact st_nil hf (th_n ⟨ha, rfl⟩)
          clear hf; intro a hf
          refine dr_take 4 (.float .f64 bb3) rfl (by kernel_rfl) (by kernel_rfl) (by kernel_rfl) (by kernel_rfl) rfl rfl hf (by decide) rfl (fun w hp => ?_) ⟨_, hp⟩ ?_
          · obtain ⟨_, hp⟩ := hp
            refine st_real hf (by decide) rfl rfl ?_
            clear hf; intro a ha hf
            exact st_nil hf (th_n ⟨ha, rfl⟩)
          clear hf; intro a hf
          refine dr_take 5 (vbx1) rfl (by kernel_rfl) (by kernel_rfl) (by kernel_rfl) (by kernel_rfl) rfl rfl hf (by decide) rfl (fun w hp => ?_) ⟨_, hp⟩ ?_
          · obtain ⟨_, hp⟩ := hp
            refine st_move hf rfl rfl (by decide) ?_
            clear hf; intro a ha hf
            exact st_nil hf (th_n ⟨ha, rfl⟩)
          clear hf; intro a hf
          refine dr_take 6 (.int .i64 i5) rfl (by kernel_rfl) (by kernel_rfl) (by kernel_rfl) (by kernel_rfl) rfl rfl hf (by decide) rfl (fun w hp => ?_) ⟨_, hp⟩ ?_
          · obtain ⟨_, hp⟩ := hp
            refine st_move hf rfl rfl (by decide) ?_
            clear hf; intro a ha hf
            exact st_nil hf (th_n ⟨ha, rfl⟩)
          clear hf; intro a hf
          refine dr_take 7 (eptr vbx1 i5 1) rfl (by kernel_rfl) (by kernel_rfl) (by kernel_rfl) (by kernel_rfl) rfl rfl hf (by decide) rfl (fun w hp => ?_) ⟨_, hp⟩ ?_
          · obtain ⟨_, hp⟩ := hp
            refine st_index (E := Ek.c128) hf (by decide) Try.underlying24 elt36 rfl rfl rfl (hbx1.sl hp) hc7.1 hc7.2 ?_
            clear hf; intro a ha hf
            exact st_nil hf (th_n ⟨ha, rfl⟩)
          clear hf; intro a hf
          refine dr_take 8 (.complex .f64 bb9 bb10) rfl (by kernel_rfl) (by kernel_rfl) (by kernel_rfl) (by kernel_rfl) rfl rfl hf (by decide) rfl (fun w hp => ?_) ⟨_, hp⟩ ?_
          · obtain ⟨_, hp⟩ := hp
            refine st_ldP hf (by decide) pl36 rfl rfl (hl8 _ _ hp) ?_
            clear hf; intro a ha hf
            exact st_nil hf (th_n ⟨ha, rfl⟩)
          clear hf; intro a hf
          refine dr_take 9 (.float .f64 bb9) rfl (by kernel_rfl) (by kernel_rfl) (by kernel_rfl) (by kernel_rfl) rfl rfl hf (by decide) rfl (fun w hp => ?_) ⟨_, hp⟩ ?_
          · obtain ⟨_, hp⟩ := hp
            refine st_real hf (by decide) rfl rfl ?_
            clear hf; intro a ha hf
            exact st_nil hf (th_n ⟨ha, rfl⟩)
          clear hf; intro a hf
          refine dr_one 10 rfl (by kernel_rfl) ?_
          refine st_call hf (by decide) Try.func38 rfl rfl rfl rfl rfl (f_foghornref08_Float_c hp _ _ (show Fl.rep bb3 ((gt ax0 i5).1) from y5) _ _ (show Fl.rep bb9 ((gt bx1 i5).1) from y11) hcall14) ?_
          rintro _ w ⟨rfl, hp0⟩
          clear hp; have hp := hp0; clear hp0
          replace hp : Hp _ _ _ (ow) := hp
          refine ⟨_, rfl, ?_⟩
          clear hf; intro a hf
          refine st_nil hf (th_n ⟨fun _ _ => ⟨_, hp⟩, ?_⟩)
          refine dr_take 11 (.bool (!q13)) rfl (by kernel_rfl) (by kernel_rfl) (by kernel_rfl) (by kernel_rfl) rfl rfl hf (by decide) rfl (fun w hp => ?_) ⟨_, hp⟩ ?_
          · obtain ⟨_, hp⟩ := hp
            refine st_not hf (by decide) rfl rfl ?_
            clear hf; intro a ha hf
            exact st_nil hf (th_n ⟨ha, rfl⟩)
          clear hf; intro a hf
          refine dr_take 12 (.bool (!q13)) rfl (by kernel_rfl) (by kernel_rfl) (by kernel_rfl) (by kernel_rfl) rfl rfl hf (by decide) rfl (fun w hp => ?_) ⟨_, hp⟩ ?_
          · obtain ⟨_, hp⟩ := hp
            refine st_move hf rfl rfl (by decide) ?_
            clear hf; intro a ha hf
            exact st_nil hf (th_n ⟨ha, rfl⟩)
          clear hf; intro a hf
          refine dr_out 13 rfl (by kernel_rfl) (by kernel_rfl) (by kernel_rfl) (by kernel_rfl) rfl hf (by decide) rfl (wantN hf rfl rfl hb16) ⟨_, hp⟩ ?_
          clear hf; intro a hf
          refine dr_out 14 rfl (by kernel_rfl) (by kernel_rfl) (by kernel_rfl) (by kernel_rfl) rfl hf (by decide) rfl (wantN hf rfl rfl hb16) ⟨_, hp⟩ ?_
          clear hf; intro a hf
          refine dr_out 15 rfl (by kernel_rfl) (by kernel_rfl) (by kernel_rfl) (by kernel_rfl) rfl hf (by decide) rfl (wantN hf rfl rfl hb16) ⟨_, hp⟩ ?_
          clear hf; intro a hf
          refine dr_out 16 rfl (by kernel_rfl) (by kernel_rfl) (by kernel_rfl) (by kernel_rfl) rfl hf (by decide) rfl (wantN hf rfl rfl hb16) ⟨_, hp⟩ ?_
          clear hf; intro a hf
          refine dr_out 17 rfl (by kernel_rfl) (by kernel_rfl) (by kernel_rfl) (by kernel_rfl) rfl hf (by decide) rfl (wantN hf rfl rfl hb16) ⟨_, hp⟩ ?_
          clear hf; intro a hf
          refine dr_out 18 rfl (by kernel_rfl) (by kernel_rfl) (by kernel_rfl) (by kernel_rfl) rfl hf (by decide) rfl (wantN hf rfl rfl hb16) ⟨_, hp⟩ ?_
          clear hf; intro a hf
          refine dr_out 19 rfl (by kernel_rfl) (by kernel_rfl) (by kernel_rfl) (by kernel_rfl) rfl hf (by decide) rfl (wantN hf rfl rfl hb16) ⟨_, hp⟩ ?_
          clear hf; intro a hf
          refine dr_out 20 rfl (by kernel_rfl) (by kernel_rfl) (by kernel_rfl) (by kernel_rfl) rfl hf (by decide) rfl (wantN hf rfl rfl hb16) ⟨_, hp⟩ ?_
          clear hf; intro a hf
          refine dr_out 21 rfl (by kernel_rfl) (by kernel_rfl) (by kernel_rfl) (by kernel_rfl) rfl hf (by decide) rfl (wantN hf rfl rfl hb16) ⟨_, hp⟩ ?_
          clear hf; intro a hf
          refine dr_out 22 rfl (by kernel_rfl) (by kernel_rfl) (by kernel_rfl) (by kernel_rfl) rfl hf (by decide) rfl (wantN hf rfl rfl hb16) ⟨_, hp⟩ ?_
          clear hf; intro a hf
          refine dr_out 23 rfl (by kernel_rfl) (by kernel_rfl) (by kernel_rfl) (by kernel_rfl) rfl hf (by decide) rfl (wantN hf rfl rfl hb16) ⟨_, hp⟩ ?_
          clear hf; intro a hf
          refine dr_out 24 rfl (by kernel_rfl) (by kernel_rfl) (by kernel_rfl) (by kernel_rfl) rfl hf (by decide) rfl (wantN hf rfl rfl hb16) ⟨_, hp⟩ ?_
          clear hf; intro a hf
          refine dr_take 25 (.bool z31) rfl (by kernel_rfl) (by kernel_rfl) (by kernel_rfl) (by kernel_rfl) rfl rfl hf (by decide) rfl (fun w hp => ?_) ⟨_, hp⟩ ?_
          · obtain ⟨_, hp⟩ := hp
            refine st_pick (v := .bool z31) hf rfl rfl (fun _ => by rw [← hz15]; rfl) (fun hb' => absurd (hb16.symm.trans hb') (by decide)) (by decide) ?_
            clear hf; intro a ha hf
            exact st_nil hf (th_n ⟨ha, rfl⟩)
          clear hf; intro a hf
          refine dr_end (by kernel_rfl) ?_ _
          exact ⟨hf.sub ⟨rfl, rfl, rfl, rfl, trivial⟩, hp⟩
        skip
        replace hz15 := ifF hz15 hb16
        obtain ⟨hc17, hz15⟩ := chk hz15
        obtain ⟨bb19, bb20, y21, y22, hl18⟩ := RdS.pinC (p := i5) hax0 hc17.1 hc17.2
        obtain ⟨hc23, hz15⟩ := chk hz15
        obtain ⟨bb25, bb26, y27, y28, hl24⟩ := RdS.pinC (p := i5) hbx1 hc23.1 hc23.2
        obtain ⟨q29, hcall30, hz15⟩ := bnd hz15
        replace hz15 := Option.some.inj hz15
        refine dr_begin' (fun a w => Fr 43 a [(0, vax0), (1, vbx1), (5, .int .i64 i5), (42, .bool z31)] ∧ Hp S w0 w (ow)) (fun w' => ∃ l, Hp S w0 w' l) [] (by kernel_rfl) ?_
        refine dr_take 0 (vax0) rfl (by kernel_rfl) (by kernel_rfl) (by kernel_rfl) (by kernel_rfl) rfl rfl hf (by decide) rfl (fun w hp => ?_) ⟨_, hp⟩ ?_
        · obtain ⟨_, hp⟩ := hp
          refine st_move hf rfl rfl (by decide) ?_
          clear hf; intro a ha hf
          exact st_nil hf (th_n ⟨ha, rfl⟩)
        clear hf; intro a hf
        refine dr_take 1 (.int .i64 i5) rfl (by kernel_rfl) (by kernel_rfl) (by kernel_rfl) (by kernel_rfl) rfl rfl hf (by decide) rfl (fun w hp => ?_) ⟨_, hp⟩ ?_
        · obtain ⟨_, hp⟩ := hp
          refine st_move hf rfl rfl (by decide) ?_
          clear hf; intro a ha hf
          exact st_nil hf (th_n ⟨ha, rfl⟩)
        clear hf; intro a hf
        refine dr_take 2 (eptr vax0 i5 1) rfl (by kernel_rfl) (by kernel_rfl) (by kernel_rfl) (by kernel_rfl) rfl rfl hf (by decide) rfl (fun w hp => ?_) ⟨_, hp⟩ ?_
        · obtain ⟨_, hp⟩ := hp
          refine st_index (E := Ek.c128) hf (by decide) Try.underlying24 elt36 rfl rfl rfl (hax0.sl hp) hc1.1 hc1.2 ?_
          clear hf; intro a ha hf
          exact st_nil hf (th_n ⟨ha, rfl⟩)
        clear hf; intro a hf
        refine dr_take 3 (.complex .f64 bb3 bb4) rfl (by kernel_rfl) (by kernel_rfl) (by kernel_rfl) (by kernel_rfl) rfl rfl hf (by decide) rfl (fun w hp => ?_) ⟨_, hp⟩ ?_
        · obtain ⟨_, hp⟩ := hp
          refine st_ldP hf (by decide) pl36 rfl rfl (hl2 _ _ hp) ?_
          clear hf; intro a ha hf
          exact st_nil hf (th_n ⟨ha, rfl⟩)
        clear hf; intro a hf
        refine dr_take 4 (.float .f64 bb3) rfl (by kernel_rfl) (by kernel_rfl) (by kernel_rfl) (by kernel_rfl) rfl rfl hf (by decide) rfl (fun w hp => ?_) ⟨_, hp⟩ ?_
        · obtain ⟨_, hp⟩ := hp
          refine st_real hf (by decide) rfl rfl ?_
          clear hf; intro a ha hf
          exact st_nil hf (th_n ⟨ha, rfl⟩)
        clear hf; intro a hf
        refine dr_take 5 (vbx1) rfl (by kernel_rfl) (by kernel_rfl) (by kernel_rfl) (by kernel_rfl) rfl rfl hf (by decide) rfl (fun w hp => ?_) ⟨_, hp⟩ ?_
        · obtain ⟨_, hp⟩ := hp
          refine st_move hf rfl rfl (by decide) ?_
          clear hf; intro a ha hf
          exact st_nil hf (th_n ⟨ha, rfl⟩)
        clear hf; intro a hf
        refine dr_take 6 (.int .i64 i5) rfl (by kernel_rfl) (by kernel_rfl) (by kernel_rfl) (by kernel_rfl) rfl rfl hf (by decide) rfl (fun w hp => ?_) ⟨_, hp⟩ ?_
        · obtain ⟨_, hp⟩ := hp
          refine st_move hf rfl rfl (by decide) ?_
          clear hf; intro a ha hf
          exact st_nil hf (th_n ⟨ha, rfl⟩)
        clear hf; intro a hf
        refine dr_take 7 (eptr vbx1 i5 1) rfl (by kernel_rfl) (by kernel_rfl) (by kernel_rfl) (by kernel_rfl) rfl rfl hf (by decide) rfl (fun w hp => ?_) ⟨_, hp⟩ ?_
        · obtain ⟨_, hp⟩ := hp
          refine st_index (E := Ek.c128) hf (by decide) Try.underlying24 elt36 rfl rfl rfl (hbx1.sl hp) hc7.1 hc7.2 ?_
          clear hf; intro a ha hf
          exact st_nil hf (th_n ⟨ha, rfl⟩)
        clear hf; intro a hf
        refine dr_take 8 (.complex .f64 bb9 bb10) rfl (by kernel_rfl) (by kernel_rfl) (by kernel_rfl) (by kernel_rfl) rfl rfl hf (by decide) rfl (fun w hp => ?_) ⟨_, hp⟩ ?_
        · obtain ⟨_, hp⟩ := hp
          refine st_ldP hf (by decide) pl36 rfl rfl (hl8 _ _ hp) ?_
          clear hf; intro a ha hf
          exact st_nil hf (th_n ⟨ha, rfl⟩)
        clear hf; intro a hf
        refine dr_take 9 (.float .f64 bb9) rfl (by kernel_rfl) (by kernel_rfl) (by kernel_rfl) (by kernel_rfl) rfl rfl hf (by decide) rfl (fun w hp => ?_) ⟨_, hp⟩ ?_
        · obtain ⟨_, hp⟩ := hp
          refine st_real hf (by decide) rfl rfl ?_
          clear hf; intro a ha hf
          exact st_nil hf (th_n ⟨ha, rfl⟩)
        clear hf; intro a hf
        refine dr_one 10 rfl (by kernel_rfl) ?_
        refine st_call hf (by decide) Try.func38 rfl rfl rfl rfl rfl (f_foghornref08_Float_c hp _ _ (show Fl.rep bb3 ((gt ax0 i5).1) from y5) _ _ (show Fl.rep bb9 ((gt bx1 i5).1) from y11) hcall14) ?_
        rintro _ w ⟨rfl, hp0⟩
        clear hp; have hp := hp0; clear hp0
        replace hp : Hp _ _ _ (ow) := hp
        refine ⟨_, rfl, ?_⟩
        clear hf; intro a hf
        refine st_nil hf (th_n ⟨fun _ _ => ⟨_, hp⟩, ?_⟩)
        refine dr_take 11 (.bool (!q13)) rfl (by kernel_rfl) (by kernel_rfl) (by kernel_rfl) (by kernel_rfl) rfl rfl hf (by decide) rfl (fun w hp => ?_) ⟨_, hp⟩ ?_
        · obtain ⟨_, hp⟩ := hp
          refine st_not hf (by decide) rfl rfl ?_
          clear hf; intro a ha hf
          exact st_nil hf (th_n ⟨ha, rfl⟩)
        clear hf; intro a hf
        refine dr_take 12 (.bool (!q13)) rfl (by kernel_rfl) (by kernel_rfl) (by kernel_rfl) (by kernel_rfl) rfl rfl hf (by decide) rfl (fun w hp => ?_) ⟨_, hp⟩ ?_
        · obtain ⟨_, hp⟩ := hp
          refine st_move hf rfl rfl (by decide) ?_
          clear hf; intro a ha hf
          exact st_nil hf (th_n ⟨ha, rfl⟩)
        clear hf; intro a hf
        refine dr_take 13 (vax0) rfl (by kernel_rfl) (by kernel_rfl) (by kernel_rfl) (by kernel_rfl) rfl rfl hf (by decide) (wantY hf rfl rfl hb16) (fun w hp => ?_) ⟨_, hp⟩ ?_
        · obtain ⟨_, hp⟩ := hp
          refine st_move hf (wantY hf rfl rfl hb16) rfl (by decide) ?_
          clear hf; intro a ha hf
          exact st_nil hf (th_n ⟨ha, rfl⟩)
        clear hf; intro a hf
        refine dr_take 14 (.int .i64 i5) rfl (by kernel_rfl) (by kernel_rfl) (by kernel_rfl) (by kernel_rfl) rfl rfl hf (by decide) (wantY hf rfl rfl hb16) (fun w hp => ?_) ⟨_, hp⟩ ?_
        · obtain ⟨_, hp⟩ := hp
          refine st_move hf (wantY hf rfl rfl hb16) rfl (by decide) ?_
          clear hf; intro a ha hf
          exact st_nil hf (th_n ⟨ha, rfl⟩)
        clear hf; intro a hf
        refine dr_take 15 (eptr vax0 i5 1) rfl (by kernel_rfl) (by kernel_rfl) (by kernel_rfl) (by kernel_rfl) rfl rfl hf (by decide) (wantY hf rfl rfl hb16) (fun w hp => ?_) ⟨_, hp⟩ ?_
        · obtain ⟨_, hp⟩ := hp
          refine st_index (E := Ek.c128) hf (by decide) Try.underlying24 elt36 (wantY hf rfl rfl hb16) rfl rfl (hax0.sl hp) hc17.1 hc17.2 ?_
          clear hf; intro a ha hf
          exact st_nil hf (th_n ⟨ha, rfl⟩)
        clear hf; intro a hf
        refine dr_take 16 (.complex .f64 bb19 bb20) rfl (by kernel_rfl) (by kernel_rfl) (by kernel_rfl) (by kernel_rfl) rfl rfl hf (by decide) (wantY hf rfl rfl hb16) (fun w hp => ?_) ⟨_, hp⟩ ?_
        · obtain ⟨_, hp⟩ := hp
          refine st_ldP hf (by decide) pl36 (wantY hf rfl rfl hb16) rfl (hl18 _ _ hp) ?_
          clear hf; intro a ha hf
          exact st_nil hf (th_n ⟨ha, rfl⟩)
        clear hf; intro a hf
        refine dr_take 17 (.float .f64 bb20) rfl (by kernel_rfl) (by kernel_rfl) (by kernel_rfl) (by kernel_rfl) rfl rfl hf (by decide) (wantY hf rfl rfl hb16) (fun w hp => ?_) ⟨_, hp⟩ ?_
        · obtain ⟨_, hp⟩ := hp
          refine st_imag hf (by decide) (wantY hf rfl rfl hb16) rfl ?_
          clear hf; intro a ha hf
          exact st_nil hf (th_n ⟨ha, rfl⟩)
        clear hf; intro a hf
        refine dr_take 18 (vbx1) rfl (by kernel_rfl) (by kernel_rfl) (by kernel_rfl) (by kernel_rfl) rfl rfl hf (by decide) (wantY hf rfl rfl hb16) (fun w hp => ?_) ⟨_, hp⟩ ?_
        · obtain ⟨_, hp⟩ := hp
          refine st_move hf (wantY hf rfl rfl hb16) rfl (by decide) ?_
          clear hf; intro a ha hf
          exact st_nil hf (th_n ⟨ha, rfl⟩)
        clear hf; intro a hf
        refine dr_take 19 (.int .i64 i5) rfl (by kernel_rfl) (by kernel_rfl) (by kernel_rfl) (by kernel_rfl) rfl rfl hf (by decide) (wantY hf rfl rfl hb16) (fun w hp => ?_) ⟨_, hp⟩ ?_
        · obtain ⟨_, hp⟩ := hp
          refine st_move hf (wantY hf rfl rfl hb16) rfl (by decide) ?_
          clear hf; intro a ha hf
          exact st_nil hf (th_n ⟨ha, rfl⟩)
        clear hf; intro a hf
        refine dr_take 20 (eptr vbx1 i5 1) rfl (by kernel_rfl) (by kernel_rfl) (by kernel_rfl) (by kernel_rfl) rfl rfl hf (by decide) (wantY hf rfl rfl hb16) (fun w hp => ?_) ⟨_, hp⟩ ?_
        · obtain ⟨_, hp⟩ := hp
          refine st_index (E := Ek.c128) hf (by decide) Try.underlying24 elt36 (wantY hf rfl rfl hb16) rfl rfl (hbx1.sl hp) hc23.1 hc23.2 ?_
          clear hf; intro a ha hf
          exact st_nil hf (th_n ⟨ha, rfl⟩)
        clear hf; intro a hf
        refine dr_take 21 (.complex .f64 bb25 bb26) rfl (by kernel_rfl) (by kernel_rfl) (by kernel_rfl) (by kernel_rfl) rfl rfl hf (by decide) (wantY hf rfl rfl hb16) (fun w hp => ?_) ⟨_, hp⟩ ?_
        · obtain ⟨_, hp⟩ := hp
          refine st_ldP hf (by decide) pl36 (wantY hf rfl rfl hb16) rfl (hl24 _ _ hp) ?_
          clear hf; intro a ha hf
          exact st_nil hf (th_n ⟨ha, rfl⟩)
        clear hf; intro a hf
        refine dr_take 22 (.float .f64 bb26) rfl (by kernel_rfl) (by kernel_rfl) (by kernel_rfl) (by kernel_rfl) rfl rfl hf (by decide) (wantY hf rfl rfl hb16) (fun w hp => ?_) ⟨_, hp⟩ ?_
        · obtain ⟨_, hp⟩ := hp
          refine st_imag hf (by decide) (wantY hf rfl rfl hb16) rfl ?_
          clear hf; intro a ha hf
          exact st_nil hf (th_n ⟨ha, rfl⟩)
        clear hf; intro a hf
        refine dr_one 23 rfl (by kernel_rfl) ?_
        refine st_call hf (by decide) Try.func38 rfl rfl (wantY hf rfl rfl hb16) rfl rfl (f_foghornref08_Float_c hp _ _ (show Fl.rep bb20 ((gt ax0 i5).2) from y22) _ _ (show Fl.rep bb26 ((gt bx1 i5).2) from y28) hcall30) ?_
        rintro _ w ⟨rfl, hp0⟩
        clear hp; have hp := hp0; clear hp0
        replace hp : Hp _ _ _ (ow) := hp
        refine ⟨_, rfl, ?_⟩
        clear hf; intro a hf
        refine st_nil hf (th_n ⟨fun _ _ => ⟨_, hp⟩, ?_⟩)
        refine dr_take 24 (.bool (!q29)) rfl (by kernel_rfl) (by kernel_rfl) (by kernel_rfl) (by kernel_rfl) rfl rfl hf (by decide) (wantY hf rfl rfl hb16) (fun w hp => ?_) ⟨_, hp⟩ ?_
        · obtain ⟨_, hp⟩ := hp
          refine st_not hf (by decide) (wantY hf rfl rfl hb16) rfl ?_
          clear hf; intro a ha hf
          exact st_nil hf (th_n ⟨ha, rfl⟩)
        clear hf; intro a hf
        refine dr_take 25 (.bool z31) rfl (by kernel_rfl) (by kernel_rfl) (by kernel_rfl) (by kernel_rfl) rfl rfl hf (by decide) rfl (fun w hp => ?_) ⟨_, hp⟩ ?_
        · obtain ⟨_, hp⟩ := hp
          refine st_pick (v := .bool z31) hf rfl rfl (fun hb' => absurd (hb16.symm.trans hb') (by decide)) (fun _ => by rw [← hz15]; rfl) (by decide) ?_
          clear hf; intro a ha hf
          exact st_nil hf (th_n ⟨ha, rfl⟩)
        clear hf; intro a hf
        refine dr_end (by kernel_rfl) ?_ _
        exact ⟨hf.sub ⟨rfl, rfl, rfl, rfl, trivial⟩, hp⟩
      rintro a w ⟨hf, hp⟩
      refine th_n ?_
      refine wp_if hf rfl (fun hb => ?_) (fun hb => ?_)
      · replace h := ifT h hb
        refine wp_seq ?_
        refine wp_reg ?_
        refine st_assign hf rfl rfl (by decide) ?_
        clear hf; intro a ha hf; clear ha
        refine st_nil hf ?_
        refine th_n ?_
        refine wp_ret ?_
        refine ib_r ?_
        refine th_r ?_
        obtain rfl := Option.some.inj h
        exact rnd_r (by simp) ⟨rfl, ⟨hf.sub ⟨rfl, trivial⟩, hp⟩⟩
      replace h := ifF h hb
      refine wp_skip ?_
      refine ib_n ?_
      refine th_n ?_
      refine wp_reg ?_
      refine st_move hf rfl rfl (by decide) ?_
      clear hf; intro a ha hf; clear ha
      refine st_iadd hf (by decide) rfl rfl rfl ?_
      clear hf; intro a ha hf; clear ha
      refine st_assign hf rfl rfl (by decide) ?_
      clear hf; intro a ha hf; clear ha
      refine st_nil hf ?_
      obtain rfl := Option.some.inj h
      exact rnd_l ⟨hf.sub ⟨rfl, rfl, rfl, trivial⟩, hp⟩
    replace h := ifF h hb
    refine wp_exit ?_
    refine th_e ?_
    obtain rfl := Option.some.inj h
    exact rnd_r (by simp) ⟨rfl, hf.sub trivial, hp⟩
  clear hl hf hp
  intro e a w hne hO
  rcases q32 with q33 | q34
  · replace h := smL h
    obtain ⟨rfl, hf, hp⟩ := hO
    refine ib_same ?_
    refine th_n ?_
    refine wp_seq ?_
    refine wp_reg ?_
    refine st_assign hf rfl rfl (by decide) ?_
    clear hf; intro a ha hf; clear ha
    refine st_nil hf ?_
    refine th_n ?_
    refine wp_ret ?_
    obtain rfl := Option.some.inj h
    exact ⟨rfl, ⟨hf.sub ⟨rfl, trivial⟩, hp⟩⟩
  replace h := smR h
  obtain ⟨rfl, hf, hp⟩ := hO
  refine ib_r ?_
  refine th_r ?_
  obtain rfl := Option.some.inj h
  exact ⟨rfl, ⟨hf.sub ⟨rfl, trivial⟩, hp⟩⟩

noncomputable def f_foghornref08_Floats.s1c (ax0 : (List Fl)) (bx1 : (List Fl)) (i5 : Int) : Option (Int ⊕ (Unit ⊕ Bool)) := (if (decide (i5 < (ax0.length : Int))) = true then (if 0 ≤ i5 ∧ i5 < (ax0.length : Int) then (if 0 ≤ i5 ∧ i5 < (bx1.length : Int) then ((f_foghornref08_Float (gt ax0 i5) (gt bx1 i5)).bind fun q9 => (if (!q9) = true then (some (Sum.inr (Sum.inr false))) else (some (Sum.inl (IntKind.i64.wrap (i5 + (1 : Int))))))) else none) else none) else (some (Sum.inr (Sum.inl ()))))
noncomputable def f_foghornref08_Floats.s1 (ax0 : (List Fl)) (bx1 : (List Fl)) (s : Int) : Option (Int ⊕ (Unit ⊕ Bool)) := f_foghornref08_Floats.s1c ax0 bx1 s
noncomputable def f_foghornref08_Floats (ax0 : (List Fl)) (bx1 : (List Fl)) : Option Bool := (if ((ax0.length : Int) != (bx1.length : Int)) = true then (some false) else ((loop (f_foghornref08_Floats.s1 ax0 bx1) (0 : Int)).bind (fun q11 => sm q11 (fun q12 => (some true)) (fun q13 => (some q13)))))
theorem f_foghornref08_Floats_c {S : Nat → Prop} {w0 w : World} {ow : List Res} (hp : Hp S w0 w ow) (vax0 : Value) (ax0 : (List Fl)) (hax0 : RdS Ek.f64 S w0 vax0 ax0) (vbx1 : Value) (bx1 : (List Fl)) (hbx1 : RdS Ek.f64 S w0 vbx1 bx1) {r : Bool} (h : f_foghornref08_Floats ax0 bx1 = some r) :
    Calls Try.prog 27 #[vax0, vbx1] w (fun e w' => e = .returned (.bool r) ∧ Hp S w0 w' (ow)) := by
  unfold f_foghornref08_Floats at h
  refine enter (n := 27) (args := [vax0, vbx1]) Try.func27 rfl rfl (Nat.le_of_ble_eq_true rfl) fun a hf => ?_
  replace hf : Fr 27 a [(0, vax0), (1, vbx1)] := hf
  refine wp_mono (Q := fun e a w => e = .ret ∧ Fr 27 a [(4, .bool r)] ∧ Hp S w0 w (ow)) ?_ ?_
  rotate_left
  · rintro e a w ⟨rfl, hf, hp⟩
    exact ret1 hf rfl rfl ⟨rfl, hp⟩
  refine wp_seq ?_
  refine wp_reg ?_
  refine st_assign hf rfl rfl (by decide) ?_
  clear hf; intro a ha hf; clear ha
  refine st_nil hf ?_
  refine th_n ?_
  refine wp_seq ?_
  refine wp_seq ?_
  refine wp_reg ?_
  refine st_move hf rfl rfl (by decide) ?_
  clear hf; intro a ha hf; clear ha
  refine st_len (E := Ek.f64) hf (by decide) Try.underlying40 rfl rfl (hax0.sl hp) ?_
  clear hf; intro a ha hf; clear ha
  refine st_move hf rfl rfl (by decide) ?_
  clear hf; intro a ha hf; clear ha
  refine st_len (E := Ek.f64) hf (by decide) Try.underlying40 rfl rfl (hbx1.sl hp) ?_
  clear hf; intro a ha hf; clear ha
  refine st_ineq hf (by decide) rfl rfl rfl ?_
  clear hf; intro a ha hf; clear ha
  refine st_nil hf ?_
  refine th_n ?_
  refine wp_if hf rfl (fun hb => ?_) (fun hb => ?_)
  · replace h := ifT h hb
    refine wp_seq ?_
    refine wp_reg ?_
    refine st_assign hf rfl rfl (by decide) ?_
    clear hf; intro a ha hf; clear ha
    refine st_nil hf ?_
    refine th_n ?_
    refine wp_ret ?_
    refine th_r ?_
    obtain rfl := Option.some.inj h
    exact ⟨rfl, ⟨hf.sub ⟨rfl, trivial⟩, hp⟩⟩
  replace h := ifF h hb
  refine wp_skip ?_
  refine th_n ?_
  refine wp_seq ?_
  refine wp_seq ?_
  refine wp_reg ?_
  refine st_assign hf rfl rfl (by decide) ?_
  clear hf; intro a ha hf; clear ha
  refine st_nil hf ?_
  refine th_n ?_
  refine wp_block ?_
  obtain ⟨q11, hl, h⟩ := bnd h
  refine wp_loop_pure (f := (f_foghornref08_Floats.s1 ax0 bx1)) (s := (0 : Int)) (fun s a w => Fr 27 a [(0, vax0), (1, vbx1), (5, .int .i64 s)] ∧ Hp S w0 w (ow)) (fun q e a w => match q with | (Sum.inl q) => e = .exit 0 ∧ Fr 27 a [] ∧ Hp S w0 w (ow) | (Sum.inr q) => e = .ret ∧ Fr 27 a [(4, .bool q)] ∧ Hp S w0 w (ow)) ?_ hl ⟨hf.sub ⟨rfl, rfl, rfl, trivial⟩, hp⟩ ?_
  · clear hl hf hp
    intro s x a w h hI
    obtain ⟨i5, hs⟩ : ∃ z, z = s := ⟨s, rfl⟩; subst hs
    obtain ⟨hf, hp⟩ : Fr 27 a [(0, vax0), (1, vbx1), (5, .int .i64 i5)] ∧ Hp S w0 w (ow) := hI
    replace h : f_foghornref08_Floats.s1c ax0 bx1 i5 = some x := h
    unfold f_foghornref08_Floats.s1c at h
    refine wp_seq ?_
    refine wp_seq ?_
    refine wp_reg ?_
    refine st_move hf rfl rfl (by decide) ?_
    clear hf; intro a ha hf; clear ha
    refine st_move hf rfl rfl (by decide) ?_
    clear hf; intro a ha hf; clear ha
    refine st_len (E := Ek.f64) hf (by decide) Try.underlying40 rfl rfl (hax0.sl hp) ?_
    clear hf; intro a ha hf; clear ha
    refine st_ilss hf (by decide) rfl rfl rfl ?_
    clear hf; intro a ha hf; clear ha
    refine st_nil hf ?_
    refine th_n ?_
    refine wp_if hf rfl (fun hb => ?_) (fun hb => ?_)
    · replace h := ifT h hb
      refine wp_skip ?_
      refine th_n ?_
      refine wp_seq ?_
      refine wp_block ?_
      refine wp_seq ?_
      obtain ⟨hc1, h⟩ := chk h
      obtain ⟨bb3, y4, hl2⟩ := RdS.pinF (p := i5) hax0 hc1.1 hc1.2
      obtain ⟨hc5, h⟩ := chk h
      obtain ⟨bb7, y8, hl6⟩ := RdS.pinF (p := i5) hbx1 hc5.1 hc5.2
      obtain ⟨q9, hcall10, h⟩ := bnd h
      refine wp_cutN (fun a w => Fr 27 a [(0, vax0), (1, vbx1), (5, .int .i64 i5), (26, .bool (!q9))] ∧ Hp S w0 w (ow)) ?_ ?_
      · have hp := hp.same (Same.drew w)
        refine dr_begin' (fun a w => Fr 27 a [(0, vax0), (1, vbx1), (5, .int .i64 i5), (26, .bool (!q9))] ∧ Hp S w0 w (ow)) (fun w' => ∃ l, Hp S w0 w' l) [] (by kernel_rfl) ?_
        refine dr_take 0 (vax0) rfl (by kernel_rfl) (by kernel_rfl) (by kernel_rfl) (by kernel_rfl) rfl rfl hf (by decide) rfl (fun w hp => ?_) ⟨_, hp⟩ ?_
        · obtain ⟨_, hp⟩ := hp
          refine st_move hf rfl rfl (by decide) ?_
          clear hf; intro a ha hf
          exact st_nil hf (th_n ⟨ha, rfl⟩)
        clear hf; intro a hf
        refine dr_take 1 (.int .i64 i5) rfl (by kernel_rfl) (by kernel_rfl) (by kernel_rfl) (by kernel_rfl) rfl rfl hf (by decide) rfl (fun w hp => ?_) ⟨_, hp⟩ ?_
        · obtain ⟨_, hp⟩ := hp
          refine st_move hf rfl rfl (by decide) ?_
          clear hf; intro a ha hf
          exact st_nil hf (th_n ⟨ha, rfl⟩)
        clear hf; intro a hf
        refine dr_take 2 (eptr vax0 i5 1) rfl (by kernel_rfl) (by kernel_rfl) (by kernel_rfl) (by kernel_rfl) rfl rfl hf (by decide) rfl (fun w hp => ?_) ⟨_, hp⟩ ?_
        · obtain ⟨_, hp⟩ := hp
          refine st_index (E := Ek.f64) hf (by decide) Try.underlying40 elt37 rfl rfl rfl (hax0.sl hp) hc1.1 hc1.2 ?_
          clear hf; intro a ha hf
          exact st_nil hf (th_n ⟨ha, rfl⟩)
        clear hf; intro a hf
        refine dr_take 3 (.float .f64 bb3) rfl (by kernel_rfl) (by kernel_rfl) (by kernel_rfl) (by kernel_rfl) rfl rfl hf (by decide) rfl (fun w hp => ?_) ⟨_, hp⟩ ?_
        · obtain ⟨_, hp⟩ := hp
          refine st_ldP hf (by decide) pl37 rfl rfl (hl2 _ _ hp) ?_
          clear hf; intro a ha hf
          exact st_nil hf (th_n ⟨ha, rfl⟩)
        clear hf; intro a hf
        refine dr_take 4 (vbx1) rfl (by kernel_rfl) (by kernel_rfl) (by kernel_rfl) (by kernel_rfl) rfl rfl hf (by decide) rfl (fun w hp => ?_) ⟨_, hp⟩ ?_
        · obtain ⟨_, hp⟩ := hp
          refine st_move hf rfl rfl (by decide) ?_
          clear hf; intro a ha hf
          exact st_nil hf (th_n ⟨ha, rfl⟩)
        clear hf; intro a hf
        refine dr_take 5 (.int .i64 i5) rfl (by kernel_rfl) (by kernel_rfl) (by kernel_rfl) (by kernel_rfl) rfl rfl hf (by decide) rfl (fun w hp => ?_) ⟨_, hp⟩ ?_
        · obtain ⟨_, hp⟩ := hp
          refine st_move hf rfl rfl (by decide) ?_
          clear hf; intro a ha hf
          exact st_nil hf (th_n ⟨ha, rfl⟩)
        clear hf; intro a hf
        refine dr_take 6 (eptr vbx1 i5 1) rfl (by kernel_rfl) (by kernel_rfl) (by kernel_rfl) (by kernel_rfl) rfl rfl hf (by decide) rfl (fun w hp => ?_) ⟨_, hp⟩ ?_
        · obtain ⟨_, hp⟩ := hp
          refine st_index (E := Ek.f64) hf (by decide) Try.underlying40 elt37 rfl rfl rfl (hbx1.sl hp) hc5.1 hc5.2 ?_
          clear hf; intro a ha hf
          exact st_nil hf (th_n ⟨ha, rfl⟩)
        clear hf; intro a hf
        refine dr_take 7 (.float .f64 bb7) rfl (by kernel_rfl) (by kernel_rfl) (by kernel_rfl) (by kernel_rfl) rfl rfl hf (by decide) rfl (fun w hp => ?_) ⟨_, hp⟩ ?_
        · obtain ⟨_, hp⟩ := hp
          refine st_ldP hf (by decide) pl37 rfl rfl (hl6 _ _ hp) ?_
          clear hf; intro a ha hf
          exact st_nil hf (th_n ⟨ha, rfl⟩)
        clear hf; intro a hf
        refine dr_one 8 rfl (by kernel_rfl) ?_
        refine st_call hf (by decide) Try.func38 rfl rfl rfl rfl rfl (f_foghornref08_Float_c hp _ _ (show Fl.rep bb3 (gt ax0 i5) from y4) _ _ (show Fl.rep bb7 (gt bx1 i5) from y8) hcall10) ?_
        rintro _ w ⟨rfl, hp0⟩
        clear hp; have hp := hp0; clear hp0
        replace hp : Hp _ _ _ (ow) := hp
        refine ⟨_, rfl, ?_⟩
        clear hf; intro a hf
        refine st_nil hf (th_n ⟨fun _ _ => ⟨_, hp⟩, ?_⟩)
        refine dr_take 9 (.bool (!q9)) rfl (by kernel_rfl) (by kernel_rfl) (by kernel_rfl) (by kernel_rfl) rfl rfl hf (by decide) rfl (fun w hp => ?_) ⟨_, hp⟩ ?_
        · obtain ⟨_, hp⟩ := hp
          refine st_not hf (by decide) rfl rfl ?_
          clear hf; intro a ha hf
          exact st_nil hf (th_n ⟨ha, rfl⟩)
        clear hf; intro a hf
        refine dr_end (by kernel_rfl) ?_ _
        exact ⟨hf.sub ⟨rfl, rfl, rfl, rfl, trivial⟩, hp⟩
      rintro a w ⟨hf, hp⟩
      refine th_n ?_
      refine wp_if hf rfl (fun hb => ?_) (fun hb => ?_)
      · replace h := ifT h hb
        refine wp_seq ?_
        refine wp_reg ?_
        refine st_assign hf rfl rfl (by decide) ?_
        clear hf; intro a ha hf; clear ha
        refine st_nil hf ?_
        refine th_n ?_
        refine wp_ret ?_
        refine ib_r ?_
        refine th_r ?_
        obtain rfl := Option.some.inj h
        exact rnd_r (by simp) ⟨rfl, ⟨hf.sub ⟨rfl, trivial⟩, hp⟩⟩
      replace h := ifF h hb
      refine wp_skip ?_
      refine ib_n ?_
      refine th_n ?_
      refine wp_reg ?_
      refine st_move hf rfl rfl (by decide) ?_
      clear hf; intro a ha hf; clear ha
      refine st_iadd hf (by decide) rfl rfl rfl ?_
      clear hf; intro a ha hf; clear ha
      refine st_assign hf rfl rfl (by decide) ?_
      clear hf; intro a ha hf; clear ha
      refine st_nil hf ?_
      obtain rfl := Option.some.inj h
      exact rnd_l ⟨hf.sub ⟨rfl, rfl, rfl, trivial⟩, hp⟩
    replace h := ifF h hb
    refine wp_exit ?_
    refine th_e ?_
    obtain rfl := Option.some.inj h
    exact rnd_r (by simp) ⟨rfl, hf.sub trivial, hp⟩
  clear hl hf hp
  intro e a w hne hO
  rcases q11 with q12 | q13
  · replace h := smL h
    obtain ⟨rfl, hf, hp⟩ := hO
    refine ib_same ?_
    refine th_n ?_
    refine wp_seq ?_
    refine wp_reg ?_
    refine st_assign hf rfl rfl (by decide) ?_
    clear hf; intro a ha hf; clear ha
    refine st_nil hf ?_
    refine th_n ?_
    refine wp_ret ?_
    obtain rfl := Option.some.inj h
    exact ⟨rfl, ⟨hf.sub ⟨rfl, trivial⟩, hp⟩⟩
  replace h := smR h
  obtain ⟨rfl, hf, hp⟩ := hO
  refine ib_r ?_
  refine th_r ?_
  obtain rfl := Option.some.inj h
  exact ⟨rfl, ⟨hf.sub ⟨rfl, trivial⟩, hp⟩⟩

noncomputable def f_foghornlaw08_awake  : Option Bool := ((f_mix_Up ([(Fl.bits 4607182418800017408, Fl.bits 0), (Fl.bits 4607182418800017408, Fl.bits 0), (Fl.bits 4607182418800017408, Fl.bits 0), (Fl.bits 4607182418800017408, Fl.bits 0)]) (1 : Int)).bind fun q3 => ((f_mix_Line ([(Fl.bits 4607182418800017408, Fl.bits 4611686018427387904), (Fl.bits 4613937818241073152, Fl.bits 4616189618054758400)])).bind fun q14 => ((if ((q3.2 == (0 : Int)) && (q14.2 == (0 : Int))) = true then ((f_foghornref08_Same q3.1 ([(Fl.bits 4607182418800017408, Fl.bits 0), (Fl.bits 0, Fl.bits 4607182418800017408), (Fl.bits 13830554455654793216, Fl.bits 0), (Fl.bits 0, Fl.bits 13830554455654793216)])).bind fun q30 => (some q30)) else (some false)).bind fun z27 => ((if z27 = true then ((f_foghornref08_Floats q14.1 ([(Fl.bits 4607182418800017408), (Fl.bits 4611686018427387904), (Fl.bits 13839561654909534208), (Fl.bits 4613937818241073152)])).bind fun q47 => (some q47)) else (some false)).bind fun z44 => (some z44)))))
theorem f_foghornlaw08_awake_c {S : Nat → Prop} {w0 w : World} {ow : List Res} (hp : Hp S w0 w ow) {r : Bool} (h : f_foghornlaw08_awake = some r) :
    Calls Try.prog 31 #[] w (fun e w' => e = .returned (.bool r) ∧ Hp S w0 w' (ow)) := by
  unfold f_foghornlaw08_awake at h
  refine enter (n := 31) (args := []) Try.func31 rfl rfl (Nat.le_of_ble_eq_true rfl) fun a hf => ?_
  replace hf : Fr 31 a [] := hf
  refine wp_mono (Q := fun e a w => e = .ret ∧ Fr 31 a [(0, .bool r)] ∧ Hp S w0 w (ow)) ?_ ?_
  rotate_left
  · rintro e a w ⟨rfl, hf, hp⟩
    exact ret1 hf rfl rfl ⟨rfl, hp⟩
  refine wp_seq ?_
  refine wp_reg ?_
  refine st_assign hf rfl rfl (by decide) ?_
  clear hf; intro a ha hf; clear ha
  refine st_nil hf ?_
  refine th_n ?_
  refine wp_seq ?_
  refine wp_reg ?_
  refine st_build (E := Ek.c128) (xs := [(Fl.bits 4607182418800017408, Fl.bits 0), (Fl.bits 4607182418800017408, Fl.bits 0), (Fl.bits 4607182418800017408, Fl.bits 0), (Fl.bits 4607182418800017408, Fl.bits 0)]) hf (by decide) elt36 Try.underlying24 hp (vals := #[(0, .complex .f64 4607182418800017408 0), (1, .complex .f64 4607182418800017408 0), (2, .complex .f64 4607182418800017408 0), (3, .complex .f64 4607182418800017408 0)]) (cells := #[.complex .f64 4607182418800017408 0, .complex .f64 4607182418800017408 0, .complex .f64 4607182418800017408 0, .complex .f64 4607182418800017408 0]) rfl (by simp [hf.ev (x := (Operand.const (.complex .f64 4607182418800017408 0))) rfl, hf.ev (x := (Operand.const (.complex .f64 4607182418800017408 0))) rfl, hf.ev (x := (Operand.const (.complex .f64 4607182418800017408 0))) rfl, hf.ev (x := (Operand.const (.complex .f64 4607182418800017408 0))) rfl]) (by decide) (by decide) (z := .complex .f64 0 0) (by kernel_rfl) (by kernel_rfl) rfl (reps_cons (cs := [.complex .f64 4607182418800017408 0]) (show Ek.c128.rep [.complex .f64 4607182418800017408 0] (Fl.bits 4607182418800017408, Fl.bits 0) from ⟨_, _, rfl, rfl, rfl⟩) (reps_cons (cs := [.complex .f64 4607182418800017408 0]) (show Ek.c128.rep [.complex .f64 4607182418800017408 0] (Fl.bits 4607182418800017408, Fl.bits 0) from ⟨_, _, rfl, rfl, rfl⟩) (reps_cons (cs := [.complex .f64 4607182418800017408 0]) (show Ek.c128.rep [.complex .f64 4607182418800017408 0] (Fl.bits 4607182418800017408, Fl.bits 0) from ⟨_, _, rfl, rfl, rfl⟩) (reps_cons (cs := [.complex .f64 4607182418800017408 0]) (show Ek.c128.rep [.complex .f64 4607182418800017408 0] (Fl.bits 4607182418800017408, Fl.bits 0) from ⟨_, _, rfl, rfl, rfl⟩) (reps_nil _))))) ?_
  clear hf; intro a w v1 hf hp0; clear hp; have hp := hp0; clear hp0
  replace hp : Hp _ _ _ (Res.sl Ek.c128 36 v1 ([(Fl.bits 4607182418800017408, Fl.bits 0), (Fl.bits 4607182418800017408, Fl.bits 0), (Fl.bits 4607182418800017408, Fl.bits 0), (Fl.bits 4607182418800017408, Fl.bits 0)]) :: ow) := hp
  obtain ⟨q3, hcall4, h⟩ := bnd h
  obtain ⟨S5, hp6, rd7, up8, bk9⟩ := Hp.lendS hp (i := 0) rfl
  refine st_call hf (by decide) Try.func17 rfl rfl rfl rfl rfl (f_mix_Up_c hp6 _ _ rd7 _ hcall4) ?_
  rintro _ w ⟨v10, rfl, hp0⟩
  have hp0 := bk9 _ _ hp0
  clear hp; have hp := hp0; clear hp0
  replace hp : Hp _ _ _ (Res.sl Ek.c128 36 v1 ([(Fl.bits 4607182418800017408, Fl.bits 0), (Fl.bits 4607182418800017408, Fl.bits 0), (Fl.bits 4607182418800017408, Fl.bits 0), (Fl.bits 4607182418800017408, Fl.bits 0)]) :: Res.sl Ek.c128 36 v10 q3.1 :: ow) := hp
  refine ⟨_, rfl, ?_⟩
  clear hf; intro a hf
  refine st_move hf rfl rfl (by decide) ?_
  clear hf; intro a ha hf; clear ha
  refine st_extract hf (by decide) rfl rfl rfl ?_
  clear hf; intro a ha hf; clear ha
  refine st_extract hf (by decide) rfl rfl rfl ?_
  clear hf; intro a ha hf; clear ha
  refine st_assign hf rfl rfl (by decide) ?_
  clear hf; intro a ha hf; clear ha
  refine st_assign hf rfl rfl (by decide) ?_
  clear hf; intro a ha hf; clear ha
  refine st_nil hf ?_
  refine th_n ?_
  refine wp_seq ?_
  refine wp_reg ?_
  refine st_build (E := Ek.c128) (xs := [(Fl.bits 4607182418800017408, Fl.bits 4611686018427387904), (Fl.bits 4613937818241073152, Fl.bits 4616189618054758400)]) hf (by decide) elt36 Try.underlying24 hp (vals := #[(0, .complex .f64 4607182418800017408 4611686018427387904), (1, .complex .f64 4613937818241073152 4616189618054758400)]) (cells := #[.complex .f64 4607182418800017408 4611686018427387904, .complex .f64 4613937818241073152 4616189618054758400]) rfl (by simp [hf.ev (x := (Operand.const (.complex .f64 4607182418800017408 4611686018427387904))) rfl, hf.ev (x := (Operand.const (.complex .f64 4613937818241073152 4616189618054758400))) rfl]) (by decide) (by decide) (z := .complex .f64 0 0) (by kernel_rfl) (by kernel_rfl) rfl (reps_cons (cs := [.complex .f64 4607182418800017408 4611686018427387904]) (show Ek.c128.rep [.complex .f64 4607182418800017408 4611686018427387904] (Fl.bits 4607182418800017408, Fl.bits 4611686018427387904) from ⟨_, _, rfl, rfl, rfl⟩) (reps_cons (cs := [.complex .f64 4613937818241073152 4616189618054758400]) (show Ek.c128.rep [.complex .f64 4613937818241073152 4616189618054758400] (Fl.bits 4613937818241073152, Fl.bits 4616189618054758400) from ⟨_, _, rfl, rfl, rfl⟩) (reps_nil _))) ?_
  clear hf; intro a w v12 hf hp0; clear hp; have hp := hp0; clear hp0
  replace hp : Hp _ _ _ (Res.sl Ek.c128 36 v12 ([(Fl.bits 4607182418800017408, Fl.bits 4611686018427387904), (Fl.bits 4613937818241073152, Fl.bits 4616189618054758400)]) :: Res.sl Ek.c128 36 v1 ([(Fl.bits 4607182418800017408, Fl.bits 0), (Fl.bits 4607182418800017408, Fl.bits 0), (Fl.bits 4607182418800017408, Fl.bits 0), (Fl.bits 4607182418800017408, Fl.bits 0)]) :: Res.sl Ek.c128 36 v10 q3.1 :: ow) := hp
  obtain ⟨q14, hcall15, h⟩ := bnd h
  obtain ⟨S16, hp17, rd18, up19, bk20⟩ := Hp.lendS hp (i := 0) rfl
  refine st_call hf (by decide) Try.func26 rfl rfl rfl rfl rfl (f_mix_Line_c hp17 _ _ rd18 hcall15) ?_
  rintro _ w ⟨v21, rfl, hp0⟩
  have hp0 := bk20 _ _ hp0
  clear hp; have hp := hp0; clear hp0
  replace hp : Hp _ _ _ (Res.sl Ek.c128 36 v12 ([(Fl.bits 4607182418800017408, Fl.bits 4611686018427387904), (Fl.bits 4613937818241073152, Fl.bits 4616189618054758400)]) :: Res.sl Ek.f64 37 v21 q14.1 :: Res.sl Ek.c128 36 v1 ([(Fl.bits 4607182418800017408, Fl.bits 0), (Fl.bits 4607182418800017408, Fl.bits 0), (Fl.bits 4607182418800017408, Fl.bits 0), (Fl.bits 4607182418800017408, Fl.bits 0)]) :: Res.sl Ek.c128 36 v10 q3.1 :: ow) := hp
  refine ⟨_, rfl, ?_⟩
  clear hf; intro a hf
  refine st_move hf rfl rfl (by decide) ?_
  clear hf; intro a ha hf; clear ha
  refine st_extract hf (by decide) rfl rfl rfl ?_
  clear hf; intro a ha hf; clear ha
  refine st_extract hf (by decide) rfl rfl rfl ?_
  clear hf; intro a ha hf; clear ha
  refine st_assign hf rfl rfl (by decide) ?_
  clear hf; intro a ha hf; clear ha
  refine st_assign hf rfl rfl (by decide) ?_
  clear hf; intro a ha hf; clear ha
  refine st_nil hf ?_
  refine th_n ?_
  refine wp_seq ?_
  refine wp_reg ?_
  refine st_move hf rfl rfl (by decide) ?_
  clear hf; intro a ha hf; clear ha
  refine st_ieql hf (by decide) rfl rfl rfl ?_
  clear hf; intro a ha hf; clear ha
  refine st_move hf rfl rfl (by decide) ?_
  clear hf; intro a ha hf; clear ha
  refine wpList_cut 3 (fun a w => Fr 31 a [(1, v10), (3, v21), (20, .bool ((q3.2 == (0 : Int)) && (q14.2 == (0 : Int))))] ∧ Hp S w0 w (Res.sl Ek.c128 36 v12 ([(Fl.bits 4607182418800017408, Fl.bits 4611686018427387904), (Fl.bits 4613937818241073152, Fl.bits 4616189618054758400)]) :: Res.sl Ek.f64 37 v21 q14.1 :: Res.sl Ek.c128 36 v1 ([(Fl.bits 4607182418800017408, Fl.bits 0), (Fl.bits 4607182418800017408, Fl.bits 0), (Fl.bits 4607182418800017408, Fl.bits 0), (Fl.bits 4607182418800017408, Fl.bits 0)]) :: Res.sl Ek.c128 36 v10 q3.1 :: ow)) ?_ ?_
  · rcases Bool.eq_false_or_eq_true (q3.2 == (0 : Int)) with hb24 | hb24
    · skip
      refine st_move hf (wantY hf rfl rfl hb24) rfl (by decide) ?_
      clear hf; intro a ha hf; clear ha
      refine st_ieql hf (by decide) (wantY hf rfl rfl hb24) rfl rfl ?_
      clear hf; intro a ha hf; clear ha
      refine st_pick (v := .bool (q14.2 == (0 : Int))) hf rfl rfl (fun hb' => ?_) (fun hb' => ?_) (by decide) ?_
      · rfl
      · exact absurd (hb24.symm.trans hb') (by decide)
      clear hf; intro a ha hf; clear ha
      refine st_nil hf (th_n ?_)
      exact ⟨hf.sub ⟨rfl, rfl, (by rw [hb24]; rfl), trivial⟩, hp⟩
    refine st_skip hf (wantN hf rfl rfl hb24) rfl (by decide) ?_ rfl
    clear hf; intro a hf
    refine st_skip hf (wantN hf rfl rfl hb24) rfl (by decide) ?_ rfl
    clear hf; intro a hf
    refine st_pick (v := .bool false) hf rfl rfl (fun hb' => ?_) (fun hb' => ?_) (by decide) ?_
    · exact absurd (hb24.symm.trans hb') (by decide)
    · rfl
    clear hf; intro a ha hf; clear ha
    refine st_nil hf (th_n ?_)
    exact ⟨hf.sub ⟨rfl, rfl, (by rw [hb24]; rfl), trivial⟩, hp⟩
  rintro a w ⟨hf, hp⟩
  refine st_move hf rfl rfl (by decide) ?_
  clear hf; intro a ha hf; clear ha
  obtain ⟨z27, hz25, h⟩ := bnd h
  refine wpList_cut 4 (fun a w => Fr 31 a [(3, v21), (25, .bool z27)] ∧ Hp S w0 w (Res.sl Ek.c128 36 v12 ([(Fl.bits 4607182418800017408, Fl.bits 4611686018427387904), (Fl.bits 4613937818241073152, Fl.bits 4616189618054758400)]) :: Res.sl Ek.f64 37 v21 q14.1 :: Res.sl Ek.c128 36 v1 ([(Fl.bits 4607182418800017408, Fl.bits 0), (Fl.bits 4607182418800017408, Fl.bits 0), (Fl.bits 4607182418800017408, Fl.bits 0), (Fl.bits 4607182418800017408, Fl.bits 0)]) :: Res.sl Ek.c128 36 v10 q3.1 :: ow)) ?_ ?_
  · rcases Bool.eq_false_or_eq_true ((q3.2 == (0 : Int)) && (q14.2 == (0 : Int))) with hb26 | hb26
    · skip
      replace hz25 := ifT hz25 hb26
      refine st_move hf (wantY hf rfl rfl hb26) rfl (by decide) ?_
      clear hf; intro a ha hf; clear ha
      refine st_build (E := Ek.c128) (xs := [(Fl.bits 4607182418800017408, Fl.bits 0), (Fl.bits 0, Fl.bits 4607182418800017408), (Fl.bits 13830554455654793216, Fl.bits 0), (Fl.bits 0, Fl.bits 13830554455654793216)]) hf (by decide) elt36 Try.underlying24 hp (vals := #[(0, .complex .f64 4607182418800017408 0), (1, .complex .f64 0 4607182418800017408), (2, .complex .f64 13830554455654793216 0), (3, .complex .f64 0 13830554455654793216)]) (cells := #[.complex .f64 4607182418800017408 0, .complex .f64 0 4607182418800017408, .complex .f64 13830554455654793216 0, .complex .f64 0 13830554455654793216]) (wantY hf rfl rfl hb26) (by simp [hf.ev (x := (Operand.const (.complex .f64 4607182418800017408 0))) rfl, hf.ev (x := (Operand.const (.complex .f64 0 4607182418800017408))) rfl, hf.ev (x := (Operand.const (.complex .f64 13830554455654793216 0))) rfl, hf.ev (x := (Operand.const (.complex .f64 0 13830554455654793216))) rfl]) (by decide) (by decide) (z := .complex .f64 0 0) (by kernel_rfl) (by kernel_rfl) rfl (reps_cons (cs := [.complex .f64 4607182418800017408 0]) (show Ek.c128.rep [.complex .f64 4607182418800017408 0] (Fl.bits 4607182418800017408, Fl.bits 0) from ⟨_, _, rfl, rfl, rfl⟩) (reps_cons (cs := [.complex .f64 0 4607182418800017408]) (show Ek.c128.rep [.complex .f64 0 4607182418800017408] (Fl.bits 0, Fl.bits 4607182418800017408) from ⟨_, _, rfl, rfl, rfl⟩) (reps_cons (cs := [.complex .f64 13830554455654793216 0]) (show Ek.c128.rep [.complex .f64 13830554455654793216 0] (Fl.bits 13830554455654793216, Fl.bits 0) from ⟨_, _, rfl, rfl, rfl⟩) (reps_cons (cs := [.complex .f64 0 13830554455654793216]) (show Ek.c128.rep [.complex .f64 0 13830554455654793216] (Fl.bits 0, Fl.bits 13830554455654793216) from ⟨_, _, rfl, rfl, rfl⟩) (reps_nil _))))) ?_
      clear hf; intro a w v28 hf hp0; clear hp; have hp := hp0; clear hp0
      replace hp : Hp _ _ _ (Res.sl Ek.c128 36 v28 ([(Fl.bits 4607182418800017408, Fl.bits 0), (Fl.bits 0, Fl.bits 4607182418800017408), (Fl.bits 13830554455654793216, Fl.bits 0), (Fl.bits 0, Fl.bits 13830554455654793216)]) :: Res.sl Ek.c128 36 v12 ([(Fl.bits 4607182418800017408, Fl.bits 4611686018427387904), (Fl.bits 4613937818241073152, Fl.bits 4616189618054758400)]) :: Res.sl Ek.f64 37 v21 q14.1 :: Res.sl Ek.c128 36 v1 ([(Fl.bits 4607182418800017408, Fl.bits 0), (Fl.bits 4607182418800017408, Fl.bits 0), (Fl.bits 4607182418800017408, Fl.bits 0), (Fl.bits 4607182418800017408, Fl.bits 0)]) :: Res.sl Ek.c128 36 v10 q3.1 :: ow) := hp
      obtain ⟨q30, hcall31, hz25⟩ := bnd hz25
      obtain ⟨S32, hp33, rd34, up35, bk36⟩ := Hp.lendS hp (i := 4) rfl
      obtain ⟨S37, hp38, rd39, up40, bk41⟩ := Hp.lendS hp33 (i := 0) rfl
      refine st_call hf (by decide) Try.func33 rfl rfl (wantY hf rfl rfl hb26) rfl rfl (f_foghornref08_Same_c hp38 _ _ ((rd34.now hp33).mono up40) _ _ rd39 hcall31) ?_
      rintro _ w ⟨rfl, hp0⟩
      have hp0 := bk41 _ _ hp0
      have hp0 := bk36 _ _ hp0
      clear hp; have hp := hp0; clear hp0
      replace hp : Hp _ _ _ (Res.sl Ek.c128 36 v10 q3.1 :: Res.sl Ek.c128 36 v28 ([(Fl.bits 4607182418800017408, Fl.bits 0), (Fl.bits 0, Fl.bits 4607182418800017408), (Fl.bits 13830554455654793216, Fl.bits 0), (Fl.bits 0, Fl.bits 13830554455654793216)]) :: Res.sl Ek.c128 36 v12 ([(Fl.bits 4607182418800017408, Fl.bits 4611686018427387904), (Fl.bits 4613937818241073152, Fl.bits 4616189618054758400)]) :: Res.sl Ek.f64 37 v21 q14.1 :: Res.sl Ek.c128 36 v1 ([(Fl.bits 4607182418800017408, Fl.bits 0), (Fl.bits 4607182418800017408, Fl.bits 0), (Fl.bits 4607182418800017408, Fl.bits 0), (Fl.bits 4607182418800017408, Fl.bits 0)]) :: ow) := hp
      refine ⟨_, rfl, ?_⟩
      clear hf; intro a hf
      obtain rfl := Option.some.inj hz25
      refine st_pick (v := .bool q30) hf rfl rfl (fun hb' => ?_) (fun hb' => ?_) (by decide) ?_
      · rfl
      · exact absurd (hb26.symm.trans hb') (by decide)
      clear hf; intro a ha hf; clear ha
      refine st_nil hf (th_n ?_)
      have hp : Hp _ _ _ (Res.sl Ek.c128 36 v12 ([(Fl.bits 4607182418800017408, Fl.bits 4611686018427387904), (Fl.bits 4613937818241073152, Fl.bits 4616189618054758400)]) :: Res.sl Ek.f64 37 v21 q14.1 :: Res.sl Ek.c128 36 v1 ([(Fl.bits 4607182418800017408, Fl.bits 0), (Fl.bits 4607182418800017408, Fl.bits 0), (Fl.bits 4607182418800017408, Fl.bits 0), (Fl.bits 4607182418800017408, Fl.bits 0)]) :: Res.sl Ek.c128 36 v10 q3.1 :: ow) := Hp.sel (pre := [Res.sl Ek.c128 36 v10 q3.1, Res.sl Ek.c128 36 v28 ([(Fl.bits 4607182418800017408, Fl.bits 0), (Fl.bits 0, Fl.bits 4607182418800017408), (Fl.bits 13830554455654793216, Fl.bits 0), (Fl.bits 0, Fl.bits 13830554455654793216)]), Res.sl Ek.c128 36 v12 ([(Fl.bits 4607182418800017408, Fl.bits 4611686018427387904), (Fl.bits 4613937818241073152, Fl.bits 4616189618054758400)]), Res.sl Ek.f64 37 v21 q14.1, Res.sl Ek.c128 36 v1 ([(Fl.bits 4607182418800017408, Fl.bits 0), (Fl.bits 4607182418800017408, Fl.bits 0), (Fl.bits 4607182418800017408, Fl.bits 0), (Fl.bits 4607182418800017408, Fl.bits 0)])]) (tail := ow) (rs' := [Res.sl Ek.c128 36 v12 ([(Fl.bits 4607182418800017408, Fl.bits 4611686018427387904), (Fl.bits 4613937818241073152, Fl.bits 4616189618054758400)]), Res.sl Ek.f64 37 v21 q14.1, Res.sl Ek.c128 36 v1 ([(Fl.bits 4607182418800017408, Fl.bits 0), (Fl.bits 4607182418800017408, Fl.bits 0), (Fl.bits 4607182418800017408, Fl.bits 0), (Fl.bits 4607182418800017408, Fl.bits 0)]), Res.sl Ek.c128 36 v10 q3.1]) hp [2, 3, 4, 0] (by decide) (by simp) rfl
      exact ⟨hf.sub ⟨rfl, rfl, trivial⟩, hp⟩
    replace hz25 := ifF hz25 hb26
    refine st_skip hf (wantN hf rfl rfl hb26) rfl (by decide) ?_ rfl
    clear hf; intro a hf
    refine st_skip hf (wantN hf rfl rfl hb26) rfl (by decide) ?_ rfl
    clear hf; intro a hf
    refine st_skip hf (wantN hf rfl rfl hb26) rfl (by decide) ?_ rfl
    clear hf; intro a hf
    obtain rfl := Option.some.inj hz25
    refine st_pick (v := .bool false) hf rfl rfl (fun hb' => ?_) (fun hb' => ?_) (by decide) ?_
    · exact absurd (hb26.symm.trans hb') (by decide)
    · rfl
    clear hf; intro a ha hf; clear ha
    refine st_nil hf (th_n ?_)
    exact ⟨hf.sub ⟨rfl, rfl, trivial⟩, hp⟩
  rintro a w ⟨hf, hp⟩
  refine st_move hf rfl rfl (by decide) ?_
  clear hf; intro a ha hf; clear ha
  obtain ⟨z44, hz42, h⟩ := bnd h
  refine wpList_cut 4 (fun a w => Fr 31 a [(30, .bool z44)] ∧ Hp S w0 w (Res.sl Ek.c128 36 v12 ([(Fl.bits 4607182418800017408, Fl.bits 4611686018427387904), (Fl.bits 4613937818241073152, Fl.bits 4616189618054758400)]) :: Res.sl Ek.f64 37 v21 q14.1 :: Res.sl Ek.c128 36 v1 ([(Fl.bits 4607182418800017408, Fl.bits 0), (Fl.bits 4607182418800017408, Fl.bits 0), (Fl.bits 4607182418800017408, Fl.bits 0), (Fl.bits 4607182418800017408, Fl.bits 0)]) :: Res.sl Ek.c128 36 v10 q3.1 :: ow)) ?_ ?_
  · rcases Bool.eq_false_or_eq_true z27 with hb43 | hb43
    · skip
      replace hz42 := ifT hz42 hb43
      refine st_move hf (wantY hf rfl rfl hb43) rfl (by decide) ?_
      clear hf; intro a ha hf; clear ha
      refine st_build (E := Ek.f64) (xs := [(Fl.bits 4607182418800017408), (Fl.bits 4611686018427387904), (Fl.bits 13839561654909534208), (Fl.bits 4613937818241073152)]) hf (by decide) elt37 Try.underlying40 hp (vals := #[(0, .float .f64 4607182418800017408), (1, .float .f64 4611686018427387904), (2, .float .f64 13839561654909534208), (3, .float .f64 4613937818241073152)]) (cells := #[.float .f64 4607182418800017408, .float .f64 4611686018427387904, .float .f64 13839561654909534208, .float .f64 4613937818241073152]) (wantY hf rfl rfl hb43) (by simp [hf.ev (x := (Operand.const (.float .f64 4607182418800017408))) rfl, hf.ev (x := (Operand.const (.float .f64 4611686018427387904))) rfl, hf.ev (x := (Operand.const (.float .f64 13839561654909534208))) rfl, hf.ev (x := (Operand.const (.float .f64 4613937818241073152))) rfl]) (by decide) (by decide) (z := .float .f64 0) (by kernel_rfl) (by kernel_rfl) rfl (reps_cons (cs := [.float .f64 4607182418800017408]) (show Ek.f64.rep [.float .f64 4607182418800017408] (Fl.bits 4607182418800017408) from ⟨_, rfl, rfl⟩) (reps_cons (cs := [.float .f64 4611686018427387904]) (show Ek.f64.rep [.float .f64 4611686018427387904] (Fl.bits 4611686018427387904) from ⟨_, rfl, rfl⟩) (reps_cons (cs := [.float .f64 13839561654909534208]) (show Ek.f64.rep [.float .f64 13839561654909534208] (Fl.bits 13839561654909534208) from ⟨_, rfl, rfl⟩) (reps_cons (cs := [.float .f64 4613937818241073152]) (show Ek.f64.rep [.float .f64 4613937818241073152] (Fl.bits 4613937818241073152) from ⟨_, rfl, rfl⟩) (reps_nil _))))) ?_
      clear hf; intro a w v45 hf hp0; clear hp; have hp := hp0; clear hp0
      replace hp : Hp _ _ _ (Res.sl Ek.f64 37 v45 ([(Fl.bits 4607182418800017408), (Fl.bits 4611686018427387904), (Fl.bits 13839561654909534208), (Fl.bits 4613937818241073152)]) :: Res.sl Ek.c128 36 v12 ([(Fl.bits 4607182418800017408, Fl.bits 4611686018427387904), (Fl.bits 4613937818241073152, Fl.bits 4616189618054758400)]) :: Res.sl Ek.f64 37 v21 q14.1 :: Res.sl Ek.c128 36 v1 ([(Fl.bits 4607182418800017408, Fl.bits 0), (Fl.bits 4607182418800017408, Fl.bits 0), (Fl.bits 4607182418800017408, Fl.bits 0), (Fl.bits 4607182418800017408, Fl.bits 0)]) :: Res.sl Ek.c128 36 v10 q3.1 :: ow) := hp
      obtain ⟨q47, hcall48, hz42⟩ := bnd hz42
      obtain ⟨S49, hp50, rd51, up52, bk53⟩ := Hp.lendS hp (i := 2) rfl
      obtain ⟨S54, hp55, rd56, up57, bk58⟩ := Hp.lendS hp50 (i := 0) rfl
      refine st_call hf (by decide) Try.func27 rfl rfl (wantY hf rfl rfl hb43) rfl rfl (f_foghornref08_Floats_c hp55 _ _ ((rd51.now hp50).mono up57) _ _ rd56 hcall48) ?_
      rintro _ w ⟨rfl, hp0⟩
      have hp0 := bk58 _ _ hp0
      have hp0 := bk53 _ _ hp0
      clear hp; have hp := hp0; clear hp0
      replace hp : Hp _ _ _ (Res.sl Ek.f64 37 v21 q14.1 :: Res.sl Ek.f64 37 v45 ([(Fl.bits 4607182418800017408), (Fl.bits 4611686018427387904), (Fl.bits 13839561654909534208), (Fl.bits 4613937818241073152)]) :: Res.sl Ek.c128 36 v12 ([(Fl.bits 4607182418800017408, Fl.bits 4611686018427387904), (Fl.bits 4613937818241073152, Fl.bits 4616189618054758400)]) :: Res.sl Ek.c128 36 v1 ([(Fl.bits 4607182418800017408, Fl.bits 0), (Fl.bits 4607182418800017408, Fl.bits 0), (Fl.bits 4607182418800017408, Fl.bits 0), (Fl.bits 4607182418800017408, Fl.bits 0)]) :: Res.sl Ek.c128 36 v10 q3.1 :: ow) := hp
      refine ⟨_, rfl, ?_⟩
      clear hf; intro a hf
      obtain rfl := Option.some.inj hz42
      refine st_pick (v := .bool q47) hf rfl rfl (fun hb' => ?_) (fun hb' => ?_) (by decide) ?_
      · rfl
      · exact absurd (hb43.symm.trans hb') (by decide)
      clear hf; intro a ha hf; clear ha
      refine st_nil hf (th_n ?_)
      have hp : Hp _ _ _ (Res.sl Ek.c128 36 v12 ([(Fl.bits 4607182418800017408, Fl.bits 4611686018427387904), (Fl.bits 4613937818241073152, Fl.bits 4616189618054758400)]) :: Res.sl Ek.f64 37 v21 q14.1 :: Res.sl Ek.c128 36 v1 ([(Fl.bits 4607182418800017408, Fl.bits 0), (Fl.bits 4607182418800017408, Fl.bits 0), (Fl.bits 4607182418800017408, Fl.bits 0), (Fl.bits 4607182418800017408, Fl.bits 0)]) :: Res.sl Ek.c128 36 v10 q3.1 :: ow) := Hp.sel (pre := [Res.sl Ek.f64 37 v21 q14.1, Res.sl Ek.f64 37 v45 ([(Fl.bits 4607182418800017408), (Fl.bits 4611686018427387904), (Fl.bits 13839561654909534208), (Fl.bits 4613937818241073152)]), Res.sl Ek.c128 36 v12 ([(Fl.bits 4607182418800017408, Fl.bits 4611686018427387904), (Fl.bits 4613937818241073152, Fl.bits 4616189618054758400)]), Res.sl Ek.c128 36 v1 ([(Fl.bits 4607182418800017408, Fl.bits 0), (Fl.bits 4607182418800017408, Fl.bits 0), (Fl.bits 4607182418800017408, Fl.bits 0), (Fl.bits 4607182418800017408, Fl.bits 0)]), Res.sl Ek.c128 36 v10 q3.1]) (tail := ow) (rs' := [Res.sl Ek.c128 36 v12 ([(Fl.bits 4607182418800017408, Fl.bits 4611686018427387904), (Fl.bits 4613937818241073152, Fl.bits 4616189618054758400)]), Res.sl Ek.f64 37 v21 q14.1, Res.sl Ek.c128 36 v1 ([(Fl.bits 4607182418800017408, Fl.bits 0), (Fl.bits 4607182418800017408, Fl.bits 0), (Fl.bits 4607182418800017408, Fl.bits 0), (Fl.bits 4607182418800017408, Fl.bits 0)]), Res.sl Ek.c128 36 v10 q3.1]) hp [2, 0, 3, 4] (by decide) (by simp) rfl
      exact ⟨hf.sub ⟨rfl, trivial⟩, hp⟩
    replace hz42 := ifF hz42 hb43
    refine st_skip hf (wantN hf rfl rfl hb43) rfl (by decide) ?_ rfl
    clear hf; intro a hf
    refine st_skip hf (wantN hf rfl rfl hb43) rfl (by decide) ?_ rfl
    clear hf; intro a hf
    refine st_skip hf (wantN hf rfl rfl hb43) rfl (by decide) ?_ rfl
    clear hf; intro a hf
    obtain rfl := Option.some.inj hz42
    refine st_pick (v := .bool false) hf rfl rfl (fun hb' => ?_) (fun hb' => ?_) (by decide) ?_
    · exact absurd (hb43.symm.trans hb') (by decide)
    · rfl
    clear hf; intro a ha hf; clear ha
    refine st_nil hf (th_n ?_)
    exact ⟨hf.sub ⟨rfl, trivial⟩, hp⟩
  rintro a w ⟨hf, hp⟩
  refine st_assign hf rfl rfl (by decide) ?_
  clear hf; intro a ha hf; clear ha
  refine st_nil hf ?_
  refine th_n ?_
  refine wp_ret ?_
  obtain rfl := Option.some.inj h
  have hp : Hp _ _ _ (ow) := Hp.sel (pre := [Res.sl Ek.c128 36 v12 ([(Fl.bits 4607182418800017408, Fl.bits 4611686018427387904), (Fl.bits 4613937818241073152, Fl.bits 4616189618054758400)]), Res.sl Ek.f64 37 v21 q14.1, Res.sl Ek.c128 36 v1 ([(Fl.bits 4607182418800017408, Fl.bits 0), (Fl.bits 4607182418800017408, Fl.bits 0), (Fl.bits 4607182418800017408, Fl.bits 0), (Fl.bits 4607182418800017408, Fl.bits 0)]), Res.sl Ek.c128 36 v10 q3.1]) (tail := ow) (rs' := []) hp [] (by decide) (by simp) rfl
  exact ⟨rfl, ⟨hf.sub ⟨rfl, trivial⟩, hp⟩⟩

noncomputable def f_foghornlaw08_whole.s1c (l0 : (List Int)) (out3 : (List (Fl × Fl))) (i4 : Int) : Option (((List (Fl × Fl)) × Int) ⊕ (List (Fl × Fl))) := (if (decide ((IntKind.i64.wrap (i4 + (1 : Int))) < (l0.length : Int))) = true then (if 0 ≤ i4 ∧ i4 < (l0.length : Int) then ((farithS .sub (fofi (gt l0 i4)) (Fl.bits 4674736413210574848)).bind fun q6 => (if 0 ≤ (IntKind.i64.wrap (i4 + (1 : Int))) ∧ (IntKind.i64.wrap (i4 + (1 : Int))) < (l0.length : Int) then ((farithS .sub (fofi (gt l0 (IntKind.i64.wrap (i4 + (1 : Int))))) (Fl.bits 4674736413210574848)).bind fun q9 => (if (out3.length + ([(q6, q9)]).length) * 16 ≤ 140737488355328 then (some (Sum.inl ((out3 ++ [(q6, q9)]), (IntKind.i64.wrap (i4 + (2 : Int)))))) else none)) else none)) else none) else (some (Sum.inr out3)))
noncomputable def f_foghornlaw08_whole.s1 (l0 : (List Int)) (s : ((List (Fl × Fl)) × Int)) : Option (((List (Fl × Fl)) × Int) ⊕ (List (Fl × Fl))) := f_foghornlaw08_whole.s1c l0 s.1 s.2
noncomputable def f_foghornlaw08_whole (l0 : (List Int)) : Option (List (Fl × Fl)) := ((loop (f_foghornlaw08_whole.s1 l0) ([], (0 : Int))).bind (fun q15 => (some q15)))
theorem f_foghornlaw08_whole_c {S : Nat → Prop} {w0 w : World} {ow : List Res} (hp : Hp S w0 w ow) (vl0 : Value) (l0 : (List Int)) (hl0 : RdS (Ek.int .u16) S w0 vl0 l0) {r : (List (Fl × Fl))} (h : f_foghornlaw08_whole l0 = some r) :
    Calls Try.prog 32 #[vl0] w (fun e w' => ∃ (u0 : Value), e = .returned (u0) ∧ Hp S w0 w' (Res.sl Ek.c128 36 u0 r :: ow)) := by
  unfold f_foghornlaw08_whole at h
  refine enter (n := 30) (args := [vl0]) Try.func32 rfl rfl (Nat.le_of_ble_eq_true rfl) fun a hf => ?_
  replace hf : Fr 30 a [(0, vl0)] := hf
  refine wp_mono (Q := fun e a w => e = .ret ∧ ∃ (u0 : Value), Fr 30 a [(2, u0)] ∧ Hp S w0 w (Res.sl Ek.c128 36 u0 r :: ow)) ?_ ?_
  rotate_left
  · rintro e a w ⟨rfl, x0, hf, hp⟩
    exact ret1 hf rfl rfl ⟨x0, rfl, hp⟩
  refine wp_seq ?_
  refine wp_reg ?_
  refine st_assign hf rfl rfl (by decide) ?_
  clear hf; intro a ha hf; clear ha
  refine st_nil hf ?_
  refine th_n ?_
  refine wp_seq ?_
  refine wp_reg ?_
  refine st_assign hf rfl rfl (by decide) ?_
  clear hf; intro a ha hf; clear ha
  refine st_nil hf ?_
  refine th_n ?_
  refine wp_seq ?_
  refine wp_seq ?_
  refine wp_reg ?_
  refine st_assign hf rfl rfl (by decide) ?_
  clear hf; intro a ha hf; clear ha
  refine st_nil hf ?_
  refine th_n ?_
  refine wp_block ?_
  obtain ⟨q15, hl, h⟩ := bnd h
  have hp := hp.nil Ek.c128 36
  refine wp_loop_pure (f := (f_foghornlaw08_whole.s1 l0)) (s := ([], (0 : Int))) (fun s a w => ∃ (v1 : Value), Fr 30 a [(0, vl0), (3, v1), (4, .int .i64 s.2)] ∧ Hp S w0 w (Res.sl Ek.c128 36 v1 s.1 :: ow)) (fun q e a w => e = .exit 0 ∧ ∃ (v3 : Value), Fr 30 a [(3, v3)] ∧ Hp S w0 w (Res.sl Ek.c128 36 v3 q :: ow)) ?_ hl ⟨_, hf.sub ⟨rfl, rfl, rfl, trivial⟩, hp⟩ ?_
  · clear hl hf hp
    intro s x a w h hI
    obtain ⟨out3, i4⟩ := s
    obtain ⟨v1, hf, hp⟩ : ∃ (v1 : Value), Fr 30 a [(0, vl0), (3, v1), (4, .int .i64 i4)] ∧ Hp S w0 w (Res.sl Ek.c128 36 v1 out3 :: ow) := hI
    replace h : f_foghornlaw08_whole.s1c l0 out3 i4 = some x := h
    unfold f_foghornlaw08_whole.s1c at h
    refine wp_seq ?_
    refine wp_seq ?_
    refine wp_reg ?_
    refine st_move hf rfl rfl (by decide) ?_
    clear hf; intro a ha hf; clear ha
    refine st_iadd hf (by decide) rfl rfl rfl ?_
    clear hf; intro a ha hf; clear ha
    refine st_move hf rfl rfl (by decide) ?_
    clear hf; intro a ha hf; clear ha
    refine st_len (E := (Ek.int .u16)) hf (by decide) Try.underlying49 rfl rfl (hl0.sl hp) ?_
    clear hf; intro a ha hf; clear ha
    refine st_ilss hf (by decide) rfl rfl rfl ?_
    clear hf; intro a ha hf; clear ha
    refine st_nil hf ?_
    refine th_n ?_
    refine wp_if hf rfl (fun hb => ?_) (fun hb => ?_)
    · replace h := ifT h hb
      refine wp_skip ?_
      refine th_n ?_
      refine wp_seq ?_
      refine wp_block ?_
      obtain ⟨hc5, h⟩ := chk h
      obtain ⟨q6, hq7, h⟩ := bnd h
      obtain ⟨hc8, h⟩ := chk h
      obtain ⟨q9, hq10, h⟩ := bnd h
      obtain ⟨hc13, h⟩ := chk h
      refine wp_cutN (fun a w => ∃ (v11 : Value) (v14 : Value), Fr 30 a [(0, vl0), (3, v14), (4, .int .i64 i4)] ∧ Hp S w0 w (Res.sl Ek.c128 36 v11 ([(q6, q9)]) :: Res.sl Ek.c128 36 v14 (out3 ++ [(q6, q9)]) :: ow)) ?_ ?_
      · have hp := hp.same (Same.drew w)
        refine dr_begin' (fun a w => ∃ (v11 : Value) (v14 : Value), Fr 30 a [(0, vl0), (3, v14), (4, .int .i64 i4)] ∧ Hp S w0 w (Res.sl Ek.c128 36 v11 ([(q6, q9)]) :: Res.sl Ek.c128 36 v14 (out3 ++ [(q6, q9)]) :: ow)) (fun w' => ∃ l, Hp S w0 w' l) [] (by kernel_rfl) ?_
        refine dr_take 0 (v1) rfl (by kernel_rfl) (by kernel_rfl) (by kernel_rfl) (by kernel_rfl) rfl rfl hf (by decide) rfl (fun w hp => ?_) ⟨_, hp⟩ ?_
        · obtain ⟨_, hp⟩ := hp
          refine st_move hf rfl rfl (by decide) ?_
          clear hf; intro a ha hf
          exact st_nil hf (th_n ⟨ha, rfl⟩)
        clear hf; intro a hf
        refine dr_take 1 (vl0) rfl (by kernel_rfl) (by kernel_rfl) (by kernel_rfl) (by kernel_rfl) rfl rfl hf (by decide) rfl (fun w hp => ?_) ⟨_, hp⟩ ?_
        · obtain ⟨_, hp⟩ := hp
          refine st_move hf rfl rfl (by decide) ?_
          clear hf; intro a ha hf
          exact st_nil hf (th_n ⟨ha, rfl⟩)
        clear hf; intro a hf
        refine dr_take 2 (.int .i64 i4) rfl (by kernel_rfl) (by kernel_rfl) (by kernel_rfl) (by kernel_rfl) rfl rfl hf (by decide) rfl (fun w hp => ?_) ⟨_, hp⟩ ?_
        · obtain ⟨_, hp⟩ := hp
          refine st_move hf rfl rfl (by decide) ?_
          clear hf; intro a ha hf
          exact st_nil hf (th_n ⟨ha, rfl⟩)
        clear hf; intro a hf
        refine dr_take 3 (eptr vl0 i4 1) rfl (by kernel_rfl) (by kernel_rfl) (by kernel_rfl) (by kernel_rfl) rfl rfl hf (by decide) rfl (fun w hp => ?_) ⟨_, hp⟩ ?_
        · obtain ⟨_, hp⟩ := hp
          refine st_index (E := (Ek.int .u16)) hf (by decide) Try.underlying49 elt64 rfl rfl rfl (hl0.sl hp) hc5.1 hc5.2 ?_
          clear hf; intro a ha hf
          exact st_nil hf (th_n ⟨ha, rfl⟩)
        clear hf; intro a hf
        refine dr_take 4 (.int .u16 (gt l0 i4)) rfl (by kernel_rfl) (by kernel_rfl) (by kernel_rfl) (by kernel_rfl) rfl rfl hf (by decide) rfl (fun w hp => ?_) ⟨_, hp⟩ ?_
        · obtain ⟨_, hp⟩ := hp
          refine st_ldI hf (by decide) pl64 rfl rfl (hl0.sl hp) hc5.1 hc5.2 ?_
          clear hf; intro a ha hf
          exact st_nil hf (th_n ⟨ha, rfl⟩)
        clear hf; intro a hf
        refine dr_take 5 (.float .f64 (FloatKind.f64.nearest (gt l0 i4))) rfl (by kernel_rfl) (by kernel_rfl) (by kernel_rfl) (by kernel_rfl) rfl rfl hf (by decide) rfl (fun w hp => ?_) ⟨_, hp⟩ ?_
        · obtain ⟨_, hp⟩ := hp
          refine st_conv_if Try.underlying64 Try.underlying37 hf (by decide) rfl rfl ?_
          clear hf; intro a ha hf
          exact st_nil hf (th_n ⟨ha, rfl⟩)
        clear hf; intro a hf
        refine dr_take 6 (.float .f64 (flb q6)) rfl (by kernel_rfl) (by kernel_rfl) (by kernel_rfl) (by kernel_rfl) rfl rfl hf (by decide) rfl (fun w hp => ?_) ⟨_, hp⟩ ?_
        · obtain ⟨_, hp⟩ := hp
          refine st_fs (op := .sub) rfl hf (by decide) rfl rfl rfl (show Fl.rep (FloatKind.f64.nearest (gt l0 i4)) (fofi (gt l0 i4)) from rfl) (show Fl.rep 4674736413210574848 (Fl.bits 4674736413210574848) from rfl) hq7 ?_
          clear hf; intro a ha hf
          exact st_nil hf (th_n ⟨ha, rfl⟩)
        clear hf; intro a hf
        refine dr_take 7 (vl0) rfl (by kernel_rfl) (by kernel_rfl) (by kernel_rfl) (by kernel_rfl) rfl rfl hf (by decide) rfl (fun w hp => ?_) ⟨_, hp⟩ ?_
        · obtain ⟨_, hp⟩ := hp
          refine st_move hf rfl rfl (by decide) ?_
          clear hf; intro a ha hf
          exact st_nil hf (th_n ⟨ha, rfl⟩)
        clear hf; intro a hf
        refine dr_take 8 (.int .i64 i4) rfl (by kernel_rfl) (by kernel_rfl) (by kernel_rfl) (by kernel_rfl) rfl rfl hf (by decide) rfl (fun w hp => ?_) ⟨_, hp⟩ ?_
        · obtain ⟨_, hp⟩ := hp
          refine st_move hf rfl rfl (by decide) ?_
          clear hf; intro a ha hf
          exact st_nil hf (th_n ⟨ha, rfl⟩)
        clear hf; intro a hf
        refine dr_take 9 (.int .i64 (IntKind.i64.wrap (i4 + (1 : Int)))) rfl (by kernel_rfl) (by kernel_rfl) (by kernel_rfl) (by kernel_rfl) rfl rfl hf (by decide) rfl (fun w hp => ?_) ⟨_, hp⟩ ?_
        · obtain ⟨_, hp⟩ := hp
          refine st_iadd hf (by decide) rfl rfl rfl ?_
          clear hf; intro a ha hf
          exact st_nil hf (th_n ⟨ha, rfl⟩)
        clear hf; intro a hf
        refine dr_take 10 (eptr vl0 (IntKind.i64.wrap (i4 + (1 : Int))) 1) rfl (by kernel_rfl) (by kernel_rfl) (by kernel_rfl) (by kernel_rfl) rfl rfl hf (by decide) rfl (fun w hp => ?_) ⟨_, hp⟩ ?_
        · obtain ⟨_, hp⟩ := hp
          refine st_index (E := (Ek.int .u16)) hf (by decide) Try.underlying49 elt64 rfl rfl rfl (hl0.sl hp) hc8.1 hc8.2 ?_
          clear hf; intro a ha hf
          exact st_nil hf (th_n ⟨ha, rfl⟩)
        clear hf; intro a hf
        refine dr_take 11 (.int .u16 (gt l0 (IntKind.i64.wrap (i4 + (1 : Int))))) rfl (by kernel_rfl) (by kernel_rfl) (by kernel_rfl) (by kernel_rfl) rfl rfl hf (by decide) rfl (fun w hp => ?_) ⟨_, hp⟩ ?_
        · obtain ⟨_, hp⟩ := hp
          refine st_ldI hf (by decide) pl64 rfl rfl (hl0.sl hp) hc8.1 hc8.2 ?_
          clear hf; intro a ha hf
          exact st_nil hf (th_n ⟨ha, rfl⟩)
        clear hf; intro a hf
        refine dr_take 12 (.float .f64 (FloatKind.f64.nearest (gt l0 (IntKind.i64.wrap (i4 + (1 : Int)))))) rfl (by kernel_rfl) (by kernel_rfl) (by kernel_rfl) (by kernel_rfl) rfl rfl hf (by decide) rfl (fun w hp => ?_) ⟨_, hp⟩ ?_
        · obtain ⟨_, hp⟩ := hp
          refine st_conv_if Try.underlying64 Try.underlying37 hf (by decide) rfl rfl ?_
          clear hf; intro a ha hf
          exact st_nil hf (th_n ⟨ha, rfl⟩)
        clear hf; intro a hf
        refine dr_take 13 (.float .f64 (flb q9)) rfl (by kernel_rfl) (by kernel_rfl) (by kernel_rfl) (by kernel_rfl) rfl rfl hf (by decide) rfl (fun w hp => ?_) ⟨_, hp⟩ ?_
        · obtain ⟨_, hp⟩ := hp
          refine st_fs (op := .sub) rfl hf (by decide) rfl rfl rfl (show Fl.rep (FloatKind.f64.nearest (gt l0 (IntKind.i64.wrap (i4 + (1 : Int))))) (fofi (gt l0 (IntKind.i64.wrap (i4 + (1 : Int))))) from rfl) (show Fl.rep 4674736413210574848 (Fl.bits 4674736413210574848) from rfl) hq10 ?_
          clear hf; intro a ha hf
          exact st_nil hf (th_n ⟨ha, rfl⟩)
        clear hf; intro a hf
        refine dr_take 14 (.complex .f64 (flb q6) (flb q9)) rfl (by kernel_rfl) (by kernel_rfl) (by kernel_rfl) (by kernel_rfl) rfl rfl hf (by decide) rfl (fun w hp => ?_) ⟨_, hp⟩ ?_
        · obtain ⟨_, hp⟩ := hp
          refine st_complex hf (by decide) rfl rfl rfl ?_
          clear hf; intro a ha hf
          exact st_nil hf (th_n ⟨ha, rfl⟩)
        clear hf; intro a hf
        refine dr_one 15 rfl (by kernel_rfl) ?_
        refine st_build (E := Ek.c128) (xs := [(q6, q9)]) hf (by decide) elt36 Try.underlying24 hp (vals := #[(0, .complex .f64 (flb q6) (flb q9))]) (cells := #[.complex .f64 (flb q6) (flb q9)]) rfl (by simp [hf.ev (x := (Operand.tmp 26)) rfl]) (by decide) (by decide) (z := .complex .f64 0 0) (by kernel_rfl) (by kernel_rfl) rfl (reps_cons (cs := [.complex .f64 (flb q6) (flb q9)]) (show Ek.c128.rep [.complex .f64 (flb q6) (flb q9)] (q6, q9) from ⟨_, _, rfl, (farithS_rep hq7), (farithS_rep hq10)⟩) (reps_nil _)) ?_
        clear hf; intro a w v11 hf hp0; clear hp; have hp := hp0; clear hp0
        replace hp : Hp _ _ _ (Res.sl Ek.c128 36 v11 ([(q6, q9)]) :: Res.sl Ek.c128 36 v1 out3 :: ow) := hp
        refine st_nil hf (th_n ⟨fun _ _ => ⟨_, hp⟩, ?_⟩)
        refine dr_one 16 rfl (by kernel_rfl) ?_
        refine st_append (E := Ek.c128) hf (by decide) elt36 Try.underlying24 (by decide) hp (i := 1) rfl rfl rfl rfl (hp.sl (i := 0) rfl) hc13 ?_
        clear hf; intro a w v14 hf hp0; clear hp; have hp := hp0; clear hp0
        replace hp : Hp _ _ _ (Res.sl Ek.c128 36 v11 ([(q6, q9)]) :: Res.sl Ek.c128 36 v14 (out3 ++ [(q6, q9)]) :: ow) := hp
        refine st_nil hf (th_n ⟨fun _ _ => ⟨_, hp⟩, ?_⟩)
        refine dr_take 17 (v14) rfl (by kernel_rfl) (by kernel_rfl) (by kernel_rfl) (by kernel_rfl) rfl rfl hf (by decide) rfl (fun w hp => ?_) ⟨_, hp⟩ ?_
        · obtain ⟨_, hp⟩ := hp
          refine st_assign hf rfl rfl (by decide) ?_
          clear hf; intro a ha hf
          exact st_nil hf (th_n ⟨ha, rfl⟩)
        clear hf; intro a hf
        refine dr_end (by kernel_rfl) ?_ _
        exact ⟨v11, v14, hf.sub ⟨rfl, rfl, rfl, trivial⟩, hp⟩
      rintro a w ⟨v11, v14, hf, hp⟩
      refine ib_n ?_
      refine th_n ?_
      refine wp_reg ?_
      refine st_move hf rfl rfl (by decide) ?_
      clear hf; intro a ha hf; clear ha
      refine st_iadd hf (by decide) rfl rfl rfl ?_
      clear hf; intro a ha hf; clear ha
      refine st_assign hf rfl rfl (by decide) ?_
      clear hf; intro a ha hf; clear ha
      refine st_nil hf ?_
      obtain rfl := Option.some.inj h
      have hp : Hp _ _ _ (Res.sl Ek.c128 36 v14 (out3 ++ [(q6, q9)]) :: ow) := Hp.sel (pre := [Res.sl Ek.c128 36 v11 ([(q6, q9)]), Res.sl Ek.c128 36 v14 (out3 ++ [(q6, q9)])]) (tail := ow) (rs' := [Res.sl Ek.c128 36 v14 (out3 ++ [(q6, q9)])]) hp [1] (by decide) (by simp) rfl
      exact rnd_l ⟨_, hf.sub ⟨rfl, rfl, rfl, trivial⟩, hp⟩
    replace h := ifF h hb
    refine wp_exit ?_
    refine th_e ?_
    obtain rfl := Option.some.inj h
    exact rnd_r (by simp) ⟨rfl, _, hf.sub ⟨rfl, trivial⟩, hp⟩
  clear hl hf hp
  intro e a w hne hO
  obtain ⟨rfl, v3, hf, hp⟩ := hO
  refine ib_same ?_
  refine th_n ?_
  refine wp_seq ?_
  refine wp_reg ?_
  refine st_move hf rfl rfl (by decide) ?_
  clear hf; intro a ha hf; clear ha
  refine st_assign hf rfl rfl (by decide) ?_
  clear hf; intro a ha hf; clear ha
  refine st_nil hf ?_
  refine th_n ?_
  refine wp_ret ?_
  obtain rfl := Option.some.inj h
  exact ⟨rfl, ⟨_, hf.sub ⟨rfl, trivial⟩, hp⟩⟩

noncomputable def f_mix_Carrier.s1c (n1 : Int) (l6 : (List (Fl × Fl))) (t19 : Int) : Option (((List (Fl × Fl)) × Int) ⊕ (List (Fl × Fl))) := (if (decide (t19 < ((List.replicate (n1).toNat (Fl.bits 0, Fl.bits 0)).length : Int))) = true then (if 0 ≤ t19 ∧ t19 < (l6.length : Int) then (some (Sum.inl ((l6.set (t19).toNat (Fl.bits 4607182418800017408, Fl.bits 0)), (IntKind.i64.wrap (t19 + (1 : Int)))))) else none) else (some (Sum.inr l6)))
noncomputable def f_mix_Carrier.s1 (n1 : Int) (s : ((List (Fl × Fl)) × Int)) : Option (((List (Fl × Fl)) × Int) ⊕ (List (Fl × Fl))) := f_mix_Carrier.s1c n1 s.1 s.2
noncomputable def f_mix_Carrier (quarters0 : Int) (n1 : Int) : Option ((List (Fl × Fl)) × Int) := ((if (decide (n1 < (0 : Int))) = true then (some true) else ((f_mix_fits n1).bind fun q4 => (some (!q4)))).bind fun z3 => (if z3 = true then (some ([], (1 : Int))) else (if 0 ≤ n1 ∧ n1 ≤ n1 ∧ n1 * 16 ≤ 281474976710656 then ((loop (f_mix_Carrier.s1 n1) ((List.replicate (n1).toNat (Fl.bits 0, Fl.bits 0)), (0 : Int))).bind (fun q15 => ((f_mix_Up q15 quarters0).bind fun q16 => (some (q16.1, q16.2))))) else none)))
theorem f_mix_Carrier_c {S : Nat → Prop} {w0 w : World} {ow : List Res} (hp : Hp S w0 w ow) (quarters0 : Int) (n1 : Int) {r : ((List (Fl × Fl)) × Int)} (h : f_mix_Carrier quarters0 n1 = some r) :
    Calls Try.prog 23 #[.int .i64 quarters0, .int .i64 n1] w (fun e w' => ∃ (u0 : Value), e = .returned (.tuple #[u0, .int .i64 r.2]) ∧ Hp S w0 w' (Res.sl Ek.c128 36 u0 r.1 :: ow)) := by
  unfold f_mix_Carrier at h
  refine enter (n := 31) (args := [.int .i64 quarters0, .int .i64 n1]) Try.func23 rfl rfl (Nat.le_of_ble_eq_true rfl) fun a hf => ?_
  replace hf : Fr 31 a [(0, .int .i64 quarters0), (1, .int .i64 n1)] := hf
  refine wp_mono (Q := fun e a w => e = .ret ∧ ∃ (u0 : Value), Fr 31 a [(4, u0), (5, .int .i64 r.2)] ∧ Hp S w0 w (Res.sl Ek.c128 36 u0 r.1 :: ow)) ?_ ?_
  rotate_left
  · rintro e a w ⟨rfl, x0, hf, hp⟩
    exact ret2 hf rfl rfl rfl ⟨x0, rfl, hp⟩
  refine wp_seq ?_
  refine wp_reg ?_
  refine st_assign hf rfl rfl (by decide) ?_
  clear hf; intro a ha hf; clear ha
  refine st_assign hf rfl rfl (by decide) ?_
  clear hf; intro a ha hf; clear ha
  refine st_nil hf ?_
  refine th_n ?_
  refine wp_seq ?_
  refine wp_seq ?_
  refine wp_reg ?_
  refine st_move hf rfl rfl (by decide) ?_
  clear hf; intro a ha hf; clear ha
  refine st_ilss hf (by decide) rfl rfl rfl ?_
  clear hf; intro a ha hf; clear ha
  refine st_move hf rfl rfl (by decide) ?_
  clear hf; intro a ha hf; clear ha
  obtain ⟨z3, hz1, h⟩ := bnd h
  refine wpList_cut 4 (fun a w => Fr 31 a [(0, .int .i64 quarters0), (1, .int .i64 n1), (14, .bool z3)] ∧ Hp S w0 w (ow)) ?_ ?_
  · rcases Bool.eq_false_or_eq_true (decide (n1 < (0 : Int))) with hb2 | hb2
    · skip
      replace hz1 := ifT hz1 hb2
      refine st_skip hf (wantN hf rfl rfl hb2) rfl (by decide) ?_ rfl
      clear hf; intro a hf
      refine st_skip hf (wantN hf rfl rfl hb2) rfl (by decide) ?_ rfl
      clear hf; intro a hf
      refine st_skip hf (wantN hf rfl rfl hb2) rfl (by decide) ?_ rfl
      clear hf; intro a hf
      obtain rfl := Option.some.inj hz1
      refine st_pick (v := .bool true) hf rfl rfl (fun hb' => ?_) (fun hb' => ?_) (by decide) ?_
      · rfl
      · exact absurd (hb2.symm.trans hb') (by decide)
      clear hf; intro a ha hf; clear ha
      refine st_nil hf (th_n ?_)
      exact ⟨hf.sub ⟨rfl, rfl, rfl, trivial⟩, hp⟩
    replace hz1 := ifF hz1 hb2
    refine st_move hf (wantY hf rfl rfl hb2) rfl (by decide) ?_
    clear hf; intro a ha hf; clear ha
    obtain ⟨q4, hcall5, hz1⟩ := bnd hz1
    refine st_call hf (by decide) Try.func34 rfl rfl (wantY hf rfl rfl hb2) rfl rfl (f_mix_fits_c hp _ hcall5) ?_
    rintro _ w ⟨rfl, hp0⟩
    clear hp; have hp := hp0; clear hp0
    replace hp : Hp _ _ _ (ow) := hp
    refine ⟨_, rfl, ?_⟩
    clear hf; intro a hf
    refine st_not hf (by decide) (wantY hf rfl rfl hb2) rfl ?_
    clear hf; intro a ha hf; clear ha
    obtain rfl := Option.some.inj hz1
    refine st_pick (v := .bool (!q4)) hf rfl rfl (fun hb' => ?_) (fun hb' => ?_) (by decide) ?_
    · exact absurd (hb2.symm.trans hb') (by decide)
    · rfl
    clear hf; intro a ha hf; clear ha
    refine st_nil hf (th_n ?_)
    exact ⟨hf.sub ⟨rfl, rfl, rfl, trivial⟩, hp⟩
  rintro a w ⟨hf, hp⟩
  refine st_nil hf ?_
  refine th_n ?_
  refine wp_if hf rfl (fun hb => ?_) (fun hb => ?_)
  · replace h := ifT h hb
    refine wp_seq ?_
    refine wp_reg ?_
    refine st_assign hf rfl rfl (by decide) ?_
    clear hf; intro a ha hf; clear ha
    refine st_assign hf rfl rfl (by decide) ?_
    clear hf; intro a ha hf; clear ha
    refine st_nil hf ?_
    refine th_n ?_
    refine wp_ret ?_
    refine th_r ?_
    obtain rfl := Option.some.inj h
    have hp := hp.nil Ek.c128 36
    exact ⟨rfl, ⟨_, hf.sub ⟨rfl, rfl, trivial⟩, hp⟩⟩
  replace h := ifF h hb
  refine wp_skip ?_
  refine th_n ?_
  refine wp_seq ?_
  refine wp_reg ?_
  refine st_move hf rfl rfl (by decide) ?_
  clear hf; intro a ha hf; clear ha
  obtain ⟨hc7, h⟩ := chk h
  refine st_make (E := Ek.c128) hf (by decide) elt36 Try.underlying24 (by decide) hp rfl rfl rfl hc7.1 hc7.2.1 hc7.2.2 ?_
  clear hf; intro a w v8 hf hp0; clear hp; have hp := hp0; clear hp0
  replace hp : Hp _ _ _ (Res.sl Ek.c128 36 v8 (List.replicate (n1).toNat (Fl.bits 0, Fl.bits 0)) :: ow) := hp
  refine st_assign hf rfl rfl (by decide) ?_
  clear hf; intro a ha hf; clear ha
  refine st_nil hf ?_
  refine th_n ?_
  refine wp_seq ?_
  refine wp_seq ?_
  refine wp_reg ?_
  refine st_move hf rfl rfl (by decide) ?_
  clear hf; intro a ha hf; clear ha
  refine st_len (E := Ek.c128) hf (by decide) Try.underlying24 rfl rfl (hp.sl (i := 0) rfl) ?_
  clear hf; intro a ha hf; clear ha
  refine st_move hf rfl rfl (by decide) ?_
  clear hf; intro a ha hf; clear ha
  refine st_nil hf ?_
  refine th_n ?_
  refine wp_block ?_
  obtain ⟨q15, hl, h⟩ := bnd h
  refine wp_loop_pure (f := (f_mix_Carrier.s1 n1)) (s := ((List.replicate (n1).toNat (Fl.bits 0, Fl.bits 0)), (0 : Int))) (fun s a w => ∃ (v10 : Value), Fr 31 a [(0, .int .i64 quarters0), (6, v10), (18, .int .i64 ((List.replicate (n1).toNat (Fl.bits 0, Fl.bits 0)).length : Int)), (19, .int .i64 s.2)] ∧ Hp S w0 w (Res.sl Ek.c128 36 v10 s.1 :: ow)) (fun q e a w => e = .exit 0 ∧ ∃ (v12 : Value), Fr 31 a [(0, .int .i64 quarters0), (6, v12)] ∧ Hp S w0 w (Res.sl Ek.c128 36 v12 q :: ow)) ?_ hl ⟨_, hf.sub ⟨rfl, rfl, rfl, rfl, trivial⟩, hp⟩ ?_
  · clear hl hf hp
    intro s x a w h hI
    obtain ⟨l6, t19⟩ := s
    obtain ⟨v10, hf, hp⟩ : ∃ (v10 : Value), Fr 31 a [(0, .int .i64 quarters0), (6, v10), (18, .int .i64 ((List.replicate (n1).toNat (Fl.bits 0, Fl.bits 0)).length : Int)), (19, .int .i64 t19)] ∧ Hp S w0 w (Res.sl Ek.c128 36 v10 l6 :: ow) := hI
    replace h : f_mix_Carrier.s1c n1 l6 t19 = some x := h
    unfold f_mix_Carrier.s1c at h
    refine wp_seq ?_
    refine wp_reg ?_
    refine st_ilss hf (by decide) rfl rfl rfl ?_
    clear hf; intro a ha hf; clear ha
    refine st_nil hf ?_
    refine th_n ?_
    refine wp_seq ?_
    refine wp_if hf rfl (fun hb => ?_) (fun hb => ?_)
    · replace h := ifT h hb
      refine wp_skip ?_
      refine th_n ?_
      refine wp_seq ?_
      refine wp_block ?_
      refine wp_seq ?_
      refine wp_reg ?_
      refine st_move hf rfl rfl (by decide) ?_
      clear hf; intro a ha hf; clear ha
      refine st_assign hf rfl rfl (by decide) ?_
      clear hf; intro a ha hf; clear ha
      refine st_nil hf ?_
      refine th_n ?_
      refine wp_reg ?_
      refine st_move hf rfl rfl (by decide) ?_
      clear hf; intro a ha hf; clear ha
      refine st_move hf rfl rfl (by decide) ?_
      clear hf; intro a ha hf; clear ha
      obtain ⟨hc14, h⟩ := chk h
      refine st_index (E := Ek.c128) hf (by decide) Try.underlying24 elt36 rfl rfl rfl (hp.sl (i := 0) rfl) hc14.1 hc14.2 ?_
      clear hf; intro a ha hf; clear ha
      refine st_store (E := Ek.c128) hf elt36 hp (i := 0) rfl rfl rfl rfl (show Ek.c128.rep [.complex .f64 4607182418800017408 0] (Fl.bits 4607182418800017408, Fl.bits 0) from ⟨_, _, rfl, rfl, rfl⟩) hc14.1 hc14.2 ?_
      clear hf; intro a w hf hp0; clear hp; have hp := hp0; clear hp0
      replace hp : Hp _ _ _ (Res.sl Ek.c128 36 v10 (l6.set (t19).toNat (Fl.bits 4607182418800017408, Fl.bits 0)) :: ow) := hp
      refine st_nil hf ?_
      refine ib_n ?_
      refine th_n ?_
      refine wp_reg ?_
      refine st_iadd hf (by decide) rfl rfl rfl ?_
      clear hf; intro a ha hf; clear ha
      refine st_move hf rfl rfl (by decide) ?_
      clear hf; intro a ha hf; clear ha
      refine st_nil hf ?_
      obtain rfl := Option.some.inj h
      exact rnd_l ⟨_, hf.sub ⟨rfl, rfl, rfl, rfl, trivial⟩, hp⟩
    replace h := ifF h hb
    refine wp_exit ?_
    refine th_e ?_
    obtain rfl := Option.some.inj h
    exact rnd_r (by simp) ⟨rfl, _, hf.sub ⟨rfl, rfl, trivial⟩, hp⟩
  clear hl hf hp
  intro e a w hne hO
  obtain ⟨rfl, v12, hf, hp⟩ := hO
  refine ib_same ?_
  refine th_n ?_
  refine wp_seq ?_
  refine wp_reg ?_
  refine st_move hf rfl rfl (by decide) ?_
  clear hf; intro a ha hf; clear ha
  refine st_move hf rfl rfl (by decide) ?_
  clear hf; intro a ha hf; clear ha
  obtain ⟨q16, hcall17, h⟩ := bnd h
  obtain ⟨S18, hp19, rd20, up21, bk22⟩ := Hp.lendS hp (i := 0) rfl
  refine st_call hf (by decide) Try.func17 rfl rfl rfl rfl rfl (f_mix_Up_c hp19 _ _ rd20 _ hcall17) ?_
  rintro _ w ⟨v23, rfl, hp0⟩
  have hp0 := bk22 _ _ hp0
  clear hp; have hp := hp0; clear hp0
  replace hp : Hp _ _ _ (Res.sl Ek.c128 36 v12 q15 :: Res.sl Ek.c128 36 v23 q16.1 :: ow) := hp
  refine ⟨_, rfl, ?_⟩
  clear hf; intro a hf
  refine st_extract hf (by decide) rfl rfl rfl ?_
  clear hf; intro a ha hf; clear ha
  refine st_extract hf (by decide) rfl rfl rfl ?_
  clear hf; intro a ha hf; clear ha
  refine st_assign hf rfl rfl (by decide) ?_
  clear hf; intro a ha hf; clear ha
  refine st_assign hf rfl rfl (by decide) ?_
  clear hf; intro a ha hf; clear ha
  refine st_nil hf ?_
  refine th_n ?_
  refine wp_ret ?_
  obtain rfl := Option.some.inj h
  have hp : Hp _ _ _ (Res.sl Ek.c128 36 v23 q16.1 :: ow) := Hp.sel (pre := [Res.sl Ek.c128 36 v12 q15, Res.sl Ek.c128 36 v23 q16.1]) (tail := ow) (rs' := [Res.sl Ek.c128 36 v23 q16.1]) hp [1] (by decide) (by simp) rfl
  exact ⟨rfl, ⟨_, hf.sub ⟨rfl, rfl, trivial⟩, hp⟩⟩

noncomputable def f_mix_Mirror.s1c (l0 : (List (Fl × Fl))) (out4 : (List (Fl × Fl))) (t16 : Int) : Option (((List (Fl × Fl)) × Int) ⊕ (List (Fl × Fl))) := (if (decide (t16 < (l0.length : Int))) = true then (if 0 ≤ t16 ∧ t16 < (l0.length : Int) then (if (out4.length + ([((gt l0 t16).1, (fneg ((gt l0 t16).2)))]).length) * 16 ≤ 140737488355328 then (some (Sum.inl ((out4 ++ [((gt l0 t16).1, (fneg ((gt l0 t16).2)))]), (IntKind.i64.wrap (t16 + (1 : Int)))))) else none) else none) else (some (Sum.inr out4)))
noncomputable def f_mix_Mirror.s1 (l0 : (List (Fl × Fl))) (s : ((List (Fl × Fl)) × Int)) : Option (((List (Fl × Fl)) × Int) ⊕ (List (Fl × Fl))) := f_mix_Mirror.s1c l0 s.1 s.2
noncomputable def f_mix_Mirror (l0 : (List (Fl × Fl))) : Option ((List (Fl × Fl)) × Int) := ((f_mix_fits (l0.length : Int)).bind fun q1 => (if (!q1) = true then (some ([], (1 : Int))) else (if 0 ≤ (0 : Int) ∧ (0 : Int) ≤ (l0.length : Int) ∧ (l0.length : Int) * 16 ≤ 281474976710656 then ((loop (f_mix_Mirror.s1 l0) ((List.replicate ((0 : Int)).toNat (Fl.bits 0, Fl.bits 0)), (0 : Int))).bind (fun q20 => (some (q20, (0 : Int))))) else none)))
theorem f_mix_Mirror_c {S : Nat → Prop} {w0 w : World} {ow : List Res} (hp : Hp S w0 w ow) (vl0 : Value) (l0 : (List (Fl × Fl))) (hl0 : RdS Ek.c128 S w0 vl0 l0) {r : ((List (Fl × Fl)) × Int)} (h : f_mix_Mirror l0 = some r) :
    Calls Try.prog 21 #[vl0] w (fun e w' => ∃ (u0 : Value), e = .returned (.tuple #[u0, .int .i64 r.2]) ∧ Hp S w0 w' (Res.sl Ek.c128 36 u0 r.1 :: ow)) := by
  unfold f_mix_Mirror at h
  refine enter (n := 31) (args := [vl0]) Try.func21 rfl rfl (Nat.le_of_ble_eq_true rfl) fun a hf => ?_
  replace hf : Fr 31 a [(0, vl0)] := hf
  refine wp_mono (Q := fun e a w => e = .ret ∧ ∃ (u0 : Value), Fr 31 a [(2, u0), (3, .int .i64 r.2)] ∧ Hp S w0 w (Res.sl Ek.c128 36 u0 r.1 :: ow)) ?_ ?_
  rotate_left
  · rintro e a w ⟨rfl, x0, hf, hp⟩
    exact ret2 hf rfl rfl rfl ⟨x0, rfl, hp⟩
  refine wp_seq ?_
  refine wp_reg ?_
  refine st_assign hf rfl rfl (by decide) ?_
  clear hf; intro a ha hf; clear ha
  refine st_assign hf rfl rfl (by decide) ?_
  clear hf; intro a ha hf; clear ha
  refine st_nil hf ?_
  refine th_n ?_
  refine wp_seq ?_
  refine wp_seq ?_
  refine wp_reg ?_
  refine st_move hf rfl rfl (by decide) ?_
  clear hf; intro a ha hf; clear ha
  refine st_len (E := Ek.c128) hf (by decide) Try.underlying24 rfl rfl (hl0.sl hp) ?_
  clear hf; intro a ha hf; clear ha
  obtain ⟨q1, hcall2, h⟩ := bnd h
  refine st_call hf (by decide) Try.func34 rfl rfl rfl rfl rfl (f_mix_fits_c hp _ hcall2) ?_
  rintro _ w ⟨rfl, hp0⟩
  clear hp; have hp := hp0; clear hp0
  replace hp : Hp _ _ _ (ow) := hp
  refine ⟨_, rfl, ?_⟩
  clear hf; intro a hf
  refine st_not hf (by decide) rfl rfl ?_
  clear hf; intro a ha hf; clear ha
  refine st_nil hf ?_
  refine th_n ?_
  refine wp_if hf rfl (fun hb => ?_) (fun hb => ?_)
  · replace h := ifT h hb
    refine wp_seq ?_
    refine wp_reg ?_
    refine st_assign hf rfl rfl (by decide) ?_
    clear hf; intro a ha hf; clear ha
    refine st_assign hf rfl rfl (by decide) ?_
    clear hf; intro a ha hf; clear ha
    refine st_nil hf ?_
    refine th_n ?_
    refine wp_ret ?_
    refine th_r ?_
    obtain rfl := Option.some.inj h
    have hp := hp.nil Ek.c128 36
    exact ⟨rfl, ⟨_, hf.sub ⟨rfl, rfl, trivial⟩, hp⟩⟩
  replace h := ifF h hb
  refine wp_skip ?_
  refine th_n ?_
  refine wp_seq ?_
  refine wp_reg ?_
  refine st_move hf rfl rfl (by decide) ?_
  clear hf; intro a ha hf; clear ha
  refine st_len (E := Ek.c128) hf (by decide) Try.underlying24 rfl rfl (hl0.sl hp) ?_
  clear hf; intro a ha hf; clear ha
  obtain ⟨hc4, h⟩ := chk h
  refine st_make (E := Ek.c128) hf (by decide) elt36 Try.underlying24 (by decide) hp rfl rfl rfl hc4.1 hc4.2.1 hc4.2.2 ?_
  clear hf; intro a w v5 hf hp0; clear hp; have hp := hp0; clear hp0
  replace hp : Hp _ _ _ (Res.sl Ek.c128 36 v5 (List.replicate ((0 : Int)).toNat (Fl.bits 0, Fl.bits 0)) :: ow) := hp
  refine st_assign hf rfl rfl (by decide) ?_
  clear hf; intro a ha hf; clear ha
  refine st_nil hf ?_
  refine th_n ?_
  refine wp_seq ?_
  refine wp_seq ?_
  refine wp_reg ?_
  refine st_move hf rfl rfl (by decide) ?_
  clear hf; intro a ha hf; clear ha
  refine st_len (E := Ek.c128) hf (by decide) Try.underlying24 rfl rfl (hl0.sl hp) ?_
  clear hf; intro a ha hf; clear ha
  refine st_move hf rfl rfl (by decide) ?_
  clear hf; intro a ha hf; clear ha
  refine st_nil hf ?_
  refine th_n ?_
  refine wp_block ?_
  obtain ⟨q20, hl, h⟩ := bnd h
  refine wp_loop_pure (f := (f_mix_Mirror.s1 l0)) (s := ((List.replicate ((0 : Int)).toNat (Fl.bits 0, Fl.bits 0)), (0 : Int))) (fun s a w => ∃ (v7 : Value), Fr 31 a [(4, v7), (14, vl0), (15, .int .i64 (l0.length : Int)), (16, .int .i64 s.2)] ∧ Hp S w0 w (Res.sl Ek.c128 36 v7 s.1 :: ow)) (fun q e a w => e = .exit 0 ∧ ∃ (v9 : Value), Fr 31 a [(4, v9)] ∧ Hp S w0 w (Res.sl Ek.c128 36 v9 q :: ow)) ?_ hl ⟨_, hf.sub ⟨rfl, rfl, rfl, rfl, trivial⟩, hp⟩ ?_
  · clear hl hf hp
    intro s x a w h hI
    obtain ⟨out4, t16⟩ := s
    obtain ⟨v7, hf, hp⟩ : ∃ (v7 : Value), Fr 31 a [(4, v7), (14, vl0), (15, .int .i64 (l0.length : Int)), (16, .int .i64 t16)] ∧ Hp S w0 w (Res.sl Ek.c128 36 v7 out4 :: ow) := hI
    replace h : f_mix_Mirror.s1c l0 out4 t16 = some x := h
    unfold f_mix_Mirror.s1c at h
    refine wp_seq ?_
    refine wp_reg ?_
    refine st_ilss hf (by decide) rfl rfl rfl ?_
    clear hf; intro a ha hf; clear ha
    refine st_nil hf ?_
    refine th_n ?_
    refine wp_seq ?_
    refine wp_if hf rfl (fun hb => ?_) (fun hb => ?_)
    · replace h := ifT h hb
      refine wp_skip ?_
      refine th_n ?_
      refine wp_seq ?_
      refine wp_block ?_
      refine wp_seq ?_
      refine wp_reg ?_
      obtain ⟨hc11, h⟩ := chk h
      refine st_index (E := Ek.c128) hf (by decide) Try.underlying24 elt36 rfl rfl rfl (hl0.sl hp) hc11.1 hc11.2 ?_
      clear hf; intro a ha hf; clear ha
      refine st_ldC hf (by decide) pl36 rfl rfl (hl0.sl hp) hc11.1 hc11.2 ?_
      clear hf; intro a bb12 bb13 y14 y15 ha hf; clear ha
      refine st_assign hf rfl rfl (by decide) ?_
      clear hf; intro a ha hf; clear ha
      refine st_nil hf ?_
      refine th_n ?_
      refine wp_reg ?_
      refine st_move hf rfl rfl (by decide) ?_
      clear hf; intro a ha hf; clear ha
      refine st_move hf rfl rfl (by decide) ?_
      clear hf; intro a ha hf; clear ha
      refine st_real hf (by decide) rfl rfl ?_
      clear hf; intro a ha hf; clear ha
      refine st_move hf rfl rfl (by decide) ?_
      clear hf; intro a ha hf; clear ha
      refine st_imag hf (by decide) rfl rfl ?_
      clear hf; intro a ha hf; clear ha
      refine st_fneg hf (by decide) rfl rfl ?_
      clear hf; intro a ha hf; clear ha
      refine st_complex hf (by decide) rfl rfl rfl ?_
      clear hf; intro a ha hf; clear ha
      refine st_build (E := Ek.c128) (xs := [((gt l0 t16).1, (fneg ((gt l0 t16).2)))]) hf (by decide) elt36 Try.underlying24 hp (vals := #[(0, .complex .f64 bb12 (Op.negFloat .f64 bb13))]) (cells := #[.complex .f64 bb12 (Op.negFloat .f64 bb13)]) rfl (by simp [hf.ev (x := (Operand.tmp 26)) rfl]) (by decide) (by decide) (z := .complex .f64 0 0) (by kernel_rfl) (by kernel_rfl) rfl (reps_cons (cs := [.complex .f64 bb12 (Op.negFloat .f64 bb13)]) (show Ek.c128.rep [.complex .f64 bb12 (Op.negFloat .f64 bb13)] ((gt l0 t16).1, (fneg ((gt l0 t16).2))) from ⟨_, _, rfl, y14, (fneg_rep y15)⟩) (reps_nil _)) ?_
      clear hf; intro a w v16 hf hp0; clear hp; have hp := hp0; clear hp0
      replace hp : Hp _ _ _ (Res.sl Ek.c128 36 v16 ([((gt l0 t16).1, (fneg ((gt l0 t16).2)))]) :: Res.sl Ek.c128 36 v7 out4 :: ow) := hp
      obtain ⟨hc18, h⟩ := chk h
      refine st_append (E := Ek.c128) hf (by decide) elt36 Try.underlying24 (by decide) hp (i := 1) rfl rfl rfl rfl (hp.sl (i := 0) rfl) hc18 ?_
      clear hf; intro a w v19 hf hp0; clear hp; have hp := hp0; clear hp0
      replace hp : Hp _ _ _ (Res.sl Ek.c128 36 v16 ([((gt l0 t16).1, (fneg ((gt l0 t16).2)))]) :: Res.sl Ek.c128 36 v19 (out4 ++ [((gt l0 t16).1, (fneg ((gt l0 t16).2)))]) :: ow) := hp
      refine st_assign hf rfl rfl (by decide) ?_
      clear hf; intro a ha hf; clear ha
      refine st_nil hf ?_
      refine ib_n ?_
      refine th_n ?_
      refine wp_reg ?_
      refine st_iadd hf (by decide) rfl rfl rfl ?_
      clear hf; intro a ha hf; clear ha
      refine st_move hf rfl rfl (by decide) ?_
      clear hf; intro a ha hf; clear ha
      refine st_nil hf ?_
      obtain rfl := Option.some.inj h
      have hp : Hp _ _ _ (Res.sl Ek.c128 36 v19 (out4 ++ [((gt l0 t16).1, (fneg ((gt l0 t16).2)))]) :: ow) := Hp.sel (pre := [Res.sl Ek.c128 36 v16 ([((gt l0 t16).1, (fneg ((gt l0 t16).2)))]), Res.sl Ek.c128 36 v19 (out4 ++ [((gt l0 t16).1, (fneg ((gt l0 t16).2)))])]) (tail := ow) (rs' := [Res.sl Ek.c128 36 v19 (out4 ++ [((gt l0 t16).1, (fneg ((gt l0 t16).2)))])]) hp [1] (by decide) (by simp) rfl
      exact rnd_l ⟨_, hf.sub ⟨rfl, rfl, rfl, rfl, trivial⟩, hp⟩
    replace h := ifF h hb
    refine wp_exit ?_
    refine th_e ?_
    obtain rfl := Option.some.inj h
    exact rnd_r (by simp) ⟨rfl, _, hf.sub ⟨rfl, trivial⟩, hp⟩
  clear hl hf hp
  intro e a w hne hO
  obtain ⟨rfl, v9, hf, hp⟩ := hO
  refine ib_same ?_
  refine th_n ?_
  refine wp_seq ?_
  refine wp_reg ?_
  refine st_move hf rfl rfl (by decide) ?_
  clear hf; intro a ha hf; clear ha
  refine st_assign hf rfl rfl (by decide) ?_
  clear hf; intro a ha hf; clear ha
  refine st_assign hf rfl rfl (by decide) ?_
  clear hf; intro a ha hf; clear ha
  refine st_nil hf ?_
  refine th_n ?_
  refine wp_ret ?_
  obtain rfl := Option.some.inj h
  exact ⟨rfl, ⟨_, hf.sub ⟨rfl, rfl, trivial⟩, hp⟩⟩

noncomputable def f_mix_Down (l0 : (List (Fl × Fl))) (quarters1 : Int) : Option ((List (Fl × Fl)) × Int) := ((f_mix_by quarters1).bind fun q1 => ((f_mix_Up l0 (IntKind.i64.wrap (0 - q1))).bind fun q3 => (some (q3.1, q3.2))))
theorem f_mix_Down_c {S : Nat → Prop} {w0 w : World} {ow : List Res} (hp : Hp S w0 w ow) (vl0 : Value) (l0 : (List (Fl × Fl))) (hl0 : RdS Ek.c128 S w0 vl0 l0) (quarters1 : Int) {r : ((List (Fl × Fl)) × Int)} (h : f_mix_Down l0 quarters1 = some r) :
    Calls Try.prog 19 #[vl0, .int .i64 quarters1] w (fun e w' => ∃ (u0 : Value), e = .returned (.tuple #[u0, .int .i64 r.2]) ∧ Hp S w0 w' (Res.sl Ek.c128 36 u0 r.1 :: ow)) := by
  unfold f_mix_Down at h
  refine enter (n := 13) (args := [vl0, .int .i64 quarters1]) Try.func19 rfl rfl (Nat.le_of_ble_eq_true rfl) fun a hf => ?_
  replace hf : Fr 13 a [(0, vl0), (1, .int .i64 quarters1)] := hf
  refine wp_mono (Q := fun e a w => e = .ret ∧ ∃ (u0 : Value), Fr 13 a [(4, u0), (5, .int .i64 r.2)] ∧ Hp S w0 w (Res.sl Ek.c128 36 u0 r.1 :: ow)) ?_ ?_
  rotate_left
  · rintro e a w ⟨rfl, x0, hf, hp⟩
    exact ret2 hf rfl rfl rfl ⟨x0, rfl, hp⟩
  refine wp_seq ?_
  refine wp_reg ?_
  refine st_assign hf rfl rfl (by decide) ?_
  clear hf; intro a ha hf; clear ha
  refine st_assign hf rfl rfl (by decide) ?_
  clear hf; intro a ha hf; clear ha
  refine st_nil hf ?_
  refine th_n ?_
  refine wp_seq ?_
  refine wp_reg ?_
  refine st_move hf rfl rfl (by decide) ?_
  clear hf; intro a ha hf; clear ha
  refine st_move hf rfl rfl (by decide) ?_
  clear hf; intro a ha hf; clear ha
  obtain ⟨q1, hcall2, h⟩ := bnd h
  refine st_call hf (by decide) Try.func37 rfl rfl rfl rfl rfl (f_mix_by_c hp _ hcall2) ?_
  rintro _ w ⟨rfl, hp0⟩
  clear hp; have hp := hp0; clear hp0
  replace hp : Hp _ _ _ (ow) := hp
  refine ⟨_, rfl, ?_⟩
  clear hf; intro a hf
  refine st_ineg hf (by decide) rfl rfl ?_
  clear hf; intro a ha hf; clear ha
  obtain ⟨q3, hcall4, h⟩ := bnd h
  refine st_call hf (by decide) Try.func17 rfl rfl rfl rfl rfl (f_mix_Up_c hp _ _ hl0 _ hcall4) ?_
  rintro _ w ⟨v5, rfl, hp0⟩
  clear hp; have hp := hp0; clear hp0
  replace hp : Hp _ _ _ (Res.sl Ek.c128 36 v5 q3.1 :: ow) := hp
  refine ⟨_, rfl, ?_⟩
  clear hf; intro a hf
  refine st_extract hf (by decide) rfl rfl rfl ?_
  clear hf; intro a ha hf; clear ha
  refine st_extract hf (by decide) rfl rfl rfl ?_
  clear hf; intro a ha hf; clear ha
  refine st_assign hf rfl rfl (by decide) ?_
  clear hf; intro a ha hf; clear ha
  refine st_assign hf rfl rfl (by decide) ?_
  clear hf; intro a ha hf; clear ha
  refine st_nil hf ?_
  refine th_n ?_
  refine wp_ret ?_
  obtain rfl := Option.some.inj h
  exact ⟨rfl, ⟨_, hf.sub ⟨rfl, rfl, trivial⟩, hp⟩⟩

end Go.Proofs.Ytfppofbdmhihpaa
