/- The functions foghorn foghorntop.TopLinear: what each answers, as a plain function, and that its call answers it; printed by gen.py. -/
import Derived.Test.YtgdhjjdgghilhaaProg
import Derived.Test.YtgdhjjdgghilhaaGlUf
import Derived.KernelRfl
set_option linter.unusedVariables false
set_option linter.unusedSimpArgs false
set_option maxRecDepth 100000
set_option maxHeartbeats 4000000
namespace Go.Proofs.Ytgdhjjdgghilhaa
open GL
theorem elt3 : ElT Try.prog (Ek.int .i64) 3 8 (0 : Int) := ElT.of (z := .int .i64 0) (by kernel_rfl) rfl
theorem elt4 : ElT Try.prog Ek.bool 4 1 false := ElT.of (z := .bool false) (by kernel_rfl) rfl
theorem elt33 : ElT Try.prog Ek.f64 33 8 (Fl.bits 0) := ElT.of (z := .float .f64 0) (by kernel_rfl) ⟨_, rfl, rfl⟩
theorem elt39 : ElT Try.prog Ek.c128 39 16 (Fl.bits 0, Fl.bits 0) := ElT.of (z := .complex .f64 0 0) (by kernel_rfl) ⟨_, _, rfl, rfl, rfl⟩
theorem elt51 : ElT Try.prog (Ek.pair Ek.c128 Ek.bool) 51 24 ((Fl.bits 0, Fl.bits 0), false) := ElT.of (z := .agg #[.complex .f64 0 0, .bool false]) (by kernel_rfl) ⟨[.complex .f64 0 0], [.bool false], rfl, ⟨_, _, rfl, rfl, rfl⟩, rfl⟩
theorem elt58 : ElT Try.prog (Ek.pair (Ek.int .i64) (Ek.pair Ek.c128 Ek.bool)) 58 32 ((0 : Int), (Fl.bits 0, Fl.bits 0), false) := ElT.of (z := .agg #[.int .i64 0, .complex .f64 0 0, .bool false]) (by kernel_rfl) ⟨[.int .i64 0], [.complex .f64 0 0, .bool false], rfl, rfl, ⟨[.complex .f64 0 0], [.bool false], rfl, ⟨_, _, rfl, rfl, rfl⟩, rfl⟩⟩
theorem elt89 : ElT Try.prog (Ek.pair (Ek.int .i64) (Ek.pair (Ek.arr 64 Ek.c128) (Ek.pair (Ek.arr 64 Ek.c128) (Ek.pair (Ek.int .i64) (Ek.pair (Ek.int .i64) (Ek.pair Ek.f64 (Ek.pair (Ek.int .i64) (Ek.pair Ek.bool (Ek.pair Ek.bool Ek.c128))))))))) 89 2112 ((0 : Int), (List.replicate 64 (Fl.bits 0, Fl.bits 0)), (List.replicate 64 (Fl.bits 0, Fl.bits 0)), (0 : Int), (0 : Int), (Fl.bits 0), (0 : Int), false, false, (Fl.bits 0, Fl.bits 0)) := ElT.of (z := .agg #[.int .i64 0, .complex .f64 0 0, .complex .f64 0 0, .complex .f64 0 0, .complex .f64 0 0, .complex .f64 0 0, .complex .f64 0 0, .complex .f64 0 0, .complex .f64 0 0, .complex .f64 0 0, .complex .f64 0 0, .complex .f64 0 0, .complex .f64 0 0, .complex .f64 0 0, .complex .f64 0 0, .complex .f64 0 0, .complex .f64 0 0, .complex .f64 0 0, .complex .f64 0 0, .complex .f64 0 0, .complex .f64 0 0, .complex .f64 0 0, .complex .f64 0 0, .complex .f64 0 0, .complex .f64 0 0, .complex .f64 0 0, .complex .f64 0 0, .complex .f64 0 0, .complex .f64 0 0, .complex .f64 0 0, .complex .f64 0 0, .complex .f64 0 0, .complex .f64 0 0, .complex .f64 0 0, .complex .f64 0 0, .complex .f64 0 0, .complex .f64 0 0, .complex .f64 0 0, .complex .f64 0 0, .complex .f64 0 0, .complex .f64 0 0, .complex .f64 0 0, .complex .f64 0 0, .complex .f64 0 0, .complex .f64 0 0, .complex .f64 0 0, .complex .f64 0 0, .complex .f64 0 0, .complex .f64 0 0, .complex .f64 0 0, .complex .f64 0 0, .complex .f64 0 0, .complex .f64 0 0, .complex .f64 0 0, .complex .f64 0 0, .complex .f64 0 0, .complex .f64 0 0, .complex .f64 0 0, .complex .f64 0 0, .complex .f64 0 0, .complex .f64 0 0, .complex .f64 0 0, .complex .f64 0 0, .complex .f64 0 0, .complex .f64 0 0, .complex .f64 0 0, .complex .f64 0 0, .complex .f64 0 0, .complex .f64 0 0, .complex .f64 0 0, .complex .f64 0 0, .complex .f64 0 0, .complex .f64 0 0, .complex .f64 0 0, .complex .f64 0 0, .complex .f64 0 0, .complex .f64 0 0, .complex .f64 0 0, .complex .f64 0 0, .complex .f64 0 0, .complex .f64 0 0, .complex .f64 0 0, .complex .f64 0 0, .complex .f64 0 0, .complex .f64 0 0, .complex .f64 0 0, .complex .f64 0 0, .complex .f64 0 0, .complex .f64 0 0, .complex .f64 0 0, .complex .f64 0 0, .complex .f64 0 0, .complex .f64 0 0, .complex .f64 0 0, .complex .f64 0 0, .complex .f64 0 0, .complex .f64 0 0, .complex .f64 0 0, .complex .f64 0 0, .complex .f64 0 0, .complex .f64 0 0, .complex .f64 0 0, .complex .f64 0 0, .complex .f64 0 0, .complex .f64 0 0, .complex .f64 0 0, .complex .f64 0 0, .complex .f64 0 0, .complex .f64 0 0, .complex .f64 0 0, .complex .f64 0 0, .complex .f64 0 0, .complex .f64 0 0, .complex .f64 0 0, .complex .f64 0 0, .complex .f64 0 0, .complex .f64 0 0, .complex .f64 0 0, .complex .f64 0 0, .complex .f64 0 0, .complex .f64 0 0, .complex .f64 0 0, .complex .f64 0 0, .complex .f64 0 0, .complex .f64 0 0, .complex .f64 0 0, .complex .f64 0 0, .complex .f64 0 0, .complex .f64 0 0, .int .i64 0, .int .i64 0, .float .f64 0, .int .i64 0, .bool false, .bool false, .complex .f64 0 0]) (by kernel_rfl) ⟨([.int .i64 0] : List Value), (List.replicate 64 ([.complex .f64 0 0] : List Value)).flatten ++ (List.replicate 64 ([.complex .f64 0 0] : List Value)).flatten ++ ([.int .i64 0] : List Value) ++ ([.int .i64 0] : List Value) ++ ([.float .f64 0] : List Value) ++ ([.int .i64 0] : List Value) ++ ([.bool false] : List Value) ++ ([.bool false] : List Value) ++ ([.complex .f64 0 0] : List Value), rfl, rfl, ⟨(List.replicate 64 ([.complex .f64 0 0] : List Value)).flatten, (List.replicate 64 ([.complex .f64 0 0] : List Value)).flatten ++ ([.int .i64 0] : List Value) ++ ([.int .i64 0] : List Value) ++ ([.float .f64 0] : List Value) ++ ([.int .i64 0] : List Value) ++ ([.bool false] : List Value) ++ ([.bool false] : List Value) ++ ([.complex .f64 0 0] : List Value), rfl, (arr_zero (N := 64) (F := Ek.c128) (zc := ([.complex .f64 0 0] : List Value)) (z := (Fl.bits 0, Fl.bits 0)) ⟨_, _, rfl, rfl, rfl⟩), ⟨(List.replicate 64 ([.complex .f64 0 0] : List Value)).flatten, ([.int .i64 0] : List Value) ++ ([.int .i64 0] : List Value) ++ ([.float .f64 0] : List Value) ++ ([.int .i64 0] : List Value) ++ ([.bool false] : List Value) ++ ([.bool false] : List Value) ++ ([.complex .f64 0 0] : List Value), rfl, (arr_zero (N := 64) (F := Ek.c128) (zc := ([.complex .f64 0 0] : List Value)) (z := (Fl.bits 0, Fl.bits 0)) ⟨_, _, rfl, rfl, rfl⟩), ⟨([.int .i64 0] : List Value), ([.int .i64 0] : List Value) ++ ([.float .f64 0] : List Value) ++ ([.int .i64 0] : List Value) ++ ([.bool false] : List Value) ++ ([.bool false] : List Value) ++ ([.complex .f64 0 0] : List Value), rfl, rfl, ⟨([.int .i64 0] : List Value), ([.float .f64 0] : List Value) ++ ([.int .i64 0] : List Value) ++ ([.bool false] : List Value) ++ ([.bool false] : List Value) ++ ([.complex .f64 0 0] : List Value), rfl, rfl, ⟨([.float .f64 0] : List Value), ([.int .i64 0] : List Value) ++ ([.bool false] : List Value) ++ ([.bool false] : List Value) ++ ([.complex .f64 0 0] : List Value), rfl, ⟨_, rfl, rfl⟩, ⟨([.int .i64 0] : List Value), ([.bool false] : List Value) ++ ([.bool false] : List Value) ++ ([.complex .f64 0 0] : List Value), rfl, rfl, ⟨([.bool false] : List Value), ([.bool false] : List Value) ++ ([.complex .f64 0 0] : List Value), rfl, rfl, ⟨([.bool false] : List Value), ([.complex .f64 0 0] : List Value), rfl, rfl, ⟨_, _, rfl, rfl, rfl⟩⟩⟩⟩⟩⟩⟩⟩⟩⟩
theorem pl3 : Plain Try.prog 3 := ⟨⟨_, Try.underlying3, trivial⟩⟩
theorem pl4 : Plain Try.prog 4 := ⟨⟨_, Try.underlying4, trivial⟩⟩
theorem pl22 : Plain Try.prog 22 := ⟨⟨_, Try.underlying22, trivial⟩⟩
theorem pl26 : Plain Try.prog 26 := ⟨⟨_, Try.underlying26, trivial⟩⟩
theorem pl32 : Plain Try.prog 32 := ⟨⟨_, Try.underlying32, trivial⟩⟩
theorem pl33 : Plain Try.prog 33 := ⟨⟨_, Try.underlying33, trivial⟩⟩
theorem pl39 : Plain Try.prog 39 := ⟨⟨_, Try.underlying39, trivial⟩⟩
theorem pl69 : Plain Try.prog 69 := ⟨⟨_, Try.underlying69, trivial⟩⟩
theorem pl108 : Plain Try.prog 108 := ⟨⟨_, Try.underlying108, trivial⟩⟩
theorem pl120 : Plain Try.prog 120 := ⟨⟨_, Try.underlying120, trivial⟩⟩
noncomputable def f_foghorntop_mod (xx0 : Int) (n1 : Int) : Option Int := (if n1 ≠ 0 then (if (decide (((xx0).tmod n1) < (0 : Int))) = true then (some (IntKind.i64.wrap (((xx0).tmod n1) + n1))) else (some ((xx0).tmod n1))) else none)
theorem f_foghorntop_mod_c {S : Nat → Prop} {w0 w : World} {ow : List Res} (hp : Hp S w0 w ow) (xx0 : Int) (n1 : Int) {r : Int} (h : f_foghorntop_mod xx0 n1 = some r) :
    Calls Try.prog 6 #[.int .i64 xx0, .int .i64 n1] w (fun e w' => e = .returned (.int .i64 r) ∧ Hp S w0 w' (ow)) := by
  unfold f_foghorntop_mod at h
  refine enter (n := 15) (args := [.int .i64 xx0, .int .i64 n1]) Try.func6 rfl rfl (Nat.le_of_ble_eq_true rfl) fun a hf => ?_
  replace hf : Fr 15 a [(0, .int .i64 xx0), (1, .int .i64 n1)] := hf
  refine wp_mono (Q := fun e a w => e = .ret ∧ Fr 15 a [(4, .int .i64 r)] ∧ Hp S w0 w (ow)) ?_ ?_
  rotate_left
  · rintro e a w ⟨rfl, hf, hp⟩
    exact ret1 hf rfl rfl ⟨rfl, hp⟩
  refine wp_seq ?_
  refine wp_reg ?_
  refine st_assign hf rfl rfl (by decide) ?_
  clear hf; intro a ha hf; clear ha
  refine st_nil hf ?_
  refine th_n ?_
  refine wp_seq ?_
  refine wp_reg ?_
  refine st_move hf rfl rfl (by decide) ?_
  clear hf; intro a ha hf; clear ha
  refine st_move hf rfl rfl (by decide) ?_
  clear hf; intro a ha hf; clear ha
  obtain ⟨hc1, h⟩ := chk h
  refine st_irem hf (by decide) rfl rfl rfl hc1 ?_
  clear hf; intro a ha hf; clear ha
  refine st_assign hf rfl rfl (by decide) ?_
  clear hf; intro a ha hf; clear ha
  refine st_nil hf ?_
  refine th_n ?_
  refine wp_seq ?_
  refine wp_seq ?_
  refine wp_reg ?_
  refine st_move hf rfl rfl (by decide) ?_
  clear hf; intro a ha hf; clear ha
  refine st_ilss hf (by decide) rfl rfl rfl ?_
  clear hf; intro a ha hf; clear ha
  refine st_nil hf ?_
  refine th_n ?_
  refine wp_if hf rfl (fun hb => ?_) (fun hb => ?_)
  · replace h := ifT h hb
    refine wp_reg ?_
    refine st_move hf rfl rfl (by decide) ?_
    clear hf; intro a ha hf; clear ha
    refine st_move hf rfl rfl (by decide) ?_
    clear hf; intro a ha hf; clear ha
    refine st_iadd hf (by decide) rfl rfl rfl ?_
    clear hf; intro a ha hf; clear ha
    refine st_assign hf rfl rfl (by decide) ?_
    clear hf; intro a ha hf; clear ha
    refine st_nil hf ?_
    refine th_n ?_
    refine wp_seq ?_
    refine wp_reg ?_
    refine st_move hf rfl rfl (by decide) ?_
    clear hf; intro a ha hf; clear ha
    refine st_assign hf rfl rfl (by decide) ?_
    clear hf; intro a ha hf; clear ha
    refine st_nil hf ?_
    refine th_n ?_
    refine wp_ret ?_
    obtain rfl := Option.some.inj h
    exact ⟨rfl, ⟨hf.sub ⟨rfl, trivial⟩, hp⟩⟩
  replace h := ifF h hb
  refine wp_skip ?_
  refine th_n ?_
  refine wp_seq ?_
  refine wp_reg ?_
  refine st_move hf rfl rfl (by decide) ?_
  clear hf; intro a ha hf; clear ha
  refine st_assign hf rfl rfl (by decide) ?_
  clear hf; intro a ha hf; clear ha
  refine st_nil hf ?_
  refine th_n ?_
  refine wp_ret ?_
  obtain rfl := Option.some.inj h
  exact ⟨rfl, ⟨hf.sub ⟨rfl, trivial⟩, hp⟩⟩

noncomputable def f_pulse_makers  : Option Unit := (some ())
theorem f_pulse_makers_c {S : Nat → Prop} {w0 w : World} {ow : List Res} (hp : Hp S w0 w ow) {r : Unit} (h : f_pulse_makers = some r) :
    Calls Try.prog 17 #[] w (fun e w' => ∃ (u0 : Value), e = .returned (u0) ∧ Hp S w0 w' (Res.sm u0 [((ByteArray.mk #[115, 112, 105, 107, 101]), .func (.func 26) #[] #[]), ((ByteArray.mk #[98, 111, 120]), .func (.func 27) #[] #[]), ((ByteArray.mk #[116, 101, 110, 116]), .func (.func 29) #[] #[]), ((ByteArray.mk #[115, 111, 102, 116]), .func (.func 30) #[] #[])] :: ow)) := by
  unfold f_pulse_makers at h
  refine enter (n := 3) (args := []) Try.func17 rfl rfl (Nat.le_of_ble_eq_true rfl) fun a hf => ?_
  replace hf : Fr 3 a [] := hf
  refine wp_mono (Q := fun e a w => e = .ret ∧ ∃ (u0 : Value), Fr 3 a [(0, u0)] ∧ Hp S w0 w (Res.sm u0 [((ByteArray.mk #[115, 112, 105, 107, 101]), .func (.func 26) #[] #[]), ((ByteArray.mk #[98, 111, 120]), .func (.func 27) #[] #[]), ((ByteArray.mk #[116, 101, 110, 116]), .func (.func 29) #[] #[]), ((ByteArray.mk #[115, 111, 102, 116]), .func (.func 30) #[] #[])] :: ow)) ?_ ?_
  rotate_left
  · rintro e a w ⟨rfl, x0, hf, hp⟩
    exact ret1 hf rfl rfl ⟨x0, rfl, hp⟩
  refine wp_seq ?_
  refine wp_reg ?_
  refine st_assign hf rfl rfl (by decide) ?_
  clear hf; intro a ha hf; clear ha
  refine st_nil hf ?_
  refine th_n ?_
  refine wp_seq ?_
  refine wp_reg ?_
  refine st_makeMapS hf (by decide) hp rfl ?_
  clear hf; intro a w g1 hf hp0; clear hp; have hp := hp0; clear hp0
  replace hp : Hp _ _ _ (Res.sm (.map (some g1)) [] :: ow) := hp
  refine st_insertS hf Try.underlying64 Try.underlying9 hp (i := 0) rfl (by decide) rfl rfl rfl rfl ?_
  clear hf; intro a w hf hp0; clear hp; have hp := hp0; clear hp0
  replace hp : Hp _ _ _ (Res.sm (.map (some g1)) [((ByteArray.mk #[115, 112, 105, 107, 101]), .func (.func 26) #[] #[])] :: ow) := hp
  refine st_insertS hf Try.underlying64 Try.underlying9 hp (i := 0) rfl (by decide) rfl rfl rfl rfl ?_
  clear hf; intro a w hf hp0; clear hp; have hp := hp0; clear hp0
  replace hp : Hp _ _ _ (Res.sm (.map (some g1)) [((ByteArray.mk #[115, 112, 105, 107, 101]), .func (.func 26) #[] #[]), ((ByteArray.mk #[98, 111, 120]), .func (.func 27) #[] #[])] :: ow) := hp
  refine st_insertS hf Try.underlying64 Try.underlying9 hp (i := 0) rfl (by decide) rfl rfl rfl rfl ?_
  clear hf; intro a w hf hp0; clear hp; have hp := hp0; clear hp0
  replace hp : Hp _ _ _ (Res.sm (.map (some g1)) [((ByteArray.mk #[115, 112, 105, 107, 101]), .func (.func 26) #[] #[]), ((ByteArray.mk #[98, 111, 120]), .func (.func 27) #[] #[]), ((ByteArray.mk #[116, 101, 110, 116]), .func (.func 29) #[] #[])] :: ow) := hp
  refine st_insertS hf Try.underlying64 Try.underlying9 hp (i := 0) rfl (by decide) rfl rfl rfl rfl ?_
  clear hf; intro a w hf hp0; clear hp; have hp := hp0; clear hp0
  replace hp : Hp _ _ _ (Res.sm (.map (some g1)) [((ByteArray.mk #[115, 112, 105, 107, 101]), .func (.func 26) #[] #[]), ((ByteArray.mk #[98, 111, 120]), .func (.func 27) #[] #[]), ((ByteArray.mk #[116, 101, 110, 116]), .func (.func 29) #[] #[]), ((ByteArray.mk #[115, 111, 102, 116]), .func (.func 30) #[] #[])] :: ow) := hp
  refine st_move hf rfl rfl (by decide) ?_
  clear hf; intro a ha hf; clear ha
  refine st_assign hf rfl rfl (by decide) ?_
  clear hf; intro a ha hf; clear ha
  refine st_nil hf ?_
  refine th_n ?_
  refine wp_ret ?_
  obtain rfl := Option.some.inj h
  exact ⟨rfl, ⟨_, hf.sub ⟨rfl, trivial⟩, hp⟩⟩

noncomputable def f_pulse_makers_1  : Option ((List Fl) × Int) := (some ([(Fl.bits 4607182418800017408)], (0 : Int)))
theorem f_pulse_makers_1_c {S : Nat → Prop} {w0 w : World} {ow : List Res} (hp : Hp S w0 w ow) {r : ((List Fl) × Int)} (h : f_pulse_makers_1 = some r) :
    Calls Try.prog 26 #[.int .i64 (1 : Int)] w (fun e w' => ∃ (u0 : Value), e = .returned (.tuple #[u0, .int .i64 r.2]) ∧ Hp S w0 w' (Res.sl Ek.f64 33 u0 r.1 :: ow)) := by
  unfold f_pulse_makers_1 at h
  refine enter (n := 5) (args := [.int .i64 (1 : Int)]) Try.func26 rfl rfl (Nat.le_of_ble_eq_true rfl) fun a hf => ?_
  replace hf : Fr 5 a [(0, .int .i64 (1 : Int))] := hf
  refine wp_mono (Q := fun e a w => e = .ret ∧ ∃ (u0 : Value), Fr 5 a [(2, u0), (3, .int .i64 r.2)] ∧ Hp S w0 w (Res.sl Ek.f64 33 u0 r.1 :: ow)) ?_ ?_
  rotate_left
  · rintro e a w ⟨rfl, x0, hf, hp⟩
    exact ret2 hf rfl rfl rfl ⟨x0, rfl, hp⟩
  refine wp_seq ?_
  refine wp_reg ?_
  refine st_assign hf rfl rfl (by decide) ?_
  clear hf; intro a ha hf; clear ha
  refine st_assign hf rfl rfl (by decide) ?_
  clear hf; intro a ha hf; clear ha
  refine st_nil hf ?_
  refine th_n ?_
  refine wp_seq ?_
  refine wp_reg ?_
  refine st_build (E := Ek.f64) (xs := [(Fl.bits 4607182418800017408)]) hf (by decide) elt33 Try.underlying26 hp (vals := #[(0, .float .f64 4607182418800017408)]) (cells := #[.float .f64 4607182418800017408]) rfl (by simp [hf.ev (x := (Operand.const (.float .f64 4607182418800017408))) rfl]) (Nat.le_of_ble_eq_true rfl) (Nat.le_of_ble_eq_true rfl) (z := .float .f64 0) (by kernel_rfl) (by kernel_rfl) rfl (reps_cons (cs := [.float .f64 4607182418800017408]) (show Ek.f64.rep [.float .f64 4607182418800017408] (Fl.bits 4607182418800017408) from ⟨_, rfl, rfl⟩) (reps_nil _)) ?_
  clear hf; intro a w v1 hf hp0; clear hp; have hp := hp0; clear hp0
  replace hp : Hp _ _ _ (Res.sl Ek.f64 33 v1 ([(Fl.bits 4607182418800017408)]) :: ow) := hp
  refine st_assign hf rfl rfl (by decide) ?_
  clear hf; intro a ha hf; clear ha
  refine st_assign hf rfl rfl (by decide) ?_
  clear hf; intro a ha hf; clear ha
  refine st_nil hf ?_
  refine th_n ?_
  refine wp_ret ?_
  obtain rfl := Option.some.inj h
  exact ⟨rfl, ⟨_, hf.sub ⟨rfl, rfl, trivial⟩, hp⟩⟩

noncomputable def f_pulse_Named  : Option ((Int × Int × (List Fl)) × Int) := ((f_pulse_makers).bind fun q3 => (if (false || false) = true then (some (((0 : Int), (0 : Int), []), (1 : Int))) else ((f_pulse_makers_1).bind fun q10 => (if 0 < q10.1.length then (some (((1 : Int), q10.2, q10.1), (0 : Int))) else none))))
theorem f_pulse_Named_c {S : Nat → Prop} {w0 w : World} {ow : List Res} (hp : Hp S w0 w ow) {r : ((Int × Int × (List Fl)) × Int)} (h : f_pulse_Named = some r) :
    Calls Try.prog 10 #[.string (ByteArray.mk #[115, 112, 105, 107, 101]), .int .i64 (1 : Int)] w (fun e w' => ∃ (u0 : Value), e = .returned (.tuple #[.agg #[.int .i64 r.1.1, .int .i64 r.1.2.1, u0], .int .i64 r.2]) ∧ Hp S w0 w' (Res.sl Ek.f64 33 u0 r.1.2.2 :: ow)) := by
  unfold f_pulse_Named at h
  refine enter (n := 39) (args := [.string (ByteArray.mk #[115, 112, 105, 107, 101]), .int .i64 (1 : Int)]) Try.func10 rfl rfl (Nat.le_of_ble_eq_true rfl) fun a hf => ?_
  replace hf : Fr 39 a [(0, .string (ByteArray.mk #[115, 112, 105, 107, 101])), (1, .int .i64 (1 : Int))] := hf
  refine wp_mono (Q := fun e a w => e = .ret ∧ ∃ (u0 : Value) (c0 : Value), Fr 39 a [(4, optr c0 0), (5, .int .i64 r.2)] ∧ Hp S w0 w (Res.obj 28 c0 [.int .i64 r.1.1, .int .i64 r.1.2.1, u0] :: Res.sl Ek.f64 33 u0 r.1.2.2 :: ow)) ?_ ?_
  rotate_left
  · rintro e a w ⟨rfl, x0, c0, hf, hp⟩
    exact retG2 hf rfl ⟨_, _, rfl, hp.ob (i := 0) rfl, .inr ⟨by kernel_rfl, rfl⟩⟩ rfl ⟨x0, rfl, hp.drop⟩
  refine wp_seq ?_
  refine wp_reg ?_
  refine st_alloc (cs := [.int .i64 (0 : Int), .int .i64 (0 : Int), .slice none 0 0]) (zv := .agg #[.int .i64 (0 : Int), .int .i64 (0 : Int), .slice none 0 0]) hf (by decide) (by kernel_rfl) rfl hp rfl ?_
  clear hf; intro a w v1 hf hp0; clear hp; have hp := hp0; clear hp0
  replace hp : Hp _ _ _ (Res.obj 28 v1 [.int .i64 (0 : Int), .int .i64 (0 : Int), .slice none 0 0] :: ow) := hp
  refine st_assign hf rfl rfl (by decide) ?_
  clear hf; intro a ha hf; clear ha
  refine st_nil hf ?_
  refine th_n ?_
  refine wp_seq ?_
  refine wp_reg ?_
  obtain ⟨q3, hcall4, h⟩ := bnd h
  refine st_call hf (by decide) Try.func17 rfl rfl rfl rfl rfl (f_pulse_makers_c hp  hcall4) ?_
  rintro _ w ⟨v5, rfl, hp0⟩
  clear hp; have hp := hp0; clear hp0
  replace hp : Hp _ _ _ (Res.sm v5 [((ByteArray.mk #[115, 112, 105, 107, 101]), .func (.func 26) #[] #[]), ((ByteArray.mk #[98, 111, 120]), .func (.func 27) #[] #[]), ((ByteArray.mk #[116, 101, 110, 116]), .func (.func 29) #[] #[]), ((ByteArray.mk #[115, 111, 102, 116]), .func (.func 30) #[] #[])] :: Res.obj 28 v1 [.int .i64 (0 : Int), .int .i64 (0 : Int), .slice none 0 0] :: ow) := hp
  refine ⟨_, rfl, ?_⟩
  clear hf; intro a hf
  refine st_move hf rfl rfl (by decide) ?_
  clear hf; intro a ha hf; clear ha
  refine st_lookupS (j := 0) (u := .func (.func 26) #[] #[]) hf (by decide) Try.underlying64 Try.underlying9 hp (i := 0) rfl (by rfl) rfl rfl rfl ?_
  clear hf; intro a ha hf; clear ha
  refine st_move hf rfl rfl (by decide) ?_
  clear hf; intro a ha hf; clear ha
  refine st_extract hf (by decide) rfl rfl rfl ?_
  clear hf; intro a ha hf; clear ha
  refine st_extract hf (by decide) rfl rfl rfl ?_
  clear hf; intro a ha hf; clear ha
  refine st_assign hf rfl rfl (by decide) ?_
  clear hf; intro a ha hf; clear ha
  refine st_assign hf rfl rfl (by decide) ?_
  clear hf; intro a ha hf; clear ha
  refine st_nil hf ?_
  refine th_n ?_
  refine wp_seq ?_
  refine wp_seq ?_
  refine wp_reg ?_
  refine st_move hf rfl rfl (by decide) ?_
  clear hf; intro a ha hf; clear ha
  refine st_not hf (by decide) rfl rfl ?_
  clear hf; intro a ha hf; clear ha
  replace hf : Fr _ _ ((17, .bool false) :: _) := hf
  refine st_nil hf ?_
  refine th_n ?_
  refine wp_if hf rfl (fun hb => ?_) (fun hb => ?_)
  · exact absurd hb (by decide)
  refine wp_skip ?_
  refine th_n ?_
  refine wp_seq ?_
  refine wp_seq ?_
  refine wp_reg ?_
  refine st_move hf rfl rfl (by decide) ?_
  clear hf; intro a ha hf; clear ha
  refine st_ilss hf (by decide) rfl rfl rfl ?_
  clear hf; intro a ha hf; clear ha
  replace hf : Fr _ _ ((20, .bool false) :: _) := hf
  refine st_move hf rfl rfl (by decide) ?_
  clear hf; intro a ha hf; clear ha
  refine wpList_cut 3 (fun a w => Fr 39 a [(1, .int .i64 (1 : Int)), (4, optr v1 0), (6, .func (.func 26) #[] #[]), (24, .bool (false || false))] ∧ Hp S w0 w (Res.sm v5 [((ByteArray.mk #[115, 112, 105, 107, 101]), .func (.func 26) #[] #[]), ((ByteArray.mk #[98, 111, 120]), .func (.func 27) #[] #[]), ((ByteArray.mk #[116, 101, 110, 116]), .func (.func 29) #[] #[]), ((ByteArray.mk #[115, 111, 102, 116]), .func (.func 30) #[] #[])] :: Res.obj 28 v1 [.int .i64 (0 : Int), .int .i64 (0 : Int), .slice none 0 0] :: ow)) ?_ ?_
  · rcases Bool.eq_false_or_eq_true false with hb8 | hb8
    · skip
      refine st_skip hf (wantN hf rfl rfl hb8) rfl (by decide) ?_ rfl
      clear hf; intro a hf
      refine st_skip hf (wantN hf rfl rfl hb8) rfl (by decide) ?_ rfl
      clear hf; intro a hf
      refine st_pick (v := .bool true) hf rfl rfl (fun hb' => ?_) (fun hb' => ?_) (by decide) ?_
      · rfl
      · exact absurd (hb8.symm.trans hb') (by decide)
      clear hf; intro a ha hf; clear ha
      refine st_nil hf (th_n ?_)
      exact ⟨hf.sub ⟨rfl, rfl, rfl, (by rw [hb8]; rfl), trivial⟩, hp⟩
    refine st_move hf (wantY hf rfl rfl hb8) rfl (by decide) ?_
    clear hf; intro a ha hf; clear ha
    refine st_igtr hf (by decide) (wantY hf rfl rfl hb8) rfl rfl ?_
    clear hf; intro a ha hf; clear ha
    replace hf : Fr _ _ ((23, .bool false) :: _) := hf
    refine st_pick (v := .bool false) hf rfl rfl (fun hb' => ?_) (fun hb' => ?_) (by decide) ?_
    · exact absurd (hb8.symm.trans hb') (by decide)
    · rfl
    clear hf; intro a ha hf; clear ha
    refine st_nil hf (th_n ?_)
    exact ⟨hf.sub ⟨rfl, rfl, rfl, (by rw [hb8]; rfl), trivial⟩, hp⟩
  rintro a w ⟨hf, hp⟩
  refine st_nil hf ?_
  refine th_n ?_
  refine wp_if hf rfl (fun hb => ?_) (fun hb => ?_)
  · replace h := ifT h hb
    refine wp_seq ?_
    refine wp_reg ?_
    refine st_buildA (vals := []) (cells := [.int .i64 (0 : Int), .int .i64 (0 : Int), .slice none 0 0]) hf (by decide) rfl (by simp []) (fun w => by kernel_rfl) ?_
    clear hf; intro a ha hf; clear ha
    refine st_stO (us := [.int .i64 (0 : Int), .int .i64 (0 : Int), .slice none 0 0]) hf hp (i := 1) rfl rfl rfl rfl rfl (by rfl) (by kernel_rfl) (Nat.le_of_ble_eq_true rfl) ?_
    clear hf; intro a w hf hp0; clear hp; have hp := hp0; clear hp0
    replace hp : Hp _ _ _ (Res.sm v5 [((ByteArray.mk #[115, 112, 105, 107, 101]), .func (.func 26) #[] #[]), ((ByteArray.mk #[98, 111, 120]), .func (.func 27) #[] #[]), ((ByteArray.mk #[116, 101, 110, 116]), .func (.func 29) #[] #[]), ((ByteArray.mk #[115, 111, 102, 116]), .func (.func 30) #[] #[])] :: Res.obj 28 v1 [.int .i64 (0 : Int), .int .i64 (0 : Int), .slice none 0 0] :: ow) := hp
    refine st_assign hf rfl rfl (by decide) ?_
    clear hf; intro a ha hf; clear ha
    refine st_nil hf ?_
    refine th_n ?_
    refine wp_ret ?_
    refine th_r ?_
    obtain rfl := Option.some.inj h
    have hp := hp.nil Ek.f64 33
    have hp : Hp _ _ _ (Res.obj 28 v1 [.int .i64 (0 : Int), .int .i64 (0 : Int), .slice none 0 0] :: Res.sl Ek.f64 33 (.slice none 0 0) ([]) :: ow) := Hp.sel (pre := [Res.sl Ek.f64 33 (.slice none 0 0) ([]), Res.sm v5 [((ByteArray.mk #[115, 112, 105, 107, 101]), .func (.func 26) #[] #[]), ((ByteArray.mk #[98, 111, 120]), .func (.func 27) #[] #[]), ((ByteArray.mk #[116, 101, 110, 116]), .func (.func 29) #[] #[]), ((ByteArray.mk #[115, 111, 102, 116]), .func (.func 30) #[] #[])], Res.obj 28 v1 [.int .i64 (0 : Int), .int .i64 (0 : Int), .slice none 0 0]]) (tail := ow) (rs' := [Res.obj 28 v1 [.int .i64 (0 : Int), .int .i64 (0 : Int), .slice none 0 0], Res.sl Ek.f64 33 (.slice none 0 0) ([])]) hp [2, 0] (by decide) (by simp) rfl
    exact ⟨rfl, ⟨_, _, hf.sub ⟨rfl, rfl, trivial⟩, hp⟩⟩
  replace h := ifF h hb
  refine wp_skip ?_
  refine th_n ?_
  refine wp_seq ?_
  refine wp_reg ?_
  refine st_move hf rfl rfl (by decide) ?_
  clear hf; intro a ha hf; clear ha
  refine st_move hf rfl rfl (by decide) ?_
  clear hf; intro a ha hf; clear ha
  obtain ⟨q10, hcall11, h⟩ := bnd h
  refine st_call hf (by decide) Try.func26 rfl rfl rfl rfl rfl (f_pulse_makers_1_c hp  hcall11) ?_
  rintro _ w ⟨v12, rfl, hp0⟩
  clear hp; have hp := hp0; clear hp0
  replace hp : Hp _ _ _ (Res.sl Ek.f64 33 v12 q10.1 :: Res.sm v5 [((ByteArray.mk #[115, 112, 105, 107, 101]), .func (.func 26) #[] #[]), ((ByteArray.mk #[98, 111, 120]), .func (.func 27) #[] #[]), ((ByteArray.mk #[116, 101, 110, 116]), .func (.func 29) #[] #[]), ((ByteArray.mk #[115, 111, 102, 116]), .func (.func 30) #[] #[])] :: Res.obj 28 v1 [.int .i64 (0 : Int), .int .i64 (0 : Int), .slice none 0 0] :: ow) := hp
  refine ⟨_, rfl, ?_⟩
  clear hf; intro a hf
  refine st_move hf rfl rfl (by decide) ?_
  clear hf; intro a ha hf; clear ha
  refine st_extract hf (by decide) rfl rfl rfl ?_
  clear hf; intro a ha hf; clear ha
  refine st_extract hf (by decide) rfl rfl rfl ?_
  clear hf; intro a ha hf; clear ha
  refine st_assign hf rfl rfl (by decide) ?_
  clear hf; intro a ha hf; clear ha
  refine st_assign hf rfl rfl (by decide) ?_
  clear hf; intro a ha hf; clear ha
  refine st_nil hf ?_
  refine th_n ?_
  refine wp_seq ?_
  refine wp_seq ?_
  refine wp_reg ?_
  refine st_move hf rfl rfl (by decide) ?_
  clear hf; intro a ha hf; clear ha
  obtain ⟨hc14, h⟩ := chk h
  refine st_slnilE hf (by decide) Try.underlying26 rfl rfl rfl (hp.sl (i := 0) rfl) hc14 ?_
  clear hf; intro a ha hf; clear ha
  refine st_nil hf ?_
  refine th_n ?_
  refine wp_if hf rfl (fun hb => ?_) (fun hb => ?_)
  · exact absurd hb (by decide)
  refine wp_skip ?_
  refine th_n ?_
  refine wp_seq ?_
  refine wp_reg ?_
  refine st_move hf rfl rfl (by decide) ?_
  clear hf; intro a ha hf; clear ha
  refine st_move hf rfl rfl (by decide) ?_
  clear hf; intro a ha hf; clear ha
  refine st_move hf rfl rfl (by decide) ?_
  clear hf; intro a ha hf; clear ha
  refine st_buildA (vals := [(0, .int .i64 (1 : Int)), (1, .int .i64 q10.2), (2, v12)]) (cells := [.int .i64 (1 : Int), .int .i64 q10.2, v12]) hf (by decide) rfl (by simp [hf.ev (x := (Operand.tmp 35)) rfl, hf.ev (x := (Operand.tmp 36)) rfl, hf.ev (x := (Operand.tmp 37)) rfl]) (fun w => by obtain ⟨_, _, rfl⟩ := (hp.sl (i := 0) rfl).shapeV; kernel_rfl) ?_
  clear hf; intro a ha hf; clear ha
  refine st_stO (us := [.int .i64 (1 : Int), .int .i64 q10.2, v12]) hf hp (i := 2) rfl rfl rfl rfl rfl (by first | rfl | (obtain ⟨_, _, rfl⟩ := (hp.sl (i := 0) rfl).shapeV; rfl)) (by kernel_rfl) (Nat.le_of_ble_eq_true rfl) ?_
  clear hf; intro a w hf hp0; clear hp; have hp := hp0; clear hp0
  replace hp : Hp _ _ _ (Res.sl Ek.f64 33 v12 q10.1 :: Res.sm v5 [((ByteArray.mk #[115, 112, 105, 107, 101]), .func (.func 26) #[] #[]), ((ByteArray.mk #[98, 111, 120]), .func (.func 27) #[] #[]), ((ByteArray.mk #[116, 101, 110, 116]), .func (.func 29) #[] #[]), ((ByteArray.mk #[115, 111, 102, 116]), .func (.func 30) #[] #[])] :: Res.obj 28 v1 [.int .i64 (1 : Int), .int .i64 q10.2, v12] :: ow) := hp
  refine st_assign hf rfl rfl (by decide) ?_
  clear hf; intro a ha hf; clear ha
  refine st_nil hf ?_
  refine th_n ?_
  refine wp_ret ?_
  obtain rfl := Option.some.inj h
  have hp : Hp _ _ _ (Res.obj 28 v1 [.int .i64 (1 : Int), .int .i64 q10.2, v12] :: Res.sl Ek.f64 33 v12 q10.1 :: ow) := Hp.sel (pre := [Res.sl Ek.f64 33 v12 q10.1, Res.sm v5 [((ByteArray.mk #[115, 112, 105, 107, 101]), .func (.func 26) #[] #[]), ((ByteArray.mk #[98, 111, 120]), .func (.func 27) #[] #[]), ((ByteArray.mk #[116, 101, 110, 116]), .func (.func 29) #[] #[]), ((ByteArray.mk #[115, 111, 102, 116]), .func (.func 30) #[] #[])], Res.obj 28 v1 [.int .i64 (1 : Int), .int .i64 q10.2, v12]]) (tail := ow) (rs' := [Res.obj 28 v1 [.int .i64 (1 : Int), .int .i64 q10.2, v12], Res.sl Ek.f64 33 v12 q10.1]) hp [2, 0] (by decide) (by simp) rfl
  exact ⟨rfl, ⟨_, _, hf.sub ⟨rfl, rfl, trivial⟩, hp⟩⟩

noncomputable def f_pulse_makers_1_26  : Option ((List Fl) × Int) := (some ([(Fl.bits 4607182418800017408)], (0 : Int)))
theorem f_pulse_makers_1_26_c {S : Nat → Prop} {w0 w : World} {ow : List Res} (hp : Hp S w0 w ow) {r : ((List Fl) × Int)} (h : f_pulse_makers_1_26 = some r) :
    Calls Try.prog 26 #[.int .i64 (3 : Int)] w (fun e w' => ∃ (u0 : Value), e = .returned (.tuple #[u0, .int .i64 r.2]) ∧ Hp S w0 w' (Res.sl Ek.f64 33 u0 r.1 :: ow)) := by
  unfold f_pulse_makers_1_26 at h
  refine enter (n := 5) (args := [.int .i64 (3 : Int)]) Try.func26 rfl rfl (Nat.le_of_ble_eq_true rfl) fun a hf => ?_
  replace hf : Fr 5 a [(0, .int .i64 (3 : Int))] := hf
  refine wp_mono (Q := fun e a w => e = .ret ∧ ∃ (u0 : Value), Fr 5 a [(2, u0), (3, .int .i64 r.2)] ∧ Hp S w0 w (Res.sl Ek.f64 33 u0 r.1 :: ow)) ?_ ?_
  rotate_left
  · rintro e a w ⟨rfl, x0, hf, hp⟩
    exact ret2 hf rfl rfl rfl ⟨x0, rfl, hp⟩
  refine wp_seq ?_
  refine wp_reg ?_
  refine st_assign hf rfl rfl (by decide) ?_
  clear hf; intro a ha hf; clear ha
  refine st_assign hf rfl rfl (by decide) ?_
  clear hf; intro a ha hf; clear ha
  refine st_nil hf ?_
  refine th_n ?_
  refine wp_seq ?_
  refine wp_reg ?_
  refine st_build (E := Ek.f64) (xs := [(Fl.bits 4607182418800017408)]) hf (by decide) elt33 Try.underlying26 hp (vals := #[(0, .float .f64 4607182418800017408)]) (cells := #[.float .f64 4607182418800017408]) rfl (by simp [hf.ev (x := (Operand.const (.float .f64 4607182418800017408))) rfl]) (Nat.le_of_ble_eq_true rfl) (Nat.le_of_ble_eq_true rfl) (z := .float .f64 0) (by kernel_rfl) (by kernel_rfl) rfl (reps_cons (cs := [.float .f64 4607182418800017408]) (show Ek.f64.rep [.float .f64 4607182418800017408] (Fl.bits 4607182418800017408) from ⟨_, rfl, rfl⟩) (reps_nil _)) ?_
  clear hf; intro a w v1 hf hp0; clear hp; have hp := hp0; clear hp0
  replace hp : Hp _ _ _ (Res.sl Ek.f64 33 v1 ([(Fl.bits 4607182418800017408)]) :: ow) := hp
  refine st_assign hf rfl rfl (by decide) ?_
  clear hf; intro a ha hf; clear ha
  refine st_assign hf rfl rfl (by decide) ?_
  clear hf; intro a ha hf; clear ha
  refine st_nil hf ?_
  refine th_n ?_
  refine wp_ret ?_
  obtain rfl := Option.some.inj h
  exact ⟨rfl, ⟨_, hf.sub ⟨rfl, rfl, trivial⟩, hp⟩⟩

noncomputable def f_pulse_Named_10  : Option ((Int × Int × (List Fl)) × Int) := ((f_pulse_makers).bind fun q3 => (if (false || false) = true then (some (((0 : Int), (0 : Int), []), (1 : Int))) else ((f_pulse_makers_1_26).bind fun q10 => (if 0 < q10.1.length then (some (((3 : Int), q10.2, q10.1), (0 : Int))) else none))))
theorem f_pulse_Named_10_c {S : Nat → Prop} {w0 w : World} {ow : List Res} (hp : Hp S w0 w ow) {r : ((Int × Int × (List Fl)) × Int)} (h : f_pulse_Named_10 = some r) :
    Calls Try.prog 10 #[.string (ByteArray.mk #[115, 112, 105, 107, 101]), .int .i64 (3 : Int)] w (fun e w' => ∃ (u0 : Value), e = .returned (.tuple #[.agg #[.int .i64 r.1.1, .int .i64 r.1.2.1, u0], .int .i64 r.2]) ∧ Hp S w0 w' (Res.sl Ek.f64 33 u0 r.1.2.2 :: ow)) := by
  unfold f_pulse_Named_10 at h
  refine enter (n := 39) (args := [.string (ByteArray.mk #[115, 112, 105, 107, 101]), .int .i64 (3 : Int)]) Try.func10 rfl rfl (Nat.le_of_ble_eq_true rfl) fun a hf => ?_
  replace hf : Fr 39 a [(0, .string (ByteArray.mk #[115, 112, 105, 107, 101])), (1, .int .i64 (3 : Int))] := hf
  refine wp_mono (Q := fun e a w => e = .ret ∧ ∃ (u0 : Value) (c0 : Value), Fr 39 a [(4, optr c0 0), (5, .int .i64 r.2)] ∧ Hp S w0 w (Res.obj 28 c0 [.int .i64 r.1.1, .int .i64 r.1.2.1, u0] :: Res.sl Ek.f64 33 u0 r.1.2.2 :: ow)) ?_ ?_
  rotate_left
  · rintro e a w ⟨rfl, x0, c0, hf, hp⟩
    exact retG2 hf rfl ⟨_, _, rfl, hp.ob (i := 0) rfl, .inr ⟨by kernel_rfl, rfl⟩⟩ rfl ⟨x0, rfl, hp.drop⟩
  refine wp_seq ?_
  refine wp_reg ?_
  refine st_alloc (cs := [.int .i64 (0 : Int), .int .i64 (0 : Int), .slice none 0 0]) (zv := .agg #[.int .i64 (0 : Int), .int .i64 (0 : Int), .slice none 0 0]) hf (by decide) (by kernel_rfl) rfl hp rfl ?_
  clear hf; intro a w v1 hf hp0; clear hp; have hp := hp0; clear hp0
  replace hp : Hp _ _ _ (Res.obj 28 v1 [.int .i64 (0 : Int), .int .i64 (0 : Int), .slice none 0 0] :: ow) := hp
  refine st_assign hf rfl rfl (by decide) ?_
  clear hf; intro a ha hf; clear ha
  refine st_nil hf ?_
  refine th_n ?_
  refine wp_seq ?_
  refine wp_reg ?_
  obtain ⟨q3, hcall4, h⟩ := bnd h
  refine st_call hf (by decide) Try.func17 rfl rfl rfl rfl rfl (f_pulse_makers_c hp  hcall4) ?_
  rintro _ w ⟨v5, rfl, hp0⟩
  clear hp; have hp := hp0; clear hp0
  replace hp : Hp _ _ _ (Res.sm v5 [((ByteArray.mk #[115, 112, 105, 107, 101]), .func (.func 26) #[] #[]), ((ByteArray.mk #[98, 111, 120]), .func (.func 27) #[] #[]), ((ByteArray.mk #[116, 101, 110, 116]), .func (.func 29) #[] #[]), ((ByteArray.mk #[115, 111, 102, 116]), .func (.func 30) #[] #[])] :: Res.obj 28 v1 [.int .i64 (0 : Int), .int .i64 (0 : Int), .slice none 0 0] :: ow) := hp
  refine ⟨_, rfl, ?_⟩
  clear hf; intro a hf
  refine st_move hf rfl rfl (by decide) ?_
  clear hf; intro a ha hf; clear ha
  refine st_lookupS (j := 0) (u := .func (.func 26) #[] #[]) hf (by decide) Try.underlying64 Try.underlying9 hp (i := 0) rfl (by rfl) rfl rfl rfl ?_
  clear hf; intro a ha hf; clear ha
  refine st_move hf rfl rfl (by decide) ?_
  clear hf; intro a ha hf; clear ha
  refine st_extract hf (by decide) rfl rfl rfl ?_
  clear hf; intro a ha hf; clear ha
  refine st_extract hf (by decide) rfl rfl rfl ?_
  clear hf; intro a ha hf; clear ha
  refine st_assign hf rfl rfl (by decide) ?_
  clear hf; intro a ha hf; clear ha
  refine st_assign hf rfl rfl (by decide) ?_
  clear hf; intro a ha hf; clear ha
  refine st_nil hf ?_
  refine th_n ?_
  refine wp_seq ?_
  refine wp_seq ?_
  refine wp_reg ?_
  refine st_move hf rfl rfl (by decide) ?_
  clear hf; intro a ha hf; clear ha
  refine st_not hf (by decide) rfl rfl ?_
  clear hf; intro a ha hf; clear ha
  replace hf : Fr _ _ ((17, .bool false) :: _) := hf
  refine st_nil hf ?_
  refine th_n ?_
  refine wp_if hf rfl (fun hb => ?_) (fun hb => ?_)
  · exact absurd hb (by decide)
  refine wp_skip ?_
  refine th_n ?_
  refine wp_seq ?_
  refine wp_seq ?_
  refine wp_reg ?_
  refine st_move hf rfl rfl (by decide) ?_
  clear hf; intro a ha hf; clear ha
  refine st_ilss hf (by decide) rfl rfl rfl ?_
  clear hf; intro a ha hf; clear ha
  replace hf : Fr _ _ ((20, .bool false) :: _) := hf
  refine st_move hf rfl rfl (by decide) ?_
  clear hf; intro a ha hf; clear ha
  refine wpList_cut 3 (fun a w => Fr 39 a [(1, .int .i64 (3 : Int)), (4, optr v1 0), (6, .func (.func 26) #[] #[]), (24, .bool (false || false))] ∧ Hp S w0 w (Res.sm v5 [((ByteArray.mk #[115, 112, 105, 107, 101]), .func (.func 26) #[] #[]), ((ByteArray.mk #[98, 111, 120]), .func (.func 27) #[] #[]), ((ByteArray.mk #[116, 101, 110, 116]), .func (.func 29) #[] #[]), ((ByteArray.mk #[115, 111, 102, 116]), .func (.func 30) #[] #[])] :: Res.obj 28 v1 [.int .i64 (0 : Int), .int .i64 (0 : Int), .slice none 0 0] :: ow)) ?_ ?_
  · rcases Bool.eq_false_or_eq_true false with hb8 | hb8
    · skip
      refine st_skip hf (wantN hf rfl rfl hb8) rfl (by decide) ?_ rfl
      clear hf; intro a hf
      refine st_skip hf (wantN hf rfl rfl hb8) rfl (by decide) ?_ rfl
      clear hf; intro a hf
      refine st_pick (v := .bool true) hf rfl rfl (fun hb' => ?_) (fun hb' => ?_) (by decide) ?_
      · rfl
      · exact absurd (hb8.symm.trans hb') (by decide)
      clear hf; intro a ha hf; clear ha
      refine st_nil hf (th_n ?_)
      exact ⟨hf.sub ⟨rfl, rfl, rfl, (by rw [hb8]; rfl), trivial⟩, hp⟩
    refine st_move hf (wantY hf rfl rfl hb8) rfl (by decide) ?_
    clear hf; intro a ha hf; clear ha
    refine st_igtr hf (by decide) (wantY hf rfl rfl hb8) rfl rfl ?_
    clear hf; intro a ha hf; clear ha
    replace hf : Fr _ _ ((23, .bool false) :: _) := hf
    refine st_pick (v := .bool false) hf rfl rfl (fun hb' => ?_) (fun hb' => ?_) (by decide) ?_
    · exact absurd (hb8.symm.trans hb') (by decide)
    · rfl
    clear hf; intro a ha hf; clear ha
    refine st_nil hf (th_n ?_)
    exact ⟨hf.sub ⟨rfl, rfl, rfl, (by rw [hb8]; rfl), trivial⟩, hp⟩
  rintro a w ⟨hf, hp⟩
  refine st_nil hf ?_
  refine th_n ?_
  refine wp_if hf rfl (fun hb => ?_) (fun hb => ?_)
  · replace h := ifT h hb
    refine wp_seq ?_
    refine wp_reg ?_
    refine st_buildA (vals := []) (cells := [.int .i64 (0 : Int), .int .i64 (0 : Int), .slice none 0 0]) hf (by decide) rfl (by simp []) (fun w => by kernel_rfl) ?_
    clear hf; intro a ha hf; clear ha
    refine st_stO (us := [.int .i64 (0 : Int), .int .i64 (0 : Int), .slice none 0 0]) hf hp (i := 1) rfl rfl rfl rfl rfl (by rfl) (by kernel_rfl) (Nat.le_of_ble_eq_true rfl) ?_
    clear hf; intro a w hf hp0; clear hp; have hp := hp0; clear hp0
    replace hp : Hp _ _ _ (Res.sm v5 [((ByteArray.mk #[115, 112, 105, 107, 101]), .func (.func 26) #[] #[]), ((ByteArray.mk #[98, 111, 120]), .func (.func 27) #[] #[]), ((ByteArray.mk #[116, 101, 110, 116]), .func (.func 29) #[] #[]), ((ByteArray.mk #[115, 111, 102, 116]), .func (.func 30) #[] #[])] :: Res.obj 28 v1 [.int .i64 (0 : Int), .int .i64 (0 : Int), .slice none 0 0] :: ow) := hp
    refine st_assign hf rfl rfl (by decide) ?_
    clear hf; intro a ha hf; clear ha
    refine st_nil hf ?_
    refine th_n ?_
    refine wp_ret ?_
    refine th_r ?_
    obtain rfl := Option.some.inj h
    have hp := hp.nil Ek.f64 33
    have hp : Hp _ _ _ (Res.obj 28 v1 [.int .i64 (0 : Int), .int .i64 (0 : Int), .slice none 0 0] :: Res.sl Ek.f64 33 (.slice none 0 0) ([]) :: ow) := Hp.sel (pre := [Res.sl Ek.f64 33 (.slice none 0 0) ([]), Res.sm v5 [((ByteArray.mk #[115, 112, 105, 107, 101]), .func (.func 26) #[] #[]), ((ByteArray.mk #[98, 111, 120]), .func (.func 27) #[] #[]), ((ByteArray.mk #[116, 101, 110, 116]), .func (.func 29) #[] #[]), ((ByteArray.mk #[115, 111, 102, 116]), .func (.func 30) #[] #[])], Res.obj 28 v1 [.int .i64 (0 : Int), .int .i64 (0 : Int), .slice none 0 0]]) (tail := ow) (rs' := [Res.obj 28 v1 [.int .i64 (0 : Int), .int .i64 (0 : Int), .slice none 0 0], Res.sl Ek.f64 33 (.slice none 0 0) ([])]) hp [2, 0] (by decide) (by simp) rfl
    exact ⟨rfl, ⟨_, _, hf.sub ⟨rfl, rfl, trivial⟩, hp⟩⟩
  replace h := ifF h hb
  refine wp_skip ?_
  refine th_n ?_
  refine wp_seq ?_
  refine wp_reg ?_
  refine st_move hf rfl rfl (by decide) ?_
  clear hf; intro a ha hf; clear ha
  refine st_move hf rfl rfl (by decide) ?_
  clear hf; intro a ha hf; clear ha
  obtain ⟨q10, hcall11, h⟩ := bnd h
  refine st_call hf (by decide) Try.func26 rfl rfl rfl rfl rfl (f_pulse_makers_1_26_c hp  hcall11) ?_
  rintro _ w ⟨v12, rfl, hp0⟩
  clear hp; have hp := hp0; clear hp0
  replace hp : Hp _ _ _ (Res.sl Ek.f64 33 v12 q10.1 :: Res.sm v5 [((ByteArray.mk #[115, 112, 105, 107, 101]), .func (.func 26) #[] #[]), ((ByteArray.mk #[98, 111, 120]), .func (.func 27) #[] #[]), ((ByteArray.mk #[116, 101, 110, 116]), .func (.func 29) #[] #[]), ((ByteArray.mk #[115, 111, 102, 116]), .func (.func 30) #[] #[])] :: Res.obj 28 v1 [.int .i64 (0 : Int), .int .i64 (0 : Int), .slice none 0 0] :: ow) := hp
  refine ⟨_, rfl, ?_⟩
  clear hf; intro a hf
  refine st_move hf rfl rfl (by decide) ?_
  clear hf; intro a ha hf; clear ha
  refine st_extract hf (by decide) rfl rfl rfl ?_
  clear hf; intro a ha hf; clear ha
  refine st_extract hf (by decide) rfl rfl rfl ?_
  clear hf; intro a ha hf; clear ha
  refine st_assign hf rfl rfl (by decide) ?_
  clear hf; intro a ha hf; clear ha
  refine st_assign hf rfl rfl (by decide) ?_
  clear hf; intro a ha hf; clear ha
  refine st_nil hf ?_
  refine th_n ?_
  refine wp_seq ?_
  refine wp_seq ?_
  refine wp_reg ?_
  refine st_move hf rfl rfl (by decide) ?_
  clear hf; intro a ha hf; clear ha
  obtain ⟨hc14, h⟩ := chk h
  refine st_slnilE hf (by decide) Try.underlying26 rfl rfl rfl (hp.sl (i := 0) rfl) hc14 ?_
  clear hf; intro a ha hf; clear ha
  refine st_nil hf ?_
  refine th_n ?_
  refine wp_if hf rfl (fun hb => ?_) (fun hb => ?_)
  · exact absurd hb (by decide)
  refine wp_skip ?_
  refine th_n ?_
  refine wp_seq ?_
  refine wp_reg ?_
  refine st_move hf rfl rfl (by decide) ?_
  clear hf; intro a ha hf; clear ha
  refine st_move hf rfl rfl (by decide) ?_
  clear hf; intro a ha hf; clear ha
  refine st_move hf rfl rfl (by decide) ?_
  clear hf; intro a ha hf; clear ha
  refine st_buildA (vals := [(0, .int .i64 (3 : Int)), (1, .int .i64 q10.2), (2, v12)]) (cells := [.int .i64 (3 : Int), .int .i64 q10.2, v12]) hf (by decide) rfl (by simp [hf.ev (x := (Operand.tmp 35)) rfl, hf.ev (x := (Operand.tmp 36)) rfl, hf.ev (x := (Operand.tmp 37)) rfl]) (fun w => by obtain ⟨_, _, rfl⟩ := (hp.sl (i := 0) rfl).shapeV; kernel_rfl) ?_
  clear hf; intro a ha hf; clear ha
  refine st_stO (us := [.int .i64 (3 : Int), .int .i64 q10.2, v12]) hf hp (i := 2) rfl rfl rfl rfl rfl (by first | rfl | (obtain ⟨_, _, rfl⟩ := (hp.sl (i := 0) rfl).shapeV; rfl)) (by kernel_rfl) (Nat.le_of_ble_eq_true rfl) ?_
  clear hf; intro a w hf hp0; clear hp; have hp := hp0; clear hp0
  replace hp : Hp _ _ _ (Res.sl Ek.f64 33 v12 q10.1 :: Res.sm v5 [((ByteArray.mk #[115, 112, 105, 107, 101]), .func (.func 26) #[] #[]), ((ByteArray.mk #[98, 111, 120]), .func (.func 27) #[] #[]), ((ByteArray.mk #[116, 101, 110, 116]), .func (.func 29) #[] #[]), ((ByteArray.mk #[115, 111, 102, 116]), .func (.func 30) #[] #[])] :: Res.obj 28 v1 [.int .i64 (3 : Int), .int .i64 q10.2, v12] :: ow) := hp
  refine st_assign hf rfl rfl (by decide) ?_
  clear hf; intro a ha hf; clear ha
  refine st_nil hf ?_
  refine th_n ?_
  refine wp_ret ?_
  obtain rfl := Option.some.inj h
  have hp : Hp _ _ _ (Res.obj 28 v1 [.int .i64 (3 : Int), .int .i64 q10.2, v12] :: Res.sl Ek.f64 33 v12 q10.1 :: ow) := Hp.sel (pre := [Res.sl Ek.f64 33 v12 q10.1, Res.sm v5 [((ByteArray.mk #[115, 112, 105, 107, 101]), .func (.func 26) #[] #[]), ((ByteArray.mk #[98, 111, 120]), .func (.func 27) #[] #[]), ((ByteArray.mk #[116, 101, 110, 116]), .func (.func 29) #[] #[]), ((ByteArray.mk #[115, 111, 102, 116]), .func (.func 30) #[] #[])], Res.obj 28 v1 [.int .i64 (3 : Int), .int .i64 q10.2, v12]]) (tail := ow) (rs' := [Res.obj 28 v1 [.int .i64 (3 : Int), .int .i64 q10.2, v12], Res.sl Ek.f64 33 v12 q10.1]) hp [2, 0] (by decide) (by simp) rfl
  exact ⟨rfl, ⟨_, _, hf.sub ⟨rfl, rfl, trivial⟩, hp⟩⟩

noncomputable def f_math_bits_Mul64 (xx0 : Int) (yx1 : Int) : Option (Int × Int) := (some ((IntKind.u64.wrap ((IntKind.u64.wrap ((IntKind.u64.wrap ((ishr .u64 xx0 (32 : Int)) * (ishr .u64 yx1 (32 : Int)))) + (ishr .u64 (IntKind.u64.wrap ((IntKind.u64.wrap ((ishr .u64 xx0 (32 : Int)) * (iand .u64 yx1 (4294967295 : Int)))) + (ishr .u64 (IntKind.u64.wrap ((iand .u64 xx0 (4294967295 : Int)) * (iand .u64 yx1 (4294967295 : Int)))) (32 : Int)))) (32 : Int)))) + (ishr .u64 (IntKind.u64.wrap ((iand .u64 (IntKind.u64.wrap ((IntKind.u64.wrap ((ishr .u64 xx0 (32 : Int)) * (iand .u64 yx1 (4294967295 : Int)))) + (ishr .u64 (IntKind.u64.wrap ((iand .u64 xx0 (4294967295 : Int)) * (iand .u64 yx1 (4294967295 : Int)))) (32 : Int)))) (4294967295 : Int)) + (IntKind.u64.wrap ((iand .u64 xx0 (4294967295 : Int)) * (ishr .u64 yx1 (32 : Int)))))) (32 : Int)))), (IntKind.u64.wrap (xx0 * yx1))))
theorem f_math_bits_Mul64_c {S : Nat → Prop} {w0 w : World} {ow : List Res} (hp : Hp S w0 w ow) (xx0 : Int) (yx1 : Int) {r : (Int × Int)} (h : f_math_bits_Mul64 xx0 yx1 = some r) :
    Calls Try.prog 62 #[.int .u64 xx0, .int .u64 yx1] w (fun e w' => e = .returned (.tuple #[.int .u64 r.1, .int .u64 r.2]) ∧ Hp S w0 w' (ow)) := by
  unfold f_math_bits_Mul64 at h
  refine enter (n := 51) (args := [.int .u64 xx0, .int .u64 yx1]) Try.func62 rfl rfl (Nat.le_of_ble_eq_true rfl) fun a hf => ?_
  replace hf : Fr 51 a [(0, .int .u64 xx0), (1, .int .u64 yx1)] := hf
  refine wp_mono (Q := fun e a w => e = .ret ∧ Fr 51 a [(4, .int .u64 r.1), (5, .int .u64 r.2)] ∧ Hp S w0 w (ow)) ?_ ?_
  rotate_left
  · rintro e a w ⟨rfl, hf, hp⟩
    exact ret2 hf rfl rfl rfl ⟨rfl, hp⟩
  refine wp_seq ?_
  refine wp_reg ?_
  refine st_assign hf rfl rfl (by decide) ?_
  clear hf; intro a ha hf; clear ha
  refine st_assign hf rfl rfl (by decide) ?_
  clear hf; intro a ha hf; clear ha
  refine st_nil hf ?_
  refine th_n ?_
  refine wp_seq ?_
  refine wp_reg ?_
  refine st_move hf rfl rfl (by decide) ?_
  clear hf; intro a ha hf; clear ha
  refine st_iand hf (by decide) rfl rfl rfl ?_
  clear hf; intro a ha hf; clear ha
  refine st_assign hf rfl rfl (by decide) ?_
  clear hf; intro a ha hf; clear ha
  refine st_nil hf ?_
  refine th_n ?_
  refine wp_seq ?_
  refine wp_reg ?_
  refine st_move hf rfl rfl (by decide) ?_
  clear hf; intro a ha hf; clear ha
  refine st_ishr hf (by decide) rfl rfl rfl (by decide) ?_
  clear hf; intro a ha hf; clear ha
  refine st_assign hf rfl rfl (by decide) ?_
  clear hf; intro a ha hf; clear ha
  refine st_nil hf ?_
  refine th_n ?_
  refine wp_seq ?_
  refine wp_reg ?_
  refine st_move hf rfl rfl (by decide) ?_
  clear hf; intro a ha hf; clear ha
  refine st_iand hf (by decide) rfl rfl rfl ?_
  clear hf; intro a ha hf; clear ha
  refine st_assign hf rfl rfl (by decide) ?_
  clear hf; intro a ha hf; clear ha
  refine st_nil hf ?_
  refine th_n ?_
  refine wp_seq ?_
  refine wp_reg ?_
  refine st_move hf rfl rfl (by decide) ?_
  clear hf; intro a ha hf; clear ha
  refine st_ishr hf (by decide) rfl rfl rfl (by decide) ?_
  clear hf; intro a ha hf; clear ha
  refine st_assign hf rfl rfl (by decide) ?_
  clear hf; intro a ha hf; clear ha
  refine st_nil hf ?_
  refine th_n ?_
  refine wp_seq ?_
  refine wp_reg ?_
  refine st_move hf rfl rfl (by decide) ?_
  clear hf; intro a ha hf; clear ha
  refine st_move hf rfl rfl (by decide) ?_
  clear hf; intro a ha hf; clear ha
  refine st_imul hf (by decide) rfl rfl rfl ?_
  clear hf; intro a ha hf; clear ha
  refine st_assign hf rfl rfl (by decide) ?_
  clear hf; intro a ha hf; clear ha
  refine st_nil hf ?_
  refine th_n ?_
  refine wp_seq ?_
  refine wp_reg ?_
  refine st_move hf rfl rfl (by decide) ?_
  clear hf; intro a ha hf; clear ha
  refine st_move hf rfl rfl (by decide) ?_
  clear hf; intro a ha hf; clear ha
  refine st_imul hf (by decide) rfl rfl rfl ?_
  clear hf; intro a ha hf; clear ha
  refine st_move hf rfl rfl (by decide) ?_
  clear hf; intro a ha hf; clear ha
  refine st_ishr hf (by decide) rfl rfl rfl (by decide) ?_
  clear hf; intro a ha hf; clear ha
  refine st_iadd hf (by decide) rfl rfl rfl ?_
  clear hf; intro a ha hf; clear ha
  refine st_assign hf rfl rfl (by decide) ?_
  clear hf; intro a ha hf; clear ha
  refine st_nil hf ?_
  refine th_n ?_
  refine wp_seq ?_
  refine wp_reg ?_
  refine st_move hf rfl rfl (by decide) ?_
  clear hf; intro a ha hf; clear ha
  refine st_iand hf (by decide) rfl rfl rfl ?_
  clear hf; intro a ha hf; clear ha
  refine st_assign hf rfl rfl (by decide) ?_
  clear hf; intro a ha hf; clear ha
  refine st_nil hf ?_
  refine th_n ?_
  refine wp_seq ?_
  refine wp_reg ?_
  refine st_move hf rfl rfl (by decide) ?_
  clear hf; intro a ha hf; clear ha
  refine st_ishr hf (by decide) rfl rfl rfl (by decide) ?_
  clear hf; intro a ha hf; clear ha
  refine st_assign hf rfl rfl (by decide) ?_
  clear hf; intro a ha hf; clear ha
  refine st_nil hf ?_
  refine th_n ?_
  refine wp_seq ?_
  refine wp_reg ?_
  refine st_move hf rfl rfl (by decide) ?_
  clear hf; intro a ha hf; clear ha
  refine st_move hf rfl rfl (by decide) ?_
  clear hf; intro a ha hf; clear ha
  refine st_move hf rfl rfl (by decide) ?_
  clear hf; intro a ha hf; clear ha
  refine st_imul hf (by decide) rfl rfl rfl ?_
  clear hf; intro a ha hf; clear ha
  refine st_iadd hf (by decide) rfl rfl rfl ?_
  clear hf; intro a ha hf; clear ha
  refine st_assign hf rfl rfl (by decide) ?_
  clear hf; intro a ha hf; clear ha
  refine st_nil hf ?_
  refine th_n ?_
  refine wp_seq ?_
  refine wp_reg ?_
  refine st_move hf rfl rfl (by decide) ?_
  clear hf; intro a ha hf; clear ha
  refine st_move hf rfl rfl (by decide) ?_
  clear hf; intro a ha hf; clear ha
  refine st_imul hf (by decide) rfl rfl rfl ?_
  clear hf; intro a ha hf; clear ha
  refine st_move hf rfl rfl (by decide) ?_
  clear hf; intro a ha hf; clear ha
  refine st_iadd hf (by decide) rfl rfl rfl ?_
  clear hf; intro a ha hf; clear ha
  refine st_move hf rfl rfl (by decide) ?_
  clear hf; intro a ha hf; clear ha
  refine st_ishr hf (by decide) rfl rfl rfl (by decide) ?_
  clear hf; intro a ha hf; clear ha
  refine st_iadd hf (by decide) rfl rfl rfl ?_
  clear hf; intro a ha hf; clear ha
  refine st_assign hf rfl rfl (by decide) ?_
  clear hf; intro a ha hf; clear ha
  refine st_nil hf ?_
  refine th_n ?_
  refine wp_seq ?_
  refine wp_reg ?_
  refine st_move hf rfl rfl (by decide) ?_
  clear hf; intro a ha hf; clear ha
  refine st_move hf rfl rfl (by decide) ?_
  clear hf; intro a ha hf; clear ha
  refine st_imul hf (by decide) rfl rfl rfl ?_
  clear hf; intro a ha hf; clear ha
  refine st_assign hf rfl rfl (by decide) ?_
  clear hf; intro a ha hf; clear ha
  refine st_nil hf ?_
  refine th_n ?_
  refine wp_ret ?_
  obtain rfl := Option.some.inj h
  exact ⟨rfl, ⟨hf.sub ⟨rfl, rfl, trivial⟩, hp⟩⟩

noncomputable def f_math_bits_Mul (xx0 : Int) (yx1 : Int) : Option (Int × Int) := ((f_math_bits_Mul64 xx0 yx1).bind fun q1 => (some (q1.1, q1.2)))
theorem f_math_bits_Mul_c {S : Nat → Prop} {w0 w : World} {ow : List Res} (hp : Hp S w0 w ow) (xx0 : Int) (yx1 : Int) {r : (Int × Int)} (h : f_math_bits_Mul xx0 yx1 = some r) :
    Calls Try.prog 43 #[.int .u64 xx0, .int .u64 yx1] w (fun e w' => e = .returned (.tuple #[.int .u64 r.1, .int .u64 r.2]) ∧ Hp S w0 w' (ow)) := by
  unfold f_math_bits_Mul at h
  refine enter (n := 30) (args := [.int .u64 xx0, .int .u64 yx1]) Try.func43 rfl rfl (Nat.le_of_ble_eq_true rfl) fun a hf => ?_
  replace hf : Fr 30 a [(0, .int .u64 xx0), (1, .int .u64 yx1)] := hf
  refine wp_mono (Q := fun e a w => e = .ret ∧ Fr 30 a [(4, .int .u64 r.1), (5, .int .u64 r.2)] ∧ Hp S w0 w (ow)) ?_ ?_
  rotate_left
  · rintro e a w ⟨rfl, hf, hp⟩
    exact ret2 hf rfl rfl rfl ⟨rfl, hp⟩
  refine wp_seq ?_
  refine wp_reg ?_
  refine st_assign hf rfl rfl (by decide) ?_
  clear hf; intro a ha hf; clear ha
  refine st_assign hf rfl rfl (by decide) ?_
  clear hf; intro a ha hf; clear ha
  refine st_nil hf ?_
  refine th_n ?_
  refine wp_seq ?_
  refine wp_if hf rfl (fun hb => ?_) (fun hb => ?_)
  · exact absurd hb (by decide)
  refine wp_skip ?_
  refine th_n ?_
  refine wp_seq ?_
  refine wp_reg ?_
  refine st_move hf rfl rfl (by decide) ?_
  clear hf; intro a ha hf; clear ha
  refine st_move hf rfl rfl (by decide) ?_
  clear hf; intro a ha hf; clear ha
  obtain ⟨q1, hcall2, h⟩ := bnd h
  refine st_call hf (by decide) Try.func62 rfl rfl rfl rfl rfl (f_math_bits_Mul64_c hp _ _ hcall2) ?_
  rintro _ w ⟨rfl, hp0⟩
  clear hp; have hp := hp0; clear hp0
  replace hp : Hp _ _ _ (ow) := hp
  refine ⟨_, rfl, ?_⟩
  clear hf; intro a hf
  refine st_move hf rfl rfl (by decide) ?_
  clear hf; intro a ha hf; clear ha
  refine st_extract hf (by decide) rfl rfl rfl ?_
  clear hf; intro a ha hf; clear ha
  refine st_extract hf (by decide) rfl rfl rfl ?_
  clear hf; intro a ha hf; clear ha
  refine st_assign hf rfl rfl (by decide) ?_
  clear hf; intro a ha hf; clear ha
  refine st_assign hf rfl rfl (by decide) ?_
  clear hf; intro a ha hf; clear ha
  refine st_nil hf ?_
  refine th_n ?_
  refine wp_seq ?_
  refine wp_reg ?_
  refine st_move hf rfl rfl (by decide) ?_
  clear hf; intro a ha hf; clear ha
  refine st_move hf rfl rfl (by decide) ?_
  clear hf; intro a ha hf; clear ha
  refine st_assign hf rfl rfl (by decide) ?_
  clear hf; intro a ha hf; clear ha
  refine st_assign hf rfl rfl (by decide) ?_
  clear hf; intro a ha hf; clear ha
  refine st_nil hf ?_
  refine th_n ?_
  refine wp_ret ?_
  obtain rfl := Option.some.inj h
  exact ⟨rfl, ⟨hf.sub ⟨rfl, rfl, trivial⟩, hp⟩⟩

noncomputable def f_slices_Repeat_float64_float64.s1c (newslice7 : (List Fl)) (n8 : Int) : Option (((List Fl) × Int) ⊕ (List Fl)) := (if (decide (n8 < (newslice7.length : Int))) = true then (if 0 ≤ n8 ∧ n8 ≤ (newslice7.length : Int) then (if 0 ≤ n8 ∧ n8 ≤ (newslice7.length : Int) then (some (Sum.inl ((cpy newslice7 ((n8).toNat) ((newslice7.drop 0).take ((n8).toNat - 0))), (IntKind.i64.wrap (n8 + ((min ((newslice7.drop 0).take ((n8).toNat - 0)).length (newslice7.length - (n8).toNat) : Nat) : Int)))))) else none) else none) else (some (Sum.inr newslice7)))
noncomputable def f_slices_Repeat_float64_float64.s1  (s : ((List Fl) × Int)) : Option (((List Fl) × Int) ⊕ (List Fl)) := f_slices_Repeat_float64_float64.s1c s.1 s.2
noncomputable def f_slices_Repeat_float64_float64.j2 (xx0 : (List Fl)) (q1 : (Int × Int)) : Option (List Fl) := (if 0 ≤ (IntKind.i64.wrap q1.2) ∧ (IntKind.i64.wrap q1.2) ≤ (IntKind.i64.wrap q1.2) ∧ (IntKind.i64.wrap q1.2) * 8 ≤ 281474976710656 then ((loop f_slices_Repeat_float64_float64.s1 ((xx0.take (List.replicate ((IntKind.i64.wrap q1.2)).toNat (Fl.bits 0)).length ++ (List.replicate ((IntKind.i64.wrap q1.2)).toNat (Fl.bits 0)).drop xx0.length), ((min xx0.length (List.replicate ((IntKind.i64.wrap q1.2)).toNat (Fl.bits 0)).length : Nat) : Int))).bind (fun q17 => (some q17))) else none)
noncomputable def f_slices_Repeat_float64_float64.j1 (xx0 : (List Fl)) : Option (List Fl) := ((f_math_bits_Mul (IntKind.u64.wrap (xx0.length : Int)) (2 : Int)).bind fun q1 => (if ((decide ((0 : Int) < q1.1)) || (decide ((9223372036854775807 : Int) < q1.2))) = true then none else (f_slices_Repeat_float64_float64.j2 xx0 q1)))
noncomputable def f_slices_Repeat_float64_float64 (xx0 : (List Fl)) : Option (List Fl) := (f_slices_Repeat_float64_float64.j1 xx0)
theorem f_slices_Repeat_float64_float64_c {S : Nat → Prop} {w0 w : World} {ow : List Res} (hp : Hp S w0 w ow) (vxx0 : Value) (xx0 : (List Fl)) (hxx0 : RdS Ek.f64 S w0 vxx0 xx0) {r : (List Fl)} (h : f_slices_Repeat_float64_float64 xx0 = some r) :
    Calls Try.prog 28 #[vxx0, .int .i64 (2 : Int)] w (fun e w' => ∃ (u0 : Value), e = .returned (u0) ∧ Hp S w0 w' (Res.sl Ek.f64 33 u0 r :: ow)) := by
  unfold f_slices_Repeat_float64_float64 at h
  refine enter (n := 48) (args := [vxx0, .int .i64 (2 : Int)]) Try.func28 rfl rfl (Nat.le_of_ble_eq_true rfl) fun a hf => ?_
  replace hf : Fr 48 a [(0, vxx0), (1, .int .i64 (2 : Int))] := hf
  refine wp_mono (Q := fun e a w => e = .ret ∧ ∃ (u0 : Value), Fr 48 a [(4, u0)] ∧ Hp S w0 w (Res.sl Ek.f64 33 u0 r :: ow)) ?_ ?_
  rotate_left
  · rintro e a w ⟨rfl, x0, hf, hp⟩
    exact ret1 hf rfl rfl ⟨x0, rfl, hp⟩
  refine wp_seq ?_
  refine wp_reg ?_
  refine st_assign hf rfl rfl (by decide) ?_
  clear hf; intro a ha hf; clear ha
  refine st_nil hf ?_
  refine th_n ?_
  refine wp_seq_cut (fun a w => f_slices_Repeat_float64_float64.j1 xx0 = some r ∧ Fr 48 a [(0, vxx0), (1, .int .i64 (2 : Int))] ∧ Hp S w0 w (ow)) ?_ ?_
  · skip
    refine wp_seq ?_
    refine wp_reg ?_
    refine st_move hf rfl rfl (by decide) ?_
    clear hf; intro a ha hf; clear ha
    refine st_ilss hf (by decide) rfl rfl rfl ?_
    clear hf; intro a ha hf; clear ha
    replace hf : Fr _ _ ((10, .bool false) :: _) := hf
    refine st_nil hf ?_
    refine th_n ?_
    refine wp_if hf rfl (fun hb => ?_) (fun hb => ?_)
    · exact absurd hb (by decide)
    refine wp_skip ?_
    refine th_n ?_
    exact ⟨h, hf.sub ⟨rfl, rfl, trivial⟩, hp⟩
  rintro a w ⟨h, hf, hp⟩
  unfold f_slices_Repeat_float64_float64.j1 at h
  refine wp_seq ?_
  refine wp_reg ?_
  refine st_move hf rfl rfl (by decide) ?_
  clear hf; intro a ha hf; clear ha
  refine st_len (E := Ek.f64) hf (by decide) Try.underlying26 rfl rfl (hxx0.sl hp) ?_
  clear hf; intro a ha hf; clear ha
  refine st_conv_ii hf (by decide) (by rw [Try.underlying3]; rfl) Try.underlying97 rfl rfl ?_
  clear hf; intro a ha hf; clear ha
  refine st_move hf rfl rfl (by decide) ?_
  clear hf; intro a ha hf; clear ha
  refine st_conv_ii hf (by decide) (by rw [Try.underlying3]; rfl) Try.underlying97 rfl rfl ?_
  clear hf; intro a ha hf; clear ha
  replace hf : Fr _ _ ((17, .int .u64 (2 : Int)) :: _) := hf
  obtain ⟨q1, hcall2, h⟩ := bnd h
  refine st_call hf (by decide) Try.func43 rfl rfl rfl rfl rfl (f_math_bits_Mul_c hp _ _ hcall2) ?_
  rintro _ w ⟨rfl, hp0⟩
  clear hp; have hp := hp0; clear hp0
  replace hp : Hp _ _ _ (ow) := hp
  refine ⟨_, rfl, ?_⟩
  clear hf; intro a hf
  refine st_move hf rfl rfl (by decide) ?_
  clear hf; intro a ha hf; clear ha
  refine st_extract hf (by decide) rfl rfl rfl ?_
  clear hf; intro a ha hf; clear ha
  refine st_extract hf (by decide) rfl rfl rfl ?_
  clear hf; intro a ha hf; clear ha
  refine st_assign hf rfl rfl (by decide) ?_
  clear hf; intro a ha hf; clear ha
  refine st_assign hf rfl rfl (by decide) ?_
  clear hf; intro a ha hf; clear ha
  refine st_nil hf ?_
  refine th_n ?_
  refine wp_seq_cut (fun a w => f_slices_Repeat_float64_float64.j2 xx0 q1 = some r ∧ Fr 48 a [(0, vxx0), (6, .int .u64 q1.2)] ∧ Hp S w0 w (ow)) ?_ ?_
  · skip
    refine wp_seq ?_
    refine wp_reg ?_
    refine st_move hf rfl rfl (by decide) ?_
    clear hf; intro a ha hf; clear ha
    refine st_igtr hf (by decide) rfl rfl rfl ?_
    clear hf; intro a ha hf; clear ha
    refine st_move hf rfl rfl (by decide) ?_
    clear hf; intro a ha hf; clear ha
    refine wpList_cut 3 (fun a w => Fr 48 a [(0, vxx0), (6, .int .u64 q1.2), (26, .bool ((decide ((0 : Int) < q1.1)) || (decide ((9223372036854775807 : Int) < q1.2))))] ∧ Hp S w0 w (ow)) ?_ ?_
    · rcases Bool.eq_false_or_eq_true (decide ((0 : Int) < q1.1)) with hb19 | hb19
      · skip
        refine st_skip hf (wantN hf rfl rfl hb19) rfl (by decide) ?_ rfl
        clear hf; intro a hf
        refine st_skip hf (wantN hf rfl rfl hb19) rfl (by decide) ?_ rfl
        clear hf; intro a hf
        refine st_pick (v := .bool true) hf rfl rfl (fun hb' => ?_) (fun hb' => ?_) (by decide) ?_
        · rfl
        · exact absurd (hb19.symm.trans hb') (by decide)
        clear hf; intro a ha hf; clear ha
        refine st_nil hf (th_n ?_)
        exact ⟨hf.sub ⟨rfl, rfl, (by rw [hb19]; rfl), trivial⟩, hp⟩
      refine st_move hf (wantY hf rfl rfl hb19) rfl (by decide) ?_
      clear hf; intro a ha hf; clear ha
      refine st_igtr hf (by decide) (wantY hf rfl rfl hb19) rfl rfl ?_
      clear hf; intro a ha hf; clear ha
      refine st_pick (v := .bool (decide ((9223372036854775807 : Int) < q1.2))) hf rfl rfl (fun hb' => ?_) (fun hb' => ?_) (by decide) ?_
      · exact absurd (hb19.symm.trans hb') (by decide)
      · rfl
      clear hf; intro a ha hf; clear ha
      refine st_nil hf (th_n ?_)
      exact ⟨hf.sub ⟨rfl, rfl, (by rw [hb19]; rfl), trivial⟩, hp⟩
    rintro a w ⟨hf, hp⟩
    refine st_nil hf ?_
    refine th_n ?_
    refine wp_if hf rfl (fun hb => ?_) (fun hb => ?_)
    · replace h := ifT h hb
      cases h
    replace h := ifF h hb
    refine wp_skip ?_
    refine th_n ?_
    exact ⟨h, hf.sub ⟨rfl, rfl, trivial⟩, hp⟩
  rintro a w ⟨h, hf, hp⟩
  unfold f_slices_Repeat_float64_float64.j2 at h
  refine wp_seq ?_
  refine wp_reg ?_
  refine st_move hf rfl rfl (by decide) ?_
  clear hf; intro a ha hf; clear ha
  refine st_conv_ii hf (by decide) (by rw [Try.underlying97]; rfl) Try.underlying3 rfl rfl ?_
  clear hf; intro a ha hf; clear ha
  obtain ⟨hc3, h⟩ := chk h
  refine st_make (E := Ek.f64) hf (by decide) elt33 Try.underlying26 (by decide) hp rfl rfl rfl hc3.1 hc3.2.1 hc3.2.2 ?_
  clear hf; intro a w v4 hf hp0; clear hp; have hp := hp0; clear hp0
  replace hp : Hp _ _ _ (Res.sl Ek.f64 33 v4 (List.replicate ((IntKind.i64.wrap q1.2)).toNat (Fl.bits 0)) :: ow) := hp
  refine st_assign hf rfl rfl (by decide) ?_
  clear hf; intro a ha hf; clear ha
  refine st_nil hf ?_
  refine th_n ?_
  refine wp_seq ?_
  refine wp_reg ?_
  refine st_move hf rfl rfl (by decide) ?_
  clear hf; intro a ha hf; clear ha
  refine st_move hf rfl rfl (by decide) ?_
  clear hf; intro a ha hf; clear ha
  refine st_copySl (E := Ek.f64) rfl hf (by decide) elt33 Try.underlying26 hp (i := 0) rfl (hxx0.sl hp) rfl rfl rfl ?_
  clear hf; intro a w hf hp0; clear hp; have hp := hp0; clear hp0
  replace hp : Hp _ _ _ (Res.sl Ek.f64 33 v4 (xx0.take (List.replicate ((IntKind.i64.wrap q1.2)).toNat (Fl.bits 0)).length ++ (List.replicate ((IntKind.i64.wrap q1.2)).toNat (Fl.bits 0)).drop xx0.length) :: ow) := hp
  refine st_assign hf rfl rfl (by decide) ?_
  clear hf; intro a ha hf; clear ha
  refine st_nil hf ?_
  refine th_n ?_
  refine wp_seq ?_
  refine wp_block ?_
  obtain ⟨q17, hl, h⟩ := bnd h
  refine wp_loop_pure (f := f_slices_Repeat_float64_float64.s1) (s := ((xx0.take (List.replicate ((IntKind.i64.wrap q1.2)).toNat (Fl.bits 0)).length ++ (List.replicate ((IntKind.i64.wrap q1.2)).toNat (Fl.bits 0)).drop xx0.length), ((min xx0.length (List.replicate ((IntKind.i64.wrap q1.2)).toNat (Fl.bits 0)).length : Nat) : Int))) (fun s a w => ∃ (v6 : Value), Fr 48 a [(7, v6), (8, .int .i64 s.2)] ∧ Hp S w0 w (Res.sl Ek.f64 33 v6 s.1 :: ow)) (fun q e a w => e = .exit 0 ∧ ∃ (v8 : Value), Fr 48 a [(7, v8)] ∧ Hp S w0 w (Res.sl Ek.f64 33 v8 q :: ow)) ?_ hl ⟨_, hf.sub ⟨rfl, rfl, trivial⟩, hp⟩ ?_
  · clear hl hf hp
    intro s x a w h hI
    obtain ⟨newslice7, n8⟩ := s
    obtain ⟨v6, hf, hp⟩ : ∃ (v6 : Value), Fr 48 a [(7, v6), (8, .int .i64 n8)] ∧ Hp S w0 w (Res.sl Ek.f64 33 v6 newslice7 :: ow) := hI
    replace h : f_slices_Repeat_float64_float64.s1c newslice7 n8 = some x := h
    unfold f_slices_Repeat_float64_float64.s1c at h
    refine wp_seq ?_
    refine wp_seq ?_
    refine wp_reg ?_
    refine st_move hf rfl rfl (by decide) ?_
    clear hf; intro a ha hf; clear ha
    refine st_move hf rfl rfl (by decide) ?_
    clear hf; intro a ha hf; clear ha
    refine st_len (E := Ek.f64) hf (by decide) Try.underlying26 rfl rfl (hp.sl (i := 0) rfl) ?_
    clear hf; intro a ha hf; clear ha
    refine st_ilss hf (by decide) rfl rfl rfl ?_
    clear hf; intro a ha hf; clear ha
    refine st_nil hf ?_
    refine th_n ?_
    refine wp_if hf rfl (fun hb => ?_) (fun hb => ?_)
    · replace h := ifT h hb
      refine wp_skip ?_
      refine th_n ?_
      refine wp_block ?_
      have fx13 := hp.sl (i := 0) rfl
      obtain ⟨hc10, h⟩ := chk h
      have hc11 : (n8).toNat ≤ newslice7.length := by omega
      have hc12 : newslice7.length ≤ newslice7.length := by omega
      obtain ⟨hc14, h⟩ := chk h
      have hc15 : 0 ≤ (n8).toNat := by omega
      have hc16 : (n8).toNat ≤ newslice7.length := by omega
      refine wp_cutN (fun a w => Fr 48 a [(7, v6), (8, .int .i64 (IntKind.i64.wrap (n8 + ((min ((newslice7.drop 0).take ((n8).toNat - 0)).length (newslice7.length - (n8).toNat) : Nat) : Int))))] ∧ Hp S w0 w (Res.sl Ek.f64 33 v6 (cpy newslice7 ((n8).toNat) ((newslice7.drop 0).take ((n8).toNat - 0))) :: ow)) ?_ ?_
      · have hp := hp.same (Same.drew w)
        refine dr_begin' (fun a w => Fr 48 a [(7, v6), (8, .int .i64 (IntKind.i64.wrap (n8 + ((min ((newslice7.drop 0).take ((n8).toNat - 0)).length (newslice7.length - (n8).toNat) : Nat) : Int))))] ∧ Hp S w0 w (Res.sl Ek.f64 33 v6 (cpy newslice7 ((n8).toNat) ((newslice7.drop 0).take ((n8).toNat - 0))) :: ow)) (fun w' => ∃ l, Hp S w0 w' l) [] (by kernel_rfl) ?_
        refine dr_takeP 0 (.int .i64 n8) rfl (by kernel_rfl) (by kernel_rfl) (by kernel_rfl) rfl rfl hf (by decide) rfl (fun w => ?_) ?_
        · skip
          refine st_move hf rfl rfl (by decide) ?_
          clear hf; intro a ha hf
          exact st_nil hf (th_n ⟨ha, rfl⟩)
        clear hf; intro a hf
        refine dr_takeP 1 (v6) rfl (by kernel_rfl) (by kernel_rfl) (by kernel_rfl) rfl rfl hf (by decide) rfl (fun w => ?_) ?_
        · skip
          refine st_move hf rfl rfl (by decide) ?_
          clear hf; intro a ha hf
          exact st_nil hf (th_n ⟨ha, rfl⟩)
        clear hf; intro a hf
        refine dr_takeP 2 (.int .i64 n8) rfl (by kernel_rfl) (by kernel_rfl) (by kernel_rfl) rfl rfl hf (by decide) rfl (fun w => ?_) ?_
        · skip
          refine st_move hf rfl rfl (by decide) ?_
          clear hf; intro a ha hf
          exact st_nil hf (th_n ⟨ha, rfl⟩)
        clear hf; intro a hf
        refine dr_takeP 3 ((GL.cut v6 (n8).toNat newslice7.length 1)) rfl (by kernel_rfl) (by kernel_rfl) (by kernel_rfl) rfl rfl hf (by decide) rfl (fun w => ?_) ?_
        · skip
          refine st_cutS (E := Ek.f64) hf (by decide) Try.underlying26 elt33 rfl rfl fx13 (.inr ⟨_, _, rfl, evI rfl hc10.1⟩) (.inl ⟨rfl, rfl⟩) hc11 hc12 ?_
          clear hf; intro a ha hf
          exact st_nil hf (th_n ⟨ha, rfl⟩)
        clear hf; intro a hf
        refine dr_takeP 4 (v6) rfl (by kernel_rfl) (by kernel_rfl) (by kernel_rfl) rfl rfl hf (by decide) rfl (fun w => ?_) ?_
        · skip
          refine st_move hf rfl rfl (by decide) ?_
          clear hf; intro a ha hf
          exact st_nil hf (th_n ⟨ha, rfl⟩)
        clear hf; intro a hf
        refine dr_takeP 5 (.int .i64 n8) rfl (by kernel_rfl) (by kernel_rfl) (by kernel_rfl) rfl rfl hf (by decide) rfl (fun w => ?_) ?_
        · skip
          refine st_move hf rfl rfl (by decide) ?_
          clear hf; intro a ha hf
          exact st_nil hf (th_n ⟨ha, rfl⟩)
        clear hf; intro a hf
        refine dr_takeP 6 ((GL.cut v6 0 (n8).toNat 1)) rfl (by kernel_rfl) (by kernel_rfl) (by kernel_rfl) rfl rfl hf (by decide) rfl (fun w => ?_) ?_
        · skip
          refine st_cutS (E := Ek.f64) hf (by decide) Try.underlying26 elt33 rfl rfl fx13 (.inl ⟨rfl, rfl⟩) (.inr ⟨_, _, rfl, evI rfl (by omega)⟩) hc15 hc16 ?_
          clear hf; intro a ha hf
          exact st_nil hf (th_n ⟨ha, rfl⟩)
        clear hf; intro a hf
        refine dr_one 7 rfl (by kernel_rfl) ?_
        refine st_copyCut (E := Ek.f64) (lo := (n8).toNat) rfl hf (by decide) elt33 Try.underlying26 hp (i := 0) rfl (RdS.cut (hp.sl (i := 0) rfl) hc15 hc16) hc11 rfl rfl rfl ?_
        clear hf; intro a w hf hp0; clear hp; have hp := hp0; clear hp0
        replace hp : Hp _ _ _ (Res.sl Ek.f64 33 v6 (cpy newslice7 ((n8).toNat) ((newslice7.drop 0).take ((n8).toNat - 0))) :: ow) := hp
        refine st_nil hf (th_n ⟨fun _ _ => ⟨_, hp⟩, ?_⟩)
        refine dr_takeP 8 (.int .i64 (IntKind.i64.wrap (n8 + ((min ((newslice7.drop 0).take ((n8).toNat - 0)).length (newslice7.length - (n8).toNat) : Nat) : Int)))) rfl (by kernel_rfl) (by kernel_rfl) (by kernel_rfl) rfl rfl hf (by decide) rfl (fun w => ?_) ?_
        · skip
          refine st_iadd hf (by decide) rfl rfl rfl ?_
          clear hf; intro a ha hf
          exact st_nil hf (th_n ⟨ha, rfl⟩)
        clear hf; intro a hf
        refine dr_takeP 9 (.int .i64 (IntKind.i64.wrap (n8 + ((min ((newslice7.drop 0).take ((n8).toNat - 0)).length (newslice7.length - (n8).toNat) : Nat) : Int)))) rfl (by kernel_rfl) (by kernel_rfl) (by kernel_rfl) rfl rfl hf (by decide) rfl (fun w => ?_) ?_
        · skip
          refine st_assign hf rfl rfl (by decide) ?_
          clear hf; intro a ha hf
          exact st_nil hf (th_n ⟨ha, rfl⟩)
        clear hf; intro a hf
        refine dr_end (by kernel_rfl) ?_ _
        exact ⟨hf.sub ⟨rfl, rfl, trivial⟩, hp⟩
      rintro a w ⟨hf, hp⟩
      refine ib_n ?_
      obtain rfl := Option.some.inj h
      exact rnd_l ⟨_, hf.sub ⟨rfl, rfl, trivial⟩, hp⟩
    replace h := ifF h hb
    refine wp_exit ?_
    refine th_e ?_
    obtain rfl := Option.some.inj h
    exact rnd_r (by simp) ⟨rfl, _, hf.sub ⟨rfl, trivial⟩, hp⟩
  clear hl hf hp
  intro e a w hne hO
  obtain ⟨rfl, v8, hf, hp⟩ := hO
  refine ib_same ?_
  refine th_n ?_
  refine wp_seq ?_
  refine wp_reg ?_
  refine st_move hf rfl rfl (by decide) ?_
  clear hf; intro a ha hf; clear ha
  refine st_assign hf rfl rfl (by decide) ?_
  clear hf; intro a ha hf; clear ha
  refine st_nil hf ?_
  refine th_n ?_
  refine wp_ret ?_
  obtain rfl := Option.some.inj h
  exact ⟨rfl, ⟨_, hf.sub ⟨rfl, trivial⟩, hp⟩⟩

noncomputable def f_pulse_makers_2  : Option ((List Fl) × Int) := ((f_slices_Repeat_float64_float64 ([(Fl.bits 4607182418800017408)])).bind fun q3 => (some (q3, (0 : Int))))
theorem f_pulse_makers_2_c {S : Nat → Prop} {w0 w : World} {ow : List Res} (hp : Hp S w0 w ow) {r : ((List Fl) × Int)} (h : f_pulse_makers_2 = some r) :
    Calls Try.prog 27 #[.int .i64 (2 : Int)] w (fun e w' => ∃ (u0 : Value), e = .returned (.tuple #[u0, .int .i64 r.2]) ∧ Hp S w0 w' (Res.sl Ek.f64 33 u0 r.1 :: ow)) := by
  unfold f_pulse_makers_2 at h
  refine enter (n := 9) (args := [.int .i64 (2 : Int)]) Try.func27 rfl rfl (Nat.le_of_ble_eq_true rfl) fun a hf => ?_
  replace hf : Fr 9 a [(0, .int .i64 (2 : Int))] := hf
  refine wp_mono (Q := fun e a w => e = .ret ∧ ∃ (u0 : Value), Fr 9 a [(2, u0), (3, .int .i64 r.2)] ∧ Hp S w0 w (Res.sl Ek.f64 33 u0 r.1 :: ow)) ?_ ?_
  rotate_left
  · rintro e a w ⟨rfl, x0, hf, hp⟩
    exact ret2 hf rfl rfl rfl ⟨x0, rfl, hp⟩
  refine wp_seq ?_
  refine wp_reg ?_
  refine st_assign hf rfl rfl (by decide) ?_
  clear hf; intro a ha hf; clear ha
  refine st_assign hf rfl rfl (by decide) ?_
  clear hf; intro a ha hf; clear ha
  refine st_nil hf ?_
  refine th_n ?_
  refine wp_seq ?_
  refine wp_seq ?_
  refine wp_reg ?_
  refine st_move hf rfl rfl (by decide) ?_
  clear hf; intro a ha hf; clear ha
  refine st_igtr hf (by decide) rfl rfl rfl ?_
  clear hf; intro a ha hf; clear ha
  replace hf : Fr _ _ ((5, .bool false) :: _) := hf
  refine st_nil hf ?_
  refine th_n ?_
  refine wp_if hf rfl (fun hb => ?_) (fun hb => ?_)
  · exact absurd hb (by decide)
  refine wp_skip ?_
  refine th_n ?_
  refine wp_seq ?_
  refine wp_reg ?_
  refine st_build (E := Ek.f64) (xs := [(Fl.bits 4607182418800017408)]) hf (by decide) elt33 Try.underlying26 hp (vals := #[(0, .float .f64 4607182418800017408)]) (cells := #[.float .f64 4607182418800017408]) rfl (by simp [hf.ev (x := (Operand.const (.float .f64 4607182418800017408))) rfl]) (Nat.le_of_ble_eq_true rfl) (Nat.le_of_ble_eq_true rfl) (z := .float .f64 0) (by kernel_rfl) (by kernel_rfl) rfl (reps_cons (cs := [.float .f64 4607182418800017408]) (show Ek.f64.rep [.float .f64 4607182418800017408] (Fl.bits 4607182418800017408) from ⟨_, rfl, rfl⟩) (reps_nil _)) ?_
  clear hf; intro a w v1 hf hp0; clear hp; have hp := hp0; clear hp0
  replace hp : Hp _ _ _ (Res.sl Ek.f64 33 v1 ([(Fl.bits 4607182418800017408)]) :: ow) := hp
  refine st_move hf rfl rfl (by decide) ?_
  clear hf; intro a ha hf; clear ha
  obtain ⟨q3, hcall4, h⟩ := bnd h
  obtain ⟨S5, hp6, rd7, up8, bk9⟩ := Hp.lendS hp (i := 0) rfl
  refine st_call hf (by decide) Try.func28 rfl rfl rfl rfl rfl (f_slices_Repeat_float64_float64_c hp6 _ _ rd7 hcall4) ?_
  rintro _ w ⟨v10, rfl, hp0⟩
  have hp0 := bk9 _ _ hp0
  clear hp; have hp := hp0; clear hp0
  replace hp : Hp _ _ _ (Res.sl Ek.f64 33 v1 ([(Fl.bits 4607182418800017408)]) :: Res.sl Ek.f64 33 v10 q3 :: ow) := hp
  refine ⟨_, rfl, ?_⟩
  clear hf; intro a hf
  refine st_assign hf rfl rfl (by decide) ?_
  clear hf; intro a ha hf; clear ha
  refine st_assign hf rfl rfl (by decide) ?_
  clear hf; intro a ha hf; clear ha
  refine st_nil hf ?_
  refine th_n ?_
  refine wp_ret ?_
  obtain rfl := Option.some.inj h
  have hp : Hp _ _ _ (Res.sl Ek.f64 33 v10 q3 :: ow) := Hp.sel (pre := [Res.sl Ek.f64 33 v1 ([(Fl.bits 4607182418800017408)]), Res.sl Ek.f64 33 v10 q3]) (tail := ow) (rs' := [Res.sl Ek.f64 33 v10 q3]) hp [1] (by decide) (by simp) rfl
  exact ⟨rfl, ⟨_, hf.sub ⟨rfl, rfl, trivial⟩, hp⟩⟩

noncomputable def f_pulse_Named_10_2  : Option ((Int × Int × (List Fl)) × Int) := ((f_pulse_makers).bind fun q3 => (if (false || false) = true then (some (((0 : Int), (0 : Int), []), (1 : Int))) else ((f_pulse_makers_2).bind fun q10 => (if 0 < q10.1.length then (some (((2 : Int), q10.2, q10.1), (0 : Int))) else none))))
theorem f_pulse_Named_10_2_c {S : Nat → Prop} {w0 w : World} {ow : List Res} (hp : Hp S w0 w ow) {r : ((Int × Int × (List Fl)) × Int)} (h : f_pulse_Named_10_2 = some r) :
    Calls Try.prog 10 #[.string (ByteArray.mk #[98, 111, 120]), .int .i64 (2 : Int)] w (fun e w' => ∃ (u0 : Value), e = .returned (.tuple #[.agg #[.int .i64 r.1.1, .int .i64 r.1.2.1, u0], .int .i64 r.2]) ∧ Hp S w0 w' (Res.sl Ek.f64 33 u0 r.1.2.2 :: ow)) := by
  unfold f_pulse_Named_10_2 at h
  refine enter (n := 39) (args := [.string (ByteArray.mk #[98, 111, 120]), .int .i64 (2 : Int)]) Try.func10 rfl rfl (Nat.le_of_ble_eq_true rfl) fun a hf => ?_
  replace hf : Fr 39 a [(0, .string (ByteArray.mk #[98, 111, 120])), (1, .int .i64 (2 : Int))] := hf
  refine wp_mono (Q := fun e a w => e = .ret ∧ ∃ (u0 : Value) (c0 : Value), Fr 39 a [(4, optr c0 0), (5, .int .i64 r.2)] ∧ Hp S w0 w (Res.obj 28 c0 [.int .i64 r.1.1, .int .i64 r.1.2.1, u0] :: Res.sl Ek.f64 33 u0 r.1.2.2 :: ow)) ?_ ?_
  rotate_left
  · rintro e a w ⟨rfl, x0, c0, hf, hp⟩
    exact retG2 hf rfl ⟨_, _, rfl, hp.ob (i := 0) rfl, .inr ⟨by kernel_rfl, rfl⟩⟩ rfl ⟨x0, rfl, hp.drop⟩
  refine wp_seq ?_
  refine wp_reg ?_
  refine st_alloc (cs := [.int .i64 (0 : Int), .int .i64 (0 : Int), .slice none 0 0]) (zv := .agg #[.int .i64 (0 : Int), .int .i64 (0 : Int), .slice none 0 0]) hf (by decide) (by kernel_rfl) rfl hp rfl ?_
  clear hf; intro a w v1 hf hp0; clear hp; have hp := hp0; clear hp0
  replace hp : Hp _ _ _ (Res.obj 28 v1 [.int .i64 (0 : Int), .int .i64 (0 : Int), .slice none 0 0] :: ow) := hp
  refine st_assign hf rfl rfl (by decide) ?_
  clear hf; intro a ha hf; clear ha
  refine st_nil hf ?_
  refine th_n ?_
  refine wp_seq ?_
  refine wp_reg ?_
  obtain ⟨q3, hcall4, h⟩ := bnd h
  refine st_call hf (by decide) Try.func17 rfl rfl rfl rfl rfl (f_pulse_makers_c hp  hcall4) ?_
  rintro _ w ⟨v5, rfl, hp0⟩
  clear hp; have hp := hp0; clear hp0
  replace hp : Hp _ _ _ (Res.sm v5 [((ByteArray.mk #[115, 112, 105, 107, 101]), .func (.func 26) #[] #[]), ((ByteArray.mk #[98, 111, 120]), .func (.func 27) #[] #[]), ((ByteArray.mk #[116, 101, 110, 116]), .func (.func 29) #[] #[]), ((ByteArray.mk #[115, 111, 102, 116]), .func (.func 30) #[] #[])] :: Res.obj 28 v1 [.int .i64 (0 : Int), .int .i64 (0 : Int), .slice none 0 0] :: ow) := hp
  refine ⟨_, rfl, ?_⟩
  clear hf; intro a hf
  refine st_move hf rfl rfl (by decide) ?_
  clear hf; intro a ha hf; clear ha
  refine st_lookupS (j := 1) (u := .func (.func 27) #[] #[]) hf (by decide) Try.underlying64 Try.underlying9 hp (i := 0) rfl (by rfl) rfl rfl rfl ?_
  clear hf; intro a ha hf; clear ha
  refine st_move hf rfl rfl (by decide) ?_
  clear hf; intro a ha hf; clear ha
  refine st_extract hf (by decide) rfl rfl rfl ?_
  clear hf; intro a ha hf; clear ha
  refine st_extract hf (by decide) rfl rfl rfl ?_
  clear hf; intro a ha hf; clear ha
  refine st_assign hf rfl rfl (by decide) ?_
  clear hf; intro a ha hf; clear ha
  refine st_assign hf rfl rfl (by decide) ?_
  clear hf; intro a ha hf; clear ha
  refine st_nil hf ?_
  refine th_n ?_
  refine wp_seq ?_
  refine wp_seq ?_
  refine wp_reg ?_
  refine st_move hf rfl rfl (by decide) ?_
  clear hf; intro a ha hf; clear ha
  refine st_not hf (by decide) rfl rfl ?_
  clear hf; intro a ha hf; clear ha
  replace hf : Fr _ _ ((17, .bool false) :: _) := hf
  refine st_nil hf ?_
  refine th_n ?_
  refine wp_if hf rfl (fun hb => ?_) (fun hb => ?_)
  · exact absurd hb (by decide)
  refine wp_skip ?_
  refine th_n ?_
  refine wp_seq ?_
  refine wp_seq ?_
  refine wp_reg ?_
  refine st_move hf rfl rfl (by decide) ?_
  clear hf; intro a ha hf; clear ha
  refine st_ilss hf (by decide) rfl rfl rfl ?_
  clear hf; intro a ha hf; clear ha
  replace hf : Fr _ _ ((20, .bool false) :: _) := hf
  refine st_move hf rfl rfl (by decide) ?_
  clear hf; intro a ha hf; clear ha
  refine wpList_cut 3 (fun a w => Fr 39 a [(1, .int .i64 (2 : Int)), (4, optr v1 0), (6, .func (.func 27) #[] #[]), (24, .bool (false || false))] ∧ Hp S w0 w (Res.sm v5 [((ByteArray.mk #[115, 112, 105, 107, 101]), .func (.func 26) #[] #[]), ((ByteArray.mk #[98, 111, 120]), .func (.func 27) #[] #[]), ((ByteArray.mk #[116, 101, 110, 116]), .func (.func 29) #[] #[]), ((ByteArray.mk #[115, 111, 102, 116]), .func (.func 30) #[] #[])] :: Res.obj 28 v1 [.int .i64 (0 : Int), .int .i64 (0 : Int), .slice none 0 0] :: ow)) ?_ ?_
  · rcases Bool.eq_false_or_eq_true false with hb8 | hb8
    · skip
      refine st_skip hf (wantN hf rfl rfl hb8) rfl (by decide) ?_ rfl
      clear hf; intro a hf
      refine st_skip hf (wantN hf rfl rfl hb8) rfl (by decide) ?_ rfl
      clear hf; intro a hf
      refine st_pick (v := .bool true) hf rfl rfl (fun hb' => ?_) (fun hb' => ?_) (by decide) ?_
      · rfl
      · exact absurd (hb8.symm.trans hb') (by decide)
      clear hf; intro a ha hf; clear ha
      refine st_nil hf (th_n ?_)
      exact ⟨hf.sub ⟨rfl, rfl, rfl, (by rw [hb8]; rfl), trivial⟩, hp⟩
    refine st_move hf (wantY hf rfl rfl hb8) rfl (by decide) ?_
    clear hf; intro a ha hf; clear ha
    refine st_igtr hf (by decide) (wantY hf rfl rfl hb8) rfl rfl ?_
    clear hf; intro a ha hf; clear ha
    replace hf : Fr _ _ ((23, .bool false) :: _) := hf
    refine st_pick (v := .bool false) hf rfl rfl (fun hb' => ?_) (fun hb' => ?_) (by decide) ?_
    · exact absurd (hb8.symm.trans hb') (by decide)
    · rfl
    clear hf; intro a ha hf; clear ha
    refine st_nil hf (th_n ?_)
    exact ⟨hf.sub ⟨rfl, rfl, rfl, (by rw [hb8]; rfl), trivial⟩, hp⟩
  rintro a w ⟨hf, hp⟩
  refine st_nil hf ?_
  refine th_n ?_
  refine wp_if hf rfl (fun hb => ?_) (fun hb => ?_)
  · replace h := ifT h hb
    refine wp_seq ?_
    refine wp_reg ?_
    refine st_buildA (vals := []) (cells := [.int .i64 (0 : Int), .int .i64 (0 : Int), .slice none 0 0]) hf (by decide) rfl (by simp []) (fun w => by kernel_rfl) ?_
    clear hf; intro a ha hf; clear ha
    refine st_stO (us := [.int .i64 (0 : Int), .int .i64 (0 : Int), .slice none 0 0]) hf hp (i := 1) rfl rfl rfl rfl rfl (by rfl) (by kernel_rfl) (Nat.le_of_ble_eq_true rfl) ?_
    clear hf; intro a w hf hp0; clear hp; have hp := hp0; clear hp0
    replace hp : Hp _ _ _ (Res.sm v5 [((ByteArray.mk #[115, 112, 105, 107, 101]), .func (.func 26) #[] #[]), ((ByteArray.mk #[98, 111, 120]), .func (.func 27) #[] #[]), ((ByteArray.mk #[116, 101, 110, 116]), .func (.func 29) #[] #[]), ((ByteArray.mk #[115, 111, 102, 116]), .func (.func 30) #[] #[])] :: Res.obj 28 v1 [.int .i64 (0 : Int), .int .i64 (0 : Int), .slice none 0 0] :: ow) := hp
    refine st_assign hf rfl rfl (by decide) ?_
    clear hf; intro a ha hf; clear ha
    refine st_nil hf ?_
    refine th_n ?_
    refine wp_ret ?_
    refine th_r ?_
    obtain rfl := Option.some.inj h
    have hp := hp.nil Ek.f64 33
    have hp : Hp _ _ _ (Res.obj 28 v1 [.int .i64 (0 : Int), .int .i64 (0 : Int), .slice none 0 0] :: Res.sl Ek.f64 33 (.slice none 0 0) ([]) :: ow) := Hp.sel (pre := [Res.sl Ek.f64 33 (.slice none 0 0) ([]), Res.sm v5 [((ByteArray.mk #[115, 112, 105, 107, 101]), .func (.func 26) #[] #[]), ((ByteArray.mk #[98, 111, 120]), .func (.func 27) #[] #[]), ((ByteArray.mk #[116, 101, 110, 116]), .func (.func 29) #[] #[]), ((ByteArray.mk #[115, 111, 102, 116]), .func (.func 30) #[] #[])], Res.obj 28 v1 [.int .i64 (0 : Int), .int .i64 (0 : Int), .slice none 0 0]]) (tail := ow) (rs' := [Res.obj 28 v1 [.int .i64 (0 : Int), .int .i64 (0 : Int), .slice none 0 0], Res.sl Ek.f64 33 (.slice none 0 0) ([])]) hp [2, 0] (by decide) (by simp) rfl
    exact ⟨rfl, ⟨_, _, hf.sub ⟨rfl, rfl, trivial⟩, hp⟩⟩
  replace h := ifF h hb
  refine wp_skip ?_
  refine th_n ?_
  refine wp_seq ?_
  refine wp_reg ?_
  refine st_move hf rfl rfl (by decide) ?_
  clear hf; intro a ha hf; clear ha
  refine st_move hf rfl rfl (by decide) ?_
  clear hf; intro a ha hf; clear ha
  obtain ⟨q10, hcall11, h⟩ := bnd h
  refine st_call hf (by decide) Try.func27 rfl rfl rfl rfl rfl (f_pulse_makers_2_c hp  hcall11) ?_
  rintro _ w ⟨v12, rfl, hp0⟩
  clear hp; have hp := hp0; clear hp0
  replace hp : Hp _ _ _ (Res.sl Ek.f64 33 v12 q10.1 :: Res.sm v5 [((ByteArray.mk #[115, 112, 105, 107, 101]), .func (.func 26) #[] #[]), ((ByteArray.mk #[98, 111, 120]), .func (.func 27) #[] #[]), ((ByteArray.mk #[116, 101, 110, 116]), .func (.func 29) #[] #[]), ((ByteArray.mk #[115, 111, 102, 116]), .func (.func 30) #[] #[])] :: Res.obj 28 v1 [.int .i64 (0 : Int), .int .i64 (0 : Int), .slice none 0 0] :: ow) := hp
  refine ⟨_, rfl, ?_⟩
  clear hf; intro a hf
  refine st_move hf rfl rfl (by decide) ?_
  clear hf; intro a ha hf; clear ha
  refine st_extract hf (by decide) rfl rfl rfl ?_
  clear hf; intro a ha hf; clear ha
  refine st_extract hf (by decide) rfl rfl rfl ?_
  clear hf; intro a ha hf; clear ha
  refine st_assign hf rfl rfl (by decide) ?_
  clear hf; intro a ha hf; clear ha
  refine st_assign hf rfl rfl (by decide) ?_
  clear hf; intro a ha hf; clear ha
  refine st_nil hf ?_
  refine th_n ?_
  refine wp_seq ?_
  refine wp_seq ?_
  refine wp_reg ?_
  refine st_move hf rfl rfl (by decide) ?_
  clear hf; intro a ha hf; clear ha
  obtain ⟨hc14, h⟩ := chk h
  refine st_slnilE hf (by decide) Try.underlying26 rfl rfl rfl (hp.sl (i := 0) rfl) hc14 ?_
  clear hf; intro a ha hf; clear ha
  refine st_nil hf ?_
  refine th_n ?_
  refine wp_if hf rfl (fun hb => ?_) (fun hb => ?_)
  · exact absurd hb (by decide)
  refine wp_skip ?_
  refine th_n ?_
  refine wp_seq ?_
  refine wp_reg ?_
  refine st_move hf rfl rfl (by decide) ?_
  clear hf; intro a ha hf; clear ha
  refine st_move hf rfl rfl (by decide) ?_
  clear hf; intro a ha hf; clear ha
  refine st_move hf rfl rfl (by decide) ?_
  clear hf; intro a ha hf; clear ha
  refine st_buildA (vals := [(0, .int .i64 (2 : Int)), (1, .int .i64 q10.2), (2, v12)]) (cells := [.int .i64 (2 : Int), .int .i64 q10.2, v12]) hf (by decide) rfl (by simp [hf.ev (x := (Operand.tmp 35)) rfl, hf.ev (x := (Operand.tmp 36)) rfl, hf.ev (x := (Operand.tmp 37)) rfl]) (fun w => by obtain ⟨_, _, rfl⟩ := (hp.sl (i := 0) rfl).shapeV; kernel_rfl) ?_
  clear hf; intro a ha hf; clear ha
  refine st_stO (us := [.int .i64 (2 : Int), .int .i64 q10.2, v12]) hf hp (i := 2) rfl rfl rfl rfl rfl (by first | rfl | (obtain ⟨_, _, rfl⟩ := (hp.sl (i := 0) rfl).shapeV; rfl)) (by kernel_rfl) (Nat.le_of_ble_eq_true rfl) ?_
  clear hf; intro a w hf hp0; clear hp; have hp := hp0; clear hp0
  replace hp : Hp _ _ _ (Res.sl Ek.f64 33 v12 q10.1 :: Res.sm v5 [((ByteArray.mk #[115, 112, 105, 107, 101]), .func (.func 26) #[] #[]), ((ByteArray.mk #[98, 111, 120]), .func (.func 27) #[] #[]), ((ByteArray.mk #[116, 101, 110, 116]), .func (.func 29) #[] #[]), ((ByteArray.mk #[115, 111, 102, 116]), .func (.func 30) #[] #[])] :: Res.obj 28 v1 [.int .i64 (2 : Int), .int .i64 q10.2, v12] :: ow) := hp
  refine st_assign hf rfl rfl (by decide) ?_
  clear hf; intro a ha hf; clear ha
  refine st_nil hf ?_
  refine th_n ?_
  refine wp_ret ?_
  obtain rfl := Option.some.inj h
  have hp : Hp _ _ _ (Res.obj 28 v1 [.int .i64 (2 : Int), .int .i64 q10.2, v12] :: Res.sl Ek.f64 33 v12 q10.1 :: ow) := Hp.sel (pre := [Res.sl Ek.f64 33 v12 q10.1, Res.sm v5 [((ByteArray.mk #[115, 112, 105, 107, 101]), .func (.func 26) #[] #[]), ((ByteArray.mk #[98, 111, 120]), .func (.func 27) #[] #[]), ((ByteArray.mk #[116, 101, 110, 116]), .func (.func 29) #[] #[]), ((ByteArray.mk #[115, 111, 102, 116]), .func (.func 30) #[] #[])], Res.obj 28 v1 [.int .i64 (2 : Int), .int .i64 q10.2, v12]]) (tail := ow) (rs' := [Res.obj 28 v1 [.int .i64 (2 : Int), .int .i64 q10.2, v12], Res.sl Ek.f64 33 v12 q10.1]) hp [2, 0] (by decide) (by simp) rfl
  exact ⟨rfl, ⟨_, _, hf.sub ⟨rfl, rfl, trivial⟩, hp⟩⟩

noncomputable def f_pulse_makers_3.s1c (l4 : (List Fl)) (i5 : Int) : Option (((List Fl) × Int) ⊕ (List Fl)) := (if (decide (i5 < (2 : Int))) = true then (if (l4.length + ([(fquo (fofi (IntKind.i64.wrap ((2 : Int) - (imax i5 (IntKind.i64.wrap (0 - i5)))))) (fofi (2 : Int)))]).length) * 8 ≤ 140737488355328 then (some (Sum.inl ((l4 ++ [(fquo (fofi (IntKind.i64.wrap ((2 : Int) - (imax i5 (IntKind.i64.wrap (0 - i5)))))) (fofi (2 : Int)))]), (IntKind.i64.wrap (i5 + (1 : Int)))))) else none) else (some (Sum.inr l4)))
noncomputable def f_pulse_makers_3.s1  (s : ((List Fl) × Int)) : Option (((List Fl) × Int) ⊕ (List Fl)) := f_pulse_makers_3.s1c s.1 s.2
noncomputable def f_pulse_makers_3  : Option ((List Fl) × Int) := (if (false || false) = true then (some ([], (0 : Int))) else ((loop f_pulse_makers_3.s1 ([], (-1 : Int))).bind (fun q14 => (some (q14, (1 : Int))))))
theorem f_pulse_makers_3_c {S : Nat → Prop} {w0 w : World} {ow : List Res} (hp : Hp S w0 w ow) {r : ((List Fl) × Int)} (h : f_pulse_makers_3 = some r) :
    Calls Try.prog 29 #[.int .i64 (2 : Int)] w (fun e w' => ∃ (u0 : Value), e = .returned (.tuple #[u0, .int .i64 r.2]) ∧ Hp S w0 w' (Res.sl Ek.f64 33 u0 r.1 :: ow)) := by
  unfold f_pulse_makers_3 at h
  refine enter (n := 35) (args := [.int .i64 (2 : Int)]) Try.func29 rfl rfl (Nat.le_of_ble_eq_true rfl) fun a hf => ?_
  replace hf : Fr 35 a [(0, .int .i64 (2 : Int))] := hf
  refine wp_mono (Q := fun e a w => e = .ret ∧ ∃ (u0 : Value), Fr 35 a [(2, u0), (3, .int .i64 r.2)] ∧ Hp S w0 w (Res.sl Ek.f64 33 u0 r.1 :: ow)) ?_ ?_
  rotate_left
  · rintro e a w ⟨rfl, x0, hf, hp⟩
    exact ret2 hf rfl rfl rfl ⟨x0, rfl, hp⟩
  refine wp_seq ?_
  refine wp_reg ?_
  refine st_assign hf rfl rfl (by decide) ?_
  clear hf; intro a ha hf; clear ha
  refine st_assign hf rfl rfl (by decide) ?_
  clear hf; intro a ha hf; clear ha
  refine st_nil hf ?_
  refine th_n ?_
  refine wp_seq ?_
  refine wp_seq ?_
  refine wp_reg ?_
  refine st_move hf rfl rfl (by decide) ?_
  clear hf; intro a ha hf; clear ha
  refine st_igtr hf (by decide) rfl rfl rfl ?_
  clear hf; intro a ha hf; clear ha
  replace hf : Fr _ _ ((7, .bool false) :: _) := hf
  refine st_move hf rfl rfl (by decide) ?_
  clear hf; intro a ha hf; clear ha
  refine wpList_cut 3 (fun a w => Fr 35 a [(0, .int .i64 (2 : Int)), (11, .bool (false || false))] ∧ Hp S w0 w (ow)) ?_ ?_
  · rcases Bool.eq_false_or_eq_true false with hb2 | hb2
    · skip
      refine st_skip hf (wantN hf rfl rfl hb2) rfl (by decide) ?_ rfl
      clear hf; intro a hf
      refine st_skip hf (wantN hf rfl rfl hb2) rfl (by decide) ?_ rfl
      clear hf; intro a hf
      refine st_pick (v := .bool true) hf rfl rfl (fun hb' => ?_) (fun hb' => ?_) (by decide) ?_
      · rfl
      · exact absurd (hb2.symm.trans hb') (by decide)
      clear hf; intro a ha hf; clear ha
      refine st_nil hf (th_n ?_)
      exact ⟨hf.sub ⟨rfl, (by rw [hb2]; rfl), trivial⟩, hp⟩
    refine st_move hf (wantY hf rfl rfl hb2) rfl (by decide) ?_
    clear hf; intro a ha hf; clear ha
    refine st_ieql hf (by decide) (wantY hf rfl rfl hb2) rfl rfl ?_
    clear hf; intro a ha hf; clear ha
    replace hf : Fr _ _ ((10, .bool false) :: _) := hf
    refine st_pick (v := .bool false) hf rfl rfl (fun hb' => ?_) (fun hb' => ?_) (by decide) ?_
    · exact absurd (hb2.symm.trans hb') (by decide)
    · rfl
    clear hf; intro a ha hf; clear ha
    refine st_nil hf (th_n ?_)
    exact ⟨hf.sub ⟨rfl, (by rw [hb2]; rfl), trivial⟩, hp⟩
  rintro a w ⟨hf, hp⟩
  refine st_nil hf ?_
  refine th_n ?_
  refine wp_if hf rfl (fun hb => ?_) (fun hb => ?_)
  · replace h := ifT h hb
    refine wp_seq ?_
    refine wp_reg ?_
    refine st_assign hf rfl rfl (by decide) ?_
    clear hf; intro a ha hf; clear ha
    refine st_assign hf rfl rfl (by decide) ?_
    clear hf; intro a ha hf; clear ha
    refine st_nil hf ?_
    refine th_n ?_
    refine wp_ret ?_
    refine th_r ?_
    obtain rfl := Option.some.inj h
    have hp := hp.nil Ek.f64 33
    exact ⟨rfl, ⟨_, hf.sub ⟨rfl, rfl, trivial⟩, hp⟩⟩
  replace h := ifF h hb
  refine wp_skip ?_
  refine th_n ?_
  refine wp_seq ?_
  refine wp_reg ?_
  refine st_assign hf rfl rfl (by decide) ?_
  clear hf; intro a ha hf; clear ha
  refine st_nil hf ?_
  refine th_n ?_
  refine wp_seq ?_
  refine wp_seq ?_
  refine wp_reg ?_
  refine st_move hf rfl rfl (by decide) ?_
  clear hf; intro a ha hf; clear ha
  refine st_isub hf (by decide) rfl rfl rfl ?_
  clear hf; intro a ha hf; clear ha
  replace hf : Fr _ _ ((13, .int .i64 (-1 : Int)) :: _) := hf
  refine st_assign hf rfl rfl (by decide) ?_
  clear hf; intro a ha hf; clear ha
  refine st_nil hf ?_
  refine th_n ?_
  refine wp_block ?_
  obtain ⟨q14, hl, h⟩ := bnd h
  have hp := hp.nil Ek.f64 33
  refine wp_loop_pure (f := f_pulse_makers_3.s1) (s := ([], (-1 : Int))) (fun s a w => ∃ (v4 : Value), Fr 35 a [(0, .int .i64 (2 : Int)), (4, v4), (5, .int .i64 s.2)] ∧ Hp S w0 w (Res.sl Ek.f64 33 v4 s.1 :: ow)) (fun q e a w => e = .exit 0 ∧ ∃ (v6 : Value), Fr 35 a [(0, .int .i64 (2 : Int)), (4, v6)] ∧ Hp S w0 w (Res.sl Ek.f64 33 v6 q :: ow)) ?_ hl ⟨_, hf.sub ⟨rfl, rfl, rfl, trivial⟩, hp⟩ ?_
  · clear hl hf hp
    intro s x a w h hI
    obtain ⟨l4, i5⟩ := s
    obtain ⟨v4, hf, hp⟩ : ∃ (v4 : Value), Fr 35 a [(0, .int .i64 (2 : Int)), (4, v4), (5, .int .i64 i5)] ∧ Hp S w0 w (Res.sl Ek.f64 33 v4 l4 :: ow) := hI
    replace h : f_pulse_makers_3.s1c l4 i5 = some x := h
    unfold f_pulse_makers_3.s1c at h
    refine wp_seq ?_
    refine wp_seq ?_
    refine wp_reg ?_
    refine st_move hf rfl rfl (by decide) ?_
    clear hf; intro a ha hf; clear ha
    refine st_move hf rfl rfl (by decide) ?_
    clear hf; intro a ha hf; clear ha
    refine st_ilss hf (by decide) rfl rfl rfl ?_
    clear hf; intro a ha hf; clear ha
    refine st_nil hf ?_
    refine th_n ?_
    refine wp_if hf rfl (fun hb => ?_) (fun hb => ?_)
    · replace h := ifT h hb
      refine wp_skip ?_
      refine th_n ?_
      refine wp_seq ?_
      refine wp_block ?_
      refine wp_reg ?_
      refine st_move hf rfl rfl (by decide) ?_
      clear hf; intro a ha hf; clear ha
      refine st_move hf rfl rfl (by decide) ?_
      clear hf; intro a ha hf; clear ha
      refine st_move hf rfl rfl (by decide) ?_
      clear hf; intro a ha hf; clear ha
      refine st_move hf rfl rfl (by decide) ?_
      clear hf; intro a ha hf; clear ha
      refine st_ineg hf (by decide) rfl rfl ?_
      clear hf; intro a ha hf; clear ha
      refine st_imax hf (by decide) rfl rfl rfl ?_
      clear hf; intro a ha hf; clear ha
      refine st_isub hf (by decide) rfl rfl rfl ?_
      clear hf; intro a ha hf; clear ha
      refine st_conv_if Try.underlying3 Try.underlying33 hf (by decide) rfl rfl ?_
      clear hf; intro a ha hf; clear ha
      refine st_move hf rfl rfl (by decide) ?_
      clear hf; intro a ha hf; clear ha
      refine st_conv_if Try.underlying3 Try.underlying33 hf (by decide) rfl rfl ?_
      clear hf; intro a ha hf; clear ha
      refine st_farith (op := .quo) rfl hf (by decide) hp rfl rfl rfl (show Fl.rep (FloatKind.f64.nearest (IntKind.i64.wrap ((2 : Int) - (imax i5 (IntKind.i64.wrap (0 - i5)))))) (fofi (IntKind.i64.wrap ((2 : Int) - (imax i5 (IntKind.i64.wrap (0 - i5)))))) from rfl) (show Fl.rep (FloatKind.f64.nearest (2 : Int)) (fofi (2 : Int)) from rfl) ?_
      clear hf; intro a w bb8 y9 hf hp0; clear hp; have hp := hp0; clear hp0
      replace hp : Hp _ _ _ (Res.sl Ek.f64 33 v4 l4 :: ow) := hp
      refine st_build (E := Ek.f64) (xs := [(fquo (fofi (IntKind.i64.wrap ((2 : Int) - (imax i5 (IntKind.i64.wrap (0 - i5)))))) (fofi (2 : Int)))]) hf (by decide) elt33 Try.underlying26 hp (vals := #[(0, .float .f64 bb8)]) (cells := #[.float .f64 bb8]) rfl (by simp [hf.ev (x := (Operand.tmp 29)) rfl]) (Nat.le_of_ble_eq_true rfl) (Nat.le_of_ble_eq_true rfl) (z := .float .f64 0) (by kernel_rfl) (by kernel_rfl) rfl (reps_cons (cs := [.float .f64 bb8]) (show Ek.f64.rep [.float .f64 bb8] (fquo (fofi (IntKind.i64.wrap ((2 : Int) - (imax i5 (IntKind.i64.wrap (0 - i5)))))) (fofi (2 : Int))) from ⟨_, rfl, y9⟩) (reps_nil _)) ?_
      clear hf; intro a w v10 hf hp0; clear hp; have hp := hp0; clear hp0
      replace hp : Hp _ _ _ (Res.sl Ek.f64 33 v10 ([(fquo (fofi (IntKind.i64.wrap ((2 : Int) - (imax i5 (IntKind.i64.wrap (0 - i5)))))) (fofi (2 : Int)))]) :: Res.sl Ek.f64 33 v4 l4 :: ow) := hp
      obtain ⟨hc12, h⟩ := chk h
      refine st_append (E := Ek.f64) hf (by decide) elt33 Try.underlying26 (by decide) hp (i := 1) rfl rfl rfl rfl (hp.sl (i := 0) rfl) hc12 ?_
      clear hf; intro a w v13 hf hp0; clear hp; have hp := hp0; clear hp0
      replace hp : Hp _ _ _ (Res.sl Ek.f64 33 v10 ([(fquo (fofi (IntKind.i64.wrap ((2 : Int) - (imax i5 (IntKind.i64.wrap (0 - i5)))))) (fofi (2 : Int)))]) :: Res.sl Ek.f64 33 v13 (l4 ++ [(fquo (fofi (IntKind.i64.wrap ((2 : Int) - (imax i5 (IntKind.i64.wrap (0 - i5)))))) (fofi (2 : Int)))]) :: ow) := hp
      refine st_assign hf rfl rfl (by decide) ?_
      clear hf; intro a ha hf; clear ha
      refine st_nil hf ?_
      refine ib_n ?_
      refine th_n ?_
      refine wp_reg ?_
      refine st_move hf rfl rfl (by decide) ?_
      clear hf; intro a ha hf; clear ha
      refine st_iadd hf (by decide) rfl rfl rfl ?_
      clear hf; intro a ha hf; clear ha
      refine st_assign hf rfl rfl (by decide) ?_
      clear hf; intro a ha hf; clear ha
      refine st_nil hf ?_
      obtain rfl := Option.some.inj h
      have hp : Hp _ _ _ (Res.sl Ek.f64 33 v13 (l4 ++ [(fquo (fofi (IntKind.i64.wrap ((2 : Int) - (imax i5 (IntKind.i64.wrap (0 - i5)))))) (fofi (2 : Int)))]) :: ow) := Hp.sel (pre := [Res.sl Ek.f64 33 v10 ([(fquo (fofi (IntKind.i64.wrap ((2 : Int) - (imax i5 (IntKind.i64.wrap (0 - i5)))))) (fofi (2 : Int)))]), Res.sl Ek.f64 33 v13 (l4 ++ [(fquo (fofi (IntKind.i64.wrap ((2 : Int) - (imax i5 (IntKind.i64.wrap (0 - i5)))))) (fofi (2 : Int)))])]) (tail := ow) (rs' := [Res.sl Ek.f64 33 v13 (l4 ++ [(fquo (fofi (IntKind.i64.wrap ((2 : Int) - (imax i5 (IntKind.i64.wrap (0 - i5)))))) (fofi (2 : Int)))])]) hp [1] (by decide) (by simp) rfl
      exact rnd_l ⟨_, hf.sub ⟨rfl, rfl, rfl, trivial⟩, hp⟩
    replace h := ifF h hb
    refine wp_exit ?_
    refine th_e ?_
    obtain rfl := Option.some.inj h
    exact rnd_r (by simp) ⟨rfl, _, hf.sub ⟨rfl, rfl, trivial⟩, hp⟩
  clear hl hf hp
  intro e a w hne hO
  obtain ⟨rfl, v6, hf, hp⟩ := hO
  refine ib_same ?_
  refine th_n ?_
  refine wp_seq ?_
  refine wp_reg ?_
  refine st_move hf rfl rfl (by decide) ?_
  clear hf; intro a ha hf; clear ha
  refine st_move hf rfl rfl (by decide) ?_
  clear hf; intro a ha hf; clear ha
  refine st_isub hf (by decide) rfl rfl rfl ?_
  clear hf; intro a ha hf; clear ha
  replace hf : Fr _ _ ((34, .int .i64 (1 : Int)) :: _) := hf
  refine st_assign hf rfl rfl (by decide) ?_
  clear hf; intro a ha hf; clear ha
  refine st_assign hf rfl rfl (by decide) ?_
  clear hf; intro a ha hf; clear ha
  refine st_nil hf ?_
  refine th_n ?_
  refine wp_ret ?_
  obtain rfl := Option.some.inj h
  exact ⟨rfl, ⟨_, hf.sub ⟨rfl, rfl, trivial⟩, hp⟩⟩

noncomputable def f_pulse_Named_10_3  : Option ((Int × Int × (List Fl)) × Int) := ((f_pulse_makers).bind fun q3 => (if (false || false) = true then (some (((0 : Int), (0 : Int), []), (1 : Int))) else ((f_pulse_makers_3).bind fun q10 => (if 0 < q10.1.length then (some (((2 : Int), q10.2, q10.1), (0 : Int))) else none))))
theorem f_pulse_Named_10_3_c {S : Nat → Prop} {w0 w : World} {ow : List Res} (hp : Hp S w0 w ow) {r : ((Int × Int × (List Fl)) × Int)} (h : f_pulse_Named_10_3 = some r) :
    Calls Try.prog 10 #[.string (ByteArray.mk #[116, 101, 110, 116]), .int .i64 (2 : Int)] w (fun e w' => ∃ (u0 : Value), e = .returned (.tuple #[.agg #[.int .i64 r.1.1, .int .i64 r.1.2.1, u0], .int .i64 r.2]) ∧ Hp S w0 w' (Res.sl Ek.f64 33 u0 r.1.2.2 :: ow)) := by
  unfold f_pulse_Named_10_3 at h
  refine enter (n := 39) (args := [.string (ByteArray.mk #[116, 101, 110, 116]), .int .i64 (2 : Int)]) Try.func10 rfl rfl (Nat.le_of_ble_eq_true rfl) fun a hf => ?_
  replace hf : Fr 39 a [(0, .string (ByteArray.mk #[116, 101, 110, 116])), (1, .int .i64 (2 : Int))] := hf
  refine wp_mono (Q := fun e a w => e = .ret ∧ ∃ (u0 : Value) (c0 : Value), Fr 39 a [(4, optr c0 0), (5, .int .i64 r.2)] ∧ Hp S w0 w (Res.obj 28 c0 [.int .i64 r.1.1, .int .i64 r.1.2.1, u0] :: Res.sl Ek.f64 33 u0 r.1.2.2 :: ow)) ?_ ?_
  rotate_left
  · rintro e a w ⟨rfl, x0, c0, hf, hp⟩
    exact retG2 hf rfl ⟨_, _, rfl, hp.ob (i := 0) rfl, .inr ⟨by kernel_rfl, rfl⟩⟩ rfl ⟨x0, rfl, hp.drop⟩
  refine wp_seq ?_
  refine wp_reg ?_
  refine st_alloc (cs := [.int .i64 (0 : Int), .int .i64 (0 : Int), .slice none 0 0]) (zv := .agg #[.int .i64 (0 : Int), .int .i64 (0 : Int), .slice none 0 0]) hf (by decide) (by kernel_rfl) rfl hp rfl ?_
  clear hf; intro a w v1 hf hp0; clear hp; have hp := hp0; clear hp0
  replace hp : Hp _ _ _ (Res.obj 28 v1 [.int .i64 (0 : Int), .int .i64 (0 : Int), .slice none 0 0] :: ow) := hp
  refine st_assign hf rfl rfl (by decide) ?_
  clear hf; intro a ha hf; clear ha
  refine st_nil hf ?_
  refine th_n ?_
  refine wp_seq ?_
  refine wp_reg ?_
  obtain ⟨q3, hcall4, h⟩ := bnd h
  refine st_call hf (by decide) Try.func17 rfl rfl rfl rfl rfl (f_pulse_makers_c hp  hcall4) ?_
  rintro _ w ⟨v5, rfl, hp0⟩
  clear hp; have hp := hp0; clear hp0
  replace hp : Hp _ _ _ (Res.sm v5 [((ByteArray.mk #[115, 112, 105, 107, 101]), .func (.func 26) #[] #[]), ((ByteArray.mk #[98, 111, 120]), .func (.func 27) #[] #[]), ((ByteArray.mk #[116, 101, 110, 116]), .func (.func 29) #[] #[]), ((ByteArray.mk #[115, 111, 102, 116]), .func (.func 30) #[] #[])] :: Res.obj 28 v1 [.int .i64 (0 : Int), .int .i64 (0 : Int), .slice none 0 0] :: ow) := hp
  refine ⟨_, rfl, ?_⟩
  clear hf; intro a hf
  refine st_move hf rfl rfl (by decide) ?_
  clear hf; intro a ha hf; clear ha
  refine st_lookupS (j := 2) (u := .func (.func 29) #[] #[]) hf (by decide) Try.underlying64 Try.underlying9 hp (i := 0) rfl (by rfl) rfl rfl rfl ?_
  clear hf; intro a ha hf; clear ha
  refine st_move hf rfl rfl (by decide) ?_
  clear hf; intro a ha hf; clear ha
  refine st_extract hf (by decide) rfl rfl rfl ?_
  clear hf; intro a ha hf; clear ha
  refine st_extract hf (by decide) rfl rfl rfl ?_
  clear hf; intro a ha hf; clear ha
  refine st_assign hf rfl rfl (by decide) ?_
  clear hf; intro a ha hf; clear ha
  refine st_assign hf rfl rfl (by decide) ?_
  clear hf; intro a ha hf; clear ha
  refine st_nil hf ?_
  refine th_n ?_
  refine wp_seq ?_
  refine wp_seq ?_
  refine wp_reg ?_
  refine st_move hf rfl rfl (by decide) ?_
  clear hf; intro a ha hf; clear ha
  refine st_not hf (by decide) rfl rfl ?_
  clear hf; intro a ha hf; clear ha
  replace hf : Fr _ _ ((17, .bool false) :: _) := hf
  refine st_nil hf ?_
  refine th_n ?_
  refine wp_if hf rfl (fun hb => ?_) (fun hb => ?_)
  · exact absurd hb (by decide)
  refine wp_skip ?_
  refine th_n ?_
  refine wp_seq ?_
  refine wp_seq ?_
  refine wp_reg ?_
  refine st_move hf rfl rfl (by decide) ?_
  clear hf; intro a ha hf; clear ha
  refine st_ilss hf (by decide) rfl rfl rfl ?_
  clear hf; intro a ha hf; clear ha
  replace hf : Fr _ _ ((20, .bool false) :: _) := hf
  refine st_move hf rfl rfl (by decide) ?_
  clear hf; intro a ha hf; clear ha
  refine wpList_cut 3 (fun a w => Fr 39 a [(1, .int .i64 (2 : Int)), (4, optr v1 0), (6, .func (.func 29) #[] #[]), (24, .bool (false || false))] ∧ Hp S w0 w (Res.sm v5 [((ByteArray.mk #[115, 112, 105, 107, 101]), .func (.func 26) #[] #[]), ((ByteArray.mk #[98, 111, 120]), .func (.func 27) #[] #[]), ((ByteArray.mk #[116, 101, 110, 116]), .func (.func 29) #[] #[]), ((ByteArray.mk #[115, 111, 102, 116]), .func (.func 30) #[] #[])] :: Res.obj 28 v1 [.int .i64 (0 : Int), .int .i64 (0 : Int), .slice none 0 0] :: ow)) ?_ ?_
  · rcases Bool.eq_false_or_eq_true false with hb8 | hb8
    · skip
      refine st_skip hf (wantN hf rfl rfl hb8) rfl (by decide) ?_ rfl
      clear hf; intro a hf
      refine st_skip hf (wantN hf rfl rfl hb8) rfl (by decide) ?_ rfl
      clear hf; intro a hf
      refine st_pick (v := .bool true) hf rfl rfl (fun hb' => ?_) (fun hb' => ?_) (by decide) ?_
      · rfl
      · exact absurd (hb8.symm.trans hb') (by decide)
      clear hf; intro a ha hf; clear ha
      refine st_nil hf (th_n ?_)
      exact ⟨hf.sub ⟨rfl, rfl, rfl, (by rw [hb8]; rfl), trivial⟩, hp⟩
    refine st_move hf (wantY hf rfl rfl hb8) rfl (by decide) ?_
    clear hf; intro a ha hf; clear ha
    refine st_igtr hf (by decide) (wantY hf rfl rfl hb8) rfl rfl ?_
    clear hf; intro a ha hf; clear ha
    replace hf : Fr _ _ ((23, .bool false) :: _) := hf
    refine st_pick (v := .bool false) hf rfl rfl (fun hb' => ?_) (fun hb' => ?_) (by decide) ?_
    · exact absurd (hb8.symm.trans hb') (by decide)
    · rfl
    clear hf; intro a ha hf; clear ha
    refine st_nil hf (th_n ?_)
    exact ⟨hf.sub ⟨rfl, rfl, rfl, (by rw [hb8]; rfl), trivial⟩, hp⟩
  rintro a w ⟨hf, hp⟩
  refine st_nil hf ?_
  refine th_n ?_
  refine wp_if hf rfl (fun hb => ?_) (fun hb => ?_)
  · replace h := ifT h hb
    refine wp_seq ?_
    refine wp_reg ?_
    refine st_buildA (vals := []) (cells := [.int .i64 (0 : Int), .int .i64 (0 : Int), .slice none 0 0]) hf (by decide) rfl (by simp []) (fun w => by kernel_rfl) ?_
    clear hf; intro a ha hf; clear ha
    refine st_stO (us := [.int .i64 (0 : Int), .int .i64 (0 : Int), .slice none 0 0]) hf hp (i := 1) rfl rfl rfl rfl rfl (by rfl) (by kernel_rfl) (Nat.le_of_ble_eq_true rfl) ?_
    clear hf; intro a w hf hp0; clear hp; have hp := hp0; clear hp0
    replace hp : Hp _ _ _ (Res.sm v5 [((ByteArray.mk #[115, 112, 105, 107, 101]), .func (.func 26) #[] #[]), ((ByteArray.mk #[98, 111, 120]), .func (.func 27) #[] #[]), ((ByteArray.mk #[116, 101, 110, 116]), .func (.func 29) #[] #[]), ((ByteArray.mk #[115, 111, 102, 116]), .func (.func 30) #[] #[])] :: Res.obj 28 v1 [.int .i64 (0 : Int), .int .i64 (0 : Int), .slice none 0 0] :: ow) := hp
    refine st_assign hf rfl rfl (by decide) ?_
    clear hf; intro a ha hf; clear ha
    refine st_nil hf ?_
    refine th_n ?_
    refine wp_ret ?_
    refine th_r ?_
    obtain rfl := Option.some.inj h
    have hp := hp.nil Ek.f64 33
    have hp : Hp _ _ _ (Res.obj 28 v1 [.int .i64 (0 : Int), .int .i64 (0 : Int), .slice none 0 0] :: Res.sl Ek.f64 33 (.slice none 0 0) ([]) :: ow) := Hp.sel (pre := [Res.sl Ek.f64 33 (.slice none 0 0) ([]), Res.sm v5 [((ByteArray.mk #[115, 112, 105, 107, 101]), .func (.func 26) #[] #[]), ((ByteArray.mk #[98, 111, 120]), .func (.func 27) #[] #[]), ((ByteArray.mk #[116, 101, 110, 116]), .func (.func 29) #[] #[]), ((ByteArray.mk #[115, 111, 102, 116]), .func (.func 30) #[] #[])], Res.obj 28 v1 [.int .i64 (0 : Int), .int .i64 (0 : Int), .slice none 0 0]]) (tail := ow) (rs' := [Res.obj 28 v1 [.int .i64 (0 : Int), .int .i64 (0 : Int), .slice none 0 0], Res.sl Ek.f64 33 (.slice none 0 0) ([])]) hp [2, 0] (by decide) (by simp) rfl
    exact ⟨rfl, ⟨_, _, hf.sub ⟨rfl, rfl, trivial⟩, hp⟩⟩
  replace h := ifF h hb
  refine wp_skip ?_
  refine th_n ?_
  refine wp_seq ?_
  refine wp_reg ?_
  refine st_move hf rfl rfl (by decide) ?_
  clear hf; intro a ha hf; clear ha
  refine st_move hf rfl rfl (by decide) ?_
  clear hf; intro a ha hf; clear ha
  obtain ⟨q10, hcall11, h⟩ := bnd h
  refine st_call hf (by decide) Try.func29 rfl rfl rfl rfl rfl (f_pulse_makers_3_c hp  hcall11) ?_
  rintro _ w ⟨v12, rfl, hp0⟩
  clear hp; have hp := hp0; clear hp0
  replace hp : Hp _ _ _ (Res.sl Ek.f64 33 v12 q10.1 :: Res.sm v5 [((ByteArray.mk #[115, 112, 105, 107, 101]), .func (.func 26) #[] #[]), ((ByteArray.mk #[98, 111, 120]), .func (.func 27) #[] #[]), ((ByteArray.mk #[116, 101, 110, 116]), .func (.func 29) #[] #[]), ((ByteArray.mk #[115, 111, 102, 116]), .func (.func 30) #[] #[])] :: Res.obj 28 v1 [.int .i64 (0 : Int), .int .i64 (0 : Int), .slice none 0 0] :: ow) := hp
  refine ⟨_, rfl, ?_⟩
  clear hf; intro a hf
  refine st_move hf rfl rfl (by decide) ?_
  clear hf; intro a ha hf; clear ha
  refine st_extract hf (by decide) rfl rfl rfl ?_
  clear hf; intro a ha hf; clear ha
  refine st_extract hf (by decide) rfl rfl rfl ?_
  clear hf; intro a ha hf; clear ha
  refine st_assign hf rfl rfl (by decide) ?_
  clear hf; intro a ha hf; clear ha
  refine st_assign hf rfl rfl (by decide) ?_
  clear hf; intro a ha hf; clear ha
  refine st_nil hf ?_
  refine th_n ?_
  refine wp_seq ?_
  refine wp_seq ?_
  refine wp_reg ?_
  refine st_move hf rfl rfl (by decide) ?_
  clear hf; intro a ha hf; clear ha
  obtain ⟨hc14, h⟩ := chk h
  refine st_slnilE hf (by decide) Try.underlying26 rfl rfl rfl (hp.sl (i := 0) rfl) hc14 ?_
  clear hf; intro a ha hf; clear ha
  refine st_nil hf ?_
  refine th_n ?_
  refine wp_if hf rfl (fun hb => ?_) (fun hb => ?_)
  · exact absurd hb (by decide)
  refine wp_skip ?_
  refine th_n ?_
  refine wp_seq ?_
  refine wp_reg ?_
  refine st_move hf rfl rfl (by decide) ?_
  clear hf; intro a ha hf; clear ha
  refine st_move hf rfl rfl (by decide) ?_
  clear hf; intro a ha hf; clear ha
  refine st_move hf rfl rfl (by decide) ?_
  clear hf; intro a ha hf; clear ha
  refine st_buildA (vals := [(0, .int .i64 (2 : Int)), (1, .int .i64 q10.2), (2, v12)]) (cells := [.int .i64 (2 : Int), .int .i64 q10.2, v12]) hf (by decide) rfl (by simp [hf.ev (x := (Operand.tmp 35)) rfl, hf.ev (x := (Operand.tmp 36)) rfl, hf.ev (x := (Operand.tmp 37)) rfl]) (fun w => by obtain ⟨_, _, rfl⟩ := (hp.sl (i := 0) rfl).shapeV; kernel_rfl) ?_
  clear hf; intro a ha hf; clear ha
  refine st_stO (us := [.int .i64 (2 : Int), .int .i64 q10.2, v12]) hf hp (i := 2) rfl rfl rfl rfl rfl (by first | rfl | (obtain ⟨_, _, rfl⟩ := (hp.sl (i := 0) rfl).shapeV; rfl)) (by kernel_rfl) (Nat.le_of_ble_eq_true rfl) ?_
  clear hf; intro a w hf hp0; clear hp; have hp := hp0; clear hp0
  replace hp : Hp _ _ _ (Res.sl Ek.f64 33 v12 q10.1 :: Res.sm v5 [((ByteArray.mk #[115, 112, 105, 107, 101]), .func (.func 26) #[] #[]), ((ByteArray.mk #[98, 111, 120]), .func (.func 27) #[] #[]), ((ByteArray.mk #[116, 101, 110, 116]), .func (.func 29) #[] #[]), ((ByteArray.mk #[115, 111, 102, 116]), .func (.func 30) #[] #[])] :: Res.obj 28 v1 [.int .i64 (2 : Int), .int .i64 q10.2, v12] :: ow) := hp
  refine st_assign hf rfl rfl (by decide) ?_
  clear hf; intro a ha hf; clear ha
  refine st_nil hf ?_
  refine th_n ?_
  refine wp_ret ?_
  obtain rfl := Option.some.inj h
  have hp : Hp _ _ _ (Res.obj 28 v1 [.int .i64 (2 : Int), .int .i64 q10.2, v12] :: Res.sl Ek.f64 33 v12 q10.1 :: ow) := Hp.sel (pre := [Res.sl Ek.f64 33 v12 q10.1, Res.sm v5 [((ByteArray.mk #[115, 112, 105, 107, 101]), .func (.func 26) #[] #[]), ((ByteArray.mk #[98, 111, 120]), .func (.func 27) #[] #[]), ((ByteArray.mk #[116, 101, 110, 116]), .func (.func 29) #[] #[]), ((ByteArray.mk #[115, 111, 102, 116]), .func (.func 30) #[] #[])], Res.obj 28 v1 [.int .i64 (2 : Int), .int .i64 q10.2, v12]]) (tail := ow) (rs' := [Res.obj 28 v1 [.int .i64 (2 : Int), .int .i64 q10.2, v12], Res.sl Ek.f64 33 v12 q10.1]) hp [2, 0] (by decide) (by simp) rfl
  exact ⟨rfl, ⟨_, _, hf.sub ⟨rfl, rfl, trivial⟩, hp⟩⟩

noncomputable def f_pulse_makers_3_29.s1c (l4 : (List Fl)) (i5 : Int) : Option (((List Fl) × Int) ⊕ (List Fl)) := (if (decide (i5 < (4 : Int))) = true then (if (l4.length + ([(fquo (fofi (IntKind.i64.wrap ((4 : Int) - (imax i5 (IntKind.i64.wrap (0 - i5)))))) (fofi (4 : Int)))]).length) * 8 ≤ 140737488355328 then (some (Sum.inl ((l4 ++ [(fquo (fofi (IntKind.i64.wrap ((4 : Int) - (imax i5 (IntKind.i64.wrap (0 - i5)))))) (fofi (4 : Int)))]), (IntKind.i64.wrap (i5 + (1 : Int)))))) else none) else (some (Sum.inr l4)))
noncomputable def f_pulse_makers_3_29.s1  (s : ((List Fl) × Int)) : Option (((List Fl) × Int) ⊕ (List Fl)) := f_pulse_makers_3_29.s1c s.1 s.2
noncomputable def f_pulse_makers_3_29  : Option ((List Fl) × Int) := (if (false || false) = true then (some ([], (0 : Int))) else ((loop f_pulse_makers_3_29.s1 ([], (-3 : Int))).bind (fun q14 => (some (q14, (3 : Int))))))
theorem f_pulse_makers_3_29_c {S : Nat → Prop} {w0 w : World} {ow : List Res} (hp : Hp S w0 w ow) {r : ((List Fl) × Int)} (h : f_pulse_makers_3_29 = some r) :
    Calls Try.prog 29 #[.int .i64 (4 : Int)] w (fun e w' => ∃ (u0 : Value), e = .returned (.tuple #[u0, .int .i64 r.2]) ∧ Hp S w0 w' (Res.sl Ek.f64 33 u0 r.1 :: ow)) := by
  unfold f_pulse_makers_3_29 at h
  refine enter (n := 35) (args := [.int .i64 (4 : Int)]) Try.func29 rfl rfl (Nat.le_of_ble_eq_true rfl) fun a hf => ?_
  replace hf : Fr 35 a [(0, .int .i64 (4 : Int))] := hf
  refine wp_mono (Q := fun e a w => e = .ret ∧ ∃ (u0 : Value), Fr 35 a [(2, u0), (3, .int .i64 r.2)] ∧ Hp S w0 w (Res.sl Ek.f64 33 u0 r.1 :: ow)) ?_ ?_
  rotate_left
  · rintro e a w ⟨rfl, x0, hf, hp⟩
    exact ret2 hf rfl rfl rfl ⟨x0, rfl, hp⟩
  refine wp_seq ?_
  refine wp_reg ?_
  refine st_assign hf rfl rfl (by decide) ?_
  clear hf; intro a ha hf; clear ha
  refine st_assign hf rfl rfl (by decide) ?_
  clear hf; intro a ha hf; clear ha
  refine st_nil hf ?_
  refine th_n ?_
  refine wp_seq ?_
  refine wp_seq ?_
  refine wp_reg ?_
  refine st_move hf rfl rfl (by decide) ?_
  clear hf; intro a ha hf; clear ha
  refine st_igtr hf (by decide) rfl rfl rfl ?_
  clear hf; intro a ha hf; clear ha
  replace hf : Fr _ _ ((7, .bool false) :: _) := hf
  refine st_move hf rfl rfl (by decide) ?_
  clear hf; intro a ha hf; clear ha
  refine wpList_cut 3 (fun a w => Fr 35 a [(0, .int .i64 (4 : Int)), (11, .bool (false || false))] ∧ Hp S w0 w (ow)) ?_ ?_
  · rcases Bool.eq_false_or_eq_true false with hb2 | hb2
    · skip
      refine st_skip hf (wantN hf rfl rfl hb2) rfl (by decide) ?_ rfl
      clear hf; intro a hf
      refine st_skip hf (wantN hf rfl rfl hb2) rfl (by decide) ?_ rfl
      clear hf; intro a hf
      refine st_pick (v := .bool true) hf rfl rfl (fun hb' => ?_) (fun hb' => ?_) (by decide) ?_
      · rfl
      · exact absurd (hb2.symm.trans hb') (by decide)
      clear hf; intro a ha hf; clear ha
      refine st_nil hf (th_n ?_)
      exact ⟨hf.sub ⟨rfl, (by rw [hb2]; rfl), trivial⟩, hp⟩
    refine st_move hf (wantY hf rfl rfl hb2) rfl (by decide) ?_
    clear hf; intro a ha hf; clear ha
    refine st_ieql hf (by decide) (wantY hf rfl rfl hb2) rfl rfl ?_
    clear hf; intro a ha hf; clear ha
    replace hf : Fr _ _ ((10, .bool false) :: _) := hf
    refine st_pick (v := .bool false) hf rfl rfl (fun hb' => ?_) (fun hb' => ?_) (by decide) ?_
    · exact absurd (hb2.symm.trans hb') (by decide)
    · rfl
    clear hf; intro a ha hf; clear ha
    refine st_nil hf (th_n ?_)
    exact ⟨hf.sub ⟨rfl, (by rw [hb2]; rfl), trivial⟩, hp⟩
  rintro a w ⟨hf, hp⟩
  refine st_nil hf ?_
  refine th_n ?_
  refine wp_if hf rfl (fun hb => ?_) (fun hb => ?_)
  · replace h := ifT h hb
    refine wp_seq ?_
    refine wp_reg ?_
    refine st_assign hf rfl rfl (by decide) ?_
    clear hf; intro a ha hf; clear ha
    refine st_assign hf rfl rfl (by decide) ?_
    clear hf; intro a ha hf; clear ha
    refine st_nil hf ?_
    refine th_n ?_
    refine wp_ret ?_
    refine th_r ?_
    obtain rfl := Option.some.inj h
    have hp := hp.nil Ek.f64 33
    exact ⟨rfl, ⟨_, hf.sub ⟨rfl, rfl, trivial⟩, hp⟩⟩
  replace h := ifF h hb
  refine wp_skip ?_
  refine th_n ?_
  refine wp_seq ?_
  refine wp_reg ?_
  refine st_assign hf rfl rfl (by decide) ?_
  clear hf; intro a ha hf; clear ha
  refine st_nil hf ?_
  refine th_n ?_
  refine wp_seq ?_
  refine wp_seq ?_
  refine wp_reg ?_
  refine st_move hf rfl rfl (by decide) ?_
  clear hf; intro a ha hf; clear ha
  refine st_isub hf (by decide) rfl rfl rfl ?_
  clear hf; intro a ha hf; clear ha
  replace hf : Fr _ _ ((13, .int .i64 (-3 : Int)) :: _) := hf
  refine st_assign hf rfl rfl (by decide) ?_
  clear hf; intro a ha hf; clear ha
  refine st_nil hf ?_
  refine th_n ?_
  refine wp_block ?_
  obtain ⟨q14, hl, h⟩ := bnd h
  have hp := hp.nil Ek.f64 33
  refine wp_loop_pure (f := f_pulse_makers_3_29.s1) (s := ([], (-3 : Int))) (fun s a w => ∃ (v4 : Value), Fr 35 a [(0, .int .i64 (4 : Int)), (4, v4), (5, .int .i64 s.2)] ∧ Hp S w0 w (Res.sl Ek.f64 33 v4 s.1 :: ow)) (fun q e a w => e = .exit 0 ∧ ∃ (v6 : Value), Fr 35 a [(0, .int .i64 (4 : Int)), (4, v6)] ∧ Hp S w0 w (Res.sl Ek.f64 33 v6 q :: ow)) ?_ hl ⟨_, hf.sub ⟨rfl, rfl, rfl, trivial⟩, hp⟩ ?_
  · clear hl hf hp
    intro s x a w h hI
    obtain ⟨l4, i5⟩ := s
    obtain ⟨v4, hf, hp⟩ : ∃ (v4 : Value), Fr 35 a [(0, .int .i64 (4 : Int)), (4, v4), (5, .int .i64 i5)] ∧ Hp S w0 w (Res.sl Ek.f64 33 v4 l4 :: ow) := hI
    replace h : f_pulse_makers_3_29.s1c l4 i5 = some x := h
    unfold f_pulse_makers_3_29.s1c at h
    refine wp_seq ?_
    refine wp_seq ?_
    refine wp_reg ?_
    refine st_move hf rfl rfl (by decide) ?_
    clear hf; intro a ha hf; clear ha
    refine st_move hf rfl rfl (by decide) ?_
    clear hf; intro a ha hf; clear ha
    refine st_ilss hf (by decide) rfl rfl rfl ?_
    clear hf; intro a ha hf; clear ha
    refine st_nil hf ?_
    refine th_n ?_
    refine wp_if hf rfl (fun hb => ?_) (fun hb => ?_)
    · replace h := ifT h hb
      refine wp_skip ?_
      refine th_n ?_
      refine wp_seq ?_
      refine wp_block ?_
      refine wp_reg ?_
      refine st_move hf rfl rfl (by decide) ?_
      clear hf; intro a ha hf; clear ha
      refine st_move hf rfl rfl (by decide) ?_
      clear hf; intro a ha hf; clear ha
      refine st_move hf rfl rfl (by decide) ?_
      clear hf; intro a ha hf; clear ha
      refine st_move hf rfl rfl (by decide) ?_
      clear hf; intro a ha hf; clear ha
      refine st_ineg hf (by decide) rfl rfl ?_
      clear hf; intro a ha hf; clear ha
      refine st_imax hf (by decide) rfl rfl rfl ?_
      clear hf; intro a ha hf; clear ha
      refine st_isub hf (by decide) rfl rfl rfl ?_
      clear hf; intro a ha hf; clear ha
      refine st_conv_if Try.underlying3 Try.underlying33 hf (by decide) rfl rfl ?_
      clear hf; intro a ha hf; clear ha
      refine st_move hf rfl rfl (by decide) ?_
      clear hf; intro a ha hf; clear ha
      refine st_conv_if Try.underlying3 Try.underlying33 hf (by decide) rfl rfl ?_
      clear hf; intro a ha hf; clear ha
      refine st_farith (op := .quo) rfl hf (by decide) hp rfl rfl rfl (show Fl.rep (FloatKind.f64.nearest (IntKind.i64.wrap ((4 : Int) - (imax i5 (IntKind.i64.wrap (0 - i5)))))) (fofi (IntKind.i64.wrap ((4 : Int) - (imax i5 (IntKind.i64.wrap (0 - i5)))))) from rfl) (show Fl.rep (FloatKind.f64.nearest (4 : Int)) (fofi (4 : Int)) from rfl) ?_
      clear hf; intro a w bb8 y9 hf hp0; clear hp; have hp := hp0; clear hp0
      replace hp : Hp _ _ _ (Res.sl Ek.f64 33 v4 l4 :: ow) := hp
      refine st_build (E := Ek.f64) (xs := [(fquo (fofi (IntKind.i64.wrap ((4 : Int) - (imax i5 (IntKind.i64.wrap (0 - i5)))))) (fofi (4 : Int)))]) hf (by decide) elt33 Try.underlying26 hp (vals := #[(0, .float .f64 bb8)]) (cells := #[.float .f64 bb8]) rfl (by simp [hf.ev (x := (Operand.tmp 29)) rfl]) (Nat.le_of_ble_eq_true rfl) (Nat.le_of_ble_eq_true rfl) (z := .float .f64 0) (by kernel_rfl) (by kernel_rfl) rfl (reps_cons (cs := [.float .f64 bb8]) (show Ek.f64.rep [.float .f64 bb8] (fquo (fofi (IntKind.i64.wrap ((4 : Int) - (imax i5 (IntKind.i64.wrap (0 - i5)))))) (fofi (4 : Int))) from ⟨_, rfl, y9⟩) (reps_nil _)) ?_
      clear hf; intro a w v10 hf hp0; clear hp; have hp := hp0; clear hp0
      replace hp : Hp _ _ _ (Res.sl Ek.f64 33 v10 ([(fquo (fofi (IntKind.i64.wrap ((4 : Int) - (imax i5 (IntKind.i64.wrap (0 - i5)))))) (fofi (4 : Int)))]) :: Res.sl Ek.f64 33 v4 l4 :: ow) := hp
      obtain ⟨hc12, h⟩ := chk h
      refine st_append (E := Ek.f64) hf (by decide) elt33 Try.underlying26 (by decide) hp (i := 1) rfl rfl rfl rfl (hp.sl (i := 0) rfl) hc12 ?_
      clear hf; intro a w v13 hf hp0; clear hp; have hp := hp0; clear hp0
      replace hp : Hp _ _ _ (Res.sl Ek.f64 33 v10 ([(fquo (fofi (IntKind.i64.wrap ((4 : Int) - (imax i5 (IntKind.i64.wrap (0 - i5)))))) (fofi (4 : Int)))]) :: Res.sl Ek.f64 33 v13 (l4 ++ [(fquo (fofi (IntKind.i64.wrap ((4 : Int) - (imax i5 (IntKind.i64.wrap (0 - i5)))))) (fofi (4 : Int)))]) :: ow) := hp
      refine st_assign hf rfl rfl (by decide) ?_
      clear hf; intro a ha hf; clear ha
      refine st_nil hf ?_
      refine ib_n ?_
      refine th_n ?_
      refine wp_reg ?_
      refine st_move hf rfl rfl (by decide) ?_
      clear hf; intro a ha hf; clear ha
      refine st_iadd hf (by decide) rfl rfl rfl ?_
      clear hf; intro a ha hf; clear ha
      refine st_assign hf rfl rfl (by decide) ?_
      clear hf; intro a ha hf; clear ha
      refine st_nil hf ?_
      obtain rfl := Option.some.inj h
      have hp : Hp _ _ _ (Res.sl Ek.f64 33 v13 (l4 ++ [(fquo (fofi (IntKind.i64.wrap ((4 : Int) - (imax i5 (IntKind.i64.wrap (0 - i5)))))) (fofi (4 : Int)))]) :: ow) := Hp.sel (pre := [Res.sl Ek.f64 33 v10 ([(fquo (fofi (IntKind.i64.wrap ((4 : Int) - (imax i5 (IntKind.i64.wrap (0 - i5)))))) (fofi (4 : Int)))]), Res.sl Ek.f64 33 v13 (l4 ++ [(fquo (fofi (IntKind.i64.wrap ((4 : Int) - (imax i5 (IntKind.i64.wrap (0 - i5)))))) (fofi (4 : Int)))])]) (tail := ow) (rs' := [Res.sl Ek.f64 33 v13 (l4 ++ [(fquo (fofi (IntKind.i64.wrap ((4 : Int) - (imax i5 (IntKind.i64.wrap (0 - i5)))))) (fofi (4 : Int)))])]) hp [1] (by decide) (by simp) rfl
      exact rnd_l ⟨_, hf.sub ⟨rfl, rfl, rfl, trivial⟩, hp⟩
    replace h := ifF h hb
    refine wp_exit ?_
    refine th_e ?_
    obtain rfl := Option.some.inj h
    exact rnd_r (by simp) ⟨rfl, _, hf.sub ⟨rfl, rfl, trivial⟩, hp⟩
  clear hl hf hp
  intro e a w hne hO
  obtain ⟨rfl, v6, hf, hp⟩ := hO
  refine ib_same ?_
  refine th_n ?_
  refine wp_seq ?_
  refine wp_reg ?_
  refine st_move hf rfl rfl (by decide) ?_
  clear hf; intro a ha hf; clear ha
  refine st_move hf rfl rfl (by decide) ?_
  clear hf; intro a ha hf; clear ha
  refine st_isub hf (by decide) rfl rfl rfl ?_
  clear hf; intro a ha hf; clear ha
  replace hf : Fr _ _ ((34, .int .i64 (3 : Int)) :: _) := hf
  refine st_assign hf rfl rfl (by decide) ?_
  clear hf; intro a ha hf; clear ha
  refine st_assign hf rfl rfl (by decide) ?_
  clear hf; intro a ha hf; clear ha
  refine st_nil hf ?_
  refine th_n ?_
  refine wp_ret ?_
  obtain rfl := Option.some.inj h
  exact ⟨rfl, ⟨_, hf.sub ⟨rfl, rfl, trivial⟩, hp⟩⟩

noncomputable def f_pulse_Named_10_4  : Option ((Int × Int × (List Fl)) × Int) := ((f_pulse_makers).bind fun q3 => (if (false || false) = true then (some (((0 : Int), (0 : Int), []), (1 : Int))) else ((f_pulse_makers_3_29).bind fun q10 => (if 0 < q10.1.length then (some (((4 : Int), q10.2, q10.1), (0 : Int))) else none))))
theorem f_pulse_Named_10_4_c {S : Nat → Prop} {w0 w : World} {ow : List Res} (hp : Hp S w0 w ow) {r : ((Int × Int × (List Fl)) × Int)} (h : f_pulse_Named_10_4 = some r) :
    Calls Try.prog 10 #[.string (ByteArray.mk #[116, 101, 110, 116]), .int .i64 (4 : Int)] w (fun e w' => ∃ (u0 : Value), e = .returned (.tuple #[.agg #[.int .i64 r.1.1, .int .i64 r.1.2.1, u0], .int .i64 r.2]) ∧ Hp S w0 w' (Res.sl Ek.f64 33 u0 r.1.2.2 :: ow)) := by
  unfold f_pulse_Named_10_4 at h
  refine enter (n := 39) (args := [.string (ByteArray.mk #[116, 101, 110, 116]), .int .i64 (4 : Int)]) Try.func10 rfl rfl (Nat.le_of_ble_eq_true rfl) fun a hf => ?_
  replace hf : Fr 39 a [(0, .string (ByteArray.mk #[116, 101, 110, 116])), (1, .int .i64 (4 : Int))] := hf
  refine wp_mono (Q := fun e a w => e = .ret ∧ ∃ (u0 : Value) (c0 : Value), Fr 39 a [(4, optr c0 0), (5, .int .i64 r.2)] ∧ Hp S w0 w (Res.obj 28 c0 [.int .i64 r.1.1, .int .i64 r.1.2.1, u0] :: Res.sl Ek.f64 33 u0 r.1.2.2 :: ow)) ?_ ?_
  rotate_left
  · rintro e a w ⟨rfl, x0, c0, hf, hp⟩
    exact retG2 hf rfl ⟨_, _, rfl, hp.ob (i := 0) rfl, .inr ⟨by kernel_rfl, rfl⟩⟩ rfl ⟨x0, rfl, hp.drop⟩
  refine wp_seq ?_
  refine wp_reg ?_
  refine st_alloc (cs := [.int .i64 (0 : Int), .int .i64 (0 : Int), .slice none 0 0]) (zv := .agg #[.int .i64 (0 : Int), .int .i64 (0 : Int), .slice none 0 0]) hf (by decide) (by kernel_rfl) rfl hp rfl ?_
  clear hf; intro a w v1 hf hp0; clear hp; have hp := hp0; clear hp0
  replace hp : Hp _ _ _ (Res.obj 28 v1 [.int .i64 (0 : Int), .int .i64 (0 : Int), .slice none 0 0] :: ow) := hp
  refine st_assign hf rfl rfl (by decide) ?_
  clear hf; intro a ha hf; clear ha
  refine st_nil hf ?_
  refine th_n ?_
  refine wp_seq ?_
  refine wp_reg ?_
  obtain ⟨q3, hcall4, h⟩ := bnd h
  refine st_call hf (by decide) Try.func17 rfl rfl rfl rfl rfl (f_pulse_makers_c hp  hcall4) ?_
  rintro _ w ⟨v5, rfl, hp0⟩
  clear hp; have hp := hp0; clear hp0
  replace hp : Hp _ _ _ (Res.sm v5 [((ByteArray.mk #[115, 112, 105, 107, 101]), .func (.func 26) #[] #[]), ((ByteArray.mk #[98, 111, 120]), .func (.func 27) #[] #[]), ((ByteArray.mk #[116, 101, 110, 116]), .func (.func 29) #[] #[]), ((ByteArray.mk #[115, 111, 102, 116]), .func (.func 30) #[] #[])] :: Res.obj 28 v1 [.int .i64 (0 : Int), .int .i64 (0 : Int), .slice none 0 0] :: ow) := hp
  refine ⟨_, rfl, ?_⟩
  clear hf; intro a hf
  refine st_move hf rfl rfl (by decide) ?_
  clear hf; intro a ha hf; clear ha
  refine st_lookupS (j := 2) (u := .func (.func 29) #[] #[]) hf (by decide) Try.underlying64 Try.underlying9 hp (i := 0) rfl (by rfl) rfl rfl rfl ?_
  clear hf; intro a ha hf; clear ha
  refine st_move hf rfl rfl (by decide) ?_
  clear hf; intro a ha hf; clear ha
  refine st_extract hf (by decide) rfl rfl rfl ?_
  clear hf; intro a ha hf; clear ha
  refine st_extract hf (by decide) rfl rfl rfl ?_
  clear hf; intro a ha hf; clear ha
  refine st_assign hf rfl rfl (by decide) ?_
  clear hf; intro a ha hf; clear ha
  refine st_assign hf rfl rfl (by decide) ?_
  clear hf; intro a ha hf; clear ha
  refine st_nil hf ?_
  refine th_n ?_
  refine wp_seq ?_
  refine wp_seq ?_
  refine wp_reg ?_
  refine st_move hf rfl rfl (by decide) ?_
  clear hf; intro a ha hf; clear ha
  refine st_not hf (by decide) rfl rfl ?_
  clear hf; intro a ha hf; clear ha
  replace hf : Fr _ _ ((17, .bool false) :: _) := hf
  refine st_nil hf ?_
  refine th_n ?_
  refine wp_if hf rfl (fun hb => ?_) (fun hb => ?_)
  · exact absurd hb (by decide)
  refine wp_skip ?_
  refine th_n ?_
  refine wp_seq ?_
  refine wp_seq ?_
  refine wp_reg ?_
  refine st_move hf rfl rfl (by decide) ?_
  clear hf; intro a ha hf; clear ha
  refine st_ilss hf (by decide) rfl rfl rfl ?_
  clear hf; intro a ha hf; clear ha
  replace hf : Fr _ _ ((20, .bool false) :: _) := hf
  refine st_move hf rfl rfl (by decide) ?_
  clear hf; intro a ha hf; clear ha
  refine wpList_cut 3 (fun a w => Fr 39 a [(1, .int .i64 (4 : Int)), (4, optr v1 0), (6, .func (.func 29) #[] #[]), (24, .bool (false || false))] ∧ Hp S w0 w (Res.sm v5 [((ByteArray.mk #[115, 112, 105, 107, 101]), .func (.func 26) #[] #[]), ((ByteArray.mk #[98, 111, 120]), .func (.func 27) #[] #[]), ((ByteArray.mk #[116, 101, 110, 116]), .func (.func 29) #[] #[]), ((ByteArray.mk #[115, 111, 102, 116]), .func (.func 30) #[] #[])] :: Res.obj 28 v1 [.int .i64 (0 : Int), .int .i64 (0 : Int), .slice none 0 0] :: ow)) ?_ ?_
  · rcases Bool.eq_false_or_eq_true false with hb8 | hb8
    · skip
      refine st_skip hf (wantN hf rfl rfl hb8) rfl (by decide) ?_ rfl
      clear hf; intro a hf
      refine st_skip hf (wantN hf rfl rfl hb8) rfl (by decide) ?_ rfl
      clear hf; intro a hf
      refine st_pick (v := .bool true) hf rfl rfl (fun hb' => ?_) (fun hb' => ?_) (by decide) ?_
      · rfl
      · exact absurd (hb8.symm.trans hb') (by decide)
      clear hf; intro a ha hf; clear ha
      refine st_nil hf (th_n ?_)
      exact ⟨hf.sub ⟨rfl, rfl, rfl, (by rw [hb8]; rfl), trivial⟩, hp⟩
    refine st_move hf (wantY hf rfl rfl hb8) rfl (by decide) ?_
    clear hf; intro a ha hf; clear ha
    refine st_igtr hf (by decide) (wantY hf rfl rfl hb8) rfl rfl ?_
    clear hf; intro a ha hf; clear ha
    replace hf : Fr _ _ ((23, .bool false) :: _) := hf
    refine st_pick (v := .bool false) hf rfl rfl (fun hb' => ?_) (fun hb' => ?_) (by decide) ?_
    · exact absurd (hb8.symm.trans hb') (by decide)
    · rfl
    clear hf; intro a ha hf; clear ha
    refine st_nil hf (th_n ?_)
    exact ⟨hf.sub ⟨rfl, rfl, rfl, (by rw [hb8]; rfl), trivial⟩, hp⟩
  rintro a w ⟨hf, hp⟩
  refine st_nil hf ?_
  refine th_n ?_
  refine wp_if hf rfl (fun hb => ?_) (fun hb => ?_)
  · replace h := ifT h hb
    refine wp_seq ?_
    refine wp_reg ?_
    refine st_buildA (vals := []) (cells := [.int .i64 (0 : Int), .int .i64 (0 : Int), .slice none 0 0]) hf (by decide) rfl (by simp []) (fun w => by kernel_rfl) ?_
    clear hf; intro a ha hf; clear ha
    refine st_stO (us := [.int .i64 (0 : Int), .int .i64 (0 : Int), .slice none 0 0]) hf hp (i := 1) rfl rfl rfl rfl rfl (by rfl) (by kernel_rfl) (Nat.le_of_ble_eq_true rfl) ?_
    clear hf; intro a w hf hp0; clear hp; have hp := hp0; clear hp0
    replace hp : Hp _ _ _ (Res.sm v5 [((ByteArray.mk #[115, 112, 105, 107, 101]), .func (.func 26) #[] #[]), ((ByteArray.mk #[98, 111, 120]), .func (.func 27) #[] #[]), ((ByteArray.mk #[116, 101, 110, 116]), .func (.func 29) #[] #[]), ((ByteArray.mk #[115, 111, 102, 116]), .func (.func 30) #[] #[])] :: Res.obj 28 v1 [.int .i64 (0 : Int), .int .i64 (0 : Int), .slice none 0 0] :: ow) := hp
    refine st_assign hf rfl rfl (by decide) ?_
    clear hf; intro a ha hf; clear ha
    refine st_nil hf ?_
    refine th_n ?_
    refine wp_ret ?_
    refine th_r ?_
    obtain rfl := Option.some.inj h
    have hp := hp.nil Ek.f64 33
    have hp : Hp _ _ _ (Res.obj 28 v1 [.int .i64 (0 : Int), .int .i64 (0 : Int), .slice none 0 0] :: Res.sl Ek.f64 33 (.slice none 0 0) ([]) :: ow) := Hp.sel (pre := [Res.sl Ek.f64 33 (.slice none 0 0) ([]), Res.sm v5 [((ByteArray.mk #[115, 112, 105, 107, 101]), .func (.func 26) #[] #[]), ((ByteArray.mk #[98, 111, 120]), .func (.func 27) #[] #[]), ((ByteArray.mk #[116, 101, 110, 116]), .func (.func 29) #[] #[]), ((ByteArray.mk #[115, 111, 102, 116]), .func (.func 30) #[] #[])], Res.obj 28 v1 [.int .i64 (0 : Int), .int .i64 (0 : Int), .slice none 0 0]]) (tail := ow) (rs' := [Res.obj 28 v1 [.int .i64 (0 : Int), .int .i64 (0 : Int), .slice none 0 0], Res.sl Ek.f64 33 (.slice none 0 0) ([])]) hp [2, 0] (by decide) (by simp) rfl
    exact ⟨rfl, ⟨_, _, hf.sub ⟨rfl, rfl, trivial⟩, hp⟩⟩
  replace h := ifF h hb
  refine wp_skip ?_
  refine th_n ?_
  refine wp_seq ?_
  refine wp_reg ?_
  refine st_move hf rfl rfl (by decide) ?_
  clear hf; intro a ha hf; clear ha
  refine st_move hf rfl rfl (by decide) ?_
  clear hf; intro a ha hf; clear ha
  obtain ⟨q10, hcall11, h⟩ := bnd h
  refine st_call hf (by decide) Try.func29 rfl rfl rfl rfl rfl (f_pulse_makers_3_29_c hp  hcall11) ?_
  rintro _ w ⟨v12, rfl, hp0⟩
  clear hp; have hp := hp0; clear hp0
  replace hp : Hp _ _ _ (Res.sl Ek.f64 33 v12 q10.1 :: Res.sm v5 [((ByteArray.mk #[115, 112, 105, 107, 101]), .func (.func 26) #[] #[]), ((ByteArray.mk #[98, 111, 120]), .func (.func 27) #[] #[]), ((ByteArray.mk #[116, 101, 110, 116]), .func (.func 29) #[] #[]), ((ByteArray.mk #[115, 111, 102, 116]), .func (.func 30) #[] #[])] :: Res.obj 28 v1 [.int .i64 (0 : Int), .int .i64 (0 : Int), .slice none 0 0] :: ow) := hp
  refine ⟨_, rfl, ?_⟩
  clear hf; intro a hf
  refine st_move hf rfl rfl (by decide) ?_
  clear hf; intro a ha hf; clear ha
  refine st_extract hf (by decide) rfl rfl rfl ?_
  clear hf; intro a ha hf; clear ha
  refine st_extract hf (by decide) rfl rfl rfl ?_
  clear hf; intro a ha hf; clear ha
  refine st_assign hf rfl rfl (by decide) ?_
  clear hf; intro a ha hf; clear ha
  refine st_assign hf rfl rfl (by decide) ?_
  clear hf; intro a ha hf; clear ha
  refine st_nil hf ?_
  refine th_n ?_
  refine wp_seq ?_
  refine wp_seq ?_
  refine wp_reg ?_
  refine st_move hf rfl rfl (by decide) ?_
  clear hf; intro a ha hf; clear ha
  obtain ⟨hc14, h⟩ := chk h
  refine st_slnilE hf (by decide) Try.underlying26 rfl rfl rfl (hp.sl (i := 0) rfl) hc14 ?_
  clear hf; intro a ha hf; clear ha
  refine st_nil hf ?_
  refine th_n ?_
  refine wp_if hf rfl (fun hb => ?_) (fun hb => ?_)
  · exact absurd hb (by decide)
  refine wp_skip ?_
  refine th_n ?_
  refine wp_seq ?_
  refine wp_reg ?_
  refine st_move hf rfl rfl (by decide) ?_
  clear hf; intro a ha hf; clear ha
  refine st_move hf rfl rfl (by decide) ?_
  clear hf; intro a ha hf; clear ha
  refine st_move hf rfl rfl (by decide) ?_
  clear hf; intro a ha hf; clear ha
  refine st_buildA (vals := [(0, .int .i64 (4 : Int)), (1, .int .i64 q10.2), (2, v12)]) (cells := [.int .i64 (4 : Int), .int .i64 q10.2, v12]) hf (by decide) rfl (by simp [hf.ev (x := (Operand.tmp 35)) rfl, hf.ev (x := (Operand.tmp 36)) rfl, hf.ev (x := (Operand.tmp 37)) rfl]) (fun w => by obtain ⟨_, _, rfl⟩ := (hp.sl (i := 0) rfl).shapeV; kernel_rfl) ?_
  clear hf; intro a ha hf; clear ha
  refine st_stO (us := [.int .i64 (4 : Int), .int .i64 q10.2, v12]) hf hp (i := 2) rfl rfl rfl rfl rfl (by first | rfl | (obtain ⟨_, _, rfl⟩ := (hp.sl (i := 0) rfl).shapeV; rfl)) (by kernel_rfl) (Nat.le_of_ble_eq_true rfl) ?_
  clear hf; intro a w hf hp0; clear hp; have hp := hp0; clear hp0
  replace hp : Hp _ _ _ (Res.sl Ek.f64 33 v12 q10.1 :: Res.sm v5 [((ByteArray.mk #[115, 112, 105, 107, 101]), .func (.func 26) #[] #[]), ((ByteArray.mk #[98, 111, 120]), .func (.func 27) #[] #[]), ((ByteArray.mk #[116, 101, 110, 116]), .func (.func 29) #[] #[]), ((ByteArray.mk #[115, 111, 102, 116]), .func (.func 30) #[] #[])] :: Res.obj 28 v1 [.int .i64 (4 : Int), .int .i64 q10.2, v12] :: ow) := hp
  refine st_assign hf rfl rfl (by decide) ?_
  clear hf; intro a ha hf; clear ha
  refine st_nil hf ?_
  refine th_n ?_
  refine wp_ret ?_
  obtain rfl := Option.some.inj h
  have hp : Hp _ _ _ (Res.obj 28 v1 [.int .i64 (4 : Int), .int .i64 q10.2, v12] :: Res.sl Ek.f64 33 v12 q10.1 :: ow) := Hp.sel (pre := [Res.sl Ek.f64 33 v12 q10.1, Res.sm v5 [((ByteArray.mk #[115, 112, 105, 107, 101]), .func (.func 26) #[] #[]), ((ByteArray.mk #[98, 111, 120]), .func (.func 27) #[] #[]), ((ByteArray.mk #[116, 101, 110, 116]), .func (.func 29) #[] #[]), ((ByteArray.mk #[115, 111, 102, 116]), .func (.func 30) #[] #[])], Res.obj 28 v1 [.int .i64 (4 : Int), .int .i64 q10.2, v12]]) (tail := ow) (rs' := [Res.obj 28 v1 [.int .i64 (4 : Int), .int .i64 q10.2, v12], Res.sl Ek.f64 33 v12 q10.1]) hp [2, 0] (by decide) (by simp) rfl
  exact ⟨rfl, ⟨_, _, hf.sub ⟨rfl, rfl, trivial⟩, hp⟩⟩

noncomputable def f_pulse_makers_4  : Option ((List Fl) × Int) := (some ([(Fl.bits 13812540057145311232), (Fl.bits 0), (Fl.bits 4603241769126068224), (Fl.bits 4607182418800017408), (Fl.bits 4603241769126068224), (Fl.bits 0), (Fl.bits 13812540057145311232)], (3 : Int)))
theorem f_pulse_makers_4_c {S : Nat → Prop} {w0 w : World} {ow : List Res} (hp : Hp S w0 w ow) {r : ((List Fl) × Int)} (h : f_pulse_makers_4 = some r) :
    Calls Try.prog 30 #[.int .i64 (2 : Int)] w (fun e w' => ∃ (u0 : Value), e = .returned (.tuple #[u0, .int .i64 r.2]) ∧ Hp S w0 w' (Res.sl Ek.f64 33 u0 r.1 :: ow)) := by
  unfold f_pulse_makers_4 at h
  refine enter (n := 7) (args := [.int .i64 (2 : Int)]) Try.func30 rfl rfl (Nat.le_of_ble_eq_true rfl) fun a hf => ?_
  replace hf : Fr 7 a [(0, .int .i64 (2 : Int))] := hf
  refine wp_mono (Q := fun e a w => e = .ret ∧ ∃ (u0 : Value), Fr 7 a [(2, u0), (3, .int .i64 r.2)] ∧ Hp S w0 w (Res.sl Ek.f64 33 u0 r.1 :: ow)) ?_ ?_
  rotate_left
  · rintro e a w ⟨rfl, x0, hf, hp⟩
    exact ret2 hf rfl rfl rfl ⟨x0, rfl, hp⟩
  refine wp_seq ?_
  refine wp_reg ?_
  refine st_assign hf rfl rfl (by decide) ?_
  clear hf; intro a ha hf; clear ha
  refine st_assign hf rfl rfl (by decide) ?_
  clear hf; intro a ha hf; clear ha
  refine st_nil hf ?_
  refine th_n ?_
  refine wp_seq ?_
  refine wp_seq ?_
  refine wp_reg ?_
  refine st_move hf rfl rfl (by decide) ?_
  clear hf; intro a ha hf; clear ha
  refine st_ineq hf (by decide) rfl rfl rfl ?_
  clear hf; intro a ha hf; clear ha
  replace hf : Fr _ _ ((5, .bool false) :: _) := hf
  refine st_nil hf ?_
  refine th_n ?_
  refine wp_if hf rfl (fun hb => ?_) (fun hb => ?_)
  · exact absurd hb (by decide)
  refine wp_skip ?_
  refine th_n ?_
  refine wp_seq ?_
  refine wp_reg ?_
  refine st_build (E := Ek.f64) (xs := [(Fl.bits 13812540057145311232), (Fl.bits 0), (Fl.bits 4603241769126068224), (Fl.bits 4607182418800017408), (Fl.bits 4603241769126068224), (Fl.bits 0), (Fl.bits 13812540057145311232)]) hf (by decide) elt33 Try.underlying26 hp (vals := #[(0, .float .f64 13812540057145311232), (1, .float .f64 0), (2, .float .f64 4603241769126068224), (3, .float .f64 4607182418800017408), (4, .float .f64 4603241769126068224), (5, .float .f64 0), (6, .float .f64 13812540057145311232)]) (cells := #[.float .f64 13812540057145311232, .float .f64 0, .float .f64 4603241769126068224, .float .f64 4607182418800017408, .float .f64 4603241769126068224, .float .f64 0, .float .f64 13812540057145311232]) rfl (by simp [hf.ev (x := (Operand.const (.float .f64 13812540057145311232))) rfl, hf.ev (x := (Operand.const (.float .f64 0))) rfl, hf.ev (x := (Operand.const (.float .f64 4603241769126068224))) rfl, hf.ev (x := (Operand.const (.float .f64 4607182418800017408))) rfl, hf.ev (x := (Operand.const (.float .f64 4603241769126068224))) rfl, hf.ev (x := (Operand.const (.float .f64 0))) rfl, hf.ev (x := (Operand.const (.float .f64 13812540057145311232))) rfl]) (Nat.le_of_ble_eq_true rfl) (Nat.le_of_ble_eq_true rfl) (z := .float .f64 0) (by kernel_rfl) (by kernel_rfl) rfl (reps_cons (cs := [.float .f64 13812540057145311232]) (show Ek.f64.rep [.float .f64 13812540057145311232] (Fl.bits 13812540057145311232) from ⟨_, rfl, rfl⟩) (reps_cons (cs := [.float .f64 0]) (show Ek.f64.rep [.float .f64 0] (Fl.bits 0) from ⟨_, rfl, rfl⟩) (reps_cons (cs := [.float .f64 4603241769126068224]) (show Ek.f64.rep [.float .f64 4603241769126068224] (Fl.bits 4603241769126068224) from ⟨_, rfl, rfl⟩) (reps_cons (cs := [.float .f64 4607182418800017408]) (show Ek.f64.rep [.float .f64 4607182418800017408] (Fl.bits 4607182418800017408) from ⟨_, rfl, rfl⟩) (reps_cons (cs := [.float .f64 4603241769126068224]) (show Ek.f64.rep [.float .f64 4603241769126068224] (Fl.bits 4603241769126068224) from ⟨_, rfl, rfl⟩) (reps_cons (cs := [.float .f64 0]) (show Ek.f64.rep [.float .f64 0] (Fl.bits 0) from ⟨_, rfl, rfl⟩) (reps_cons (cs := [.float .f64 13812540057145311232]) (show Ek.f64.rep [.float .f64 13812540057145311232] (Fl.bits 13812540057145311232) from ⟨_, rfl, rfl⟩) (reps_nil _)))))))) ?_
  clear hf; intro a w v1 hf hp0; clear hp; have hp := hp0; clear hp0
  replace hp : Hp _ _ _ (Res.sl Ek.f64 33 v1 ([(Fl.bits 13812540057145311232), (Fl.bits 0), (Fl.bits 4603241769126068224), (Fl.bits 4607182418800017408), (Fl.bits 4603241769126068224), (Fl.bits 0), (Fl.bits 13812540057145311232)]) :: ow) := hp
  refine st_assign hf rfl rfl (by decide) ?_
  clear hf; intro a ha hf; clear ha
  refine st_assign hf rfl rfl (by decide) ?_
  clear hf; intro a ha hf; clear ha
  refine st_nil hf ?_
  refine th_n ?_
  refine wp_ret ?_
  obtain rfl := Option.some.inj h
  exact ⟨rfl, ⟨_, hf.sub ⟨rfl, rfl, trivial⟩, hp⟩⟩

noncomputable def f_pulse_Named_10_5  : Option ((Int × Int × (List Fl)) × Int) := ((f_pulse_makers).bind fun q3 => (if (false || false) = true then (some (((0 : Int), (0 : Int), []), (1 : Int))) else ((f_pulse_makers_4).bind fun q10 => (if 0 < q10.1.length then (some (((2 : Int), q10.2, q10.1), (0 : Int))) else none))))
theorem f_pulse_Named_10_5_c {S : Nat → Prop} {w0 w : World} {ow : List Res} (hp : Hp S w0 w ow) {r : ((Int × Int × (List Fl)) × Int)} (h : f_pulse_Named_10_5 = some r) :
    Calls Try.prog 10 #[.string (ByteArray.mk #[115, 111, 102, 116]), .int .i64 (2 : Int)] w (fun e w' => ∃ (u0 : Value), e = .returned (.tuple #[.agg #[.int .i64 r.1.1, .int .i64 r.1.2.1, u0], .int .i64 r.2]) ∧ Hp S w0 w' (Res.sl Ek.f64 33 u0 r.1.2.2 :: ow)) := by
  unfold f_pulse_Named_10_5 at h
  refine enter (n := 39) (args := [.string (ByteArray.mk #[115, 111, 102, 116]), .int .i64 (2 : Int)]) Try.func10 rfl rfl (Nat.le_of_ble_eq_true rfl) fun a hf => ?_
  replace hf : Fr 39 a [(0, .string (ByteArray.mk #[115, 111, 102, 116])), (1, .int .i64 (2 : Int))] := hf
  refine wp_mono (Q := fun e a w => e = .ret ∧ ∃ (u0 : Value) (c0 : Value), Fr 39 a [(4, optr c0 0), (5, .int .i64 r.2)] ∧ Hp S w0 w (Res.obj 28 c0 [.int .i64 r.1.1, .int .i64 r.1.2.1, u0] :: Res.sl Ek.f64 33 u0 r.1.2.2 :: ow)) ?_ ?_
  rotate_left
  · rintro e a w ⟨rfl, x0, c0, hf, hp⟩
    exact retG2 hf rfl ⟨_, _, rfl, hp.ob (i := 0) rfl, .inr ⟨by kernel_rfl, rfl⟩⟩ rfl ⟨x0, rfl, hp.drop⟩
  refine wp_seq ?_
  refine wp_reg ?_
  refine st_alloc (cs := [.int .i64 (0 : Int), .int .i64 (0 : Int), .slice none 0 0]) (zv := .agg #[.int .i64 (0 : Int), .int .i64 (0 : Int), .slice none 0 0]) hf (by decide) (by kernel_rfl) rfl hp rfl ?_
  clear hf; intro a w v1 hf hp0; clear hp; have hp := hp0; clear hp0
  replace hp : Hp _ _ _ (Res.obj 28 v1 [.int .i64 (0 : Int), .int .i64 (0 : Int), .slice none 0 0] :: ow) := hp
  refine st_assign hf rfl rfl (by decide) ?_
  clear hf; intro a ha hf; clear ha
  refine st_nil hf ?_
  refine th_n ?_
  refine wp_seq ?_
  refine wp_reg ?_
  obtain ⟨q3, hcall4, h⟩ := bnd h
  refine st_call hf (by decide) Try.func17 rfl rfl rfl rfl rfl (f_pulse_makers_c hp  hcall4) ?_
  rintro _ w ⟨v5, rfl, hp0⟩
  clear hp; have hp := hp0; clear hp0
  replace hp : Hp _ _ _ (Res.sm v5 [((ByteArray.mk #[115, 112, 105, 107, 101]), .func (.func 26) #[] #[]), ((ByteArray.mk #[98, 111, 120]), .func (.func 27) #[] #[]), ((ByteArray.mk #[116, 101, 110, 116]), .func (.func 29) #[] #[]), ((ByteArray.mk #[115, 111, 102, 116]), .func (.func 30) #[] #[])] :: Res.obj 28 v1 [.int .i64 (0 : Int), .int .i64 (0 : Int), .slice none 0 0] :: ow) := hp
  refine ⟨_, rfl, ?_⟩
  clear hf; intro a hf
  refine st_move hf rfl rfl (by decide) ?_
  clear hf; intro a ha hf; clear ha
  refine st_lookupS (j := 3) (u := .func (.func 30) #[] #[]) hf (by decide) Try.underlying64 Try.underlying9 hp (i := 0) rfl (by rfl) rfl rfl rfl ?_
  clear hf; intro a ha hf; clear ha
  refine st_move hf rfl rfl (by decide) ?_
  clear hf; intro a ha hf; clear ha
  refine st_extract hf (by decide) rfl rfl rfl ?_
  clear hf; intro a ha hf; clear ha
  refine st_extract hf (by decide) rfl rfl rfl ?_
  clear hf; intro a ha hf; clear ha
  refine st_assign hf rfl rfl (by decide) ?_
  clear hf; intro a ha hf; clear ha
  refine st_assign hf rfl rfl (by decide) ?_
  clear hf; intro a ha hf; clear ha
  refine st_nil hf ?_
  refine th_n ?_
  refine wp_seq ?_
  refine wp_seq ?_
  refine wp_reg ?_
  refine st_move hf rfl rfl (by decide) ?_
  clear hf; intro a ha hf; clear ha
  refine st_not hf (by decide) rfl rfl ?_
  clear hf; intro a ha hf; clear ha
  replace hf : Fr _ _ ((17, .bool false) :: _) := hf
  refine st_nil hf ?_
  refine th_n ?_
  refine wp_if hf rfl (fun hb => ?_) (fun hb => ?_)
  · exact absurd hb (by decide)
  refine wp_skip ?_
  refine th_n ?_
  refine wp_seq ?_
  refine wp_seq ?_
  refine wp_reg ?_
  refine st_move hf rfl rfl (by decide) ?_
  clear hf; intro a ha hf; clear ha
  refine st_ilss hf (by decide) rfl rfl rfl ?_
  clear hf; intro a ha hf; clear ha
  replace hf : Fr _ _ ((20, .bool false) :: _) := hf
  refine st_move hf rfl rfl (by decide) ?_
  clear hf; intro a ha hf; clear ha
  refine wpList_cut 3 (fun a w => Fr 39 a [(1, .int .i64 (2 : Int)), (4, optr v1 0), (6, .func (.func 30) #[] #[]), (24, .bool (false || false))] ∧ Hp S w0 w (Res.sm v5 [((ByteArray.mk #[115, 112, 105, 107, 101]), .func (.func 26) #[] #[]), ((ByteArray.mk #[98, 111, 120]), .func (.func 27) #[] #[]), ((ByteArray.mk #[116, 101, 110, 116]), .func (.func 29) #[] #[]), ((ByteArray.mk #[115, 111, 102, 116]), .func (.func 30) #[] #[])] :: Res.obj 28 v1 [.int .i64 (0 : Int), .int .i64 (0 : Int), .slice none 0 0] :: ow)) ?_ ?_
  · rcases Bool.eq_false_or_eq_true false with hb8 | hb8
    · skip
      refine st_skip hf (wantN hf rfl rfl hb8) rfl (by decide) ?_ rfl
      clear hf; intro a hf
      refine st_skip hf (wantN hf rfl rfl hb8) rfl (by decide) ?_ rfl
      clear hf; intro a hf
      refine st_pick (v := .bool true) hf rfl rfl (fun hb' => ?_) (fun hb' => ?_) (by decide) ?_
      · rfl
      · exact absurd (hb8.symm.trans hb') (by decide)
      clear hf; intro a ha hf; clear ha
      refine st_nil hf (th_n ?_)
      exact ⟨hf.sub ⟨rfl, rfl, rfl, (by rw [hb8]; rfl), trivial⟩, hp⟩
    refine st_move hf (wantY hf rfl rfl hb8) rfl (by decide) ?_
    clear hf; intro a ha hf; clear ha
    refine st_igtr hf (by decide) (wantY hf rfl rfl hb8) rfl rfl ?_
    clear hf; intro a ha hf; clear ha
    replace hf : Fr _ _ ((23, .bool false) :: _) := hf
    refine st_pick (v := .bool false) hf rfl rfl (fun hb' => ?_) (fun hb' => ?_) (by decide) ?_
    · exact absurd (hb8.symm.trans hb') (by decide)
    · rfl
    clear hf; intro a ha hf; clear ha
    refine st_nil hf (th_n ?_)
    exact ⟨hf.sub ⟨rfl, rfl, rfl, (by rw [hb8]; rfl), trivial⟩, hp⟩
  rintro a w ⟨hf, hp⟩
  refine st_nil hf ?_
  refine th_n ?_
  refine wp_if hf rfl (fun hb => ?_) (fun hb => ?_)
  · replace h := ifT h hb
    refine wp_seq ?_
    refine wp_reg ?_
    refine st_buildA (vals := []) (cells := [.int .i64 (0 : Int), .int .i64 (0 : Int), .slice none 0 0]) hf (by decide) rfl (by simp []) (fun w => by kernel_rfl) ?_
    clear hf; intro a ha hf; clear ha
    refine st_stO (us := [.int .i64 (0 : Int), .int .i64 (0 : Int), .slice none 0 0]) hf hp (i := 1) rfl rfl rfl rfl rfl (by rfl) (by kernel_rfl) (Nat.le_of_ble_eq_true rfl) ?_
    clear hf; intro a w hf hp0; clear hp; have hp := hp0; clear hp0
    replace hp : Hp _ _ _ (Res.sm v5 [((ByteArray.mk #[115, 112, 105, 107, 101]), .func (.func 26) #[] #[]), ((ByteArray.mk #[98, 111, 120]), .func (.func 27) #[] #[]), ((ByteArray.mk #[116, 101, 110, 116]), .func (.func 29) #[] #[]), ((ByteArray.mk #[115, 111, 102, 116]), .func (.func 30) #[] #[])] :: Res.obj 28 v1 [.int .i64 (0 : Int), .int .i64 (0 : Int), .slice none 0 0] :: ow) := hp
    refine st_assign hf rfl rfl (by decide) ?_
    clear hf; intro a ha hf; clear ha
    refine st_nil hf ?_
    refine th_n ?_
    refine wp_ret ?_
    refine th_r ?_
    obtain rfl := Option.some.inj h
    have hp := hp.nil Ek.f64 33
    have hp : Hp _ _ _ (Res.obj 28 v1 [.int .i64 (0 : Int), .int .i64 (0 : Int), .slice none 0 0] :: Res.sl Ek.f64 33 (.slice none 0 0) ([]) :: ow) := Hp.sel (pre := [Res.sl Ek.f64 33 (.slice none 0 0) ([]), Res.sm v5 [((ByteArray.mk #[115, 112, 105, 107, 101]), .func (.func 26) #[] #[]), ((ByteArray.mk #[98, 111, 120]), .func (.func 27) #[] #[]), ((ByteArray.mk #[116, 101, 110, 116]), .func (.func 29) #[] #[]), ((ByteArray.mk #[115, 111, 102, 116]), .func (.func 30) #[] #[])], Res.obj 28 v1 [.int .i64 (0 : Int), .int .i64 (0 : Int), .slice none 0 0]]) (tail := ow) (rs' := [Res.obj 28 v1 [.int .i64 (0 : Int), .int .i64 (0 : Int), .slice none 0 0], Res.sl Ek.f64 33 (.slice none 0 0) ([])]) hp [2, 0] (by decide) (by simp) rfl
    exact ⟨rfl, ⟨_, _, hf.sub ⟨rfl, rfl, trivial⟩, hp⟩⟩
  replace h := ifF h hb
  refine wp_skip ?_
  refine th_n ?_
  refine wp_seq ?_
  refine wp_reg ?_
  refine st_move hf rfl rfl (by decide) ?_
  clear hf; intro a ha hf; clear ha
  refine st_move hf rfl rfl (by decide) ?_
  clear hf; intro a ha hf; clear ha
  obtain ⟨q10, hcall11, h⟩ := bnd h
  refine st_call hf (by decide) Try.func30 rfl rfl rfl rfl rfl (f_pulse_makers_4_c hp  hcall11) ?_
  rintro _ w ⟨v12, rfl, hp0⟩
  clear hp; have hp := hp0; clear hp0
  replace hp : Hp _ _ _ (Res.sl Ek.f64 33 v12 q10.1 :: Res.sm v5 [((ByteArray.mk #[115, 112, 105, 107, 101]), .func (.func 26) #[] #[]), ((ByteArray.mk #[98, 111, 120]), .func (.func 27) #[] #[]), ((ByteArray.mk #[116, 101, 110, 116]), .func (.func 29) #[] #[]), ((ByteArray.mk #[115, 111, 102, 116]), .func (.func 30) #[] #[])] :: Res.obj 28 v1 [.int .i64 (0 : Int), .int .i64 (0 : Int), .slice none 0 0] :: ow) := hp
  refine ⟨_, rfl, ?_⟩
  clear hf; intro a hf
  refine st_move hf rfl rfl (by decide) ?_
  clear hf; intro a ha hf; clear ha
  refine st_extract hf (by decide) rfl rfl rfl ?_
  clear hf; intro a ha hf; clear ha
  refine st_extract hf (by decide) rfl rfl rfl ?_
  clear hf; intro a ha hf; clear ha
  refine st_assign hf rfl rfl (by decide) ?_
  clear hf; intro a ha hf; clear ha
  refine st_assign hf rfl rfl (by decide) ?_
  clear hf; intro a ha hf; clear ha
  refine st_nil hf ?_
  refine th_n ?_
  refine wp_seq ?_
  refine wp_seq ?_
  refine wp_reg ?_
  refine st_move hf rfl rfl (by decide) ?_
  clear hf; intro a ha hf; clear ha
  obtain ⟨hc14, h⟩ := chk h
  refine st_slnilE hf (by decide) Try.underlying26 rfl rfl rfl (hp.sl (i := 0) rfl) hc14 ?_
  clear hf; intro a ha hf; clear ha
  refine st_nil hf ?_
  refine th_n ?_
  refine wp_if hf rfl (fun hb => ?_) (fun hb => ?_)
  · exact absurd hb (by decide)
  refine wp_skip ?_
  refine th_n ?_
  refine wp_seq ?_
  refine wp_reg ?_
  refine st_move hf rfl rfl (by decide) ?_
  clear hf; intro a ha hf; clear ha
  refine st_move hf rfl rfl (by decide) ?_
  clear hf; intro a ha hf; clear ha
  refine st_move hf rfl rfl (by decide) ?_
  clear hf; intro a ha hf; clear ha
  refine st_buildA (vals := [(0, .int .i64 (2 : Int)), (1, .int .i64 q10.2), (2, v12)]) (cells := [.int .i64 (2 : Int), .int .i64 q10.2, v12]) hf (by decide) rfl (by simp [hf.ev (x := (Operand.tmp 35)) rfl, hf.ev (x := (Operand.tmp 36)) rfl, hf.ev (x := (Operand.tmp 37)) rfl]) (fun w => by obtain ⟨_, _, rfl⟩ := (hp.sl (i := 0) rfl).shapeV; kernel_rfl) ?_
  clear hf; intro a ha hf; clear ha
  refine st_stO (us := [.int .i64 (2 : Int), .int .i64 q10.2, v12]) hf hp (i := 2) rfl rfl rfl rfl rfl (by first | rfl | (obtain ⟨_, _, rfl⟩ := (hp.sl (i := 0) rfl).shapeV; rfl)) (by kernel_rfl) (Nat.le_of_ble_eq_true rfl) ?_
  clear hf; intro a w hf hp0; clear hp; have hp := hp0; clear hp0
  replace hp : Hp _ _ _ (Res.sl Ek.f64 33 v12 q10.1 :: Res.sm v5 [((ByteArray.mk #[115, 112, 105, 107, 101]), .func (.func 26) #[] #[]), ((ByteArray.mk #[98, 111, 120]), .func (.func 27) #[] #[]), ((ByteArray.mk #[116, 101, 110, 116]), .func (.func 29) #[] #[]), ((ByteArray.mk #[115, 111, 102, 116]), .func (.func 30) #[] #[])] :: Res.obj 28 v1 [.int .i64 (2 : Int), .int .i64 q10.2, v12] :: ow) := hp
  refine st_assign hf rfl rfl (by decide) ?_
  clear hf; intro a ha hf; clear ha
  refine st_nil hf ?_
  refine th_n ?_
  refine wp_ret ?_
  obtain rfl := Option.some.inj h
  have hp : Hp _ _ _ (Res.obj 28 v1 [.int .i64 (2 : Int), .int .i64 q10.2, v12] :: Res.sl Ek.f64 33 v12 q10.1 :: ow) := Hp.sel (pre := [Res.sl Ek.f64 33 v12 q10.1, Res.sm v5 [((ByteArray.mk #[115, 112, 105, 107, 101]), .func (.func 26) #[] #[]), ((ByteArray.mk #[98, 111, 120]), .func (.func 27) #[] #[]), ((ByteArray.mk #[116, 101, 110, 116]), .func (.func 29) #[] #[]), ((ByteArray.mk #[115, 111, 102, 116]), .func (.func 30) #[] #[])], Res.obj 28 v1 [.int .i64 (2 : Int), .int .i64 q10.2, v12]]) (tail := ow) (rs' := [Res.obj 28 v1 [.int .i64 (2 : Int), .int .i64 q10.2, v12], Res.sl Ek.f64 33 v12 q10.1]) hp [2, 0] (by decide) (by simp) rfl
  exact ⟨rfl, ⟨_, _, hf.sub ⟨rfl, rfl, trivial⟩, hp⟩⟩

noncomputable def f_slices_Repeat_float64_float64_28.s1c (newslice7 : (List Fl)) (n8 : Int) : Option (((List Fl) × Int) ⊕ (List Fl)) := (if (decide (n8 < (newslice7.length : Int))) = true then (if 0 ≤ n8 ∧ n8 ≤ (newslice7.length : Int) then (if 0 ≤ n8 ∧ n8 ≤ (newslice7.length : Int) then (some (Sum.inl ((cpy newslice7 ((n8).toNat) ((newslice7.drop 0).take ((n8).toNat - 0))), (IntKind.i64.wrap (n8 + ((min ((newslice7.drop 0).take ((n8).toNat - 0)).length (newslice7.length - (n8).toNat) : Nat) : Int)))))) else none) else none) else (some (Sum.inr newslice7)))
noncomputable def f_slices_Repeat_float64_float64_28.s1  (s : ((List Fl) × Int)) : Option (((List Fl) × Int) ⊕ (List Fl)) := f_slices_Repeat_float64_float64_28.s1c s.1 s.2
noncomputable def f_slices_Repeat_float64_float64_28.j2 (xx0 : (List Fl)) (q1 : (Int × Int)) : Option (List Fl) := (if 0 ≤ (IntKind.i64.wrap q1.2) ∧ (IntKind.i64.wrap q1.2) ≤ (IntKind.i64.wrap q1.2) ∧ (IntKind.i64.wrap q1.2) * 8 ≤ 281474976710656 then ((loop f_slices_Repeat_float64_float64_28.s1 ((xx0.take (List.replicate ((IntKind.i64.wrap q1.2)).toNat (Fl.bits 0)).length ++ (List.replicate ((IntKind.i64.wrap q1.2)).toNat (Fl.bits 0)).drop xx0.length), ((min xx0.length (List.replicate ((IntKind.i64.wrap q1.2)).toNat (Fl.bits 0)).length : Nat) : Int))).bind (fun q17 => (some q17))) else none)
noncomputable def f_slices_Repeat_float64_float64_28.j1 (xx0 : (List Fl)) : Option (List Fl) := ((f_math_bits_Mul (IntKind.u64.wrap (xx0.length : Int)) (4 : Int)).bind fun q1 => (if ((decide ((0 : Int) < q1.1)) || (decide ((9223372036854775807 : Int) < q1.2))) = true then none else (f_slices_Repeat_float64_float64_28.j2 xx0 q1)))
noncomputable def f_slices_Repeat_float64_float64_28 (xx0 : (List Fl)) : Option (List Fl) := (f_slices_Repeat_float64_float64_28.j1 xx0)
theorem f_slices_Repeat_float64_float64_28_c {S : Nat → Prop} {w0 w : World} {ow : List Res} (hp : Hp S w0 w ow) (vxx0 : Value) (xx0 : (List Fl)) (hxx0 : RdS Ek.f64 S w0 vxx0 xx0) {r : (List Fl)} (h : f_slices_Repeat_float64_float64_28 xx0 = some r) :
    Calls Try.prog 28 #[vxx0, .int .i64 (4 : Int)] w (fun e w' => ∃ (u0 : Value), e = .returned (u0) ∧ Hp S w0 w' (Res.sl Ek.f64 33 u0 r :: ow)) := by
  unfold f_slices_Repeat_float64_float64_28 at h
  refine enter (n := 48) (args := [vxx0, .int .i64 (4 : Int)]) Try.func28 rfl rfl (Nat.le_of_ble_eq_true rfl) fun a hf => ?_
  replace hf : Fr 48 a [(0, vxx0), (1, .int .i64 (4 : Int))] := hf
  refine wp_mono (Q := fun e a w => e = .ret ∧ ∃ (u0 : Value), Fr 48 a [(4, u0)] ∧ Hp S w0 w (Res.sl Ek.f64 33 u0 r :: ow)) ?_ ?_
  rotate_left
  · rintro e a w ⟨rfl, x0, hf, hp⟩
    exact ret1 hf rfl rfl ⟨x0, rfl, hp⟩
  refine wp_seq ?_
  refine wp_reg ?_
  refine st_assign hf rfl rfl (by decide) ?_
  clear hf; intro a ha hf; clear ha
  refine st_nil hf ?_
  refine th_n ?_
  refine wp_seq_cut (fun a w => f_slices_Repeat_float64_float64_28.j1 xx0 = some r ∧ Fr 48 a [(0, vxx0), (1, .int .i64 (4 : Int))] ∧ Hp S w0 w (ow)) ?_ ?_
  · skip
    refine wp_seq ?_
    refine wp_reg ?_
    refine st_move hf rfl rfl (by decide) ?_
    clear hf; intro a ha hf; clear ha
    refine st_ilss hf (by decide) rfl rfl rfl ?_
    clear hf; intro a ha hf; clear ha
    replace hf : Fr _ _ ((10, .bool false) :: _) := hf
    refine st_nil hf ?_
    refine th_n ?_
    refine wp_if hf rfl (fun hb => ?_) (fun hb => ?_)
    · exact absurd hb (by decide)
    refine wp_skip ?_
    refine th_n ?_
    exact ⟨h, hf.sub ⟨rfl, rfl, trivial⟩, hp⟩
  rintro a w ⟨h, hf, hp⟩
  unfold f_slices_Repeat_float64_float64_28.j1 at h
  refine wp_seq ?_
  refine wp_reg ?_
  refine st_move hf rfl rfl (by decide) ?_
  clear hf; intro a ha hf; clear ha
  refine st_len (E := Ek.f64) hf (by decide) Try.underlying26 rfl rfl (hxx0.sl hp) ?_
  clear hf; intro a ha hf; clear ha
  refine st_conv_ii hf (by decide) (by rw [Try.underlying3]; rfl) Try.underlying97 rfl rfl ?_
  clear hf; intro a ha hf; clear ha
  refine st_move hf rfl rfl (by decide) ?_
  clear hf; intro a ha hf; clear ha
  refine st_conv_ii hf (by decide) (by rw [Try.underlying3]; rfl) Try.underlying97 rfl rfl ?_
  clear hf; intro a ha hf; clear ha
  replace hf : Fr _ _ ((17, .int .u64 (4 : Int)) :: _) := hf
  obtain ⟨q1, hcall2, h⟩ := bnd h
  refine st_call hf (by decide) Try.func43 rfl rfl rfl rfl rfl (f_math_bits_Mul_c hp _ _ hcall2) ?_
  rintro _ w ⟨rfl, hp0⟩
  clear hp; have hp := hp0; clear hp0
  replace hp : Hp _ _ _ (ow) := hp
  refine ⟨_, rfl, ?_⟩
  clear hf; intro a hf
  refine st_move hf rfl rfl (by decide) ?_
  clear hf; intro a ha hf; clear ha
  refine st_extract hf (by decide) rfl rfl rfl ?_
  clear hf; intro a ha hf; clear ha
  refine st_extract hf (by decide) rfl rfl rfl ?_
  clear hf; intro a ha hf; clear ha
  refine st_assign hf rfl rfl (by decide) ?_
  clear hf; intro a ha hf; clear ha
  refine st_assign hf rfl rfl (by decide) ?_
  clear hf; intro a ha hf; clear ha
  refine st_nil hf ?_
  refine th_n ?_
  refine wp_seq_cut (fun a w => f_slices_Repeat_float64_float64_28.j2 xx0 q1 = some r ∧ Fr 48 a [(0, vxx0), (6, .int .u64 q1.2)] ∧ Hp S w0 w (ow)) ?_ ?_
  · skip
    refine wp_seq ?_
    refine wp_reg ?_
    refine st_move hf rfl rfl (by decide) ?_
    clear hf; intro a ha hf; clear ha
    refine st_igtr hf (by decide) rfl rfl rfl ?_
    clear hf; intro a ha hf; clear ha
    refine st_move hf rfl rfl (by decide) ?_
    clear hf; intro a ha hf; clear ha
    refine wpList_cut 3 (fun a w => Fr 48 a [(0, vxx0), (6, .int .u64 q1.2), (26, .bool ((decide ((0 : Int) < q1.1)) || (decide ((9223372036854775807 : Int) < q1.2))))] ∧ Hp S w0 w (ow)) ?_ ?_
    · rcases Bool.eq_false_or_eq_true (decide ((0 : Int) < q1.1)) with hb19 | hb19
      · skip
        refine st_skip hf (wantN hf rfl rfl hb19) rfl (by decide) ?_ rfl
        clear hf; intro a hf
        refine st_skip hf (wantN hf rfl rfl hb19) rfl (by decide) ?_ rfl
        clear hf; intro a hf
        refine st_pick (v := .bool true) hf rfl rfl (fun hb' => ?_) (fun hb' => ?_) (by decide) ?_
        · rfl
        · exact absurd (hb19.symm.trans hb') (by decide)
        clear hf; intro a ha hf; clear ha
        refine st_nil hf (th_n ?_)
        exact ⟨hf.sub ⟨rfl, rfl, (by rw [hb19]; rfl), trivial⟩, hp⟩
      refine st_move hf (wantY hf rfl rfl hb19) rfl (by decide) ?_
      clear hf; intro a ha hf; clear ha
      refine st_igtr hf (by decide) (wantY hf rfl rfl hb19) rfl rfl ?_
      clear hf; intro a ha hf; clear ha
      refine st_pick (v := .bool (decide ((9223372036854775807 : Int) < q1.2))) hf rfl rfl (fun hb' => ?_) (fun hb' => ?_) (by decide) ?_
      · exact absurd (hb19.symm.trans hb') (by decide)
      · rfl
      clear hf; intro a ha hf; clear ha
      refine st_nil hf (th_n ?_)
      exact ⟨hf.sub ⟨rfl, rfl, (by rw [hb19]; rfl), trivial⟩, hp⟩
    rintro a w ⟨hf, hp⟩
    refine st_nil hf ?_
    refine th_n ?_
    refine wp_if hf rfl (fun hb => ?_) (fun hb => ?_)
    · replace h := ifT h hb
      cases h
    replace h := ifF h hb
    refine wp_skip ?_
    refine th_n ?_
    exact ⟨h, hf.sub ⟨rfl, rfl, trivial⟩, hp⟩
  rintro a w ⟨h, hf, hp⟩
  unfold f_slices_Repeat_float64_float64_28.j2 at h
  refine wp_seq ?_
  refine wp_reg ?_
  refine st_move hf rfl rfl (by decide) ?_
  clear hf; intro a ha hf; clear ha
  refine st_conv_ii hf (by decide) (by rw [Try.underlying97]; rfl) Try.underlying3 rfl rfl ?_
  clear hf; intro a ha hf; clear ha
  obtain ⟨hc3, h⟩ := chk h
  refine st_make (E := Ek.f64) hf (by decide) elt33 Try.underlying26 (by decide) hp rfl rfl rfl hc3.1 hc3.2.1 hc3.2.2 ?_
  clear hf; intro a w v4 hf hp0; clear hp; have hp := hp0; clear hp0
  replace hp : Hp _ _ _ (Res.sl Ek.f64 33 v4 (List.replicate ((IntKind.i64.wrap q1.2)).toNat (Fl.bits 0)) :: ow) := hp
  refine st_assign hf rfl rfl (by decide) ?_
  clear hf; intro a ha hf; clear ha
  refine st_nil hf ?_
  refine th_n ?_
  refine wp_seq ?_
  refine wp_reg ?_
  refine st_move hf rfl rfl (by decide) ?_
  clear hf; intro a ha hf; clear ha
  refine st_move hf rfl rfl (by decide) ?_
  clear hf; intro a ha hf; clear ha
  refine st_copySl (E := Ek.f64) rfl hf (by decide) elt33 Try.underlying26 hp (i := 0) rfl (hxx0.sl hp) rfl rfl rfl ?_
  clear hf; intro a w hf hp0; clear hp; have hp := hp0; clear hp0
  replace hp : Hp _ _ _ (Res.sl Ek.f64 33 v4 (xx0.take (List.replicate ((IntKind.i64.wrap q1.2)).toNat (Fl.bits 0)).length ++ (List.replicate ((IntKind.i64.wrap q1.2)).toNat (Fl.bits 0)).drop xx0.length) :: ow) := hp
  refine st_assign hf rfl rfl (by decide) ?_
  clear hf; intro a ha hf; clear ha
  refine st_nil hf ?_
  refine th_n ?_
  refine wp_seq ?_
  refine wp_block ?_
  obtain ⟨q17, hl, h⟩ := bnd h
  refine wp_loop_pure (f := f_slices_Repeat_float64_float64_28.s1) (s := ((xx0.take (List.replicate ((IntKind.i64.wrap q1.2)).toNat (Fl.bits 0)).length ++ (List.replicate ((IntKind.i64.wrap q1.2)).toNat (Fl.bits 0)).drop xx0.length), ((min xx0.length (List.replicate ((IntKind.i64.wrap q1.2)).toNat (Fl.bits 0)).length : Nat) : Int))) (fun s a w => ∃ (v6 : Value), Fr 48 a [(7, v6), (8, .int .i64 s.2)] ∧ Hp S w0 w (Res.sl Ek.f64 33 v6 s.1 :: ow)) (fun q e a w => e = .exit 0 ∧ ∃ (v8 : Value), Fr 48 a [(7, v8)] ∧ Hp S w0 w (Res.sl Ek.f64 33 v8 q :: ow)) ?_ hl ⟨_, hf.sub ⟨rfl, rfl, trivial⟩, hp⟩ ?_
  · clear hl hf hp
    intro s x a w h hI
    obtain ⟨newslice7, n8⟩ := s
    obtain ⟨v6, hf, hp⟩ : ∃ (v6 : Value), Fr 48 a [(7, v6), (8, .int .i64 n8)] ∧ Hp S w0 w (Res.sl Ek.f64 33 v6 newslice7 :: ow) := hI
    replace h : f_slices_Repeat_float64_float64_28.s1c newslice7 n8 = some x := h
    unfold f_slices_Repeat_float64_float64_28.s1c at h
    refine wp_seq ?_
    refine wp_seq ?_
    refine wp_reg ?_
    refine st_move hf rfl rfl (by decide) ?_
    clear hf; intro a ha hf; clear ha
    refine st_move hf rfl rfl (by decide) ?_
    clear hf; intro a ha hf; clear ha
    refine st_len (E := Ek.f64) hf (by decide) Try.underlying26 rfl rfl (hp.sl (i := 0) rfl) ?_
    clear hf; intro a ha hf; clear ha
    refine st_ilss hf (by decide) rfl rfl rfl ?_
    clear hf; intro a ha hf; clear ha
    refine st_nil hf ?_
    refine th_n ?_
    refine wp_if hf rfl (fun hb => ?_) (fun hb => ?_)
    · replace h := ifT h hb
      refine wp_skip ?_
      refine th_n ?_
      refine wp_block ?_
      have fx13 := hp.sl (i := 0) rfl
      obtain ⟨hc10, h⟩ := chk h
      have hc11 : (n8).toNat ≤ newslice7.length := by omega
      have hc12 : newslice7.length ≤ newslice7.length := by omega
      obtain ⟨hc14, h⟩ := chk h
      have hc15 : 0 ≤ (n8).toNat := by omega
      have hc16 : (n8).toNat ≤ newslice7.length := by omega
      refine wp_cutN (fun a w => Fr 48 a [(7, v6), (8, .int .i64 (IntKind.i64.wrap (n8 + ((min ((newslice7.drop 0).take ((n8).toNat - 0)).length (newslice7.length - (n8).toNat) : Nat) : Int))))] ∧ Hp S w0 w (Res.sl Ek.f64 33 v6 (cpy newslice7 ((n8).toNat) ((newslice7.drop 0).take ((n8).toNat - 0))) :: ow)) ?_ ?_
      · have hp := hp.same (Same.drew w)
        refine dr_begin' (fun a w => Fr 48 a [(7, v6), (8, .int .i64 (IntKind.i64.wrap (n8 + ((min ((newslice7.drop 0).take ((n8).toNat - 0)).length (newslice7.length - (n8).toNat) : Nat) : Int))))] ∧ Hp S w0 w (Res.sl Ek.f64 33 v6 (cpy newslice7 ((n8).toNat) ((newslice7.drop 0).take ((n8).toNat - 0))) :: ow)) (fun w' => ∃ l, Hp S w0 w' l) [] (by kernel_rfl) ?_
        refine dr_takeP 0 (.int .i64 n8) rfl (by kernel_rfl) (by kernel_rfl) (by kernel_rfl) rfl rfl hf (by decide) rfl (fun w => ?_) ?_
        · skip
          refine st_move hf rfl rfl (by decide) ?_
          clear hf; intro a ha hf
          exact st_nil hf (th_n ⟨ha, rfl⟩)
        clear hf; intro a hf
        refine dr_takeP 1 (v6) rfl (by kernel_rfl) (by kernel_rfl) (by kernel_rfl) rfl rfl hf (by decide) rfl (fun w => ?_) ?_
        · skip
          refine st_move hf rfl rfl (by decide) ?_
          clear hf; intro a ha hf
          exact st_nil hf (th_n ⟨ha, rfl⟩)
        clear hf; intro a hf
        refine dr_takeP 2 (.int .i64 n8) rfl (by kernel_rfl) (by kernel_rfl) (by kernel_rfl) rfl rfl hf (by decide) rfl (fun w => ?_) ?_
        · skip
          refine st_move hf rfl rfl (by decide) ?_
          clear hf; intro a ha hf
          exact st_nil hf (th_n ⟨ha, rfl⟩)
        clear hf; intro a hf
        refine dr_takeP 3 ((GL.cut v6 (n8).toNat newslice7.length 1)) rfl (by kernel_rfl) (by kernel_rfl) (by kernel_rfl) rfl rfl hf (by decide) rfl (fun w => ?_) ?_
        · skip
          refine st_cutS (E := Ek.f64) hf (by decide) Try.underlying26 elt33 rfl rfl fx13 (.inr ⟨_, _, rfl, evI rfl hc10.1⟩) (.inl ⟨rfl, rfl⟩) hc11 hc12 ?_
          clear hf; intro a ha hf
          exact st_nil hf (th_n ⟨ha, rfl⟩)
        clear hf; intro a hf
        refine dr_takeP 4 (v6) rfl (by kernel_rfl) (by kernel_rfl) (by kernel_rfl) rfl rfl hf (by decide) rfl (fun w => ?_) ?_
        · skip
          refine st_move hf rfl rfl (by decide) ?_
          clear hf; intro a ha hf
          exact st_nil hf (th_n ⟨ha, rfl⟩)
        clear hf; intro a hf
        refine dr_takeP 5 (.int .i64 n8) rfl (by kernel_rfl) (by kernel_rfl) (by kernel_rfl) rfl rfl hf (by decide) rfl (fun w => ?_) ?_
        · skip
          refine st_move hf rfl rfl (by decide) ?_
          clear hf; intro a ha hf
          exact st_nil hf (th_n ⟨ha, rfl⟩)
        clear hf; intro a hf
        refine dr_takeP 6 ((GL.cut v6 0 (n8).toNat 1)) rfl (by kernel_rfl) (by kernel_rfl) (by kernel_rfl) rfl rfl hf (by decide) rfl (fun w => ?_) ?_
        · skip
          refine st_cutS (E := Ek.f64) hf (by decide) Try.underlying26 elt33 rfl rfl fx13 (.inl ⟨rfl, rfl⟩) (.inr ⟨_, _, rfl, evI rfl (by omega)⟩) hc15 hc16 ?_
          clear hf; intro a ha hf
          exact st_nil hf (th_n ⟨ha, rfl⟩)
        clear hf; intro a hf
        refine dr_one 7 rfl (by kernel_rfl) ?_
        refine st_copyCut (E := Ek.f64) (lo := (n8).toNat) rfl hf (by decide) elt33 Try.underlying26 hp (i := 0) rfl (RdS.cut (hp.sl (i := 0) rfl) hc15 hc16) hc11 rfl rfl rfl ?_
        clear hf; intro a w hf hp0; clear hp; have hp := hp0; clear hp0
        replace hp : Hp _ _ _ (Res.sl Ek.f64 33 v6 (cpy newslice7 ((n8).toNat) ((newslice7.drop 0).take ((n8).toNat - 0))) :: ow) := hp
        refine st_nil hf (th_n ⟨fun _ _ => ⟨_, hp⟩, ?_⟩)
        refine dr_takeP 8 (.int .i64 (IntKind.i64.wrap (n8 + ((min ((newslice7.drop 0).take ((n8).toNat - 0)).length (newslice7.length - (n8).toNat) : Nat) : Int)))) rfl (by kernel_rfl) (by kernel_rfl) (by kernel_rfl) rfl rfl hf (by decide) rfl (fun w => ?_) ?_
        · skip
          refine st_iadd hf (by decide) rfl rfl rfl ?_
          clear hf; intro a ha hf
          exact st_nil hf (th_n ⟨ha, rfl⟩)
        clear hf; intro a hf
        refine dr_takeP 9 (.int .i64 (IntKind.i64.wrap (n8 + ((min ((newslice7.drop 0).take ((n8).toNat - 0)).length (newslice7.length - (n8).toNat) : Nat) : Int)))) rfl (by kernel_rfl) (by kernel_rfl) (by kernel_rfl) rfl rfl hf (by decide) rfl (fun w => ?_) ?_
        · skip
          refine st_assign hf rfl rfl (by decide) ?_
          clear hf; intro a ha hf
          exact st_nil hf (th_n ⟨ha, rfl⟩)
        clear hf; intro a hf
        refine dr_end (by kernel_rfl) ?_ _
        exact ⟨hf.sub ⟨rfl, rfl, trivial⟩, hp⟩
      rintro a w ⟨hf, hp⟩
      refine ib_n ?_
      obtain rfl := Option.some.inj h
      exact rnd_l ⟨_, hf.sub ⟨rfl, rfl, trivial⟩, hp⟩
    replace h := ifF h hb
    refine wp_exit ?_
    refine th_e ?_
    obtain rfl := Option.some.inj h
    exact rnd_r (by simp) ⟨rfl, _, hf.sub ⟨rfl, trivial⟩, hp⟩
  clear hl hf hp
  intro e a w hne hO
  obtain ⟨rfl, v8, hf, hp⟩ := hO
  refine ib_same ?_
  refine th_n ?_
  refine wp_seq ?_
  refine wp_reg ?_
  refine st_move hf rfl rfl (by decide) ?_
  clear hf; intro a ha hf; clear ha
  refine st_assign hf rfl rfl (by decide) ?_
  clear hf; intro a ha hf; clear ha
  refine st_nil hf ?_
  refine th_n ?_
  refine wp_ret ?_
  obtain rfl := Option.some.inj h
  exact ⟨rfl, ⟨_, hf.sub ⟨rfl, trivial⟩, hp⟩⟩

noncomputable def f_pulse_makers_2_27  : Option ((List Fl) × Int) := ((f_slices_Repeat_float64_float64_28 ([(Fl.bits 4607182418800017408)])).bind fun q3 => (some (q3, (0 : Int))))
theorem f_pulse_makers_2_27_c {S : Nat → Prop} {w0 w : World} {ow : List Res} (hp : Hp S w0 w ow) {r : ((List Fl) × Int)} (h : f_pulse_makers_2_27 = some r) :
    Calls Try.prog 27 #[.int .i64 (4 : Int)] w (fun e w' => ∃ (u0 : Value), e = .returned (.tuple #[u0, .int .i64 r.2]) ∧ Hp S w0 w' (Res.sl Ek.f64 33 u0 r.1 :: ow)) := by
  unfold f_pulse_makers_2_27 at h
  refine enter (n := 9) (args := [.int .i64 (4 : Int)]) Try.func27 rfl rfl (Nat.le_of_ble_eq_true rfl) fun a hf => ?_
  replace hf : Fr 9 a [(0, .int .i64 (4 : Int))] := hf
  refine wp_mono (Q := fun e a w => e = .ret ∧ ∃ (u0 : Value), Fr 9 a [(2, u0), (3, .int .i64 r.2)] ∧ Hp S w0 w (Res.sl Ek.f64 33 u0 r.1 :: ow)) ?_ ?_
  rotate_left
  · rintro e a w ⟨rfl, x0, hf, hp⟩
    exact ret2 hf rfl rfl rfl ⟨x0, rfl, hp⟩
  refine wp_seq ?_
  refine wp_reg ?_
  refine st_assign hf rfl rfl (by decide) ?_
  clear hf; intro a ha hf; clear ha
  refine st_assign hf rfl rfl (by decide) ?_
  clear hf; intro a ha hf; clear ha
  refine st_nil hf ?_
  refine th_n ?_
  refine wp_seq ?_
  refine wp_seq ?_
  refine wp_reg ?_
  refine st_move hf rfl rfl (by decide) ?_
  clear hf; intro a ha hf; clear ha
  refine st_igtr hf (by decide) rfl rfl rfl ?_
  clear hf; intro a ha hf; clear ha
  replace hf : Fr _ _ ((5, .bool false) :: _) := hf
  refine st_nil hf ?_
  refine th_n ?_
  refine wp_if hf rfl (fun hb => ?_) (fun hb => ?_)
  · exact absurd hb (by decide)
  refine wp_skip ?_
  refine th_n ?_
  refine wp_seq ?_
  refine wp_reg ?_
  refine st_build (E := Ek.f64) (xs := [(Fl.bits 4607182418800017408)]) hf (by decide) elt33 Try.underlying26 hp (vals := #[(0, .float .f64 4607182418800017408)]) (cells := #[.float .f64 4607182418800017408]) rfl (by simp [hf.ev (x := (Operand.const (.float .f64 4607182418800017408))) rfl]) (Nat.le_of_ble_eq_true rfl) (Nat.le_of_ble_eq_true rfl) (z := .float .f64 0) (by kernel_rfl) (by kernel_rfl) rfl (reps_cons (cs := [.float .f64 4607182418800017408]) (show Ek.f64.rep [.float .f64 4607182418800017408] (Fl.bits 4607182418800017408) from ⟨_, rfl, rfl⟩) (reps_nil _)) ?_
  clear hf; intro a w v1 hf hp0; clear hp; have hp := hp0; clear hp0
  replace hp : Hp _ _ _ (Res.sl Ek.f64 33 v1 ([(Fl.bits 4607182418800017408)]) :: ow) := hp
  refine st_move hf rfl rfl (by decide) ?_
  clear hf; intro a ha hf; clear ha
  obtain ⟨q3, hcall4, h⟩ := bnd h
  obtain ⟨S5, hp6, rd7, up8, bk9⟩ := Hp.lendS hp (i := 0) rfl
  refine st_call hf (by decide) Try.func28 rfl rfl rfl rfl rfl (f_slices_Repeat_float64_float64_28_c hp6 _ _ rd7 hcall4) ?_
  rintro _ w ⟨v10, rfl, hp0⟩
  have hp0 := bk9 _ _ hp0
  clear hp; have hp := hp0; clear hp0
  replace hp : Hp _ _ _ (Res.sl Ek.f64 33 v1 ([(Fl.bits 4607182418800017408)]) :: Res.sl Ek.f64 33 v10 q3 :: ow) := hp
  refine ⟨_, rfl, ?_⟩
  clear hf; intro a hf
  refine st_assign hf rfl rfl (by decide) ?_
  clear hf; intro a ha hf; clear ha
  refine st_assign hf rfl rfl (by decide) ?_
  clear hf; intro a ha hf; clear ha
  refine st_nil hf ?_
  refine th_n ?_
  refine wp_ret ?_
  obtain rfl := Option.some.inj h
  have hp : Hp _ _ _ (Res.sl Ek.f64 33 v10 q3 :: ow) := Hp.sel (pre := [Res.sl Ek.f64 33 v1 ([(Fl.bits 4607182418800017408)]), Res.sl Ek.f64 33 v10 q3]) (tail := ow) (rs' := [Res.sl Ek.f64 33 v10 q3]) hp [1] (by decide) (by simp) rfl
  exact ⟨rfl, ⟨_, hf.sub ⟨rfl, rfl, trivial⟩, hp⟩⟩

noncomputable def f_pulse_Named_10_6  : Option ((Int × Int × (List Fl)) × Int) := ((f_pulse_makers).bind fun q3 => (if (false || false) = true then (some (((0 : Int), (0 : Int), []), (1 : Int))) else ((f_pulse_makers_2_27).bind fun q10 => (if 0 < q10.1.length then (some (((4 : Int), q10.2, q10.1), (0 : Int))) else none))))
theorem f_pulse_Named_10_6_c {S : Nat → Prop} {w0 w : World} {ow : List Res} (hp : Hp S w0 w ow) {r : ((Int × Int × (List Fl)) × Int)} (h : f_pulse_Named_10_6 = some r) :
    Calls Try.prog 10 #[.string (ByteArray.mk #[98, 111, 120]), .int .i64 (4 : Int)] w (fun e w' => ∃ (u0 : Value), e = .returned (.tuple #[.agg #[.int .i64 r.1.1, .int .i64 r.1.2.1, u0], .int .i64 r.2]) ∧ Hp S w0 w' (Res.sl Ek.f64 33 u0 r.1.2.2 :: ow)) := by
  unfold f_pulse_Named_10_6 at h
  refine enter (n := 39) (args := [.string (ByteArray.mk #[98, 111, 120]), .int .i64 (4 : Int)]) Try.func10 rfl rfl (Nat.le_of_ble_eq_true rfl) fun a hf => ?_
  replace hf : Fr 39 a [(0, .string (ByteArray.mk #[98, 111, 120])), (1, .int .i64 (4 : Int))] := hf
  refine wp_mono (Q := fun e a w => e = .ret ∧ ∃ (u0 : Value) (c0 : Value), Fr 39 a [(4, optr c0 0), (5, .int .i64 r.2)] ∧ Hp S w0 w (Res.obj 28 c0 [.int .i64 r.1.1, .int .i64 r.1.2.1, u0] :: Res.sl Ek.f64 33 u0 r.1.2.2 :: ow)) ?_ ?_
  rotate_left
  · rintro e a w ⟨rfl, x0, c0, hf, hp⟩
    exact retG2 hf rfl ⟨_, _, rfl, hp.ob (i := 0) rfl, .inr ⟨by kernel_rfl, rfl⟩⟩ rfl ⟨x0, rfl, hp.drop⟩
  refine wp_seq ?_
  refine wp_reg ?_
  refine st_alloc (cs := [.int .i64 (0 : Int), .int .i64 (0 : Int), .slice none 0 0]) (zv := .agg #[.int .i64 (0 : Int), .int .i64 (0 : Int), .slice none 0 0]) hf (by decide) (by kernel_rfl) rfl hp rfl ?_
  clear hf; intro a w v1 hf hp0; clear hp; have hp := hp0; clear hp0
  replace hp : Hp _ _ _ (Res.obj 28 v1 [.int .i64 (0 : Int), .int .i64 (0 : Int), .slice none 0 0] :: ow) := hp
  refine st_assign hf rfl rfl (by decide) ?_
  clear hf; intro a ha hf; clear ha
  refine st_nil hf ?_
  refine th_n ?_
  refine wp_seq ?_
  refine wp_reg ?_
  obtain ⟨q3, hcall4, h⟩ := bnd h
  refine st_call hf (by decide) Try.func17 rfl rfl rfl rfl rfl (f_pulse_makers_c hp  hcall4) ?_
  rintro _ w ⟨v5, rfl, hp0⟩
  clear hp; have hp := hp0; clear hp0
  replace hp : Hp _ _ _ (Res.sm v5 [((ByteArray.mk #[115, 112, 105, 107, 101]), .func (.func 26) #[] #[]), ((ByteArray.mk #[98, 111, 120]), .func (.func 27) #[] #[]), ((ByteArray.mk #[116, 101, 110, 116]), .func (.func 29) #[] #[]), ((ByteArray.mk #[115, 111, 102, 116]), .func (.func 30) #[] #[])] :: Res.obj 28 v1 [.int .i64 (0 : Int), .int .i64 (0 : Int), .slice none 0 0] :: ow) := hp
  refine ⟨_, rfl, ?_⟩
  clear hf; intro a hf
  refine st_move hf rfl rfl (by decide) ?_
  clear hf; intro a ha hf; clear ha
  refine st_lookupS (j := 1) (u := .func (.func 27) #[] #[]) hf (by decide) Try.underlying64 Try.underlying9 hp (i := 0) rfl (by rfl) rfl rfl rfl ?_
  clear hf; intro a ha hf; clear ha
  refine st_move hf rfl rfl (by decide) ?_
  clear hf; intro a ha hf; clear ha
  refine st_extract hf (by decide) rfl rfl rfl ?_
  clear hf; intro a ha hf; clear ha
  refine st_extract hf (by decide) rfl rfl rfl ?_
  clear hf; intro a ha hf; clear ha
  refine st_assign hf rfl rfl (by decide) ?_
  clear hf; intro a ha hf; clear ha
  refine st_assign hf rfl rfl (by decide) ?_
  clear hf; intro a ha hf; clear ha
  refine st_nil hf ?_
  refine th_n ?_
  refine wp_seq ?_
  refine wp_seq ?_
  refine wp_reg ?_
  refine st_move hf rfl rfl (by decide) ?_
  clear hf; intro a ha hf; clear ha
  refine st_not hf (by decide) rfl rfl ?_
  clear hf; intro a ha hf; clear ha
  replace hf : Fr _ _ ((17, .bool false) :: _) := hf
  refine st_nil hf ?_
  refine th_n ?_
  refine wp_if hf rfl (fun hb => ?_) (fun hb => ?_)
  · exact absurd hb (by decide)
  refine wp_skip ?_
  refine th_n ?_
  refine wp_seq ?_
  refine wp_seq ?_
  refine wp_reg ?_
  refine st_move hf rfl rfl (by decide) ?_
  clear hf; intro a ha hf; clear ha
  refine st_ilss hf (by decide) rfl rfl rfl ?_
  clear hf; intro a ha hf; clear ha
  replace hf : Fr _ _ ((20, .bool false) :: _) := hf
  refine st_move hf rfl rfl (by decide) ?_
  clear hf; intro a ha hf; clear ha
  refine wpList_cut 3 (fun a w => Fr 39 a [(1, .int .i64 (4 : Int)), (4, optr v1 0), (6, .func (.func 27) #[] #[]), (24, .bool (false || false))] ∧ Hp S w0 w (Res.sm v5 [((ByteArray.mk #[115, 112, 105, 107, 101]), .func (.func 26) #[] #[]), ((ByteArray.mk #[98, 111, 120]), .func (.func 27) #[] #[]), ((ByteArray.mk #[116, 101, 110, 116]), .func (.func 29) #[] #[]), ((ByteArray.mk #[115, 111, 102, 116]), .func (.func 30) #[] #[])] :: Res.obj 28 v1 [.int .i64 (0 : Int), .int .i64 (0 : Int), .slice none 0 0] :: ow)) ?_ ?_
  · rcases Bool.eq_false_or_eq_true false with hb8 | hb8
    · skip
      refine st_skip hf (wantN hf rfl rfl hb8) rfl (by decide) ?_ rfl
      clear hf; intro a hf
      refine st_skip hf (wantN hf rfl rfl hb8) rfl (by decide) ?_ rfl
      clear hf; intro a hf
      refine st_pick (v := .bool true) hf rfl rfl (fun hb' => ?_) (fun hb' => ?_) (by decide) ?_
      · rfl
      · exact absurd (hb8.symm.trans hb') (by decide)
      clear hf; intro a ha hf; clear ha
      refine st_nil hf (th_n ?_)
      exact ⟨hf.sub ⟨rfl, rfl, rfl, (by rw [hb8]; rfl), trivial⟩, hp⟩
    refine st_move hf (wantY hf rfl rfl hb8) rfl (by decide) ?_
    clear hf; intro a ha hf; clear ha
    refine st_igtr hf (by decide) (wantY hf rfl rfl hb8) rfl rfl ?_
    clear hf; intro a ha hf; clear ha
    replace hf : Fr _ _ ((23, .bool false) :: _) := hf
    refine st_pick (v := .bool false) hf rfl rfl (fun hb' => ?_) (fun hb' => ?_) (by decide) ?_
    · exact absurd (hb8.symm.trans hb') (by decide)
    · rfl
    clear hf; intro a ha hf; clear ha
    refine st_nil hf (th_n ?_)
    exact ⟨hf.sub ⟨rfl, rfl, rfl, (by rw [hb8]; rfl), trivial⟩, hp⟩
  rintro a w ⟨hf, hp⟩
  refine st_nil hf ?_
  refine th_n ?_
  refine wp_if hf rfl (fun hb => ?_) (fun hb => ?_)
  · replace h := ifT h hb
    refine wp_seq ?_
    refine wp_reg ?_
    refine st_buildA (vals := []) (cells := [.int .i64 (0 : Int), .int .i64 (0 : Int), .slice none 0 0]) hf (by decide) rfl (by simp []) (fun w => by kernel_rfl) ?_
    clear hf; intro a ha hf; clear ha
    refine st_stO (us := [.int .i64 (0 : Int), .int .i64 (0 : Int), .slice none 0 0]) hf hp (i := 1) rfl rfl rfl rfl rfl (by rfl) (by kernel_rfl) (Nat.le_of_ble_eq_true rfl) ?_
    clear hf; intro a w hf hp0; clear hp; have hp := hp0; clear hp0
    replace hp : Hp _ _ _ (Res.sm v5 [((ByteArray.mk #[115, 112, 105, 107, 101]), .func (.func 26) #[] #[]), ((ByteArray.mk #[98, 111, 120]), .func (.func 27) #[] #[]), ((ByteArray.mk #[116, 101, 110, 116]), .func (.func 29) #[] #[]), ((ByteArray.mk #[115, 111, 102, 116]), .func (.func 30) #[] #[])] :: Res.obj 28 v1 [.int .i64 (0 : Int), .int .i64 (0 : Int), .slice none 0 0] :: ow) := hp
    refine st_assign hf rfl rfl (by decide) ?_
    clear hf; intro a ha hf; clear ha
    refine st_nil hf ?_
    refine th_n ?_
    refine wp_ret ?_
    refine th_r ?_
    obtain rfl := Option.some.inj h
    have hp := hp.nil Ek.f64 33
    have hp : Hp _ _ _ (Res.obj 28 v1 [.int .i64 (0 : Int), .int .i64 (0 : Int), .slice none 0 0] :: Res.sl Ek.f64 33 (.slice none 0 0) ([]) :: ow) := Hp.sel (pre := [Res.sl Ek.f64 33 (.slice none 0 0) ([]), Res.sm v5 [((ByteArray.mk #[115, 112, 105, 107, 101]), .func (.func 26) #[] #[]), ((ByteArray.mk #[98, 111, 120]), .func (.func 27) #[] #[]), ((ByteArray.mk #[116, 101, 110, 116]), .func (.func 29) #[] #[]), ((ByteArray.mk #[115, 111, 102, 116]), .func (.func 30) #[] #[])], Res.obj 28 v1 [.int .i64 (0 : Int), .int .i64 (0 : Int), .slice none 0 0]]) (tail := ow) (rs' := [Res.obj 28 v1 [.int .i64 (0 : Int), .int .i64 (0 : Int), .slice none 0 0], Res.sl Ek.f64 33 (.slice none 0 0) ([])]) hp [2, 0] (by decide) (by simp) rfl
    exact ⟨rfl, ⟨_, _, hf.sub ⟨rfl, rfl, trivial⟩, hp⟩⟩
  replace h := ifF h hb
  refine wp_skip ?_
  refine th_n ?_
  refine wp_seq ?_
  refine wp_reg ?_
  refine st_move hf rfl rfl (by decide) ?_
  clear hf; intro a ha hf; clear ha
  refine st_move hf rfl rfl (by decide) ?_
  clear hf; intro a ha hf; clear ha
  obtain ⟨q10, hcall11, h⟩ := bnd h
  refine st_call hf (by decide) Try.func27 rfl rfl rfl rfl rfl (f_pulse_makers_2_27_c hp  hcall11) ?_
  rintro _ w ⟨v12, rfl, hp0⟩
  clear hp; have hp := hp0; clear hp0
  replace hp : Hp _ _ _ (Res.sl Ek.f64 33 v12 q10.1 :: Res.sm v5 [((ByteArray.mk #[115, 112, 105, 107, 101]), .func (.func 26) #[] #[]), ((ByteArray.mk #[98, 111, 120]), .func (.func 27) #[] #[]), ((ByteArray.mk #[116, 101, 110, 116]), .func (.func 29) #[] #[]), ((ByteArray.mk #[115, 111, 102, 116]), .func (.func 30) #[] #[])] :: Res.obj 28 v1 [.int .i64 (0 : Int), .int .i64 (0 : Int), .slice none 0 0] :: ow) := hp
  refine ⟨_, rfl, ?_⟩
  clear hf; intro a hf
  refine st_move hf rfl rfl (by decide) ?_
  clear hf; intro a ha hf; clear ha
  refine st_extract hf (by decide) rfl rfl rfl ?_
  clear hf; intro a ha hf; clear ha
  refine st_extract hf (by decide) rfl rfl rfl ?_
  clear hf; intro a ha hf; clear ha
  refine st_assign hf rfl rfl (by decide) ?_
  clear hf; intro a ha hf; clear ha
  refine st_assign hf rfl rfl (by decide) ?_
  clear hf; intro a ha hf; clear ha
  refine st_nil hf ?_
  refine th_n ?_
  refine wp_seq ?_
  refine wp_seq ?_
  refine wp_reg ?_
  refine st_move hf rfl rfl (by decide) ?_
  clear hf; intro a ha hf; clear ha
  obtain ⟨hc14, h⟩ := chk h
  refine st_slnilE hf (by decide) Try.underlying26 rfl rfl rfl (hp.sl (i := 0) rfl) hc14 ?_
  clear hf; intro a ha hf; clear ha
  refine st_nil hf ?_
  refine th_n ?_
  refine wp_if hf rfl (fun hb => ?_) (fun hb => ?_)
  · exact absurd hb (by decide)
  refine wp_skip ?_
  refine th_n ?_
  refine wp_seq ?_
  refine wp_reg ?_
  refine st_move hf rfl rfl (by decide) ?_
  clear hf; intro a ha hf; clear ha
  refine st_move hf rfl rfl (by decide) ?_
  clear hf; intro a ha hf; clear ha
  refine st_move hf rfl rfl (by decide) ?_
  clear hf; intro a ha hf; clear ha
  refine st_buildA (vals := [(0, .int .i64 (4 : Int)), (1, .int .i64 q10.2), (2, v12)]) (cells := [.int .i64 (4 : Int), .int .i64 q10.2, v12]) hf (by decide) rfl (by simp [hf.ev (x := (Operand.tmp 35)) rfl, hf.ev (x := (Operand.tmp 36)) rfl, hf.ev (x := (Operand.tmp 37)) rfl]) (fun w => by obtain ⟨_, _, rfl⟩ := (hp.sl (i := 0) rfl).shapeV; kernel_rfl) ?_
  clear hf; intro a ha hf; clear ha
  refine st_stO (us := [.int .i64 (4 : Int), .int .i64 q10.2, v12]) hf hp (i := 2) rfl rfl rfl rfl rfl (by first | rfl | (obtain ⟨_, _, rfl⟩ := (hp.sl (i := 0) rfl).shapeV; rfl)) (by kernel_rfl) (Nat.le_of_ble_eq_true rfl) ?_
  clear hf; intro a w hf hp0; clear hp; have hp := hp0; clear hp0
  replace hp : Hp _ _ _ (Res.sl Ek.f64 33 v12 q10.1 :: Res.sm v5 [((ByteArray.mk #[115, 112, 105, 107, 101]), .func (.func 26) #[] #[]), ((ByteArray.mk #[98, 111, 120]), .func (.func 27) #[] #[]), ((ByteArray.mk #[116, 101, 110, 116]), .func (.func 29) #[] #[]), ((ByteArray.mk #[115, 111, 102, 116]), .func (.func 30) #[] #[])] :: Res.obj 28 v1 [.int .i64 (4 : Int), .int .i64 q10.2, v12] :: ow) := hp
  refine st_assign hf rfl rfl (by decide) ?_
  clear hf; intro a ha hf; clear ha
  refine st_nil hf ?_
  refine th_n ?_
  refine wp_ret ?_
  obtain rfl := Option.some.inj h
  have hp : Hp _ _ _ (Res.obj 28 v1 [.int .i64 (4 : Int), .int .i64 q10.2, v12] :: Res.sl Ek.f64 33 v12 q10.1 :: ow) := Hp.sel (pre := [Res.sl Ek.f64 33 v12 q10.1, Res.sm v5 [((ByteArray.mk #[115, 112, 105, 107, 101]), .func (.func 26) #[] #[]), ((ByteArray.mk #[98, 111, 120]), .func (.func 27) #[] #[]), ((ByteArray.mk #[116, 101, 110, 116]), .func (.func 29) #[] #[]), ((ByteArray.mk #[115, 111, 102, 116]), .func (.func 30) #[] #[])], Res.obj 28 v1 [.int .i64 (4 : Int), .int .i64 q10.2, v12]]) (tail := ow) (rs' := [Res.obj 28 v1 [.int .i64 (4 : Int), .int .i64 q10.2, v12], Res.sl Ek.f64 33 v12 q10.1]) hp [2, 0] (by decide) (by simp) rfl
  exact ⟨rfl, ⟨_, _, hf.sub ⟨rfl, rfl, trivial⟩, hp⟩⟩

noncomputable def f_pulse_makers_1_26_2  : Option ((List Fl) × Int) := (some ([(Fl.bits 4607182418800017408)], (0 : Int)))
theorem f_pulse_makers_1_26_2_c {S : Nat → Prop} {w0 w : World} {ow : List Res} (hp : Hp S w0 w ow) {r : ((List Fl) × Int)} (h : f_pulse_makers_1_26_2 = some r) :
    Calls Try.prog 26 #[.int .i64 (8 : Int)] w (fun e w' => ∃ (u0 : Value), e = .returned (.tuple #[u0, .int .i64 r.2]) ∧ Hp S w0 w' (Res.sl Ek.f64 33 u0 r.1 :: ow)) := by
  unfold f_pulse_makers_1_26_2 at h
  refine enter (n := 5) (args := [.int .i64 (8 : Int)]) Try.func26 rfl rfl (Nat.le_of_ble_eq_true rfl) fun a hf => ?_
  replace hf : Fr 5 a [(0, .int .i64 (8 : Int))] := hf
  refine wp_mono (Q := fun e a w => e = .ret ∧ ∃ (u0 : Value), Fr 5 a [(2, u0), (3, .int .i64 r.2)] ∧ Hp S w0 w (Res.sl Ek.f64 33 u0 r.1 :: ow)) ?_ ?_
  rotate_left
  · rintro e a w ⟨rfl, x0, hf, hp⟩
    exact ret2 hf rfl rfl rfl ⟨x0, rfl, hp⟩
  refine wp_seq ?_
  refine wp_reg ?_
  refine st_assign hf rfl rfl (by decide) ?_
  clear hf; intro a ha hf; clear ha
  refine st_assign hf rfl rfl (by decide) ?_
  clear hf; intro a ha hf; clear ha
  refine st_nil hf ?_
  refine th_n ?_
  refine wp_seq ?_
  refine wp_reg ?_
  refine st_build (E := Ek.f64) (xs := [(Fl.bits 4607182418800017408)]) hf (by decide) elt33 Try.underlying26 hp (vals := #[(0, .float .f64 4607182418800017408)]) (cells := #[.float .f64 4607182418800017408]) rfl (by simp [hf.ev (x := (Operand.const (.float .f64 4607182418800017408))) rfl]) (Nat.le_of_ble_eq_true rfl) (Nat.le_of_ble_eq_true rfl) (z := .float .f64 0) (by kernel_rfl) (by kernel_rfl) rfl (reps_cons (cs := [.float .f64 4607182418800017408]) (show Ek.f64.rep [.float .f64 4607182418800017408] (Fl.bits 4607182418800017408) from ⟨_, rfl, rfl⟩) (reps_nil _)) ?_
  clear hf; intro a w v1 hf hp0; clear hp; have hp := hp0; clear hp0
  replace hp : Hp _ _ _ (Res.sl Ek.f64 33 v1 ([(Fl.bits 4607182418800017408)]) :: ow) := hp
  refine st_assign hf rfl rfl (by decide) ?_
  clear hf; intro a ha hf; clear ha
  refine st_assign hf rfl rfl (by decide) ?_
  clear hf; intro a ha hf; clear ha
  refine st_nil hf ?_
  refine th_n ?_
  refine wp_ret ?_
  obtain rfl := Option.some.inj h
  exact ⟨rfl, ⟨_, hf.sub ⟨rfl, rfl, trivial⟩, hp⟩⟩

noncomputable def f_pulse_Named_10_7  : Option ((Int × Int × (List Fl)) × Int) := ((f_pulse_makers).bind fun q3 => (if (false || false) = true then (some (((0 : Int), (0 : Int), []), (1 : Int))) else ((f_pulse_makers_1_26_2).bind fun q10 => (if 0 < q10.1.length then (some (((8 : Int), q10.2, q10.1), (0 : Int))) else none))))
theorem f_pulse_Named_10_7_c {S : Nat → Prop} {w0 w : World} {ow : List Res} (hp : Hp S w0 w ow) {r : ((Int × Int × (List Fl)) × Int)} (h : f_pulse_Named_10_7 = some r) :
    Calls Try.prog 10 #[.string (ByteArray.mk #[115, 112, 105, 107, 101]), .int .i64 (8 : Int)] w (fun e w' => ∃ (u0 : Value), e = .returned (.tuple #[.agg #[.int .i64 r.1.1, .int .i64 r.1.2.1, u0], .int .i64 r.2]) ∧ Hp S w0 w' (Res.sl Ek.f64 33 u0 r.1.2.2 :: ow)) := by
  unfold f_pulse_Named_10_7 at h
  refine enter (n := 39) (args := [.string (ByteArray.mk #[115, 112, 105, 107, 101]), .int .i64 (8 : Int)]) Try.func10 rfl rfl (Nat.le_of_ble_eq_true rfl) fun a hf => ?_
  replace hf : Fr 39 a [(0, .string (ByteArray.mk #[115, 112, 105, 107, 101])), (1, .int .i64 (8 : Int))] := hf
  refine wp_mono (Q := fun e a w => e = .ret ∧ ∃ (u0 : Value) (c0 : Value), Fr 39 a [(4, optr c0 0), (5, .int .i64 r.2)] ∧ Hp S w0 w (Res.obj 28 c0 [.int .i64 r.1.1, .int .i64 r.1.2.1, u0] :: Res.sl Ek.f64 33 u0 r.1.2.2 :: ow)) ?_ ?_
  rotate_left
  · rintro e a w ⟨rfl, x0, c0, hf, hp⟩
    exact retG2 hf rfl ⟨_, _, rfl, hp.ob (i := 0) rfl, .inr ⟨by kernel_rfl, rfl⟩⟩ rfl ⟨x0, rfl, hp.drop⟩
  refine wp_seq ?_
  refine wp_reg ?_
  refine st_alloc (cs := [.int .i64 (0 : Int), .int .i64 (0 : Int), .slice none 0 0]) (zv := .agg #[.int .i64 (0 : Int), .int .i64 (0 : Int), .slice none 0 0]) hf (by decide) (by kernel_rfl) rfl hp rfl ?_
  clear hf; intro a w v1 hf hp0; clear hp; have hp := hp0; clear hp0
  replace hp : Hp _ _ _ (Res.obj 28 v1 [.int .i64 (0 : Int), .int .i64 (0 : Int), .slice none 0 0] :: ow) := hp
  refine st_assign hf rfl rfl (by decide) ?_
  clear hf; intro a ha hf; clear ha
  refine st_nil hf ?_
  refine th_n ?_
  refine wp_seq ?_
  refine wp_reg ?_
  obtain ⟨q3, hcall4, h⟩ := bnd h
  refine st_call hf (by decide) Try.func17 rfl rfl rfl rfl rfl (f_pulse_makers_c hp  hcall4) ?_
  rintro _ w ⟨v5, rfl, hp0⟩
  clear hp; have hp := hp0; clear hp0
  replace hp : Hp _ _ _ (Res.sm v5 [((ByteArray.mk #[115, 112, 105, 107, 101]), .func (.func 26) #[] #[]), ((ByteArray.mk #[98, 111, 120]), .func (.func 27) #[] #[]), ((ByteArray.mk #[116, 101, 110, 116]), .func (.func 29) #[] #[]), ((ByteArray.mk #[115, 111, 102, 116]), .func (.func 30) #[] #[])] :: Res.obj 28 v1 [.int .i64 (0 : Int), .int .i64 (0 : Int), .slice none 0 0] :: ow) := hp
  refine ⟨_, rfl, ?_⟩
  clear hf; intro a hf
  refine st_move hf rfl rfl (by decide) ?_
  clear hf; intro a ha hf; clear ha
  refine st_lookupS (j := 0) (u := .func (.func 26) #[] #[]) hf (by decide) Try.underlying64 Try.underlying9 hp (i := 0) rfl (by rfl) rfl rfl rfl ?_
  clear hf; intro a ha hf; clear ha
  refine st_move hf rfl rfl (by decide) ?_
  clear hf; intro a ha hf; clear ha
  refine st_extract hf (by decide) rfl rfl rfl ?_
  clear hf; intro a ha hf; clear ha
  refine st_extract hf (by decide) rfl rfl rfl ?_
  clear hf; intro a ha hf; clear ha
  refine st_assign hf rfl rfl (by decide) ?_
  clear hf; intro a ha hf; clear ha
  refine st_assign hf rfl rfl (by decide) ?_
  clear hf; intro a ha hf; clear ha
  refine st_nil hf ?_
  refine th_n ?_
  refine wp_seq ?_
  refine wp_seq ?_
  refine wp_reg ?_
  refine st_move hf rfl rfl (by decide) ?_
  clear hf; intro a ha hf; clear ha
  refine st_not hf (by decide) rfl rfl ?_
  clear hf; intro a ha hf; clear ha
  replace hf : Fr _ _ ((17, .bool false) :: _) := hf
  refine st_nil hf ?_
  refine th_n ?_
  refine wp_if hf rfl (fun hb => ?_) (fun hb => ?_)
  · exact absurd hb (by decide)
  refine wp_skip ?_
  refine th_n ?_
  refine wp_seq ?_
  refine wp_seq ?_
  refine wp_reg ?_
  refine st_move hf rfl rfl (by decide) ?_
  clear hf; intro a ha hf; clear ha
  refine st_ilss hf (by decide) rfl rfl rfl ?_
  clear hf; intro a ha hf; clear ha
  replace hf : Fr _ _ ((20, .bool false) :: _) := hf
  refine st_move hf rfl rfl (by decide) ?_
  clear hf; intro a ha hf; clear ha
  refine wpList_cut 3 (fun a w => Fr 39 a [(1, .int .i64 (8 : Int)), (4, optr v1 0), (6, .func (.func 26) #[] #[]), (24, .bool (false || false))] ∧ Hp S w0 w (Res.sm v5 [((ByteArray.mk #[115, 112, 105, 107, 101]), .func (.func 26) #[] #[]), ((ByteArray.mk #[98, 111, 120]), .func (.func 27) #[] #[]), ((ByteArray.mk #[116, 101, 110, 116]), .func (.func 29) #[] #[]), ((ByteArray.mk #[115, 111, 102, 116]), .func (.func 30) #[] #[])] :: Res.obj 28 v1 [.int .i64 (0 : Int), .int .i64 (0 : Int), .slice none 0 0] :: ow)) ?_ ?_
  · rcases Bool.eq_false_or_eq_true false with hb8 | hb8
    · skip
      refine st_skip hf (wantN hf rfl rfl hb8) rfl (by decide) ?_ rfl
      clear hf; intro a hf
      refine st_skip hf (wantN hf rfl rfl hb8) rfl (by decide) ?_ rfl
      clear hf; intro a hf
      refine st_pick (v := .bool true) hf rfl rfl (fun hb' => ?_) (fun hb' => ?_) (by decide) ?_
      · rfl
      · exact absurd (hb8.symm.trans hb') (by decide)
      clear hf; intro a ha hf; clear ha
      refine st_nil hf (th_n ?_)
      exact ⟨hf.sub ⟨rfl, rfl, rfl, (by rw [hb8]; rfl), trivial⟩, hp⟩
    refine st_move hf (wantY hf rfl rfl hb8) rfl (by decide) ?_
    clear hf; intro a ha hf; clear ha
    refine st_igtr hf (by decide) (wantY hf rfl rfl hb8) rfl rfl ?_
    clear hf; intro a ha hf; clear ha
    replace hf : Fr _ _ ((23, .bool false) :: _) := hf
    refine st_pick (v := .bool false) hf rfl rfl (fun hb' => ?_) (fun hb' => ?_) (by decide) ?_
    · exact absurd (hb8.symm.trans hb') (by decide)
    · rfl
    clear hf; intro a ha hf; clear ha
    refine st_nil hf (th_n ?_)
    exact ⟨hf.sub ⟨rfl, rfl, rfl, (by rw [hb8]; rfl), trivial⟩, hp⟩
  rintro a w ⟨hf, hp⟩
  refine st_nil hf ?_
  refine th_n ?_
  refine wp_if hf rfl (fun hb => ?_) (fun hb => ?_)
  · replace h := ifT h hb
    refine wp_seq ?_
    refine wp_reg ?_
    refine st_buildA (vals := []) (cells := [.int .i64 (0 : Int), .int .i64 (0 : Int), .slice none 0 0]) hf (by decide) rfl (by simp []) (fun w => by kernel_rfl) ?_
    clear hf; intro a ha hf; clear ha
    refine st_stO (us := [.int .i64 (0 : Int), .int .i64 (0 : Int), .slice none 0 0]) hf hp (i := 1) rfl rfl rfl rfl rfl (by rfl) (by kernel_rfl) (Nat.le_of_ble_eq_true rfl) ?_
    clear hf; intro a w hf hp0; clear hp; have hp := hp0; clear hp0
    replace hp : Hp _ _ _ (Res.sm v5 [((ByteArray.mk #[115, 112, 105, 107, 101]), .func (.func 26) #[] #[]), ((ByteArray.mk #[98, 111, 120]), .func (.func 27) #[] #[]), ((ByteArray.mk #[116, 101, 110, 116]), .func (.func 29) #[] #[]), ((ByteArray.mk #[115, 111, 102, 116]), .func (.func 30) #[] #[])] :: Res.obj 28 v1 [.int .i64 (0 : Int), .int .i64 (0 : Int), .slice none 0 0] :: ow) := hp
    refine st_assign hf rfl rfl (by decide) ?_
    clear hf; intro a ha hf; clear ha
    refine st_nil hf ?_
    refine th_n ?_
    refine wp_ret ?_
    refine th_r ?_
    obtain rfl := Option.some.inj h
    have hp := hp.nil Ek.f64 33
    have hp : Hp _ _ _ (Res.obj 28 v1 [.int .i64 (0 : Int), .int .i64 (0 : Int), .slice none 0 0] :: Res.sl Ek.f64 33 (.slice none 0 0) ([]) :: ow) := Hp.sel (pre := [Res.sl Ek.f64 33 (.slice none 0 0) ([]), Res.sm v5 [((ByteArray.mk #[115, 112, 105, 107, 101]), .func (.func 26) #[] #[]), ((ByteArray.mk #[98, 111, 120]), .func (.func 27) #[] #[]), ((ByteArray.mk #[116, 101, 110, 116]), .func (.func 29) #[] #[]), ((ByteArray.mk #[115, 111, 102, 116]), .func (.func 30) #[] #[])], Res.obj 28 v1 [.int .i64 (0 : Int), .int .i64 (0 : Int), .slice none 0 0]]) (tail := ow) (rs' := [Res.obj 28 v1 [.int .i64 (0 : Int), .int .i64 (0 : Int), .slice none 0 0], Res.sl Ek.f64 33 (.slice none 0 0) ([])]) hp [2, 0] (by decide) (by simp) rfl
    exact ⟨rfl, ⟨_, _, hf.sub ⟨rfl, rfl, trivial⟩, hp⟩⟩
  replace h := ifF h hb
  refine wp_skip ?_
  refine th_n ?_
  refine wp_seq ?_
  refine wp_reg ?_
  refine st_move hf rfl rfl (by decide) ?_
  clear hf; intro a ha hf; clear ha
  refine st_move hf rfl rfl (by decide) ?_
  clear hf; intro a ha hf; clear ha
  obtain ⟨q10, hcall11, h⟩ := bnd h
  refine st_call hf (by decide) Try.func26 rfl rfl rfl rfl rfl (f_pulse_makers_1_26_2_c hp  hcall11) ?_
  rintro _ w ⟨v12, rfl, hp0⟩
  clear hp; have hp := hp0; clear hp0
  replace hp : Hp _ _ _ (Res.sl Ek.f64 33 v12 q10.1 :: Res.sm v5 [((ByteArray.mk #[115, 112, 105, 107, 101]), .func (.func 26) #[] #[]), ((ByteArray.mk #[98, 111, 120]), .func (.func 27) #[] #[]), ((ByteArray.mk #[116, 101, 110, 116]), .func (.func 29) #[] #[]), ((ByteArray.mk #[115, 111, 102, 116]), .func (.func 30) #[] #[])] :: Res.obj 28 v1 [.int .i64 (0 : Int), .int .i64 (0 : Int), .slice none 0 0] :: ow) := hp
  refine ⟨_, rfl, ?_⟩
  clear hf; intro a hf
  refine st_move hf rfl rfl (by decide) ?_
  clear hf; intro a ha hf; clear ha
  refine st_extract hf (by decide) rfl rfl rfl ?_
  clear hf; intro a ha hf; clear ha
  refine st_extract hf (by decide) rfl rfl rfl ?_
  clear hf; intro a ha hf; clear ha
  refine st_assign hf rfl rfl (by decide) ?_
  clear hf; intro a ha hf; clear ha
  refine st_assign hf rfl rfl (by decide) ?_
  clear hf; intro a ha hf; clear ha
  refine st_nil hf ?_
  refine th_n ?_
  refine wp_seq ?_
  refine wp_seq ?_
  refine wp_reg ?_
  refine st_move hf rfl rfl (by decide) ?_
  clear hf; intro a ha hf; clear ha
  obtain ⟨hc14, h⟩ := chk h
  refine st_slnilE hf (by decide) Try.underlying26 rfl rfl rfl (hp.sl (i := 0) rfl) hc14 ?_
  clear hf; intro a ha hf; clear ha
  refine st_nil hf ?_
  refine th_n ?_
  refine wp_if hf rfl (fun hb => ?_) (fun hb => ?_)
  · exact absurd hb (by decide)
  refine wp_skip ?_
  refine th_n ?_
  refine wp_seq ?_
  refine wp_reg ?_
  refine st_move hf rfl rfl (by decide) ?_
  clear hf; intro a ha hf; clear ha
  refine st_move hf rfl rfl (by decide) ?_
  clear hf; intro a ha hf; clear ha
  refine st_move hf rfl rfl (by decide) ?_
  clear hf; intro a ha hf; clear ha
  refine st_buildA (vals := [(0, .int .i64 (8 : Int)), (1, .int .i64 q10.2), (2, v12)]) (cells := [.int .i64 (8 : Int), .int .i64 q10.2, v12]) hf (by decide) rfl (by simp [hf.ev (x := (Operand.tmp 35)) rfl, hf.ev (x := (Operand.tmp 36)) rfl, hf.ev (x := (Operand.tmp 37)) rfl]) (fun w => by obtain ⟨_, _, rfl⟩ := (hp.sl (i := 0) rfl).shapeV; kernel_rfl) ?_
  clear hf; intro a ha hf; clear ha
  refine st_stO (us := [.int .i64 (8 : Int), .int .i64 q10.2, v12]) hf hp (i := 2) rfl rfl rfl rfl rfl (by first | rfl | (obtain ⟨_, _, rfl⟩ := (hp.sl (i := 0) rfl).shapeV; rfl)) (by kernel_rfl) (Nat.le_of_ble_eq_true rfl) ?_
  clear hf; intro a w hf hp0; clear hp; have hp := hp0; clear hp0
  replace hp : Hp _ _ _ (Res.sl Ek.f64 33 v12 q10.1 :: Res.sm v5 [((ByteArray.mk #[115, 112, 105, 107, 101]), .func (.func 26) #[] #[]), ((ByteArray.mk #[98, 111, 120]), .func (.func 27) #[] #[]), ((ByteArray.mk #[116, 101, 110, 116]), .func (.func 29) #[] #[]), ((ByteArray.mk #[115, 111, 102, 116]), .func (.func 30) #[] #[])] :: Res.obj 28 v1 [.int .i64 (8 : Int), .int .i64 q10.2, v12] :: ow) := hp
  refine st_assign hf rfl rfl (by decide) ?_
  clear hf; intro a ha hf; clear ha
  refine st_nil hf ?_
  refine th_n ?_
  refine wp_ret ?_
  obtain rfl := Option.some.inj h
  have hp : Hp _ _ _ (Res.obj 28 v1 [.int .i64 (8 : Int), .int .i64 q10.2, v12] :: Res.sl Ek.f64 33 v12 q10.1 :: ow) := Hp.sel (pre := [Res.sl Ek.f64 33 v12 q10.1, Res.sm v5 [((ByteArray.mk #[115, 112, 105, 107, 101]), .func (.func 26) #[] #[]), ((ByteArray.mk #[98, 111, 120]), .func (.func 27) #[] #[]), ((ByteArray.mk #[116, 101, 110, 116]), .func (.func 29) #[] #[]), ((ByteArray.mk #[115, 111, 102, 116]), .func (.func 30) #[] #[])], Res.obj 28 v1 [.int .i64 (8 : Int), .int .i64 q10.2, v12]]) (tail := ow) (rs' := [Res.obj 28 v1 [.int .i64 (8 : Int), .int .i64 q10.2, v12], Res.sl Ek.f64 33 v12 q10.1]) hp [2, 0] (by decide) (by simp) rfl
  exact ⟨rfl, ⟨_, _, hf.sub ⟨rfl, rfl, trivial⟩, hp⟩⟩

noncomputable def f_foghorntop_rated (n0 : Int) : Option ((Int × Int × (List Fl)) × Int) := ((f_foghorntop_mod n0 (8 : Int)).bind fun q3 => (if (q3 == (0 : Int)) = true then ((f_pulse_Named).bind fun q5 => (some ((q5.1.1, q5.1.2.1, q5.1.2.2), q5.2))) else (if (q3 == (1 : Int)) = true then ((f_pulse_Named_10).bind fun q9 => (some ((q9.1.1, q9.1.2.1, q9.1.2.2), q9.2))) else (if (q3 == (2 : Int)) = true then ((f_pulse_Named_10_2).bind fun q13 => (some ((q13.1.1, q13.1.2.1, q13.1.2.2), q13.2))) else (if (q3 == (3 : Int)) = true then ((f_pulse_Named_10_3).bind fun q17 => (some ((q17.1.1, q17.1.2.1, q17.1.2.2), q17.2))) else (if (q3 == (4 : Int)) = true then ((f_pulse_Named_10_4).bind fun q21 => (some ((q21.1.1, q21.1.2.1, q21.1.2.2), q21.2))) else (if (q3 == (5 : Int)) = true then ((f_pulse_Named_10_5).bind fun q25 => (some ((q25.1.1, q25.1.2.1, q25.1.2.2), q25.2))) else (if (q3 == (6 : Int)) = true then ((f_pulse_Named_10_6).bind fun q29 => (some ((q29.1.1, q29.1.2.1, q29.1.2.2), q29.2))) else ((f_pulse_Named_10_7).bind fun q33 => (some ((q33.1.1, q33.1.2.1, q33.1.2.2), q33.2)))))))))))
theorem f_foghorntop_rated_c {S : Nat → Prop} {w0 w : World} {ow : List Res} (hp : Hp S w0 w ow) (n0 : Int) {r : ((Int × Int × (List Fl)) × Int)} (h : f_foghorntop_rated n0 = some r) :
    Calls Try.prog 4 #[.int .i64 n0] w (fun e w' => ∃ (u0 : Value), e = .returned (.tuple #[.agg #[.int .i64 r.1.1, .int .i64 r.1.2.1, u0], .int .i64 r.2]) ∧ Hp S w0 w' (Res.sl Ek.f64 33 u0 r.1.2.2 :: ow)) := by
  unfold f_foghorntop_rated at h
  refine enter (n := 44) (args := [.int .i64 n0]) Try.func4 rfl rfl (Nat.le_of_ble_eq_true rfl) fun a hf => ?_
  replace hf : Fr 44 a [(0, .int .i64 n0)] := hf
  refine wp_mono (Q := fun e a w => e = .ret ∧ ∃ (u0 : Value) (c0 : Value), Fr 44 a [(2, optr c0 0), (3, .int .i64 r.2)] ∧ Hp S w0 w (Res.obj 28 c0 [.int .i64 r.1.1, .int .i64 r.1.2.1, u0] :: Res.sl Ek.f64 33 u0 r.1.2.2 :: ow)) ?_ ?_
  rotate_left
  · rintro e a w ⟨rfl, x0, c0, hf, hp⟩
    exact retG2 hf rfl ⟨_, _, rfl, hp.ob (i := 0) rfl, .inr ⟨by kernel_rfl, rfl⟩⟩ rfl ⟨x0, rfl, hp.drop⟩
  refine wp_seq ?_
  refine wp_reg ?_
  refine st_alloc (cs := [.int .i64 (0 : Int), .int .i64 (0 : Int), .slice none 0 0]) (zv := .agg #[.int .i64 (0 : Int), .int .i64 (0 : Int), .slice none 0 0]) hf (by decide) (by kernel_rfl) rfl hp rfl ?_
  clear hf; intro a w v1 hf hp0; clear hp; have hp := hp0; clear hp0
  replace hp : Hp _ _ _ (Res.obj 28 v1 [.int .i64 (0 : Int), .int .i64 (0 : Int), .slice none 0 0] :: ow) := hp
  refine st_assign hf rfl rfl (by decide) ?_
  clear hf; intro a ha hf; clear ha
  refine st_nil hf ?_
  refine th_n ?_
  refine wp_seq ?_
  refine wp_seq ?_
  refine wp_reg ?_
  refine st_move hf rfl rfl (by decide) ?_
  clear hf; intro a ha hf; clear ha
  obtain ⟨q3, hcall4, h⟩ := bnd h
  refine st_call hf (by decide) Try.func6 rfl rfl rfl rfl rfl (f_foghorntop_mod_c hp _ _ hcall4) ?_
  rintro _ w ⟨rfl, hp0⟩
  clear hp; have hp := hp0; clear hp0
  replace hp : Hp _ _ _ (Res.obj 28 v1 [.int .i64 (0 : Int), .int .i64 (0 : Int), .slice none 0 0] :: ow) := hp
  refine ⟨_, rfl, ?_⟩
  clear hf; intro a hf
  refine st_nil hf ?_
  refine th_n ?_
  refine wp_block ?_
  refine wp_seq ?_
  refine wp_reg ?_
  refine st_ieql hf (by decide) rfl rfl rfl ?_
  clear hf; intro a ha hf; clear ha
  refine st_assign hf rfl rfl (by decide) ?_
  clear hf; intro a ha hf; clear ha
  refine st_nil hf ?_
  refine th_n ?_
  refine wp_if hf rfl (fun hb => ?_) (fun hb => ?_)
  · replace h := ifT h hb
    refine wp_seq ?_
    refine wp_reg ?_
    obtain ⟨q5, hcall6, h⟩ := bnd h
    refine st_call hf (by decide) Try.func10 rfl rfl rfl rfl rfl (f_pulse_Named_c hp  hcall6) ?_
    rintro _ w ⟨v7, rfl, hp0⟩
    clear hp; have hp := hp0; clear hp0
    replace hp : Hp _ _ _ (Res.sl Ek.f64 33 v7 q5.1.2.2 :: Res.obj 28 v1 [.int .i64 (0 : Int), .int .i64 (0 : Int), .slice none 0 0] :: ow) := hp
    refine ⟨_, rfl, ?_⟩
    clear hf; intro a hf
    refine st_extract hf (by decide) rfl rfl rfl ?_
    clear hf; intro a ha hf; clear ha
    refine st_extract hf (by decide) rfl rfl rfl ?_
    clear hf; intro a ha hf; clear ha
    refine st_stO (us := [.int .i64 q5.1.1, .int .i64 q5.1.2.1, v7]) hf hp (i := 1) rfl rfl rfl rfl rfl (by first | rfl | (obtain ⟨_, _, rfl⟩ := (hp.sl (i := 0) rfl).shapeV; rfl)) (by kernel_rfl) (Nat.le_of_ble_eq_true rfl) ?_
    clear hf; intro a w hf hp0; clear hp; have hp := hp0; clear hp0
    replace hp : Hp _ _ _ (Res.sl Ek.f64 33 v7 q5.1.2.2 :: Res.obj 28 v1 [.int .i64 q5.1.1, .int .i64 q5.1.2.1, v7] :: ow) := hp
    refine st_assign hf rfl rfl (by decide) ?_
    clear hf; intro a ha hf; clear ha
    refine st_nil hf ?_
    refine th_n ?_
    refine wp_ret ?_
    refine ib_r ?_
    refine th_r ?_
    obtain rfl := Option.some.inj h
    have hp : Hp _ _ _ (Res.obj 28 v1 [.int .i64 q5.1.1, .int .i64 q5.1.2.1, v7] :: Res.sl Ek.f64 33 v7 q5.1.2.2 :: ow) := Hp.sel (pre := [Res.sl Ek.f64 33 v7 q5.1.2.2, Res.obj 28 v1 [.int .i64 q5.1.1, .int .i64 q5.1.2.1, v7]]) (tail := ow) (rs' := [Res.obj 28 v1 [.int .i64 q5.1.1, .int .i64 q5.1.2.1, v7], Res.sl Ek.f64 33 v7 q5.1.2.2]) hp [1, 0] (by decide) (by simp) rfl
    exact ⟨rfl, ⟨_, _, hf.sub ⟨rfl, rfl, trivial⟩, hp⟩⟩
  replace h := ifF h hb
  refine wp_seq ?_
  refine wp_reg ?_
  refine st_ieql hf (by decide) rfl rfl rfl ?_
  clear hf; intro a ha hf; clear ha
  refine st_assign hf rfl rfl (by decide) ?_
  clear hf; intro a ha hf; clear ha
  refine st_nil hf ?_
  refine th_n ?_
  refine wp_if hf rfl (fun hb => ?_) (fun hb => ?_)
  · replace h := ifT h hb
    refine wp_seq ?_
    refine wp_reg ?_
    obtain ⟨q9, hcall10, h⟩ := bnd h
    refine st_call hf (by decide) Try.func10 rfl rfl rfl rfl rfl (f_pulse_Named_10_c hp  hcall10) ?_
    rintro _ w ⟨v11, rfl, hp0⟩
    clear hp; have hp := hp0; clear hp0
    replace hp : Hp _ _ _ (Res.sl Ek.f64 33 v11 q9.1.2.2 :: Res.obj 28 v1 [.int .i64 (0 : Int), .int .i64 (0 : Int), .slice none 0 0] :: ow) := hp
    refine ⟨_, rfl, ?_⟩
    clear hf; intro a hf
    refine st_extract hf (by decide) rfl rfl rfl ?_
    clear hf; intro a ha hf; clear ha
    refine st_extract hf (by decide) rfl rfl rfl ?_
    clear hf; intro a ha hf; clear ha
    refine st_stO (us := [.int .i64 q9.1.1, .int .i64 q9.1.2.1, v11]) hf hp (i := 1) rfl rfl rfl rfl rfl (by first | rfl | (obtain ⟨_, _, rfl⟩ := (hp.sl (i := 0) rfl).shapeV; rfl)) (by kernel_rfl) (Nat.le_of_ble_eq_true rfl) ?_
    clear hf; intro a w hf hp0; clear hp; have hp := hp0; clear hp0
    replace hp : Hp _ _ _ (Res.sl Ek.f64 33 v11 q9.1.2.2 :: Res.obj 28 v1 [.int .i64 q9.1.1, .int .i64 q9.1.2.1, v11] :: ow) := hp
    refine st_assign hf rfl rfl (by decide) ?_
    clear hf; intro a ha hf; clear ha
    refine st_nil hf ?_
    refine th_n ?_
    refine wp_ret ?_
    refine ib_r ?_
    refine th_r ?_
    obtain rfl := Option.some.inj h
    have hp : Hp _ _ _ (Res.obj 28 v1 [.int .i64 q9.1.1, .int .i64 q9.1.2.1, v11] :: Res.sl Ek.f64 33 v11 q9.1.2.2 :: ow) := Hp.sel (pre := [Res.sl Ek.f64 33 v11 q9.1.2.2, Res.obj 28 v1 [.int .i64 q9.1.1, .int .i64 q9.1.2.1, v11]]) (tail := ow) (rs' := [Res.obj 28 v1 [.int .i64 q9.1.1, .int .i64 q9.1.2.1, v11], Res.sl Ek.f64 33 v11 q9.1.2.2]) hp [1, 0] (by decide) (by simp) rfl
    exact ⟨rfl, ⟨_, _, hf.sub ⟨rfl, rfl, trivial⟩, hp⟩⟩
  replace h := ifF h hb
  refine wp_seq ?_
  refine wp_reg ?_
  refine st_ieql hf (by decide) rfl rfl rfl ?_
  clear hf; intro a ha hf; clear ha
  refine st_assign hf rfl rfl (by decide) ?_
  clear hf; intro a ha hf; clear ha
  refine st_nil hf ?_
  refine th_n ?_
  refine wp_if hf rfl (fun hb => ?_) (fun hb => ?_)
  · replace h := ifT h hb
    refine wp_seq ?_
    refine wp_reg ?_
    obtain ⟨q13, hcall14, h⟩ := bnd h
    refine st_call hf (by decide) Try.func10 rfl rfl rfl rfl rfl (f_pulse_Named_10_2_c hp  hcall14) ?_
    rintro _ w ⟨v15, rfl, hp0⟩
    clear hp; have hp := hp0; clear hp0
    replace hp : Hp _ _ _ (Res.sl Ek.f64 33 v15 q13.1.2.2 :: Res.obj 28 v1 [.int .i64 (0 : Int), .int .i64 (0 : Int), .slice none 0 0] :: ow) := hp
    refine ⟨_, rfl, ?_⟩
    clear hf; intro a hf
    refine st_extract hf (by decide) rfl rfl rfl ?_
    clear hf; intro a ha hf; clear ha
    refine st_extract hf (by decide) rfl rfl rfl ?_
    clear hf; intro a ha hf; clear ha
    refine st_stO (us := [.int .i64 q13.1.1, .int .i64 q13.1.2.1, v15]) hf hp (i := 1) rfl rfl rfl rfl rfl (by first | rfl | (obtain ⟨_, _, rfl⟩ := (hp.sl (i := 0) rfl).shapeV; rfl)) (by kernel_rfl) (Nat.le_of_ble_eq_true rfl) ?_
    clear hf; intro a w hf hp0; clear hp; have hp := hp0; clear hp0
    replace hp : Hp _ _ _ (Res.sl Ek.f64 33 v15 q13.1.2.2 :: Res.obj 28 v1 [.int .i64 q13.1.1, .int .i64 q13.1.2.1, v15] :: ow) := hp
    refine st_assign hf rfl rfl (by decide) ?_
    clear hf; intro a ha hf; clear ha
    refine st_nil hf ?_
    refine th_n ?_
    refine wp_ret ?_
    refine ib_r ?_
    refine th_r ?_
    obtain rfl := Option.some.inj h
    have hp : Hp _ _ _ (Res.obj 28 v1 [.int .i64 q13.1.1, .int .i64 q13.1.2.1, v15] :: Res.sl Ek.f64 33 v15 q13.1.2.2 :: ow) := Hp.sel (pre := [Res.sl Ek.f64 33 v15 q13.1.2.2, Res.obj 28 v1 [.int .i64 q13.1.1, .int .i64 q13.1.2.1, v15]]) (tail := ow) (rs' := [Res.obj 28 v1 [.int .i64 q13.1.1, .int .i64 q13.1.2.1, v15], Res.sl Ek.f64 33 v15 q13.1.2.2]) hp [1, 0] (by decide) (by simp) rfl
    exact ⟨rfl, ⟨_, _, hf.sub ⟨rfl, rfl, trivial⟩, hp⟩⟩
  replace h := ifF h hb
  refine wp_seq ?_
  refine wp_reg ?_
  refine st_ieql hf (by decide) rfl rfl rfl ?_
  clear hf; intro a ha hf; clear ha
  refine st_assign hf rfl rfl (by decide) ?_
  clear hf; intro a ha hf; clear ha
  refine st_nil hf ?_
  refine th_n ?_
  refine wp_if hf rfl (fun hb => ?_) (fun hb => ?_)
  · replace h := ifT h hb
    refine wp_seq ?_
    refine wp_reg ?_
    obtain ⟨q17, hcall18, h⟩ := bnd h
    refine st_call hf (by decide) Try.func10 rfl rfl rfl rfl rfl (f_pulse_Named_10_3_c hp  hcall18) ?_
    rintro _ w ⟨v19, rfl, hp0⟩
    clear hp; have hp := hp0; clear hp0
    replace hp : Hp _ _ _ (Res.sl Ek.f64 33 v19 q17.1.2.2 :: Res.obj 28 v1 [.int .i64 (0 : Int), .int .i64 (0 : Int), .slice none 0 0] :: ow) := hp
    refine ⟨_, rfl, ?_⟩
    clear hf; intro a hf
    refine st_extract hf (by decide) rfl rfl rfl ?_
    clear hf; intro a ha hf; clear ha
    refine st_extract hf (by decide) rfl rfl rfl ?_
    clear hf; intro a ha hf; clear ha
    refine st_stO (us := [.int .i64 q17.1.1, .int .i64 q17.1.2.1, v19]) hf hp (i := 1) rfl rfl rfl rfl rfl (by first | rfl | (obtain ⟨_, _, rfl⟩ := (hp.sl (i := 0) rfl).shapeV; rfl)) (by kernel_rfl) (Nat.le_of_ble_eq_true rfl) ?_
    clear hf; intro a w hf hp0; clear hp; have hp := hp0; clear hp0
    replace hp : Hp _ _ _ (Res.sl Ek.f64 33 v19 q17.1.2.2 :: Res.obj 28 v1 [.int .i64 q17.1.1, .int .i64 q17.1.2.1, v19] :: ow) := hp
    refine st_assign hf rfl rfl (by decide) ?_
    clear hf; intro a ha hf; clear ha
    refine st_nil hf ?_
    refine th_n ?_
    refine wp_ret ?_
    refine ib_r ?_
    refine th_r ?_
    obtain rfl := Option.some.inj h
    have hp : Hp _ _ _ (Res.obj 28 v1 [.int .i64 q17.1.1, .int .i64 q17.1.2.1, v19] :: Res.sl Ek.f64 33 v19 q17.1.2.2 :: ow) := Hp.sel (pre := [Res.sl Ek.f64 33 v19 q17.1.2.2, Res.obj 28 v1 [.int .i64 q17.1.1, .int .i64 q17.1.2.1, v19]]) (tail := ow) (rs' := [Res.obj 28 v1 [.int .i64 q17.1.1, .int .i64 q17.1.2.1, v19], Res.sl Ek.f64 33 v19 q17.1.2.2]) hp [1, 0] (by decide) (by simp) rfl
    exact ⟨rfl, ⟨_, _, hf.sub ⟨rfl, rfl, trivial⟩, hp⟩⟩
  replace h := ifF h hb
  refine wp_seq ?_
  refine wp_reg ?_
  refine st_ieql hf (by decide) rfl rfl rfl ?_
  clear hf; intro a ha hf; clear ha
  refine st_assign hf rfl rfl (by decide) ?_
  clear hf; intro a ha hf; clear ha
  refine st_nil hf ?_
  refine th_n ?_
  refine wp_if hf rfl (fun hb => ?_) (fun hb => ?_)
  · replace h := ifT h hb
    refine wp_seq ?_
    refine wp_reg ?_
    obtain ⟨q21, hcall22, h⟩ := bnd h
    refine st_call hf (by decide) Try.func10 rfl rfl rfl rfl rfl (f_pulse_Named_10_4_c hp  hcall22) ?_
    rintro _ w ⟨v23, rfl, hp0⟩
    clear hp; have hp := hp0; clear hp0
    replace hp : Hp _ _ _ (Res.sl Ek.f64 33 v23 q21.1.2.2 :: Res.obj 28 v1 [.int .i64 (0 : Int), .int .i64 (0 : Int), .slice none 0 0] :: ow) := hp
    refine ⟨_, rfl, ?_⟩
    clear hf; intro a hf
    refine st_extract hf (by decide) rfl rfl rfl ?_
    clear hf; intro a ha hf; clear ha
    refine st_extract hf (by decide) rfl rfl rfl ?_
    clear hf; intro a ha hf; clear ha
    refine st_stO (us := [.int .i64 q21.1.1, .int .i64 q21.1.2.1, v23]) hf hp (i := 1) rfl rfl rfl rfl rfl (by first | rfl | (obtain ⟨_, _, rfl⟩ := (hp.sl (i := 0) rfl).shapeV; rfl)) (by kernel_rfl) (Nat.le_of_ble_eq_true rfl) ?_
    clear hf; intro a w hf hp0; clear hp; have hp := hp0; clear hp0
    replace hp : Hp _ _ _ (Res.sl Ek.f64 33 v23 q21.1.2.2 :: Res.obj 28 v1 [.int .i64 q21.1.1, .int .i64 q21.1.2.1, v23] :: ow) := hp
    refine st_assign hf rfl rfl (by decide) ?_
    clear hf; intro a ha hf; clear ha
    refine st_nil hf ?_
    refine th_n ?_
    refine wp_ret ?_
    refine ib_r ?_
    refine th_r ?_
    obtain rfl := Option.some.inj h
    have hp : Hp _ _ _ (Res.obj 28 v1 [.int .i64 q21.1.1, .int .i64 q21.1.2.1, v23] :: Res.sl Ek.f64 33 v23 q21.1.2.2 :: ow) := Hp.sel (pre := [Res.sl Ek.f64 33 v23 q21.1.2.2, Res.obj 28 v1 [.int .i64 q21.1.1, .int .i64 q21.1.2.1, v23]]) (tail := ow) (rs' := [Res.obj 28 v1 [.int .i64 q21.1.1, .int .i64 q21.1.2.1, v23], Res.sl Ek.f64 33 v23 q21.1.2.2]) hp [1, 0] (by decide) (by simp) rfl
    exact ⟨rfl, ⟨_, _, hf.sub ⟨rfl, rfl, trivial⟩, hp⟩⟩
  replace h := ifF h hb
  refine wp_seq ?_
  refine wp_reg ?_
  refine st_ieql hf (by decide) rfl rfl rfl ?_
  clear hf; intro a ha hf; clear ha
  refine st_assign hf rfl rfl (by decide) ?_
  clear hf; intro a ha hf; clear ha
  refine st_nil hf ?_
  refine th_n ?_
  refine wp_if hf rfl (fun hb => ?_) (fun hb => ?_)
  · replace h := ifT h hb
    refine wp_seq ?_
    refine wp_reg ?_
    obtain ⟨q25, hcall26, h⟩ := bnd h
    refine st_call hf (by decide) Try.func10 rfl rfl rfl rfl rfl (f_pulse_Named_10_5_c hp  hcall26) ?_
    rintro _ w ⟨v27, rfl, hp0⟩
    clear hp; have hp := hp0; clear hp0
    replace hp : Hp _ _ _ (Res.sl Ek.f64 33 v27 q25.1.2.2 :: Res.obj 28 v1 [.int .i64 (0 : Int), .int .i64 (0 : Int), .slice none 0 0] :: ow) := hp
    refine ⟨_, rfl, ?_⟩
    clear hf; intro a hf
    refine st_extract hf (by decide) rfl rfl rfl ?_
    clear hf; intro a ha hf; clear ha
    refine st_extract hf (by decide) rfl rfl rfl ?_
    clear hf; intro a ha hf; clear ha
    refine st_stO (us := [.int .i64 q25.1.1, .int .i64 q25.1.2.1, v27]) hf hp (i := 1) rfl rfl rfl rfl rfl (by first | rfl | (obtain ⟨_, _, rfl⟩ := (hp.sl (i := 0) rfl).shapeV; rfl)) (by kernel_rfl) (Nat.le_of_ble_eq_true rfl) ?_
    clear hf; intro a w hf hp0; clear hp; have hp := hp0; clear hp0
    replace hp : Hp _ _ _ (Res.sl Ek.f64 33 v27 q25.1.2.2 :: Res.obj 28 v1 [.int .i64 q25.1.1, .int .i64 q25.1.2.1, v27] :: ow) := hp
    refine st_assign hf rfl rfl (by decide) ?_
    clear hf; intro a ha hf; clear ha
    refine st_nil hf ?_
    refine th_n ?_
    refine wp_ret ?_
    refine ib_r ?_
    refine th_r ?_
    obtain rfl := Option.some.inj h
    have hp : Hp _ _ _ (Res.obj 28 v1 [.int .i64 q25.1.1, .int .i64 q25.1.2.1, v27] :: Res.sl Ek.f64 33 v27 q25.1.2.2 :: ow) := Hp.sel (pre := [Res.sl Ek.f64 33 v27 q25.1.2.2, Res.obj 28 v1 [.int .i64 q25.1.1, .int .i64 q25.1.2.1, v27]]) (tail := ow) (rs' := [Res.obj 28 v1 [.int .i64 q25.1.1, .int .i64 q25.1.2.1, v27], Res.sl Ek.f64 33 v27 q25.1.2.2]) hp [1, 0] (by decide) (by simp) rfl
    exact ⟨rfl, ⟨_, _, hf.sub ⟨rfl, rfl, trivial⟩, hp⟩⟩
  replace h := ifF h hb
  refine wp_seq ?_
  refine wp_reg ?_
  refine st_ieql hf (by decide) rfl rfl rfl ?_
  clear hf; intro a ha hf; clear ha
  refine st_assign hf rfl rfl (by decide) ?_
  clear hf; intro a ha hf; clear ha
  refine st_nil hf ?_
  refine th_n ?_
  refine wp_if hf rfl (fun hb => ?_) (fun hb => ?_)
  · replace h := ifT h hb
    refine wp_seq ?_
    refine wp_reg ?_
    obtain ⟨q29, hcall30, h⟩ := bnd h
    refine st_call hf (by decide) Try.func10 rfl rfl rfl rfl rfl (f_pulse_Named_10_6_c hp  hcall30) ?_
    rintro _ w ⟨v31, rfl, hp0⟩
    clear hp; have hp := hp0; clear hp0
    replace hp : Hp _ _ _ (Res.sl Ek.f64 33 v31 q29.1.2.2 :: Res.obj 28 v1 [.int .i64 (0 : Int), .int .i64 (0 : Int), .slice none 0 0] :: ow) := hp
    refine ⟨_, rfl, ?_⟩
    clear hf; intro a hf
    refine st_extract hf (by decide) rfl rfl rfl ?_
    clear hf; intro a ha hf; clear ha
    refine st_extract hf (by decide) rfl rfl rfl ?_
    clear hf; intro a ha hf; clear ha
    refine st_stO (us := [.int .i64 q29.1.1, .int .i64 q29.1.2.1, v31]) hf hp (i := 1) rfl rfl rfl rfl rfl (by first | rfl | (obtain ⟨_, _, rfl⟩ := (hp.sl (i := 0) rfl).shapeV; rfl)) (by kernel_rfl) (Nat.le_of_ble_eq_true rfl) ?_
    clear hf; intro a w hf hp0; clear hp; have hp := hp0; clear hp0
    replace hp : Hp _ _ _ (Res.sl Ek.f64 33 v31 q29.1.2.2 :: Res.obj 28 v1 [.int .i64 q29.1.1, .int .i64 q29.1.2.1, v31] :: ow) := hp
    refine st_assign hf rfl rfl (by decide) ?_
    clear hf; intro a ha hf; clear ha
    refine st_nil hf ?_
    refine th_n ?_
    refine wp_ret ?_
    refine ib_r ?_
    refine th_r ?_
    obtain rfl := Option.some.inj h
    have hp : Hp _ _ _ (Res.obj 28 v1 [.int .i64 q29.1.1, .int .i64 q29.1.2.1, v31] :: Res.sl Ek.f64 33 v31 q29.1.2.2 :: ow) := Hp.sel (pre := [Res.sl Ek.f64 33 v31 q29.1.2.2, Res.obj 28 v1 [.int .i64 q29.1.1, .int .i64 q29.1.2.1, v31]]) (tail := ow) (rs' := [Res.obj 28 v1 [.int .i64 q29.1.1, .int .i64 q29.1.2.1, v31], Res.sl Ek.f64 33 v31 q29.1.2.2]) hp [1, 0] (by decide) (by simp) rfl
    exact ⟨rfl, ⟨_, _, hf.sub ⟨rfl, rfl, trivial⟩, hp⟩⟩
  replace h := ifF h hb
  refine wp_skip ?_
  refine ib_n ?_
  refine th_n ?_
  refine wp_seq ?_
  refine wp_reg ?_
  obtain ⟨q33, hcall34, h⟩ := bnd h
  refine st_call hf (by decide) Try.func10 rfl rfl rfl rfl rfl (f_pulse_Named_10_7_c hp  hcall34) ?_
  rintro _ w ⟨v35, rfl, hp0⟩
  clear hp; have hp := hp0; clear hp0
  replace hp : Hp _ _ _ (Res.sl Ek.f64 33 v35 q33.1.2.2 :: Res.obj 28 v1 [.int .i64 (0 : Int), .int .i64 (0 : Int), .slice none 0 0] :: ow) := hp
  refine ⟨_, rfl, ?_⟩
  clear hf; intro a hf
  refine st_extract hf (by decide) rfl rfl rfl ?_
  clear hf; intro a ha hf; clear ha
  refine st_extract hf (by decide) rfl rfl rfl ?_
  clear hf; intro a ha hf; clear ha
  refine st_stO (us := [.int .i64 q33.1.1, .int .i64 q33.1.2.1, v35]) hf hp (i := 1) rfl rfl rfl rfl rfl (by first | rfl | (obtain ⟨_, _, rfl⟩ := (hp.sl (i := 0) rfl).shapeV; rfl)) (by kernel_rfl) (Nat.le_of_ble_eq_true rfl) ?_
  clear hf; intro a w hf hp0; clear hp; have hp := hp0; clear hp0
  replace hp : Hp _ _ _ (Res.sl Ek.f64 33 v35 q33.1.2.2 :: Res.obj 28 v1 [.int .i64 q33.1.1, .int .i64 q33.1.2.1, v35] :: ow) := hp
  refine st_assign hf rfl rfl (by decide) ?_
  clear hf; intro a ha hf; clear ha
  refine st_nil hf ?_
  refine th_n ?_
  refine wp_ret ?_
  obtain rfl := Option.some.inj h
  have hp : Hp _ _ _ (Res.obj 28 v1 [.int .i64 q33.1.1, .int .i64 q33.1.2.1, v35] :: Res.sl Ek.f64 33 v35 q33.1.2.2 :: ow) := Hp.sel (pre := [Res.sl Ek.f64 33 v35 q33.1.2.2, Res.obj 28 v1 [.int .i64 q33.1.1, .int .i64 q33.1.2.1, v35]]) (tail := ow) (rs' := [Res.obj 28 v1 [.int .i64 q33.1.1, .int .i64 q33.1.2.1, v35], Res.sl Ek.f64 33 v35 q33.1.2.2]) hp [1, 0] (by decide) (by simp) rfl
  exact ⟨rfl, ⟨_, _, hf.sub ⟨rfl, rfl, trivial⟩, hp⟩⟩

noncomputable def f_foghorntop_quarter (zx0 : (Fl × Fl)) (n1 : Int) : Option (Fl × Fl) := ((f_foghorntop_mod n1 (4 : Int)).bind fun q1 => (if (q1 == (1 : Int)) = true then (some ((fneg zx0.2), zx0.1)) else (if (q1 == (2 : Int)) = true then (some ((fneg zx0.1), (fneg zx0.2))) else (if (q1 == (3 : Int)) = true then (some (zx0.2, (fneg zx0.1))) else (some zx0)))))
theorem f_foghorntop_quarter_c {S : Nat → Prop} {w0 w : World} {ow : List Res} (hp : Hp S w0 w ow) (bzx0 czx0 : Nat) (zx0 : Fl × Fl) (hzx0 : zx0.1.rep bzx0) (kzx0 : zx0.2.rep czx0) (n1 : Int) {r : (Fl × Fl)} (h : f_foghorntop_quarter zx0 n1 = some r) :
    Calls Try.prog 7 #[.complex .f64 bzx0 czx0, .int .i64 n1] w (fun e w' => ∃ (b0 : Nat) (b1 : Nat), e = .returned (.complex .f64 b0 b1) ∧ Fl.rep b0 r.1 ∧ Fl.rep b1 r.2 ∧ Hp S w0 w' (ow)) := by
  unfold f_foghorntop_quarter at h
  refine enter (n := 33) (args := [.complex .f64 bzx0 czx0, .int .i64 n1]) Try.func7 rfl rfl (Nat.le_of_ble_eq_true rfl) fun a hf => ?_
  replace hf : Fr 33 a [(0, .complex .f64 bzx0 czx0), (1, .int .i64 n1)] := hf
  refine wp_mono (Q := fun e a w => e = .ret ∧ ∃ (b0 : Nat) (b1 : Nat), Fr 33 a [(4, .complex .f64 b0 b1)] ∧ Fl.rep b0 r.1 ∧ Fl.rep b1 r.2 ∧ Hp S w0 w (ow)) ?_ ?_
  rotate_left
  · rintro e a w ⟨rfl, x0, x1, hf, y0, y1, hp⟩
    exact ret1 hf rfl rfl ⟨x0, x1, rfl, y0, y1, hp⟩
  refine wp_seq ?_
  refine wp_reg ?_
  refine st_assign hf rfl rfl (by decide) ?_
  clear hf; intro a ha hf; clear ha
  refine st_nil hf ?_
  refine th_n ?_
  refine wp_seq ?_
  refine wp_reg ?_
  refine st_move hf rfl rfl (by decide) ?_
  clear hf; intro a ha hf; clear ha
  refine st_real hf (by decide) rfl rfl ?_
  clear hf; intro a ha hf; clear ha
  refine st_move hf rfl rfl (by decide) ?_
  clear hf; intro a ha hf; clear ha
  refine st_imag hf (by decide) rfl rfl ?_
  clear hf; intro a ha hf; clear ha
  refine st_assign hf rfl rfl (by decide) ?_
  clear hf; intro a ha hf; clear ha
  refine st_assign hf rfl rfl (by decide) ?_
  clear hf; intro a ha hf; clear ha
  refine st_nil hf ?_
  refine th_n ?_
  refine wp_seq ?_
  refine wp_seq ?_
  refine wp_reg ?_
  refine st_move hf rfl rfl (by decide) ?_
  clear hf; intro a ha hf; clear ha
  obtain ⟨q1, hcall2, h⟩ := bnd h
  refine st_call hf (by decide) Try.func6 rfl rfl rfl rfl rfl (f_foghorntop_mod_c hp _ _ hcall2) ?_
  rintro _ w ⟨rfl, hp0⟩
  clear hp; have hp := hp0; clear hp0
  replace hp : Hp _ _ _ (ow) := hp
  refine ⟨_, rfl, ?_⟩
  clear hf; intro a hf
  refine st_nil hf ?_
  refine th_n ?_
  refine wp_block ?_
  refine wp_seq ?_
  refine wp_reg ?_
  refine st_ieql hf (by decide) rfl rfl rfl ?_
  clear hf; intro a ha hf; clear ha
  refine st_assign hf rfl rfl (by decide) ?_
  clear hf; intro a ha hf; clear ha
  refine st_nil hf ?_
  refine th_n ?_
  refine wp_if hf rfl (fun hb => ?_) (fun hb => ?_)
  · replace h := ifT h hb
    refine wp_seq ?_
    refine wp_reg ?_
    refine st_move hf rfl rfl (by decide) ?_
    clear hf; intro a ha hf; clear ha
    refine st_fneg hf (by decide) rfl rfl ?_
    clear hf; intro a ha hf; clear ha
    refine st_move hf rfl rfl (by decide) ?_
    clear hf; intro a ha hf; clear ha
    refine st_complex hf (by decide) rfl rfl rfl ?_
    clear hf; intro a ha hf; clear ha
    refine st_assign hf rfl rfl (by decide) ?_
    clear hf; intro a ha hf; clear ha
    refine st_nil hf ?_
    refine th_n ?_
    refine wp_ret ?_
    refine ib_r ?_
    refine th_r ?_
    obtain rfl := Option.some.inj h
    exact ⟨rfl, ⟨_, _, hf.sub ⟨rfl, trivial⟩, (fneg_rep kzx0), hzx0, hp⟩⟩
  replace h := ifF h hb
  refine wp_seq ?_
  refine wp_reg ?_
  refine st_ieql hf (by decide) rfl rfl rfl ?_
  clear hf; intro a ha hf; clear ha
  refine st_assign hf rfl rfl (by decide) ?_
  clear hf; intro a ha hf; clear ha
  refine st_nil hf ?_
  refine th_n ?_
  refine wp_if hf rfl (fun hb => ?_) (fun hb => ?_)
  · replace h := ifT h hb
    refine wp_seq ?_
    refine wp_reg ?_
    refine st_move hf rfl rfl (by decide) ?_
    clear hf; intro a ha hf; clear ha
    refine st_fneg hf (by decide) rfl rfl ?_
    clear hf; intro a ha hf; clear ha
    refine st_move hf rfl rfl (by decide) ?_
    clear hf; intro a ha hf; clear ha
    refine st_fneg hf (by decide) rfl rfl ?_
    clear hf; intro a ha hf; clear ha
    refine st_complex hf (by decide) rfl rfl rfl ?_
    clear hf; intro a ha hf; clear ha
    refine st_assign hf rfl rfl (by decide) ?_
    clear hf; intro a ha hf; clear ha
    refine st_nil hf ?_
    refine th_n ?_
    refine wp_ret ?_
    refine ib_r ?_
    refine th_r ?_
    obtain rfl := Option.some.inj h
    exact ⟨rfl, ⟨_, _, hf.sub ⟨rfl, trivial⟩, (fneg_rep hzx0), (fneg_rep kzx0), hp⟩⟩
  replace h := ifF h hb
  refine wp_seq ?_
  refine wp_reg ?_
  refine st_ieql hf (by decide) rfl rfl rfl ?_
  clear hf; intro a ha hf; clear ha
  refine st_assign hf rfl rfl (by decide) ?_
  clear hf; intro a ha hf; clear ha
  refine st_nil hf ?_
  refine th_n ?_
  refine wp_if hf rfl (fun hb => ?_) (fun hb => ?_)
  · replace h := ifT h hb
    refine wp_seq ?_
    refine wp_reg ?_
    refine st_move hf rfl rfl (by decide) ?_
    clear hf; intro a ha hf; clear ha
    refine st_move hf rfl rfl (by decide) ?_
    clear hf; intro a ha hf; clear ha
    refine st_fneg hf (by decide) rfl rfl ?_
    clear hf; intro a ha hf; clear ha
    refine st_complex hf (by decide) rfl rfl rfl ?_
    clear hf; intro a ha hf; clear ha
    refine st_assign hf rfl rfl (by decide) ?_
    clear hf; intro a ha hf; clear ha
    refine st_nil hf ?_
    refine th_n ?_
    refine wp_ret ?_
    refine ib_r ?_
    refine th_r ?_
    obtain rfl := Option.some.inj h
    exact ⟨rfl, ⟨_, _, hf.sub ⟨rfl, trivial⟩, kzx0, (fneg_rep hzx0), hp⟩⟩
  replace h := ifF h hb
  refine wp_skip ?_
  refine ib_n ?_
  refine th_n ?_
  refine wp_seq ?_
  refine wp_reg ?_
  refine st_move hf rfl rfl (by decide) ?_
  clear hf; intro a ha hf; clear ha
  refine st_assign hf rfl rfl (by decide) ?_
  clear hf; intro a ha hf; clear ha
  refine st_nil hf ?_
  refine th_n ?_
  refine wp_ret ?_
  obtain rfl := Option.some.inj h
  exact ⟨rfl, ⟨_, _, hf.sub ⟨rfl, trivial⟩, hzx0, kzx0, hp⟩⟩

noncomputable def f_foghorntop_abs (n0 : Int) : Option Int := (if (decide (n0 < (0 : Int))) = true then (some (IntKind.i64.wrap (0 - n0))) else (some n0))
theorem f_foghorntop_abs_c {S : Nat → Prop} {w0 w : World} {ow : List Res} (hp : Hp S w0 w ow) (n0 : Int) {r : Int} (h : f_foghorntop_abs n0 = some r) :
    Calls Try.prog 11 #[.int .i64 n0] w (fun e w' => e = .returned (.int .i64 r) ∧ Hp S w0 w' (ow)) := by
  unfold f_foghorntop_abs at h
  refine enter (n := 8) (args := [.int .i64 n0]) Try.func11 rfl rfl (Nat.le_of_ble_eq_true rfl) fun a hf => ?_
  replace hf : Fr 8 a [(0, .int .i64 n0)] := hf
  refine wp_mono (Q := fun e a w => e = .ret ∧ Fr 8 a [(2, .int .i64 r)] ∧ Hp S w0 w (ow)) ?_ ?_
  rotate_left
  · rintro e a w ⟨rfl, hf, hp⟩
    exact ret1 hf rfl rfl ⟨rfl, hp⟩
  refine wp_seq ?_
  refine wp_reg ?_
  refine st_assign hf rfl rfl (by decide) ?_
  clear hf; intro a ha hf; clear ha
  refine st_nil hf ?_
  refine th_n ?_
  refine wp_seq ?_
  refine wp_seq ?_
  refine wp_reg ?_
  refine st_move hf rfl rfl (by decide) ?_
  clear hf; intro a ha hf; clear ha
  refine st_ilss hf (by decide) rfl rfl rfl ?_
  clear hf; intro a ha hf; clear ha
  refine st_nil hf ?_
  refine th_n ?_
  refine wp_if hf rfl (fun hb => ?_) (fun hb => ?_)
  · replace h := ifT h hb
    refine wp_seq ?_
    refine wp_reg ?_
    refine st_move hf rfl rfl (by decide) ?_
    clear hf; intro a ha hf; clear ha
    refine st_ineg hf (by decide) rfl rfl ?_
    clear hf; intro a ha hf; clear ha
    refine st_assign hf rfl rfl (by decide) ?_
    clear hf; intro a ha hf; clear ha
    refine st_nil hf ?_
    refine th_n ?_
    refine wp_ret ?_
    refine th_r ?_
    obtain rfl := Option.some.inj h
    exact ⟨rfl, ⟨hf.sub ⟨rfl, trivial⟩, hp⟩⟩
  replace h := ifF h hb
  refine wp_skip ?_
  refine th_n ?_
  refine wp_seq ?_
  refine wp_reg ?_
  refine st_move hf rfl rfl (by decide) ?_
  clear hf; intro a ha hf; clear ha
  refine st_assign hf rfl rfl (by decide) ?_
  clear hf; intro a ha hf; clear ha
  refine st_nil hf ?_
  refine th_n ?_
  refine wp_ret ?_
  obtain rfl := Option.some.inj h
  exact ⟨rfl, ⟨hf.sub ⟨rfl, trivial⟩, hp⟩⟩

end Go.Proofs.Ytgdhjjdgghilhaa
