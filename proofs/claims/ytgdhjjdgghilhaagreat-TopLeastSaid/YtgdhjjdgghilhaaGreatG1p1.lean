/- The functions foghorn foghorntop.TopLeast: what each answers, as a plain function, and that its call answers it; printed by gen.py. -/
import Derived.Test.YtgdhjjdgghilhaaGreatProg
import Derived.Test.YtgdhjjdgghilhaaGreatGlUi
import Derived.KernelRfl
set_option linter.unusedVariables false
set_option linter.unusedSimpArgs false
set_option maxRecDepth 100000
set_option maxHeartbeats 4000000
namespace Go.Proofs.YtgdhjjdgghilhaaGreat
open GL
abbrev EK9 := (Ek.pair Ek.bool Ek.c128)
abbrev EK8 := (Ek.pair Ek.bool EK9)
abbrev EK7 := (Ek.pair (Ek.int .i64) EK8)
abbrev EK6 := (Ek.pair Ek.f64 EK7)
abbrev EK5 := (Ek.pair (Ek.int .i64) EK6)
abbrev EK4 := (Ek.pair (Ek.int .i64) EK5)
abbrev EK3 := (Ek.pair (Ek.arr 64 Ek.c128) EK4)
abbrev EK2 := (Ek.pair (Ek.arr 64 Ek.c128) EK3)
abbrev EK1 := (Ek.pair (Ek.int .i64) EK2)
theorem elt3 : ElT Tryz.prog (Ek.int .i64) 3 8 (0 : Int) := ElT.of (z := .int .i64 0) (by kernel_rfl) rfl
theorem elt4 : ElT Tryz.prog Ek.bool 4 1 false := ElT.of (z := .bool false) (by kernel_rfl) rfl
theorem elt5 : ElT Tryz.prog (Ek.int .u8) 5 1 (0 : Int) := ElT.of (z := .int .u8 0) (by kernel_rfl) rfl
theorem elt34 : ElT Tryz.prog (Ek.int .u8) 34 1 (0 : Int) := ElT.of (z := .int .u8 0) (by kernel_rfl) rfl
theorem elt35 : ElT Tryz.prog Ek.c128 35 16 (Fl.bits 0, Fl.bits 0) := ElT.of (z := .complex .f64 0 0) (by kernel_rfl) ⟨_, _, rfl, rfl, rfl⟩
theorem elt37 : ElT Tryz.prog (Ek.pair Ek.c128 Ek.bool) 37 24 ((Fl.bits 0, Fl.bits 0), false) := ElT.of (z := .agg #[.complex .f64 0 0, .bool false]) (by kernel_rfl) ⟨[.complex .f64 0 0], [.bool false], rfl, ⟨_, _, rfl, rfl, rfl⟩, rfl⟩
theorem elt59 : ElT Tryz.prog (Ek.pair (Ek.int .i64) (Ek.pair Ek.c128 Ek.bool)) 59 32 ((0 : Int), (Fl.bits 0, Fl.bits 0), false) := ElT.of (z := .agg #[.int .i64 0, .complex .f64 0 0, .bool false]) (by kernel_rfl) ⟨[.int .i64 0], [.complex .f64 0 0, .bool false], rfl, rfl, ⟨[.complex .f64 0 0], [.bool false], rfl, ⟨_, _, rfl, rfl, rfl⟩, rfl⟩⟩
theorem elt66 : ElT Tryz.prog (Ek.arr 64 (Ek.int .i32)) 66 256 (List.replicate 64 (0 : Int)) := ElT.of (z := .agg ((List.replicate 64 ([.int .i32 0] : List Value)).flatten).toArray) (by kernel_rfl) (arr_zero (N := 64) (F := (Ek.int .i32)) (zc := ([.int .i32 0] : List Value)) (z := (0 : Int)) rfl)
theorem elt71 (bs : List Nat) : ElT Tryz.prog (Ek.pair (Ek.wp bs) (Ek.wp bs)) 71 16 ((none : Option Nat), (none : Option Nat)) := ElT.of (z := .agg #[.pointer none, .pointer none]) (by kernel_rfl) ⟨[.pointer none], [.pointer none], rfl, ⟨_, rfl, WP.nil _⟩, ⟨_, rfl, WP.nil _⟩⟩
theorem elt72 (bs : List Nat) : ElT Tryz.prog (Ek.pair (Ek.wp bs) (Ek.wp bs)) 72 16 ((none : Option Nat), (none : Option Nat)) := ElT.of (z := .agg #[.pointer none, .pointer none]) (by kernel_rfl) ⟨[.pointer none], [.pointer none], rfl, ⟨_, rfl, WP.nil _⟩, ⟨_, rfl, WP.nil _⟩⟩
theorem elt122 : ElT Tryz.prog EK1 122 2112 ((0 : Int), (List.replicate 64 (Fl.bits 0, Fl.bits 0)), (List.replicate 64 (Fl.bits 0, Fl.bits 0)), (0 : Int), (0 : Int), (Fl.bits 0), (0 : Int), false, false, (Fl.bits 0, Fl.bits 0)) := ElT.of (z := .agg #[.int .i64 0, .complex .f64 0 0, .complex .f64 0 0, .complex .f64 0 0, .complex .f64 0 0, .complex .f64 0 0, .complex .f64 0 0, .complex .f64 0 0, .complex .f64 0 0, .complex .f64 0 0, .complex .f64 0 0, .complex .f64 0 0, .complex .f64 0 0, .complex .f64 0 0, .complex .f64 0 0, .complex .f64 0 0, .complex .f64 0 0, .complex .f64 0 0, .complex .f64 0 0, .complex .f64 0 0, .complex .f64 0 0, .complex .f64 0 0, .complex .f64 0 0, .complex .f64 0 0, .complex .f64 0 0, .complex .f64 0 0, .complex .f64 0 0, .complex .f64 0 0, .complex .f64 0 0, .complex .f64 0 0, .complex .f64 0 0, .complex .f64 0 0, .complex .f64 0 0, .complex .f64 0 0, .complex .f64 0 0, .complex .f64 0 0, .complex .f64 0 0, .complex .f64 0 0, .complex .f64 0 0, .complex .f64 0 0, .complex .f64 0 0, .complex .f64 0 0, .complex .f64 0 0, .complex .f64 0 0, .complex .f64 0 0, .complex .f64 0 0, .complex .f64 0 0, .complex .f64 0 0, .complex .f64 0 0, .complex .f64 0 0, .complex .f64 0 0, .complex .f64 0 0, .complex .f64 0 0, .complex .f64 0 0, .complex .f64 0 0, .complex .f64 0 0, .complex .f64 0 0, .complex .f64 0 0, .complex .f64 0 0, .complex .f64 0 0, .complex .f64 0 0, .complex .f64 0 0, .complex .f64 0 0, .complex .f64 0 0, .complex .f64 0 0, .complex .f64 0 0, .complex .f64 0 0, .complex .f64 0 0, .complex .f64 0 0, .complex .f64 0 0, .complex .f64 0 0, .complex .f64 0 0, .complex .f64 0 0, .complex .f64 0 0, .complex .f64 0 0, .complex .f64 0 0, .complex .f64 0 0, .complex .f64 0 0, .complex .f64 0 0, .complex .f64 0 0, .complex .f64 0 0, .complex .f64 0 0, .complex .f64 0 0, .complex .f64 0 0, .complex .f64 0 0, .complex .f64 0 0, .complex .f64 0 0, .complex .f64 0 0, .complex .f64 0 0, .complex .f64 0 0, .complex .f64 0 0, .complex .f64 0 0, .complex .f64 0 0, .complex .f64 0 0, .complex .f64 0 0, .complex .f64 0 0, .complex .f64 0 0, .complex .f64 0 0, .complex .f64 0 0, .complex .f64 0 0, .complex .f64 0 0, .complex .f64 0 0, .complex .f64 0 0, .complex .f64 0 0, .complex .f64 0 0, .complex .f64 0 0, .complex .f64 0 0, .complex .f64 0 0, .complex .f64 0 0, .complex .f64 0 0, .complex .f64 0 0, .complex .f64 0 0, .complex .f64 0 0, .complex .f64 0 0, .complex .f64 0 0, .complex .f64 0 0, .complex .f64 0 0, .complex .f64 0 0, .complex .f64 0 0, .complex .f64 0 0, .complex .f64 0 0, .complex .f64 0 0, .complex .f64 0 0, .complex .f64 0 0, .complex .f64 0 0, .complex .f64 0 0, .complex .f64 0 0, .complex .f64 0 0, .complex .f64 0 0, .int .i64 0, .int .i64 0, .float .f64 0, .int .i64 0, .bool false, .bool false, .complex .f64 0 0]) (by kernel_rfl) ⟨([.int .i64 0] : List Value), (List.replicate 64 ([.complex .f64 0 0] : List Value)).flatten ++ (List.replicate 64 ([.complex .f64 0 0] : List Value)).flatten ++ ([.int .i64 0] : List Value) ++ ([.int .i64 0] : List Value) ++ ([.float .f64 0] : List Value) ++ ([.int .i64 0] : List Value) ++ ([.bool false] : List Value) ++ ([.bool false] : List Value) ++ ([.complex .f64 0 0] : List Value), rfl, rfl, ⟨(List.replicate 64 ([.complex .f64 0 0] : List Value)).flatten, (List.replicate 64 ([.complex .f64 0 0] : List Value)).flatten ++ ([.int .i64 0] : List Value) ++ ([.int .i64 0] : List Value) ++ ([.float .f64 0] : List Value) ++ ([.int .i64 0] : List Value) ++ ([.bool false] : List Value) ++ ([.bool false] : List Value) ++ ([.complex .f64 0 0] : List Value), rfl, (arr_zero (N := 64) (F := Ek.c128) (zc := ([.complex .f64 0 0] : List Value)) (z := (Fl.bits 0, Fl.bits 0)) ⟨_, _, rfl, rfl, rfl⟩), ⟨(List.replicate 64 ([.complex .f64 0 0] : List Value)).flatten, ([.int .i64 0] : List Value) ++ ([.int .i64 0] : List Value) ++ ([.float .f64 0] : List Value) ++ ([.int .i64 0] : List Value) ++ ([.bool false] : List Value) ++ ([.bool false] : List Value) ++ ([.complex .f64 0 0] : List Value), rfl, (arr_zero (N := 64) (F := Ek.c128) (zc := ([.complex .f64 0 0] : List Value)) (z := (Fl.bits 0, Fl.bits 0)) ⟨_, _, rfl, rfl, rfl⟩), ⟨([.int .i64 0] : List Value), ([.int .i64 0] : List Value) ++ ([.float .f64 0] : List Value) ++ ([.int .i64 0] : List Value) ++ ([.bool false] : List Value) ++ ([.bool false] : List Value) ++ ([.complex .f64 0 0] : List Value), rfl, rfl, ⟨([.int .i64 0] : List Value), ([.float .f64 0] : List Value) ++ ([.int .i64 0] : List Value) ++ ([.bool false] : List Value) ++ ([.bool false] : List Value) ++ ([.complex .f64 0 0] : List Value), rfl, rfl, ⟨([.float .f64 0] : List Value), ([.int .i64 0] : List Value) ++ ([.bool false] : List Value) ++ ([.bool false] : List Value) ++ ([.complex .f64 0 0] : List Value), rfl, ⟨_, rfl, rfl⟩, ⟨([.int .i64 0] : List Value), ([.bool false] : List Value) ++ ([.bool false] : List Value) ++ ([.complex .f64 0 0] : List Value), rfl, rfl, ⟨([.bool false] : List Value), ([.bool false] : List Value) ++ ([.complex .f64 0 0] : List Value), rfl, rfl, ⟨([.bool false] : List Value), ([.complex .f64 0 0] : List Value), rfl, rfl, ⟨_, _, rfl, rfl, rfl⟩⟩⟩⟩⟩⟩⟩⟩⟩⟩
theorem elt134 : ElT Tryz.prog (Ek.arr 2049 (Ek.int .i64)) 134 16392 (List.replicate 2049 (0 : Int)) := ElT.of (z := .agg ((List.replicate 2049 ([.int .i64 0] : List Value)).flatten).toArray) (by kernel_rfl) (arr_zero (N := 2049) (F := (Ek.int .i64)) (zc := ([.int .i64 0] : List Value)) (z := (0 : Int)) rfl)
theorem pl3 : Plain Tryz.prog 3 := ⟨⟨_, Tryz.underlying3, trivial⟩⟩
theorem pl4 : Plain Tryz.prog 4 := ⟨⟨_, Tryz.underlying4, trivial⟩⟩
theorem pl5 : Plain Tryz.prog 5 := ⟨⟨_, Tryz.underlying5, trivial⟩⟩
theorem pl21 : Plain Tryz.prog 21 := ⟨⟨_, Tryz.underlying21, trivial⟩⟩
theorem pl22 : Plain Tryz.prog 22 := ⟨⟨_, Tryz.underlying22, trivial⟩⟩
theorem pl24 : Plain Tryz.prog 24 := ⟨⟨_, Tryz.underlying24, trivial⟩⟩
theorem pl25 : Plain Tryz.prog 25 := ⟨⟨_, Tryz.underlying25, trivial⟩⟩
theorem pl34 : Plain Tryz.prog 34 := ⟨⟨_, Tryz.underlying34, trivial⟩⟩
theorem pl35 : Plain Tryz.prog 35 := ⟨⟨_, Tryz.underlying35, trivial⟩⟩
theorem pl39 : Plain Tryz.prog 39 := ⟨⟨_, Tryz.underlying39, trivial⟩⟩
theorem pl70 : Plain Tryz.prog 70 := ⟨⟨_, Tryz.underlying70, trivial⟩⟩
theorem pl89 : Plain Tryz.prog 89 := ⟨⟨_, Tryz.underlying89, trivial⟩⟩
theorem pl132 : Plain Tryz.prog 132 := ⟨⟨_, Tryz.underlying132, trivial⟩⟩
theorem pl135 : Plain Tryz.prog 135 := ⟨⟨_, Tryz.underlying135, trivial⟩⟩
theorem pl147 : Plain Tryz.prog 147 := ⟨⟨_, Tryz.underlying147, trivial⟩⟩
theorem pl155 : Plain Tryz.prog 155 := ⟨⟨_, Tryz.underlying155, trivial⟩⟩
noncomputable def f_bits_Ungray.s1c (n0 : Int) (sx4 : Int) : Option ((Int × Int) ⊕ Int) := (if (decide (sx4 < (16 : Int))) = true then (if 0 ≤ sx4 then (some (Sum.inl ((ixor .i64 n0 (ishr .i64 n0 sx4)), (ishl .i64 sx4 (1 : Int))))) else none) else (some (Sum.inr n0)))
noncomputable def f_bits_Ungray.s1  (s : (Int × Int)) : Option ((Int × Int) ⊕ Int) := f_bits_Ungray.s1c s.1 s.2
noncomputable def f_bits_Ungray (n0 : Int) : Option (Int × Int) := (if ((decide (n0 < (0 : Int))) || (decide ((65536 : Int) ≤ n0))) = true then (some ((0 : Int), (1 : Int))) else ((loop f_bits_Ungray.s1 (n0, (1 : Int))).bind (fun q4 => (some (q4, (0 : Int))))))
theorem f_bits_Ungray_c {S : Nat → Prop} {w0 w : World} {ow : List Res} (hp : Hp S w0 w ow) (n0 : Int) {r : (Int × Int)} (h : f_bits_Ungray n0 = some r) :
   Calls Tryz.prog 69 #[.int .i64 n0] w (fun e w' => e = .returned (.tuple #[.int .i64 r.1, .int .i64 r.2]) ∧ Hp S w0 w' (ow)) := by
  unfold f_bits_Ungray at h
  refine enx (n := 21) Tryz.func69 fun a hf => ?_
  refine wp_mono (Q := fun e a w => e = .ret ∧ Fr 21 a [(2, .int .i64 r.1), (3, .int .i64 r.2)] ∧ Hp S w0 w (ow)) ?_ ?_
  rotate_left
  ·
   rintro e a w ⟨rfl, hf, hp⟩
   exact ret2 hf rfl rfl rfl ⟨rfl, hp⟩
  refine go ?_; intro a hf
  refine wpList_cut 3 (fun a w => Fr 21 a [(0, .int .i64 n0), (10, .bool ((decide (n0 < (0 : Int))) || (decide ((65536 : Int) ≤ n0))))] ∧ Hp S w0 w (ow)) ?_ ?_
  ·
   rcases Bool.eq_false_or_eq_true (decide (n0 < (0 : Int))) with hb2 | hb2
   ·
    refine go ?_; intro a hf
    exact ⟨hf.sub ⟨rfl, (by rw [hb2]; rfl), trivial⟩, hp⟩
   refine go ?_; intro a hf
   exact ⟨hf.sub ⟨rfl, (by rw [hb2]; rfl), trivial⟩, hp⟩
  rintro a w ⟨hf, hp⟩
  refine goT ?_
  refine wp_if hf rfl (fun hb => ?_) (fun hb => ?_)
  ·
   replace h := ifT h hb
   refine go ?_; intro a hf
   obtain rfl := oj h
   exact ⟨rfl, ⟨hf.sb, hp⟩⟩
  replace h := ifF h hb
  refine wp_skip ?_
  refine go ?_; intro a hf
  obtain ⟨q4, hl, h⟩ := bnd h
  refine wp_loop_pure (f := f_bits_Ungray.s1) (s := (n0, (1 : Int))) (fun s a w => Fr 21 a [(0, .int .i64 s.1), (4, .int .i64 s.2)] ∧ Hp S w0 w (ow)) (fun q e a w => e = .exit 0 ∧ Fr 21 a [(0, .int .i64 q)] ∧ Hp S w0 w (ow)) ?_ hl ⟨hf.sb, hp⟩ ?_
  ·
   clear hl hf hp
   intro s x a w h hI
   obtain ⟨n0, sx4⟩ := s
   obtain ⟨hf, hp⟩ : Fr 21 a [(0, .int .i64 n0), (4, .int .i64 sx4)] ∧ Hp S w0 w (ow) := hI
   replace h : f_bits_Ungray.s1c n0 sx4 = some x := h
   unfold f_bits_Ungray.s1c at h
   refine go ?_; intro a hf
   refine wp_if hf rfl (fun hb => ?_) (fun hb => ?_)
   ·
    replace h := ifT h hb
    refine wp_skip ?_
    refine go ?_; intro a hf
    obtain ⟨hc3, h⟩ := chk h
    refine st_ishr hf (by decide) rfl rfl rfl hc3 fun a _ hf => ?_
    refine go ?_; intro a hf
    refine st_ishl hf (by decide) rfl rfl rfl (by decide) fun a _ hf => ?_
    refine go ?_; intro a hf
    obtain rfl := oj h
    exact rnd_l ⟨hf.sb, hp⟩
   replace h := ifF h hb
   refine wp_exit ?_
   refine th_e ?_
   obtain rfl := oj h
   exact rnd_r (by simp) ⟨rfl, hf.sb, hp⟩
  clear hl hf hp
  intro e a w hne hO
  obtain ⟨rfl, hf, hp⟩ := hO
  refine ib_same ?_
  refine go ?_; intro a hf
  obtain rfl := oj h
  exact ⟨rfl, ⟨hf.sb, hp⟩⟩

noncomputable def f_points_square_1 (word0 : Int) (t1 : Int) : Option Fl := ((f_bits_Ungray word0).bind fun q1 => (some (fofi (IntKind.i64.wrap ((IntKind.i64.wrap ((2 : Int) * q1.1)) - t1)))))
theorem f_points_square_1_c {S : Nat → Prop} {w0 w : World} {ow : List Res} (hp : Hp S w0 w ow) (word0 : Int) (t1 : Int) (ot1 : Value) (hot1 : RdO S w0 ot1 [.int .i64 t1]) {r : Fl} (h : f_points_square_1 word0 t1 = some r) :
   Calls Tryz.prog 68 #[.int .i64 word0, optr ot1 0] w (fun e w' => ∃ (b0 : Nat), e = .returned (.float .f64 b0) ∧ Fl.rep b0 r ∧ Hp S w0 w' (ow)) := by
  unfold f_points_square_1 at h
  refine enx (n := 16) Tryz.func68 fun a hf => ?_
  refine wp_mono (Q := fun e a w => e = .ret ∧ ∃ (b0 : Nat), Fr 16 a [(3, .float .f64 b0)] ∧ Fl.rep b0 r ∧ Hp S w0 w (ow)) ?_ ?_
  rotate_left
  ·
   rintro e a w ⟨rfl, x0, hf, y0, hp⟩
   exact ret1 hf rfl rfl ⟨x0, rfl, y0, hp⟩
  refine go ?_; intro a hf
  obtain ⟨q1, hcall2, h⟩ := bnd h
  refine st_call hf (by decide) Tryz.func69 rfl rfl rfl rfl rfl (f_bits_Ungray_c hp _ hcall2) ?_
  rintro _ w ⟨rfl, hp⟩
  replace hp : Hp _ _ _ (ow) := hp
  refine ⟨_, rfl, fun a hf => ?_⟩
  refine go ?_; intro a hf
  refine st_ldO (u := .int .i64 t1) hf (by decide) pl3 rfl rfl (hot1.ob hp) rfl fun a _ hf => ?_
  refine go ?_; intro a hf
  refine st_conv_if Tryz.underlying3 Tryz.underlying39 hf (by decide) rfl rfl fun a _ hf => ?_
  refine go ?_; intro a hf
  obtain rfl := oj h
  exact ⟨rfl, ⟨_, hf.sb, rfl, hp⟩⟩

noncomputable def f_points_square_2 (label0 : Int) (t1 : Int) (t700 : Int) : Option (Fl × Fl) := (if 0 ≤ (IntKind.i64.wrap ((t1).tdiv (2 : Int))) then ((f_points_square_1 (ishr .i64 label0 (IntKind.i64.wrap ((t1).tdiv (2 : Int)))) t700).bind fun q2 => (if 0 ≤ (IntKind.i64.wrap ((t1).tdiv (2 : Int))) then ((f_points_square_1 (iand .i64 label0 (IntKind.i64.wrap ((ishl .i64 (1 : Int) (IntKind.i64.wrap ((t1).tdiv (2 : Int)))) - (1 : Int)))) t700).bind fun q7 => (some (q2, q7))) else none)) else none)
theorem f_points_square_2_c {S : Nat → Prop} {w0 w : World} {ow : List Res} (hp : Hp S w0 w ow) (label0 : Int) (t1 : Int) (ot1 : Value) (hot1 : RdO S w0 ot1 [.int .i64 t1]) (t700 : Int) (ot700 : Value) (hot700 : RdO S w0 ot700 [.int .i64 t700]) (ot2 : Value) (hot2 : RdO S w0 ot2 [.func (.func 68) #[] #[optr ot700 0]]) {r : (Fl × Fl)} (h : f_points_square_2 label0 t1 t700 = some r) :
   Calls Tryz.prog 70 #[.int .i64 label0, optr ot1 0, optr ot2 0] w (fun e w' => ∃ (b0 : Nat) (b1 : Nat), e = .returned (.complex .f64 b0 b1) ∧ Fl.rep b0 r.1 ∧ Fl.rep b1 r.2 ∧ Hp S w0 w' (ow)) := by
  unfold f_points_square_2 at h
  refine enx (n := 21) Tryz.func70 fun a hf => ?_
  refine wp_mono (Q := fun e a w => e = .ret ∧ ∃ (b0 : Nat) (b1 : Nat), Fr 21 a [(4, .complex .f64 b0 b1)] ∧ Fl.rep b0 r.1 ∧ Fl.rep b1 r.2 ∧ Hp S w0 w (ow)) ?_ ?_
  rotate_left
  ·
   rintro e a w ⟨rfl, x0, x1, hf, y0, y1, hp⟩
   exact ret1 hf rfl rfl ⟨x0, x1, rfl, y0, y1, hp⟩
  refine go ?_; intro a hf
  refine st_ldO (u := .int .i64 t1) hf (by decide) pl3 rfl rfl (hot1.ob hp) rfl fun a _ hf => ?_
  refine st_iquo hf (by decide) rfl rfl rfl (by decide) fun a _ hf => ?_
  refine go ?_; intro a hf
  obtain ⟨hc1, h⟩ := chk h
  obtain ⟨q2, hcall3, h⟩ := bnd h
  obtain ⟨hc6, h⟩ := chk h
  obtain ⟨q7, hcall8, h⟩ := bnd h
  refine wp_cutN (fun a w => ∃ (v4 : Nat) (v9 : Nat), Fl.rep v4 q2 ∧ Fl.rep v9 q7 ∧ Fr 21 a [(4, .complex .f64 v4 v9)] ∧ Hp S w0 w (ow)) ?_ ?_
  ·
   have hp := hp.same (Same.drew w)
   refine dr_begin' _ (fun w' => ∃ l, Hp S w0 w' l) [] (by kernel_rfl) ?_
   refine dr_takeK 0 _ rfl hf rfl (fun w ⟨_, hp⟩ => st_ldO (u := .func (.func 68) #[] #[optr ot700 0]) hf (by decide) pl147 rfl rfl (hot2.ob hp) rfl tk) ⟨_, hp⟩ fun a hf => ?_
   refine dv 1 hf ⟨_, hp⟩ fun a hf => ?_
   refine dv 2 hf ⟨_, hp⟩ fun a hf => ?_
   refine dr_takeK 3 _ rfl hf rfl (fun w ⟨_, hp⟩ => st_ishr hf (by decide) rfl rfl rfl hc1 tk) ⟨_, hp⟩ fun a hf => ?_
   refine dr_takeK 5 _ rfl hf rfl (fun w ⟨_, hp⟩ => st_ldO (u := .func (.func 68) #[] #[optr ot700 0]) hf (by decide) pl147 rfl rfl (hot2.ob hp) rfl tk) ⟨_, hp⟩ fun a hf => ?_
   refine dv 6 hf ⟨_, hp⟩ fun a hf => ?_
   refine dv 7 hf ⟨_, hp⟩ fun a hf => ?_
   refine dr_takeK 8 _ rfl hf rfl (fun w ⟨_, hp⟩ => st_ishl hf (by decide) rfl rfl rfl hc6 tk) ⟨_, hp⟩ fun a hf => ?_
   refine dv 9 hf ⟨_, hp⟩ fun a hf => ?_
   refine dv 10 hf ⟨_, hp⟩ fun a hf => ?_
   refine dr_one 4 rfl (by kernel_rfl) ?_
   refine st_call hf (by decide) Tryz.func68 rfl rfl rfl rfl rfl (f_points_square_1_c hp _ _ _ hot700 hcall3) ?_
   rintro _ w ⟨v4, rfl, y5, hp⟩
   replace hp : Hp _ _ _ (ow) := hp
   refine ⟨_, rfl, fun a hf => ?_⟩
   refine nx hf (fun _ _ => ⟨_, hp⟩) ?_
   refine dr_one 11 rfl (by kernel_rfl) ?_
   refine st_call hf (by decide) Tryz.func68 rfl rfl rfl rfl rfl (f_points_square_1_c hp _ _ _ hot700 hcall8) ?_
   rintro _ w ⟨v9, rfl, y10, hp⟩
   replace hp : Hp _ _ _ (ow) := hp
   refine ⟨_, rfl, fun a hf => ?_⟩
   refine nx hf (fun _ _ => ⟨_, hp⟩) ?_
   refine dv 12 hf ⟨_, hp⟩ fun a hf => ?_
   refine dv 13 hf ⟨_, hp⟩ fun a hf => ?_
   refine dr_end (by kernel_rfl) ?_ _
   exact ⟨v4, v9, y5, y10, hf.sb, hp⟩
  rintro a w ⟨v4, v9, y5, y10, hf, hp⟩
  refine goT ?_
  obtain rfl := oj h
  exact ⟨rfl, ⟨_, _, hf.sb, y5, y10, hp⟩⟩

noncomputable def f_points_square (n0 : Int) (edge1 : Int) : Option (Int × Int × CG) := (some (n0, edge1, (fun lab : Int => f_points_square_2 lab n0 edge1)))
theorem f_points_square_c {S : Nat → Prop} {w0 w : World} {ow : List Res} (hp : Hp S w0 w ow) (n0 : Int) (edge1 : Int) {r : (Int × Int × CG)} (h : f_points_square n0 edge1 = some r) :
   Calls Tryz.prog 52 #[.int .i64 n0, .int .i64 edge1] w (fun e w' => ∃ (u0 : Value), e = .returned (.agg #[.int .i64 r.1, .int .i64 r.2.1, u0]) ∧ Hp S w0 w' (Res.clo Tryz.prog u0 r.2.2 :: ow)) := by
  unfold f_points_square at h
  refine enx (n := 11) Tryz.func52 fun a hf => ?_
  refine wp_mono (Q := fun e a w => e = .ret ∧ ∃ (u0 : Value) (c0 : Value), Fr 11 a [(4, optr c0 0)] ∧ Hp S w0 w (Res.obj 91 c0 [.int .i64 r.1, .int .i64 r.2.1, u0] :: Res.clo Tryz.prog u0 r.2.2 :: ow)) ?_ ?_
  rotate_left
  ·
   rintro e a w ⟨rfl, x0, c0, hf, hp⟩
   exact retG1 hf rfl ⟨_, _, rfl, hp.ob (i := 0) rfl, .inr ⟨by kernel_rfl, rfl⟩⟩ ⟨x0, rfl, hp.drop⟩
  refine goT ?_
  refine st_boxO (cs := [.int .i64 n0]) hf (by decide) hp rfl rfl rfl ?_
  clear hf; intro a w v1 hf hp0; clear hp; have hp := hp0; clear hp0
  replace hp : Hp _ _ _ (Res.obj 3 v1 [.int .i64 n0] :: ow) := hp
  refine st_boxO (cs := [.int .i64 edge1]) hf (by decide) hp rfl rfl rfl ?_
  clear hf; intro a w v3 hf hp0; clear hp; have hp := hp0; clear hp0
  replace hp : Hp _ _ _ (Res.obj 3 v3 [.int .i64 edge1] :: _ :: ow) := hp
  refine st_alloc (cs := [.int .i64 (0 : Int), .int .i64 (0 : Int), .nilFunc]) (zv := .agg #[.int .i64 (0 : Int), .int .i64 (0 : Int), .nilFunc]) hf (by decide) (by kernel_rfl) rfl hp rfl ?_
  clear hf; intro a w v5 hf hp0; clear hp; have hp := hp0; clear hp0
  replace hp : Hp _ _ _ (Res.obj 91 v5 [.int .i64 (0 : Int), .int .i64 (0 : Int), .nilFunc] :: _ :: _ :: ow) := hp
  refine goT ?_
  refine st_makeFunc1 hf (by decide) rfl rfl fun a _ hf => ?_
  refine st_alloc (cs := [.nilFunc]) (zv := .nilFunc) hf (by decide) (by kernel_rfl) rfl hp rfl ?_
  clear hf; intro a w v7 hf hp0; clear hp; have hp := hp0; clear hp0
  replace hp : Hp _ _ _ (Res.obj 147 v7 [.nilFunc] :: _ :: _ :: _ :: ow) := hp
  refine st_stO (us := [.func (.func 68) #[] #[optr v3 0]]) hf hp (i := 0) rfl rfl rfl rfl rfl (by rfl) (by kernel_rfl) (Nat.le_of_ble_eq_true rfl) ?_
  clear hf; intro a w hf hp0; clear hp; have hp := hp0; clear hp0
  replace hp : Hp _ _ _ (Res.obj 147 v7 [.func (.func 68) #[] #[optr v3 0]] :: _ :: _ :: _ :: ow) := hp
  refine goT ?_
  refine st_ldO (u := .int .i64 n0) hf (by decide) pl3 rfl rfl (hp.ob (i := 3) rfl) rfl fun a _ hf => ?_
  refine st_ldO (u := .int .i64 edge1) hf (by decide) pl3 rfl rfl (hp.ob (i := 2) rfl) rfl fun a _ hf => ?_
  refine st_makeFunc2 hf (by decide) rfl rfl rfl fun a _ hf => ?_
  refine st_buildA (vals := [(0, .int .i64 n0), (1, .int .i64 edge1), (2, .func (.func 70) #[] #[optr v1 0, optr v7 0])]) (cells := [.int .i64 n0, .int .i64 edge1, .func (.func 70) #[] #[optr v1 0, optr v7 0]]) hf (by decide) rfl (by simp [hf.ev (x := (Operand.tmp 7)) rfl, hf.ev (x := (Operand.tmp 8)) rfl, hf.ev (x := (Operand.tmp 9)) rfl]) (fun w => by kernel_rfl) fun a _ hf => ?_
  refine st_stO (us := [.int .i64 n0, .int .i64 edge1, .func (.func 70) #[] #[optr v1 0, optr v7 0]]) hf hp (i := 1) rfl rfl rfl rfl rfl (by rfl) (by kernel_rfl) (Nat.le_of_ble_eq_true rfl) ?_
  clear hf; intro a w hf hp0; clear hp; have hp := hp0; clear hp0
  replace hp : Hp _ _ _ (_ :: Res.obj 91 v5 [.int .i64 n0, .int .i64 edge1, .func (.func 70) #[] #[optr v1 0, optr v7 0]] :: _ :: _ :: ow) := hp
  refine goT ?_
  have hp : Hp _ _ _ (_ :: _ :: _ :: _ :: ow) := (hp.pk [3, 2, 0, 1] 4 :)
  replace hp : Hp _ _ _ (Res.clo Tryz.prog (.func (.func 70) #[] #[optr v1 0, optr v7 0]) (fun lab : Int => f_points_square_2 lab n0 edge1) :: _ :: ow) := Hp.mkClo (l := [(3, v1, [.int .i64 n0]), (3, v3, [.int .i64 edge1]), (147, v7, [.func (.func 68) #[] #[optr v3 0]])]) (cap := [optr v1 0, optr v7 0]) hp Tryz.func70 rfl rfl (fun S' w0' w1 ow' lab r hr hp h => f_points_square_2_c hp _ _ _ (hr 0 _ rfl) _ _ (hr 1 _ rfl) _ (hr 2 _ rfl) h)
  obtain rfl := oj h
  have hp : Hp _ _ _ (_ :: _ :: ow) := (hp.pk [1, 0] 2 :)
  exact ⟨rfl, ⟨_, _, hf.sb, hp⟩⟩

noncomputable def f_points_cross_1.j1 (label0 : Int) (ax5 : Int) (high6 : Int) : Option ((Int × Int) ⊕ (Fl × Fl)) := (if (decide (label0 ≤ high6)) = true then (some (Sum.inr ((fofi ax5), (fofi (IntKind.i64.wrap ((IntKind.i64.wrap ((2 : Int) * label0)) - high6)))))) else (some (Sum.inl ((IntKind.i64.wrap (label0 - (IntKind.i64.wrap (high6 + (1 : Int))))), (IntKind.i64.wrap (ax5 + (2 : Int)))))))
noncomputable def f_points_cross_1.s1c (t1 : Int) (t2 : Int) (label0 : Int) (ax5 : Int) : Option ((Int × Int) ⊕ (Fl × Fl)) := (if (decide (t2 < (imax ax5 (IntKind.i64.wrap (0 - ax5))))) = true then (f_points_cross_1.j1 label0 ax5 t2) else (f_points_cross_1.j1 label0 ax5 t1))
noncomputable def f_points_cross_1.s1 (t1 : Int) (t2 : Int) (s : (Int × Int)) : Option ((Int × Int) ⊕ (Fl × Fl)) := f_points_cross_1.s1c t1 t2 s.1 s.2
noncomputable def f_points_cross_1 (label0 : Int) (t1 : Int) (t2 : Int) : Option (Fl × Fl) := ((loop (f_points_cross_1.s1 t1 t2) (label0, (IntKind.i64.wrap (0 - t1)))).bind (fun q1 => (some q1)))
theorem f_points_cross_1_c {S : Nat → Prop} {w0 w : World} {ow : List Res} (hp : Hp S w0 w ow) (label0 : Int) (t1 : Int) (ot1 : Value) (hot1 : RdO S w0 ot1 [.int .i64 t1]) (t2 : Int) (ot2 : Value) (hot2 : RdO S w0 ot2 [.int .i64 t2]) {r : (Fl × Fl)} (h : f_points_cross_1 label0 t1 t2 = some r) :
   Calls Tryz.prog 71 #[.int .i64 label0, optr ot1 0, optr ot2 0] w (fun e w' => ∃ (b0 : Nat) (b1 : Nat), e = .returned (.complex .f64 b0 b1) ∧ Fl.rep b0 r.1 ∧ Fl.rep b1 r.2 ∧ Hp S w0 w' (ow)) := by
  unfold f_points_cross_1 at h
  refine enx (n := 34) Tryz.func71 fun a hf => ?_
  refine wp_mono (Q := fun e a w => e = .ret ∧ ∃ (b0 : Nat) (b1 : Nat), Fr 34 a [(4, .complex .f64 b0 b1)] ∧ Fl.rep b0 r.1 ∧ Fl.rep b1 r.2 ∧ Hp S w0 w (ow)) ?_ ?_
  rotate_left
  ·
   rintro e a w ⟨rfl, x0, x1, hf, y0, y1, hp⟩
   exact ret1 hf rfl rfl ⟨x0, x1, rfl, y0, y1, hp⟩
  refine go ?_; intro a hf
  refine st_ldO (u := .int .i64 t1) hf (by decide) pl3 rfl rfl (hot1.ob hp) rfl fun a _ hf => ?_
  refine go ?_; intro a hf
  obtain ⟨q1, hl, h⟩ := bnd h
  refine wp_loop_pure (f := (f_points_cross_1.s1 t1 t2)) (s := (label0, (IntKind.i64.wrap (0 - t1)))) (fun s a w => Fr 34 a [(0, .int .i64 s.1), (1, optr ot1 0), (2, optr ot2 0), (5, .int .i64 s.2)] ∧ Hp S w0 w (ow)) (fun q e a w => e = .ret ∧ ∃ (b0 : Nat) (b1 : Nat), Fr 34 a [(4, .complex .f64 b0 b1)] ∧ Fl.rep b0 q.1 ∧ Fl.rep b1 q.2 ∧ Hp S w0 w (ow)) ?_ hl ⟨hf.sb, hp⟩ ?_
  ·
   clear hl hf hp
   intro s x a w h hI
   obtain ⟨label0, ax5⟩ := s
   obtain ⟨hf, hp⟩ : Fr 34 a [(0, .int .i64 label0), (1, optr ot1 0), (2, optr ot2 0), (5, .int .i64 ax5)] ∧ Hp S w0 w (ow) := hI
   replace h : f_points_cross_1.s1c t1 t2 label0 ax5 = some x := h
   unfold f_points_cross_1.s1c at h
   refine goT ?_
   refine st_ldO (u := .int .i64 t1) hf (by decide) pl3 rfl rfl (hot1.ob hp) rfl fun a _ hf => ?_
   refine st_assign hf rfl rfl (by decide) fun a _ hf => ?_
   refine st_nil hf ?_
   refine th_n ?_
   refine wp_seq_cut (fun a w => ∃ (high6 : Int), f_points_cross_1.j1 label0 ax5 high6 = some x ∧ Fr 34 a [(0, .int .i64 label0), (1, optr ot1 0), (2, optr ot2 0), (5, .int .i64 ax5), (6, .int .i64 high6)] ∧ Hp S w0 w (ow)) ?_ ?_
   ·
    refine go ?_; intro a hf
    refine st_imax hf (by decide) rfl rfl rfl fun a _ hf => ?_
    refine st_ldO (u := .int .i64 t2) hf (by decide) pl3 rfl rfl (hot2.ob hp) rfl fun a _ hf => ?_
    refine go ?_; intro a hf
    refine wp_if hf rfl (fun hb => ?_) (fun hb => ?_)
    ·
     replace h := ifT h hb
     refine wp_reg ?_
     refine st_ldO (u := .int .i64 t2) hf (by decide) pl3 rfl rfl (hot2.ob hp) rfl fun a _ hf => ?_
     refine go ?_; intro a hf
     exact ⟨_, h, hf.sb, hp⟩
    replace h := ifF h hb
    refine wp_skip ?_
    refine th_n ?_
    exact ⟨_, h, hf.sb, hp⟩
   rintro a w ⟨high6, h, hf, hp⟩
   unfold f_points_cross_1.j1 at h
   refine go ?_; intro a hf
   refine wp_if hf rfl (fun hb => ?_) (fun hb => ?_)
   ·
    replace h := ifT h hb
    refine go ?_; intro a hf
    refine st_conv_if Tryz.underlying3 Tryz.underlying39 hf (by decide) rfl rfl fun a _ hf => ?_
    refine go ?_; intro a hf
    refine st_conv_if Tryz.underlying3 Tryz.underlying39 hf (by decide) rfl rfl fun a _ hf => ?_
    refine go ?_; intro a hf
    refine ib_r ?_
    refine th_r ?_
    obtain rfl := oj h
    exact rnd_r (by simp) ⟨rfl, ⟨_, _, hf.sb, rfl, rfl, hp⟩⟩
   replace h := ifF h hb
   refine wp_skip ?_
   refine go ?_; intro a hf
   obtain rfl := oj h
   exact rnd_l ⟨hf.sb, hp⟩
  clear hl hf hp
  intro e a w hne hO
  obtain ⟨rfl, x0, x1, hf, y0, y1, hp⟩ := hO
  refine ib_r ?_
  obtain rfl := oj h
  exact ⟨rfl, ⟨_, _, hf.sb, y0, y1, hp⟩⟩

noncomputable def f_points_cross (n0 : Int) (edge1 : Int) (most2 : Int) : Option (Int × Int × CG) := (some (n0, edge1, (fun lab : Int => f_points_cross_1 lab edge1 most2)))
theorem f_points_cross_c {S : Nat → Prop} {w0 w : World} {ow : List Res} (hp : Hp S w0 w ow) (n0 : Int) (edge1 : Int) (most2 : Int) {r : (Int × Int × CG)} (h : f_points_cross n0 edge1 most2 = some r) :
   Calls Tryz.prog 53 #[.int .i64 n0, .int .i64 edge1, .int .i64 most2] w (fun e w' => ∃ (u0 : Value), e = .returned (.agg #[.int .i64 r.1, .int .i64 r.2.1, u0]) ∧ Hp S w0 w' (Res.clo Tryz.prog u0 r.2.2 :: ow)) := by
  unfold f_points_cross at h
  refine enx (n := 11) Tryz.func53 fun a hf => ?_
  refine wp_mono (Q := fun e a w => e = .ret ∧ ∃ (u0 : Value) (c0 : Value), Fr 11 a [(6, optr c0 0)] ∧ Hp S w0 w (Res.obj 91 c0 [.int .i64 r.1, .int .i64 r.2.1, u0] :: Res.clo Tryz.prog u0 r.2.2 :: ow)) ?_ ?_
  rotate_left
  ·
   rintro e a w ⟨rfl, x0, c0, hf, hp⟩
   exact retG1 hf rfl ⟨_, _, rfl, hp.ob (i := 0) rfl, .inr ⟨by kernel_rfl, rfl⟩⟩ ⟨x0, rfl, hp.drop⟩
  refine goT ?_
  refine st_boxO (cs := [.int .i64 edge1]) hf (by decide) hp rfl rfl rfl ?_
  clear hf; intro a w v1 hf hp0; clear hp; have hp := hp0; clear hp0
  replace hp : Hp _ _ _ (Res.obj 3 v1 [.int .i64 edge1] :: ow) := hp
  refine st_boxO (cs := [.int .i64 most2]) hf (by decide) hp rfl rfl rfl ?_
  clear hf; intro a w v3 hf hp0; clear hp; have hp := hp0; clear hp0
  replace hp : Hp _ _ _ (Res.obj 3 v3 [.int .i64 most2] :: _ :: ow) := hp
  refine st_alloc (cs := [.int .i64 (0 : Int), .int .i64 (0 : Int), .nilFunc]) (zv := .agg #[.int .i64 (0 : Int), .int .i64 (0 : Int), .nilFunc]) hf (by decide) (by kernel_rfl) rfl hp rfl ?_
  clear hf; intro a w v5 hf hp0; clear hp; have hp := hp0; clear hp0
  replace hp : Hp _ _ _ (Res.obj 91 v5 [.int .i64 (0 : Int), .int .i64 (0 : Int), .nilFunc] :: _ :: _ :: ow) := hp
  refine go ?_; intro a hf
  refine st_ldO (u := .int .i64 edge1) hf (by decide) pl3 rfl rfl (hp.ob (i := 2) rfl) rfl fun a _ hf => ?_
  refine st_makeFunc2 hf (by decide) rfl rfl rfl fun a _ hf => ?_
  refine st_buildA (vals := [(0, .int .i64 n0), (1, .int .i64 edge1), (2, .func (.func 71) #[] #[optr v1 0, optr v3 0])]) (cells := [.int .i64 n0, .int .i64 edge1, .func (.func 71) #[] #[optr v1 0, optr v3 0]]) hf (by decide) rfl (by simp [hf.ev (x := (Operand.tmp 7)) rfl, hf.ev (x := (Operand.tmp 8)) rfl, hf.ev (x := (Operand.tmp 9)) rfl]) (fun w => by kernel_rfl) fun a _ hf => ?_
  refine st_stO (us := [.int .i64 n0, .int .i64 edge1, .func (.func 71) #[] #[optr v1 0, optr v3 0]]) hf hp (i := 0) rfl rfl rfl rfl rfl (by rfl) (by kernel_rfl) (Nat.le_of_ble_eq_true rfl) ?_
  clear hf; intro a w hf hp0; clear hp; have hp := hp0; clear hp0
  replace hp : Hp _ _ _ (Res.obj 91 v5 [.int .i64 n0, .int .i64 edge1, .func (.func 71) #[] #[optr v1 0, optr v3 0]] :: _ :: _ :: ow) := hp
  refine goT ?_
  have hp : Hp _ _ _ (_ :: _ :: _ :: ow) := (hp.pk [2, 1, 0] 3 :)
  replace hp : Hp _ _ _ (Res.clo Tryz.prog (.func (.func 71) #[] #[optr v1 0, optr v3 0]) (fun lab : Int => f_points_cross_1 lab edge1 most2) :: _ :: ow) := Hp.mkClo (l := [(3, v1, [.int .i64 edge1]), (3, v3, [.int .i64 most2])]) (cap := [optr v1 0, optr v3 0]) hp Tryz.func71 rfl rfl (fun S' w0' w1 ow' lab r hr hp h => f_points_cross_1_c hp _ _ _ (hr 0 _ rfl) _ _ (hr 1 _ rfl) h)
  obtain rfl := oj h
  have hp : Hp _ _ _ (_ :: _ :: ow) := (hp.pk [1, 0] 2 :)
  exact ⟨rfl, ⟨_, _, hf.sb, hp⟩⟩

noncomputable def f_points_of (size0 : Int) : Option ((Int × Int × CG) × Bool) := (if (size0 == (4 : Int)) = true then ((f_points_square (2 : Int) (1 : Int)).bind fun q3 => (some ((q3.1, q3.2.1, q3.2.2), true))) else (if (size0 == (16 : Int)) = true then ((f_points_square (4 : Int) (3 : Int)).bind fun q7 => (some ((q7.1, q7.2.1, q7.2.2), true))) else (if (size0 == (32 : Int)) = true then ((f_points_cross (5 : Int) (5 : Int) (3 : Int)).bind fun q11 => (some ((q11.1, q11.2.1, q11.2.2), true))) else (if (size0 == (64 : Int)) = true then ((f_points_square (6 : Int) (7 : Int)).bind fun q15 => (some ((q15.1, q15.2.1, q15.2.2), true))) else (if (size0 == (128 : Int)) = true then ((f_points_cross (7 : Int) (11 : Int) (7 : Int)).bind fun q19 => (some ((q19.1, q19.2.1, q19.2.2), true))) else (if (size0 == (256 : Int)) = true then ((f_points_square (8 : Int) (15 : Int)).bind fun q23 => (some ((q23.1, q23.2.1, q23.2.2), true))) else (some (((0 : Int), (0 : Int), (fun _ => none)), false))))))))
theorem f_points_of_c {S : Nat → Prop} {w0 w : World} {ow : List Res} (hp : Hp S w0 w ow) (size0 : Int) {r : ((Int × Int × CG) × Bool)} (h : f_points_of size0 = some r) :
   Calls Tryz.prog 31 #[.int .i64 size0] w (fun e w' => ∃ (u0 : Value), e = .returned (.tuple #[.agg #[.int .i64 r.1.1, .int .i64 r.1.2.1, u0], .bool r.2]) ∧ Hp S w0 w' (Res.clo Tryz.prog u0 r.1.2.2 :: ow)) := by
  unfold f_points_of at h
  refine enx (n := 24) Tryz.func31 fun a hf => ?_
  refine wp_mono (Q := fun e a w => e = .ret ∧ ∃ (u0 : Value) (c0 : Value), Fr 24 a [(2, optr c0 0), (3, .bool r.2)] ∧ Hp S w0 w (Res.obj 91 c0 [.int .i64 r.1.1, .int .i64 r.1.2.1, u0] :: Res.clo Tryz.prog u0 r.1.2.2 :: ow)) ?_ ?_
  rotate_left
  ·
   rintro e a w ⟨rfl, x0, c0, hf, hp⟩
   exact retG2 hf rfl ⟨_, _, rfl, hp.ob (i := 0) rfl, .inr ⟨by kernel_rfl, rfl⟩⟩ rfl ⟨x0, rfl, hp.drop⟩
  refine goT ?_
  refine st_alloc (cs := [.int .i64 (0 : Int), .int .i64 (0 : Int), .nilFunc]) (zv := .agg #[.int .i64 (0 : Int), .int .i64 (0 : Int), .nilFunc]) hf (by decide) (by kernel_rfl) rfl hp rfl ?_
  clear hf; intro a w v1 hf hp0; clear hp; have hp := hp0; clear hp0
  replace hp : Hp _ _ _ (Res.obj 91 v1 [.int .i64 (0 : Int), .int .i64 (0 : Int), .nilFunc] :: ow) := hp
  refine go ?_; intro a hf
  refine wp_if hf rfl (fun hb => ?_) (fun hb => ?_)
  ·
   replace h := ifT h hb
   refine goT ?_
   obtain ⟨q3, hcall4, h⟩ := bnd h
   refine st_call hf (by decide) Tryz.func52 rfl rfl rfl rfl rfl (f_points_square_c hp _ _ hcall4) ?_
   rintro _ w ⟨v5, rfl, hp⟩
   replace hp : Hp _ _ _ (Res.clo Tryz.prog v5 q3.2.2 :: _ :: ow) := hp
   refine ⟨_, rfl, fun a hf => ?_⟩
   refine st_stO (us := [.int .i64 q3.1, .int .i64 q3.2.1, v5]) hf hp (i := 1) rfl rfl rfl rfl rfl (by simp only [List.all_cons, List.all_nil, hp.cloOne (i := 0) rfl]; rfl) (by kernel_rfl) (Nat.le_of_ble_eq_true rfl) ?_
   clear hf; intro a w hf hp0; clear hp; have hp := hp0; clear hp0
   replace hp : Hp _ _ _ (_ :: Res.obj 91 v1 [.int .i64 q3.1, .int .i64 q3.2.1, v5] :: ow) := hp
   refine go ?_; intro a hf
   refine ib_r ?_
   refine th_r ?_
   obtain rfl := oj h
   have hp : Hp _ _ _ (_ :: _ :: ow) := (hp.pk [1, 0] 2 :)
   exact ⟨rfl, ⟨_, _, hf.sb, hp⟩⟩
  replace h := ifF h hb
  refine go ?_; intro a hf
  refine wp_if hf rfl (fun hb => ?_) (fun hb => ?_)
  ·
   replace h := ifT h hb
   refine goT ?_
   obtain ⟨q7, hcall8, h⟩ := bnd h
   refine st_call hf (by decide) Tryz.func52 rfl rfl rfl rfl rfl (f_points_square_c hp _ _ hcall8) ?_
   rintro _ w ⟨v9, rfl, hp⟩
   replace hp : Hp _ _ _ (Res.clo Tryz.prog v9 q7.2.2 :: Res.obj 91 v1 [.int .i64 (0 : Int), .int .i64 (0 : Int), .nilFunc] :: ow) := hp
   refine ⟨_, rfl, fun a hf => ?_⟩
   refine st_stO (us := [.int .i64 q7.1, .int .i64 q7.2.1, v9]) hf hp (i := 1) rfl rfl rfl rfl rfl (by simp only [List.all_cons, List.all_nil, hp.cloOne (i := 0) rfl]; rfl) (by kernel_rfl) (Nat.le_of_ble_eq_true rfl) ?_
   clear hf; intro a w hf hp0; clear hp; have hp := hp0; clear hp0
   replace hp : Hp _ _ _ (_ :: Res.obj 91 v1 [.int .i64 q7.1, .int .i64 q7.2.1, v9] :: ow) := hp
   refine go ?_; intro a hf
   refine ib_r ?_
   refine th_r ?_
   obtain rfl := oj h
   have hp : Hp _ _ _ (_ :: _ :: ow) := (hp.pk [1, 0] 2 :)
   exact ⟨rfl, ⟨_, _, hf.sb, hp⟩⟩
  replace h := ifF h hb
  refine go ?_; intro a hf
  refine wp_if hf rfl (fun hb => ?_) (fun hb => ?_)
  ·
   replace h := ifT h hb
   refine goT ?_
   obtain ⟨q11, hcall12, h⟩ := bnd h
   refine st_call hf (by decide) Tryz.func53 rfl rfl rfl rfl rfl (f_points_cross_c hp _ _ _ hcall12) ?_
   rintro _ w ⟨v13, rfl, hp⟩
   replace hp : Hp _ _ _ (Res.clo Tryz.prog v13 q11.2.2 :: Res.obj 91 v1 [.int .i64 (0 : Int), .int .i64 (0 : Int), .nilFunc] :: ow) := hp
   refine ⟨_, rfl, fun a hf => ?_⟩
   refine st_stO (us := [.int .i64 q11.1, .int .i64 q11.2.1, v13]) hf hp (i := 1) rfl rfl rfl rfl rfl (by simp only [List.all_cons, List.all_nil, hp.cloOne (i := 0) rfl]; rfl) (by kernel_rfl) (Nat.le_of_ble_eq_true rfl) ?_
   clear hf; intro a w hf hp0; clear hp; have hp := hp0; clear hp0
   replace hp : Hp _ _ _ (_ :: Res.obj 91 v1 [.int .i64 q11.1, .int .i64 q11.2.1, v13] :: ow) := hp
   refine go ?_; intro a hf
   refine ib_r ?_
   refine th_r ?_
   obtain rfl := oj h
   have hp : Hp _ _ _ (_ :: _ :: ow) := (hp.pk [1, 0] 2 :)
   exact ⟨rfl, ⟨_, _, hf.sb, hp⟩⟩
  replace h := ifF h hb
  refine go ?_; intro a hf
  refine wp_if hf rfl (fun hb => ?_) (fun hb => ?_)
  ·
   replace h := ifT h hb
   refine goT ?_
   obtain ⟨q15, hcall16, h⟩ := bnd h
   refine st_call hf (by decide) Tryz.func52 rfl rfl rfl rfl rfl (f_points_square_c hp _ _ hcall16) ?_
   rintro _ w ⟨v17, rfl, hp⟩
   replace hp : Hp _ _ _ (Res.clo Tryz.prog v17 q15.2.2 :: Res.obj 91 v1 [.int .i64 (0 : Int), .int .i64 (0 : Int), .nilFunc] :: ow) := hp
   refine ⟨_, rfl, fun a hf => ?_⟩
   refine st_stO (us := [.int .i64 q15.1, .int .i64 q15.2.1, v17]) hf hp (i := 1) rfl rfl rfl rfl rfl (by simp only [List.all_cons, List.all_nil, hp.cloOne (i := 0) rfl]; rfl) (by kernel_rfl) (Nat.le_of_ble_eq_true rfl) ?_
   clear hf; intro a w hf hp0; clear hp; have hp := hp0; clear hp0
   replace hp : Hp _ _ _ (_ :: Res.obj 91 v1 [.int .i64 q15.1, .int .i64 q15.2.1, v17] :: ow) := hp
   refine go ?_; intro a hf
   refine ib_r ?_
   refine th_r ?_
   obtain rfl := oj h
   have hp : Hp _ _ _ (_ :: _ :: ow) := (hp.pk [1, 0] 2 :)
   exact ⟨rfl, ⟨_, _, hf.sb, hp⟩⟩
  replace h := ifF h hb
  refine go ?_; intro a hf
  refine wp_if hf rfl (fun hb => ?_) (fun hb => ?_)
  ·
   replace h := ifT h hb
   refine goT ?_
   obtain ⟨q19, hcall20, h⟩ := bnd h
   refine st_call hf (by decide) Tryz.func53 rfl rfl rfl rfl rfl (f_points_cross_c hp _ _ _ hcall20) ?_
   rintro _ w ⟨v21, rfl, hp⟩
   replace hp : Hp _ _ _ (Res.clo Tryz.prog v21 q19.2.2 :: Res.obj 91 v1 [.int .i64 (0 : Int), .int .i64 (0 : Int), .nilFunc] :: ow) := hp
   refine ⟨_, rfl, fun a hf => ?_⟩
   refine st_stO (us := [.int .i64 q19.1, .int .i64 q19.2.1, v21]) hf hp (i := 1) rfl rfl rfl rfl rfl (by simp only [List.all_cons, List.all_nil, hp.cloOne (i := 0) rfl]; rfl) (by kernel_rfl) (Nat.le_of_ble_eq_true rfl) ?_
   clear hf; intro a w hf hp0; clear hp; have hp := hp0; clear hp0
   replace hp : Hp _ _ _ (_ :: Res.obj 91 v1 [.int .i64 q19.1, .int .i64 q19.2.1, v21] :: ow) := hp
   refine go ?_; intro a hf
   refine ib_r ?_
   refine th_r ?_
   obtain rfl := oj h
   have hp : Hp _ _ _ (_ :: _ :: ow) := (hp.pk [1, 0] 2 :)
   exact ⟨rfl, ⟨_, _, hf.sb, hp⟩⟩
  replace h := ifF h hb
  refine go ?_; intro a hf
  refine wp_if hf rfl (fun hb => ?_) (fun hb => ?_)
  ·
   replace h := ifT h hb
   refine goT ?_
   obtain ⟨q23, hcall24, h⟩ := bnd h
   refine st_call hf (by decide) Tryz.func52 rfl rfl rfl rfl rfl (f_points_square_c hp _ _ hcall24) ?_
   rintro _ w ⟨v25, rfl, hp⟩
   replace hp : Hp _ _ _ (Res.clo Tryz.prog v25 q23.2.2 :: Res.obj 91 v1 [.int .i64 (0 : Int), .int .i64 (0 : Int), .nilFunc] :: ow) := hp
   refine ⟨_, rfl, fun a hf => ?_⟩
   refine st_stO (us := [.int .i64 q23.1, .int .i64 q23.2.1, v25]) hf hp (i := 1) rfl rfl rfl rfl rfl (by simp only [List.all_cons, List.all_nil, hp.cloOne (i := 0) rfl]; rfl) (by kernel_rfl) (Nat.le_of_ble_eq_true rfl) ?_
   clear hf; intro a w hf hp0; clear hp; have hp := hp0; clear hp0
   replace hp : Hp _ _ _ (_ :: Res.obj 91 v1 [.int .i64 q23.1, .int .i64 q23.2.1, v25] :: ow) := hp
   refine go ?_; intro a hf
   refine ib_r ?_
   refine th_r ?_
   obtain rfl := oj h
   have hp : Hp _ _ _ (_ :: _ :: ow) := (hp.pk [1, 0] 2 :)
   exact ⟨rfl, ⟨_, _, hf.sb, hp⟩⟩
  replace h := ifF h hb
  refine wp_skip ?_
  refine goT ?_
  refine st_buildA (vals := []) (cells := [.int .i64 (0 : Int), .int .i64 (0 : Int), .nilFunc]) hf (by decide) rfl (by simp []) (fun w => by kernel_rfl) fun a _ hf => ?_
  refine st_stO (us := [.int .i64 (0 : Int), .int .i64 (0 : Int), .nilFunc]) hf hp (i := 0) rfl rfl rfl rfl rfl (by rfl) (by kernel_rfl) (Nat.le_of_ble_eq_true rfl) ?_
  clear hf; intro a w hf hp0; clear hp; have hp := hp0; clear hp0
  replace hp : Hp _ _ _ (Res.obj 91 v1 [.int .i64 (0 : Int), .int .i64 (0 : Int), .nilFunc] :: ow) := hp
  refine go ?_; intro a hf
  replace hp : Hp _ _ _ (Res.clo Tryz.prog .nilFunc (fun _ => none) :: _ :: ow) := hp.cloNone _
  obtain rfl := oj h
  have hp : Hp _ _ _ (_ :: _ :: ow) := (hp.pk [1, 0] 2 :)
  exact ⟨rfl, ⟨_, _, hf.sb, hp⟩⟩

noncomputable def f_points_Edge (size0 : Int) : Option (Int × Int) := ((f_points_of size0).bind fun q1 => (if (!q1.2) = true then (some ((0 : Int), (1 : Int))) else (some (q1.1.2.1, (0 : Int)))))
theorem f_points_Edge_c {S : Nat → Prop} {w0 w : World} {ow : List Res} (hp : Hp S w0 w ow) (size0 : Int) {r : (Int × Int)} (h : f_points_Edge size0 = some r) :
   Calls Tryz.prog 62 #[.int .i64 size0] w (fun e w' => e = .returned (.tuple #[.int .i64 r.1, .int .i64 r.2]) ∧ Hp S w0 w' (ow)) := by
  unfold f_points_Edge at h
  refine enx (n := 15) Tryz.func62 fun a hf => ?_
  refine wp_mono (Q := fun e a w => e = .ret ∧ Fr 15 a [(2, .int .i64 r.1), (3, .int .i64 r.2)] ∧ Hp S w0 w (ow)) ?_ ?_
  rotate_left
  ·
   rintro e a w ⟨rfl, hf, hp⟩
   exact ret2 hf rfl rfl rfl ⟨rfl, hp⟩
  refine go ?_; intro a hf
  obtain ⟨q1, hcall2, h⟩ := bnd h
  refine st_call hf (by decide) Tryz.func31 rfl rfl rfl rfl rfl (f_points_of_c hp _ hcall2) ?_
  rintro _ w ⟨v3, rfl, hp⟩
  replace hp : Hp _ _ _ (Res.clo Tryz.prog v3 q1.1.2.2 :: ow) := hp
  refine ⟨_, rfl, fun a hf => ?_⟩
  refine go ?_; intro a hf
  refine st_alloc (cs := [.int .i64 (0 : Int), .int .i64 (0 : Int), .nilFunc]) (zv := .agg #[.int .i64 (0 : Int), .int .i64 (0 : Int), .nilFunc]) hf (by decide) (by kernel_rfl) rfl hp rfl ?_
  clear hf; intro a w v5 hf hp0; clear hp; have hp := hp0; clear hp0
  replace hp : Hp _ _ _ (Res.obj 91 v5 [.int .i64 (0 : Int), .int .i64 (0 : Int), .nilFunc] :: _ :: ow) := hp
  refine st_stO (us := [.int .i64 q1.1.1, .int .i64 q1.1.2.1, v3]) hf hp (i := 0) rfl rfl rfl rfl rfl (by simp only [List.all_cons, List.all_nil, hp.cloOne (i := 1) rfl]; rfl) (by kernel_rfl) (Nat.le_of_ble_eq_true rfl) ?_
  clear hf; intro a w hf hp0; clear hp; have hp := hp0; clear hp0
  replace hp : Hp _ _ _ (Res.obj 91 v5 [.int .i64 q1.1.1, .int .i64 q1.1.2.1, v3] :: _ :: ow) := hp
  refine go ?_; intro a hf
  refine wp_if hf rfl (fun hb => ?_) (fun hb => ?_)
  ·
   replace h := ifT h hb
   refine go ?_; intro a hf
   obtain rfl := oj h
   have hp : Hp _ _ _ (ow) := (hp.pk [] 2 :)
   exact ⟨rfl, ⟨hf.sb, hp⟩⟩
  replace h := ifF h hb
  refine wp_skip ?_
  refine goT ?_
  refine st_fa (o' := 1) hf (by decide) (off := 1) (sz := 1) (by kernel_rfl) (by decide) rfl rfl (hp.ob (i := 0) rfl) rfl fun a _ hf => ?_
  refine st_ldO (u := .int .i64 q1.1.2.1) hf (by decide) pl3 rfl rfl (hp.ob (i := 0) rfl) rfl fun a _ hf => ?_
  refine go ?_; intro a hf
  obtain rfl := oj h
  have hp : Hp _ _ _ (ow) := (hp.pk [] 2 :)
  exact ⟨rfl, ⟨hf.sb, hp⟩⟩

noncomputable def f_math_Abs (xx0 : Fl) : Option Fl := ((fbits xx0).bind fun q1 => (some (Fl.bits ((iandn .u64 q1 (9223372036854775808 : Int))).toNat)))
theorem f_math_Abs_c {S : Nat → Prop} {w0 w : World} {ow : List Res} (hp : Hp S w0 w ow) (bxx0 : Nat) (xx0 : Fl) (hxx0 : xx0.rep bxx0) {r : Fl} (h : f_math_Abs xx0 = some r) :
   Calls Tryz.prog 86 #[.float .f64 bxx0] w (fun e w' => ∃ (b0 : Nat), e = .returned (.float .f64 b0) ∧ Fl.rep b0 r ∧ Hp S w0 w' (ow)) := by
  unfold f_math_Abs at h
  refine enx (n := 7) Tryz.func86 fun a hf => ?_
  refine wp_mono (Q := fun e a w => e = .ret ∧ ∃ (b0 : Nat), Fr 7 a [(2, .float .f64 b0)] ∧ Fl.rep b0 r ∧ Hp S w0 w (ow)) ?_ ?_
  rotate_left
  ·
   rintro e a w ⟨rfl, x0, hf, y0, hp⟩
   exact ret1 hf rfl rfl ⟨x0, rfl, y0, hp⟩
  refine go ?_; intro a hf
  obtain ⟨q1, hq2, h⟩ := bnd h
  refine st_extern (ex := Extern.MathFloatBits.float64bits) (r := .int .u64 (bxx0 : Int)) (f := 93) (vs := [.float .f64 bxx0]) hf (by decide) Tryz.func93 rfl rfl (by kernel_rfl) (by kernel_rfl) rfl rfl rfl rfl fun a _ hf => ?_
  have he3 := fbits_rep hxx0 hq2; rw [← he3] at hf
  refine st_iandn hf (by decide) rfl rfl rfl fun a _ hf => ?_
  refine st_extern (ex := Extern.MathFloatBits.float64frombits) (r := .float .f64 ((iandn .u64 q1 (9223372036854775808 : Int))).toNat) (f := 92) (vs := [.int .u64 (iandn .u64 q1 (9223372036854775808 : Int))]) hf (by decide) Tryz.func92 rfl rfl (by kernel_rfl) (by kernel_rfl) rfl rfl rfl rfl fun a _ hf => ?_
  refine go ?_; intro a hf
  obtain rfl := oj h
  exact ⟨rfl, ⟨_, hf.sb, rfl, hp⟩⟩

noncomputable def f_math_Floor (xx0 : Fl) : Option Fl := (some (fint Ieee.Toward.down xx0))
theorem f_math_Floor_c {S : Nat → Prop} {w0 w : World} {ow : List Res} (hp : Hp S w0 w ow) (bxx0 : Nat) (xx0 : Fl) (hxx0 : xx0.rep bxx0) {r : Fl} (h : f_math_Floor xx0 = some r) :
   Calls Tryz.prog 73 #[.float .f64 bxx0] w (fun e w' => ∃ (b0 : Nat), e = .returned (.float .f64 b0) ∧ Fl.rep b0 r ∧ Hp S w0 w' (ow)) := by
  unfold f_math_Floor at h
  refine enx (n := 7) Tryz.func73 fun a hf => ?_
  refine wp_mono (Q := fun e a w => e = .ret ∧ ∃ (b0 : Nat), Fr 7 a [(2, .float .f64 b0)] ∧ Fl.rep b0 r ∧ Hp S w0 w (ow)) ?_ ?_
  rotate_left
  ·
   rintro e a w ⟨rfl, x0, hf, y0, hp⟩
   exact ret1 hf rfl rfl ⟨x0, rfl, y0, hp⟩
  refine go ?_; intro a hf
  refine wp_if hf rfl (fun hb => ?_) (fun hb => ?_)
  rotate_left
  · exact absurd hb (by decide)
  refine go ?_; intro a hf
  refine st_fint (fx := xx0) (nm := "math.archFloor") (way := Ieee.Toward.down) (f := 82) hf (by decide) hp Tryz.func82 rfl rfl (by kernel_rfl) (by kernel_rfl) rfl rfl rfl hxx0 ?_
  clear hf; intro a w bb1 y2 hf hp0; clear hp; have hp := hp0; clear hp0
  replace hp : Hp _ _ _ (ow) := hp
  refine go ?_; intro a hf
  obtain rfl := oj h
  exact ⟨rfl, ⟨_, hf.sb, y2, hp⟩⟩

noncomputable def f_feedback_step (xx0 : Fl) : Option Bool := ((f_math_Abs xx0).bind fun q1 => ((if (fle q1 (Fl.bits 4607182418800017408)) = true then ((f_math_Floor (fmul xx0 (Fl.bits 4634204016564240384))).bind fun q10 => (some (feq q10 (fmul xx0 (Fl.bits 4634204016564240384))))) else (some false)).bind fun z7 => (some z7)))
theorem f_feedback_step_c {S : Nat → Prop} {w0 w : World} {ow : List Res} (hp : Hp S w0 w ow) (bxx0 : Nat) (xx0 : Fl) (hxx0 : xx0.rep bxx0) {r : Bool} (h : f_feedback_step xx0 = some r) :
   Calls Tryz.prog 85 #[.float .f64 bxx0] w (fun e w' => e = .returned (.bool r) ∧ Hp S w0 w' (ow)) := by
  unfold f_feedback_step at h
  refine enx (n := 14) Tryz.func85 fun a hf => ?_
  refine wp_mono (Q := fun e a w => e = .ret ∧ Fr 14 a [(2, .bool r)] ∧ Hp S w0 w (ow)) ?_ ?_
  rotate_left
  ·
   rintro e a w ⟨rfl, hf, hp⟩
   exact ret1 hf rfl rfl ⟨rfl, hp⟩
  refine go ?_; intro a hf
  obtain ⟨q1, hcall2, h⟩ := bnd h
  refine st_call hf (by decide) Tryz.func86 rfl rfl rfl rfl rfl (f_math_Abs_c hp _ _ (show Fl.rep bxx0 xx0 from hxx0) hcall2) ?_
  rintro _ w ⟨v3, rfl, y4, hp⟩
  replace hp : Hp _ _ _ (ow) := hp
  refine ⟨_, rfl, fun a hf => ?_⟩
  refine st_fcmp (r_fle (fx := q1) (fy := (Fl.bits 4607182418800017408)) y4 rfl) hf (by decide) rfl rfl rfl fun a _ hf => ?_
  refine go ?_; intro a hf
  obtain ⟨z7, hz5, h⟩ := bnd h
  refine wpList_cut 7 (fun a w => Fr 14 a [(13, .bool z7)] ∧ Hp S w0 w (ow)) ?_ ?_
  ·
   rcases Bool.eq_false_or_eq_true (fle q1 (Fl.bits 4607182418800017408)) with hb6 | hb6
   ·
    replace hz5 := ifT hz5 hb6
    refine go ?_; intro a hf
    refine st_farith (op := .mul) rfl hf (by decide) hp (wantY hf rfl rfl hb6) rfl rfl (show Fl.rep bxx0 xx0 from hxx0) (show Fl.rep 4634204016564240384 (Fl.bits 4634204016564240384) from rfl) ?_
    clear hf; intro a w bb8 y9 hf hp0; clear hp; have hp := hp0; clear hp0
    replace hp : Hp _ _ _ (ow) := hp
    obtain ⟨q10, hcall11, hz5⟩ := bnd hz5
    refine st_call hf (by decide) Tryz.func73 rfl rfl (wantY hf rfl rfl hb6) rfl rfl (f_math_Floor_c hp _ _ (show Fl.rep bb8 (fmul xx0 (Fl.bits 4634204016564240384)) from y9) hcall11) ?_
    rintro _ w ⟨v12, rfl, y13, hp⟩
    replace hp : Hp _ _ _ (ow) := hp
    refine ⟨_, rfl, fun a hf => ?_⟩
    refine go ?_; intro a hf
    refine st_farith (op := .mul) rfl hf (by decide) hp (wantY hf rfl rfl hb6) rfl rfl (show Fl.rep bxx0 xx0 from hxx0) (show Fl.rep 4634204016564240384 (Fl.bits 4634204016564240384) from rfl) ?_
    clear hf; intro a w bb14 y15 hf hp0; clear hp; have hp := hp0; clear hp0
    replace hp : Hp _ _ _ (ow) := hp
    refine st_fcmp (r_feq (fx := q10) (fy := (fmul xx0 (Fl.bits 4634204016564240384))) y13 y15) hf (by decide) (wantY hf rfl rfl hb6) rfl rfl fun a _ hf => ?_
    obtain rfl := oj hz5
    refine go ?_; intro a hf
    exact ⟨hf.sb, hp⟩
   replace hz5 := ifF hz5 hb6
   obtain rfl := oj hz5
   refine go ?_; intro a hf
   exact ⟨hf.sb, hp⟩
  rintro a w ⟨hf, hp⟩
  refine go ?_; intro a hf
  obtain rfl := oj h
  exact ⟨rfl, ⟨hf.sb, hp⟩⟩

noncomputable def f_feedback_taps.s1c (l0 : (List (Fl × Fl))) (sum3 : Fl) (t8 : Int) : Option ((Fl × Int) ⊕ (Fl ⊕ Bool)) := (if (decide (t8 < (l0.length : Int))) = true then (if 0 ≤ t8 ∧ t8 < (l0.length : Int) then ((f_feedback_step ((gt l0 t8).1)).bind fun q10 => ((if (!q10) = true then (some true) else ((f_feedback_step ((gt l0 t8).2)).bind fun q15 => (some (!q15)))).bind fun z14 => (if z14 = true then (some (Sum.inr (Sum.inr false))) else ((f_math_Abs ((gt l0 t8).1)).bind fun q17 => ((f_math_Abs ((gt l0 t8).2)).bind fun q21 => (some (Sum.inl ((fadd sum3 (fadd q17 q21)), (IntKind.i64.wrap (t8 + (1 : Int))))))))))) else none) else (some (Sum.inr (Sum.inl sum3))))
noncomputable def f_feedback_taps.s1 (l0 : (List (Fl × Fl))) (s : (Fl × Int)) : Option ((Fl × Int) ⊕ (Fl ⊕ Bool)) := f_feedback_taps.s1c l0 s.1 s.2
noncomputable def f_feedback_taps (l0 : (List (Fl × Fl))) : Option Bool := ((loop (f_feedback_taps.s1 l0) ((Fl.bits 0), (0 : Int))).bind (fun q29 => sm q29 (fun q30 => (some (((decide ((0 : Int) < (l0.length : Int))) && (decide ((l0.length : Int) ≤ (64 : Int)))) && (fle q30 (Fl.bits 4616189618054758400))))) (fun q31 => (some q31))))
theorem f_feedback_taps_c {S : Nat → Prop} {w0 w : World} {ow : List Res} (hp : Hp S w0 w ow) (vl0 : Value) (l0 : (List (Fl × Fl))) (hl0 : RdS Ek.c128 S w0 vl0 l0) {r : Bool} (h : f_feedback_taps l0 = some r) :
   Calls Tryz.prog 80 #[vl0] w (fun e w' => e = .returned (.bool r) ∧ Hp S w0 w' (ow)) := by
  unfold f_feedback_taps at h
  refine enx (n := 44) Tryz.func80 fun a hf => ?_
  refine wp_mono (Q := fun e a w => e = .ret ∧ Fr 44 a [(2, .bool r)] ∧ Hp S w0 w (ow)) ?_ ?_
  rotate_left
  ·
   rintro e a w ⟨rfl, hf, hp⟩
   exact ret1 hf rfl rfl ⟨rfl, hp⟩
  refine go ?_; intro a hf
  refine st_len (E := Ek.c128) hf (by decide) Tryz.underlying54 rfl rfl (hl0.sl hp) fun a _ hf => ?_
  refine go ?_; intro a hf
  obtain ⟨q29, hl, h⟩ := bnd h
  refine wp_loop_pure (f := (f_feedback_taps.s1 l0)) (s := ((Fl.bits 0), (0 : Int))) (fun s a w => ∃ (bb1 : Nat), Fr 44 a [(0, vl0), (3, .float .f64 bb1), (6, vl0), (7, .int .i64 (l0.length : Int)), (8, .int .i64 s.2)] ∧ Fl.rep bb1 s.1 ∧ Hp S w0 w (ow)) (fun q e a w => match q with | (Sum.inl q) => e = .exit 0 ∧ ∃ (bb3 : Nat), Fr 44 a [(0, vl0), (3, .float .f64 bb3)] ∧ Fl.rep bb3 q ∧ Hp S w0 w (ow) | (Sum.inr q) => e = .ret ∧ Fr 44 a [(2, .bool q)] ∧ Hp S w0 w (ow)) ?_ hl ⟨_, hf.sb, rfl, hp⟩ ?_
  ·
   clear hl hf hp
   intro s x a w h hI
   obtain ⟨sum3, t8⟩ := s
   obtain ⟨bb1, hf, y2, hp⟩ : ∃ (bb1 : Nat), Fr 44 a [(0, vl0), (3, .float .f64 bb1), (6, vl0), (7, .int .i64 (l0.length : Int)), (8, .int .i64 t8)] ∧ Fl.rep bb1 sum3 ∧ Hp S w0 w (ow) := hI
   replace h : f_feedback_taps.s1c l0 sum3 t8 = some x := h
   unfold f_feedback_taps.s1c at h
   refine go ?_; intro a hf
   refine wp_if hf rfl (fun hb => ?_) (fun hb => ?_)
   ·
    replace h := ifT h hb
    refine wp_skip ?_
    refine goT ?_
    obtain ⟨hc5, h⟩ := chk h
    refine st_index (E := Ek.c128) hf (by decide) Tryz.underlying54 elt35 rfl rfl rfl (hl0.sl hp) hc5.1 hc5.2 fun a _ hf => ?_
    refine st_ldC hf (by decide) pl35 rfl rfl (hl0.sl hp) hc5.1 hc5.2 ?_
    clear hf; intro a bb6 bb7 y8 y9 ha hf; clear ha
    refine go ?_; intro a hf
    obtain ⟨q10, hcall11, h⟩ := bnd h
    refine st_call hf (by decide) Tryz.func85 rfl rfl rfl rfl rfl (f_feedback_step_c hp _ _ (show Fl.rep bb6 ((gt l0 t8).1) from y8) hcall11) ?_
    rintro _ w ⟨rfl, hp⟩
    replace hp : Hp _ _ _ (ow) := hp
    refine ⟨_, rfl, fun a hf => ?_⟩
    refine go ?_; intro a hf
    obtain ⟨z14, hz12, h⟩ := bnd h
    refine wpList_cut 5 (fun a w => Fr 44 a [(0, vl0), (3, .float .f64 bb1), (5, .complex .f64 bb6 bb7), (6, vl0), (7, .int .i64 (l0.length : Int)), (8, .int .i64 t8), (21, .bool z14)] ∧ Hp S w0 w (ow)) ?_ ?_
    ·
     rcases Bool.eq_false_or_eq_true (!q10) with hb13 | hb13
     ·
      replace hz12 := ifT hz12 hb13
      obtain rfl := oj hz12
      refine go ?_; intro a hf
      exact ⟨hf.sb, hp⟩
     replace hz12 := ifF hz12 hb13
     refine go ?_; intro a hf
     obtain ⟨q15, hcall16, hz12⟩ := bnd hz12
     refine st_call hf (by decide) Tryz.func85 rfl rfl (wantY hf rfl rfl hb13) rfl rfl (f_feedback_step_c hp _ _ (show Fl.rep bb7 ((gt l0 t8).2) from y9) hcall16) ?_
     rintro _ w ⟨rfl, hp⟩
     replace hp : Hp _ _ _ (ow) := hp
     refine ⟨_, rfl, fun a hf => ?_⟩
     obtain rfl := oj hz12
     refine go ?_; intro a hf
     exact ⟨hf.sb, hp⟩
    rintro a w ⟨hf, hp⟩
    refine goT ?_
    refine wp_if hf rfl (fun hb => ?_) (fun hb => ?_)
    ·
     replace h := ifT h hb
     refine go ?_; intro a hf
     refine ib_r ?_
     refine th_r ?_
     obtain rfl := oj h
     exact rnd_r (by simp) ⟨rfl, ⟨hf.sb, hp⟩⟩
    replace h := ifF h hb
    refine wp_skip ?_
    refine go ?_; intro a hf
    obtain ⟨q17, hcall18, h⟩ := bnd h
    refine st_call hf (by decide) Tryz.func86 rfl rfl rfl rfl rfl (f_math_Abs_c hp _ _ (show Fl.rep bb6 ((gt l0 t8).1) from y8) hcall18) ?_
    rintro _ w ⟨v19, rfl, y20, hp⟩
    replace hp : Hp _ _ _ (ow) := hp
    refine ⟨_, rfl, fun a hf => ?_⟩
    refine go ?_; intro a hf
    obtain ⟨q21, hcall22, h⟩ := bnd h
    refine st_call hf (by decide) Tryz.func86 rfl rfl rfl rfl rfl (f_math_Abs_c hp _ _ (show Fl.rep bb7 ((gt l0 t8).2) from y9) hcall22) ?_
    rintro _ w ⟨v23, rfl, y24, hp⟩
    replace hp : Hp _ _ _ (ow) := hp
    refine ⟨_, rfl, fun a hf => ?_⟩
    refine st_farith (op := .add) rfl hf (by decide) hp rfl rfl rfl (show Fl.rep v19 q17 from y20) (show Fl.rep v23 q21 from y24) ?_
    clear hf; intro a w bb25 y26 hf hp0; clear hp; have hp := hp0; clear hp0
    replace hp : Hp _ _ _ (ow) := hp
    refine st_farith (op := .add) rfl hf (by decide) hp rfl rfl rfl (show Fl.rep bb1 sum3 from y2) (show Fl.rep bb25 (fadd q17 q21) from y26) ?_
    clear hf; intro a w bb27 y28 hf hp0; clear hp; have hp := hp0; clear hp0
    replace hp : Hp _ _ _ (ow) := hp
    refine go ?_; intro a hf
    obtain rfl := oj h
    exact rnd_l ⟨_, hf.sb, y28, hp⟩
   replace h := ifF h hb
   refine wp_exit ?_
   refine th_e ?_
   obtain rfl := oj h
   exact rnd_r (by simp) ⟨rfl, _, hf.sb, y2, hp⟩
  clear hl hf hp
  intro e a w hne hO
  rcases q29 with q30 | q31
  ·
   replace h := smL h
   obtain ⟨rfl, bb3, hf, y4, hp⟩ := hO
   refine ib_same ?_
   refine go ?_; intro a hf
   refine st_len (E := Ek.c128) hf (by decide) Tryz.underlying54 rfl rfl (hl0.sl hp) fun a _ hf => ?_
   refine go ?_; intro a hf
   refine wpList_cut 4 (fun a w => Fr 44 a [(3, .float .f64 bb3), (39, .bool ((decide ((0 : Int) < (l0.length : Int))) && (decide ((l0.length : Int) ≤ (64 : Int)))))] ∧ Hp S w0 w (ow)) ?_ ?_
   ·
    rcases Bool.eq_false_or_eq_true (decide ((0 : Int) < (l0.length : Int))) with hb33 | hb33
    ·
     refine go ?_; intro a hf
     refine st_len (E := Ek.c128) hf (by decide) Tryz.underlying54 (wantY hf rfl rfl hb33) rfl (hl0.sl hp) fun a _ hf => ?_
     refine go ?_; intro a hf
     exact ⟨hf.sub ⟨rfl, (by rw [hb33]; rfl), trivial⟩, hp⟩
    refine go ?_; intro a hf
    exact ⟨hf.sub ⟨rfl, (by rw [hb33]; rfl), trivial⟩, hp⟩
   rintro a w ⟨hf, hp⟩
   refine go ?_; intro a hf
   refine wpList_cut 3 (fun a w => Fr 44 a [(43, .bool (((decide ((0 : Int) < (l0.length : Int))) && (decide ((l0.length : Int) ≤ (64 : Int)))) && (fle q30 (Fl.bits 4616189618054758400))))] ∧ Hp S w0 w (ow)) ?_ ?_
   ·
    rcases Bool.eq_false_or_eq_true ((decide ((0 : Int) < (l0.length : Int))) && (decide ((l0.length : Int) ≤ (64 : Int)))) with hb35 | hb35
    ·
     refine go ?_; intro a hf
     refine st_fcmp (r_fle (fx := q30) (fy := (Fl.bits 4616189618054758400)) y4 rfl) hf (by decide) (wantY hf rfl rfl hb35) rfl rfl fun a _ hf => ?_
     refine go ?_; intro a hf
     exact ⟨hf.sub ⟨(by rw [hb35]; rfl), trivial⟩, hp⟩
    refine go ?_; intro a hf
    exact ⟨hf.sub ⟨(by rw [hb35]; rfl), trivial⟩, hp⟩
   rintro a w ⟨hf, hp⟩
   refine go ?_; intro a hf
   obtain rfl := oj h
   exact ⟨rfl, ⟨hf.sb, hp⟩⟩
  replace h := smR h
  obtain ⟨rfl, hf, hp⟩ := hO
  refine ib_r ?_
  refine th_r ?_
  obtain rfl := oj h
  exact ⟨rfl, ⟨hf.sb, hp⟩⟩

noncomputable def f_feedback_turned.s1c (n1 : Int) (zx0 : (Fl × Fl)) (t6 : Int) : Option (((Fl × Fl) × Int) ⊕ (Fl × Fl)) := (if (decide (t6 < n1)) = true then (some (Sum.inl ((zx0.2, (fneg zx0.1)), (IntKind.i64.wrap (t6 + (1 : Int)))))) else (some (Sum.inr zx0)))
noncomputable def f_feedback_turned.s1 (n1 : Int) (s : ((Fl × Fl) × Int)) : Option (((Fl × Fl) × Int) ⊕ (Fl × Fl)) := f_feedback_turned.s1c n1 s.1 s.2
noncomputable def f_feedback_turned (zx0 : (Fl × Fl)) (n1 : Int) : Option (Fl × Fl) := ((loop (f_feedback_turned.s1 n1) (zx0, (0 : Int))).bind (fun q9 => (some q9)))
theorem f_feedback_turned_c {S : Nat → Prop} {w0 w : World} {ow : List Res} (hp : Hp S w0 w ow) (bzx0 czx0 : Nat) (zx0 : Fl × Fl) (hzx0 : zx0.1.rep bzx0) (kzx0 : zx0.2.rep czx0) (n1 : Int) {r : (Fl × Fl)} (h : f_feedback_turned zx0 n1 = some r) :
   Calls Tryz.prog 66 #[.complex .f64 bzx0 czx0, .int .i64 n1] w (fun e w' => ∃ (b0 : Nat) (b1 : Nat), e = .returned (.complex .f64 b0 b1) ∧ Fl.rep b0 r.1 ∧ Fl.rep b1 r.2 ∧ Hp S w0 w' (ow)) := by
  unfold f_feedback_turned at h
  refine enx (n := 16) Tryz.func66 fun a hf => ?_
  refine wp_mono (Q := fun e a w => e = .ret ∧ ∃ (b0 : Nat) (b1 : Nat), Fr 16 a [(4, .complex .f64 b0 b1)] ∧ Fl.rep b0 r.1 ∧ Fl.rep b1 r.2 ∧ Hp S w0 w (ow)) ?_ ?_
  rotate_left
  ·
   rintro e a w ⟨rfl, x0, x1, hf, y0, y1, hp⟩
   exact ret1 hf rfl rfl ⟨x0, x1, rfl, y0, y1, hp⟩
  refine go ?_; intro a hf
  obtain ⟨q9, hl, h⟩ := bnd h
  refine wp_loop_pure (f := (f_feedback_turned.s1 n1)) (s := (zx0, (0 : Int))) (fun s a w => ∃ (bb1 : Nat) (bb2 : Nat), Fr 16 a [(0, .complex .f64 bb1 bb2), (5, .int .i64 n1), (6, .int .i64 s.2)] ∧ Fl.rep bb1 s.1.1 ∧ Fl.rep bb2 s.1.2 ∧ Hp S w0 w (ow)) (fun q e a w => e = .exit 0 ∧ ∃ (bb5 : Nat) (bb6 : Nat), Fr 16 a [(0, .complex .f64 bb5 bb6)] ∧ Fl.rep bb5 q.1 ∧ Fl.rep bb6 q.2 ∧ Hp S w0 w (ow)) ?_ hl ⟨_, _, hf.sb, hzx0, kzx0, hp⟩ ?_
  ·
   clear hl hf hp
   intro s x a w h hI
   obtain ⟨zx0, t6⟩ := s
   obtain ⟨bb1, bb2, hf, y3, y4, hp⟩ : ∃ (bb1 : Nat) (bb2 : Nat), Fr 16 a [(0, .complex .f64 bb1 bb2), (5, .int .i64 n1), (6, .int .i64 t6)] ∧ Fl.rep bb1 zx0.1 ∧ Fl.rep bb2 zx0.2 ∧ Hp S w0 w (ow) := hI
   replace h : f_feedback_turned.s1c n1 zx0 t6 = some x := h
   unfold f_feedback_turned.s1c at h
   refine go ?_; intro a hf
   refine wp_if hf rfl (fun hb => ?_) (fun hb => ?_)
   ·
    replace h := ifT h hb
    refine wp_skip ?_
    refine go ?_; intro a hf
    refine st_fneg hf (by decide) rfl rfl fun a _ hf => ?_
    refine go ?_; intro a hf
    obtain rfl := oj h
    exact rnd_l ⟨_, _, hf.sb, y4, (fneg_rep y3), hp⟩
   replace h := ifF h hb
   refine wp_exit ?_
   refine th_e ?_
   obtain rfl := oj h
   exact rnd_r (by simp) ⟨rfl, _, _, hf.sb, y3, y4, hp⟩
  clear hl hf hp
  intro e a w hne hO
  obtain ⟨rfl, bb5, bb6, hf, y7, y8, hp⟩ := hO
  refine ib_same ?_
  refine go ?_; intro a hf
  obtain rfl := oj h
  exact ⟨rfl, ⟨_, _, hf.sb, y7, y8, hp⟩⟩

noncomputable def f_feedback_first.s1c (hx0 : (Fl × Fl)) (t7 : Int) : Option (Int ⊕ (Unit ⊕ (Fl × Int × Bool))) := (if (decide (t7 < (4 : Int))) = true then ((f_feedback_turned hx0 t7).bind fun q1 => (if ((feq q1.2 (Fl.bits 0)) && (((feq q1.1 (Fl.bits 4607182418800017408)) || (feq q1.1 (Fl.bits 4602678819172646912))) || (feq q1.1 (Fl.bits 4598175219545276416)))) = true then (some (Sum.inr (Sum.inr (q1.1, t7, true)))) else (some (Sum.inl (IntKind.i64.wrap (t7 + (1 : Int))))))) else (some (Sum.inr (Sum.inl ()))))
noncomputable def f_feedback_first.s1 (hx0 : (Fl × Fl)) (s : Int) : Option (Int ⊕ (Unit ⊕ (Fl × Int × Bool))) := f_feedback_first.s1c hx0 s
noncomputable def f_feedback_first (hx0 : (Fl × Fl)) : Option (Fl × Int × Bool) := ((loop (f_feedback_first.s1 hx0) (0 : Int)).bind (fun q13 => sm q13 (fun q14 => (some ((Fl.bits 0), (0 : Int), false))) (fun q15 => (some (q15.1, q15.2.1, q15.2.2)))))
theorem f_feedback_first_c {S : Nat → Prop} {w0 w : World} {ow : List Res} (hp : Hp S w0 w ow) (bhx0 chx0 : Nat) (hx0 : Fl × Fl) (hhx0 : hx0.1.rep bhx0) (khx0 : hx0.2.rep chx0) {r : (Fl × Int × Bool)} (h : f_feedback_first hx0 = some r) :
   Calls Tryz.prog 64 #[.complex .f64 bhx0 chx0] w (fun e w' => ∃ (b0 : Nat), e = .returned (.tuple #[.float .f64 b0, .int .i64 r.2.1, .bool r.2.2]) ∧ Fl.rep b0 r.1 ∧ Hp S w0 w' (ow)) := by
  unfold f_feedback_first at h
  refine enx (n := 35) Tryz.func64 fun a hf => ?_
  refine wp_mono (Q := fun e a w => e = .ret ∧ ∃ (b0 : Nat), Fr 35 a [(2, .float .f64 b0), (3, .int .i64 r.2.1), (4, .bool r.2.2)] ∧ Fl.rep b0 r.1 ∧ Hp S w0 w (ow)) ?_ ?_
  rotate_left
  ·
   rintro e a w ⟨rfl, x0, hf, y0, hp⟩
   exact ret3 hf rfl rfl rfl rfl ⟨x0, rfl, y0, hp⟩
  refine go ?_; intro a hf
  obtain ⟨q13, hl, h⟩ := bnd h
  refine wp_loop_pure (f := (f_feedback_first.s1 hx0)) (s := (0 : Int)) (fun s a w => Fr 35 a [(0, .complex .f64 bhx0 chx0), (7, .int .i64 s)] ∧ Hp S w0 w (ow)) (fun q e a w => match q with | (Sum.inl q) => e = .exit 0 ∧ Fr 35 a [] ∧ Hp S w0 w (ow) | (Sum.inr q) => e = .ret ∧ ∃ (b0 : Nat), Fr 35 a [(2, .float .f64 b0), (3, .int .i64 q.2.1), (4, .bool q.2.2)] ∧ Fl.rep b0 q.1 ∧ Hp S w0 w (ow)) ?_ hl ⟨hf.sb, hp⟩ ?_
  ·
   clear hl hf hp
   intro s x a w h hI
   obtain ⟨t7, hs⟩ : ∃ z, z = s := ⟨s, rfl⟩; subst hs
   obtain ⟨hf, hp⟩ : Fr 35 a [(0, .complex .f64 bhx0 chx0), (7, .int .i64 t7)] ∧ Hp S w0 w (ow) := hI
   replace h : f_feedback_first.s1c hx0 t7 = some x := h
   unfold f_feedback_first.s1c at h
   refine go ?_; intro a hf
   refine wp_if hf rfl (fun hb => ?_) (fun hb => ?_)
   ·
    replace h := ifT h hb
    refine wp_skip ?_
    refine go ?_; intro a hf
    obtain ⟨q1, hcall2, h⟩ := bnd h
    refine st_call hf (by decide) Tryz.func66 rfl rfl rfl rfl rfl (f_feedback_turned_c hp _ _ _ (show Fl.rep bhx0 (hx0).1 from hhx0) (show Fl.rep chx0 (hx0).2 from khx0) _ hcall2) ?_
    rintro _ w ⟨v3, v4, rfl, y5, y6, hp⟩
    replace hp : Hp _ _ _ (ow) := hp
    refine ⟨_, rfl, fun a hf => ?_⟩
    refine go ?_; intro a hf
    refine st_fcmp (r_feq (fx := q1.2) (fy := (Fl.bits 0)) y6 rfl) hf (by decide) rfl rfl rfl fun a _ hf => ?_
    refine go ?_; intro a hf
    refine wpList_cut 14 (fun a w => Fr 35 a [(0, .complex .f64 bhx0 chx0), (5, .int .i64 t7), (6, .complex .f64 v3 v4), (7, .int .i64 t7), (30, .bool ((feq q1.2 (Fl.bits 0)) && (((feq q1.1 (Fl.bits 4607182418800017408)) || (feq q1.1 (Fl.bits 4602678819172646912))) || (feq q1.1 (Fl.bits 4598175219545276416)))))] ∧ Hp S w0 w (ow)) ?_ ?_
    ·
     rcases Bool.eq_false_or_eq_true (feq q1.2 (Fl.bits 0)) with hb8 | hb8
     ·
      refine go ?_; intro a hf
      refine st_fcmp (r_feq (fx := q1.1) (fy := (Fl.bits 4607182418800017408)) y5 rfl) hf (by decide) (wantY hf rfl rfl hb8) rfl rfl fun a _ hf => ?_
      refine go ?_; intro a hf
      refine wpList_cut 4 (fun a w => Fr 35 a [(0, .complex .f64 bhx0 chx0), (5, .int .i64 t7), (6, .complex .f64 v3 v4), (7, .int .i64 t7), (16, .bool (feq q1.2 (Fl.bits 0))), (24, .bool ((feq q1.1 (Fl.bits 4607182418800017408)) || (feq q1.1 (Fl.bits 4602678819172646912))))] ∧ Hp S w0 w (ow)) ?_ ?_
      ·
       rcases Bool.eq_false_or_eq_true (feq q1.1 (Fl.bits 4607182418800017408)) with hb10 | hb10
       ·
        refine go ?_; intro a hf
        exact ⟨hf.sub ⟨rfl, rfl, rfl, rfl, rfl, (by rw [hb10]; rfl), trivial⟩, hp⟩
       refine go ?_; intro a hf
       refine st_fcmp (r_feq (fx := q1.1) (fy := (Fl.bits 4602678819172646912)) y5 rfl) hf (by decide) (wantY hf rfl rfl hb10) rfl rfl fun a _ hf => ?_
       refine go ?_; intro a hf
       exact ⟨hf.sub ⟨rfl, rfl, rfl, rfl, rfl, (by rw [hb10]; rfl), trivial⟩, hp⟩
      rintro a w ⟨hf, hp⟩
      refine go ?_; intro a hf
      refine wpList_cut 4 (fun a w => Fr 35 a [(0, .complex .f64 bhx0 chx0), (5, .int .i64 t7), (6, .complex .f64 v3 v4), (7, .int .i64 t7), (16, .bool (feq q1.2 (Fl.bits 0))), (29, .bool (((feq q1.1 (Fl.bits 4607182418800017408)) || (feq q1.1 (Fl.bits 4602678819172646912))) || (feq q1.1 (Fl.bits 4598175219545276416))))] ∧ Hp S w0 w (ow)) ?_ ?_
      ·
       rcases Bool.eq_false_or_eq_true ((feq q1.1 (Fl.bits 4607182418800017408)) || (feq q1.1 (Fl.bits 4602678819172646912))) with hb12 | hb12
       ·
        refine go ?_; intro a hf
        exact ⟨hf.sub ⟨rfl, rfl, rfl, rfl, rfl, (by rw [hb12]; rfl), trivial⟩, hp⟩
       refine go ?_; intro a hf
       refine st_fcmp (r_feq (fx := q1.1) (fy := (Fl.bits 4598175219545276416)) y5 rfl) hf (by decide) (wantY hf rfl rfl hb12) rfl rfl fun a _ hf => ?_
       refine go ?_; intro a hf
       exact ⟨hf.sub ⟨rfl, rfl, rfl, rfl, rfl, (by rw [hb12]; rfl), trivial⟩, hp⟩
      rintro a w ⟨hf, hp⟩
      refine go ?_; intro a hf
      exact ⟨hf.sub ⟨rfl, rfl, rfl, rfl, (by rw [hb8]; rfl), trivial⟩, hp⟩
     refine st_skip hf (wantN hf rfl rfl hb8) rfl (by decide) ?_ rfl
     clear hf; intro a hf
     refine st_skip hf (wantN hf rfl rfl hb8) rfl (by decide) ?_ rfl
     clear hf; intro a hf
     refine st_skip hf (wantN hf rfl rfl hb8) rfl (by decide) ?_ rfl
     clear hf; intro a hf
     refine st_skipU hf (wantN hf rfl rfl hb8) rfl (by decide) ?_
     clear hf; intro a hf
     refine st_skip hf (wantU hf rfl rfl) rfl (by decide) ?_ rfl
     clear hf; intro a hf
     refine st_skip hf (wantU hf rfl rfl) rfl (by decide) ?_ rfl
     clear hf; intro a hf
     refine st_skip hf (wantU hf rfl rfl) rfl (by decide) ?_ rfl
     clear hf; intro a hf
     refine st_skip hf (wantN hf rfl rfl hb8) rfl (by decide) ?_ rfl
     clear hf; intro a hf
     refine st_skipU hf (wantN hf rfl rfl hb8) rfl (by decide) ?_
     clear hf; intro a hf
     refine st_skip hf (wantU hf rfl rfl) rfl (by decide) ?_ rfl
     clear hf; intro a hf
     refine st_skip hf (wantU hf rfl rfl) rfl (by decide) ?_ rfl
     clear hf; intro a hf
     refine st_skip hf (wantU hf rfl rfl) rfl (by decide) ?_ rfl
     clear hf; intro a hf
     refine go ?_; intro a hf
     exact ⟨hf.sub ⟨rfl, rfl, rfl, rfl, (by rw [hb8]; rfl), trivial⟩, hp⟩
    rintro a w ⟨hf, hp⟩
    refine goT ?_
    refine wp_if hf rfl (fun hb => ?_) (fun hb => ?_)
    ·
     replace h := ifT h hb
     refine go ?_; intro a hf
     refine ib_r ?_
     refine th_r ?_
     obtain rfl := oj h
     exact rnd_r (by simp) ⟨rfl, ⟨_, hf.sb, y5, hp⟩⟩
    replace h := ifF h hb
    refine wp_skip ?_
    refine go ?_; intro a hf
    obtain rfl := oj h
    exact rnd_l ⟨hf.sb, hp⟩
   replace h := ifF h hb
   refine wp_exit ?_
   refine th_e ?_
   obtain rfl := oj h
   exact rnd_r (by simp) ⟨rfl, hf.sub trivial, hp⟩
  clear hl hf hp
  intro e a w hne hO
  rcases q13 with q14 | q15
  ·
   replace h := smL h
   obtain ⟨rfl, hf, hp⟩ := hO
   refine ib_same ?_
   refine go ?_; intro a hf
   obtain rfl := oj h
   exact ⟨rfl, ⟨_, hf.sb, rfl, hp⟩⟩
  replace h := smR h
  obtain ⟨rfl, x0, hf, y0, hp⟩ := hO
  refine ib_r ?_
  refine th_r ?_
  obtain rfl := oj h
  exact ⟨rfl, ⟨_, hf.sb, y0, hp⟩⟩

noncomputable def f_feedback_Check (l0 : (List (Fl × Fl))) : Option Int := ((f_feedback_taps l0).bind fun q1 => (if (!q1) = true then (some (8 : Int)) else (if 0 ≤ (0 : Int) ∧ (0 : Int) < (l0.length : Int) then ((f_feedback_first (gt l0 (0 : Int))).bind fun q8 => (if (!q8.2.2) = true then (some (110 : Int)) else (some (0 : Int)))) else none)))
theorem f_feedback_Check_c {S : Nat → Prop} {w0 w : World} {ow : List Res} (hp : Hp S w0 w ow) (vl0 : Value) (l0 : (List (Fl × Fl))) (hl0 : RdS Ek.c128 S w0 vl0 l0) {r : Int} (h : f_feedback_Check l0 = some r) :
   Calls Tryz.prog 63 #[vl0] w (fun e w' => e = .returned (.int .i64 r) ∧ Hp S w0 w' (ow)) := by
  unfold f_feedback_Check at h
  refine enx (n := 19) Tryz.func63 fun a hf => ?_
  refine wp_mono (Q := fun e a w => e = .ret ∧ Fr 19 a [(2, .int .i64 r)] ∧ Hp S w0 w (ow)) ?_ ?_
  rotate_left
  ·
   rintro e a w ⟨rfl, hf, hp⟩
   exact ret1 hf rfl rfl ⟨rfl, hp⟩
  refine go ?_; intro a hf
  obtain ⟨q1, hcall2, h⟩ := bnd h
  refine st_call hf (by decide) Tryz.func80 rfl rfl rfl rfl rfl (f_feedback_taps_c hp _ _ hl0 hcall2) ?_
  rintro _ w ⟨rfl, hp⟩
  replace hp : Hp _ _ _ (ow) := hp
  refine ⟨_, rfl, fun a hf => ?_⟩
  refine go ?_; intro a hf
  refine wp_if hf rfl (fun hb => ?_) (fun hb => ?_)
  ·
   replace h := ifT h hb
   refine go ?_; intro a hf
   obtain rfl := oj h
   exact ⟨rfl, ⟨hf.sb, hp⟩⟩
  replace h := ifF h hb
  refine wp_skip ?_
  refine go ?_; intro a hf
  obtain ⟨hc3, h⟩ := chk h
  refine st_index (E := Ek.c128) hf (by decide) Tryz.underlying54 elt35 rfl rfl rfl (hl0.sl hp) hc3.1 hc3.2 fun a _ hf => ?_
  refine st_ldC hf (by decide) pl35 rfl rfl (hl0.sl hp) hc3.1 hc3.2 ?_
  clear hf; intro a bb4 bb5 y6 y7 ha hf; clear ha
  obtain ⟨q8, hcall9, h⟩ := bnd h
  refine st_call hf (by decide) Tryz.func64 rfl rfl rfl rfl rfl (f_feedback_first_c hp _ _ _ (show Fl.rep bb4 ((gt l0 (0 : Int))).1 from y6) (show Fl.rep bb5 ((gt l0 (0 : Int))).2 from y7) hcall9) ?_
  rintro _ w ⟨v10, rfl, y11, hp⟩
  replace hp : Hp _ _ _ (ow) := hp
  refine ⟨_, rfl, fun a hf => ?_⟩
  refine go ?_; intro a hf
  refine wp_if hf rfl (fun hb => ?_) (fun hb => ?_)
  ·
   replace h := ifT h hb
   refine go ?_; intro a hf
   obtain rfl := oj h
   exact ⟨rfl, ⟨hf.sb, hp⟩⟩
  replace h := ifF h hb
  refine wp_skip ?_
  refine go ?_; intro a hf
  obtain rfl := oj h
  exact ⟨rfl, ⟨hf.sb, hp⟩⟩

noncomputable def f_feedback_New (hx1 : (List (Fl × Fl))) : Option ((Int × (List (Fl × Fl)) × (List (Fl × Fl)) × Int × Int × Fl × Int × Bool × Bool × (Fl × Fl)) × Int) := ((f_points_Edge (4 : Int)).bind fun q1 => (if (q1.2 != (0 : Int)) = true then none else ((f_feedback_Check hx1).bind fun q3 => (if (q3 != (0 : Int)) = true then none else (if 0 < hx1.length then ((some (([((4 : Int), (List.replicate 64 (Fl.bits 0, Fl.bits 0)), (List.replicate 64 (Fl.bits 0, Fl.bits 0)), (hx1.length : Int), (0 : Int), (Fl.bits 0), (0 : Int), false, false, (Fl.bits 0, Fl.bits 0))]).set ((0 : Int)).toNat ((gt ([((4 : Int), (List.replicate 64 (Fl.bits 0, Fl.bits 0)), (List.replicate 64 (Fl.bits 0, Fl.bits 0)), (hx1.length : Int), (0 : Int), (Fl.bits 0), (0 : Int), false, false, (Fl.bits 0, Fl.bits 0))]) (0 : Int)).1, (cpy ((gt ([((4 : Int), (List.replicate 64 (Fl.bits 0, Fl.bits 0)), (List.replicate 64 (Fl.bits 0, Fl.bits 0)), (hx1.length : Int), (0 : Int), (Fl.bits 0), (0 : Int), false, false, (Fl.bits 0, Fl.bits 0))]) (0 : Int)).2.1) 0 hx1), (gt ([((4 : Int), (List.replicate 64 (Fl.bits 0, Fl.bits 0)), (List.replicate 64 (Fl.bits 0, Fl.bits 0)), (hx1.length : Int), (0 : Int), (Fl.bits 0), (0 : Int), false, false, (Fl.bits 0, Fl.bits 0))]) (0 : Int)).2.2.1, (gt ([((4 : Int), (List.replicate 64 (Fl.bits 0, Fl.bits 0)), (List.replicate 64 (Fl.bits 0, Fl.bits 0)), (hx1.length : Int), (0 : Int), (Fl.bits 0), (0 : Int), false, false, (Fl.bits 0, Fl.bits 0))]) (0 : Int)).2.2.2.1, (gt ([((4 : Int), (List.replicate 64 (Fl.bits 0, Fl.bits 0)), (List.replicate 64 (Fl.bits 0, Fl.bits 0)), (hx1.length : Int), (0 : Int), (Fl.bits 0), (0 : Int), false, false, (Fl.bits 0, Fl.bits 0))]) (0 : Int)).2.2.2.2.1, (gt ([((4 : Int), (List.replicate 64 (Fl.bits 0, Fl.bits 0)), (List.replicate 64 (Fl.bits 0, Fl.bits 0)), (hx1.length : Int), (0 : Int), (Fl.bits 0), (0 : Int), false, false, (Fl.bits 0, Fl.bits 0))]) (0 : Int)).2.2.2.2.2.1, (gt ([((4 : Int), (List.replicate 64 (Fl.bits 0, Fl.bits 0)), (List.replicate 64 (Fl.bits 0, Fl.bits 0)), (hx1.length : Int), (0 : Int), (Fl.bits 0), (0 : Int), false, false, (Fl.bits 0, Fl.bits 0))]) (0 : Int)).2.2.2.2.2.2.1, (gt ([((4 : Int), (List.replicate 64 (Fl.bits 0, Fl.bits 0)), (List.replicate 64 (Fl.bits 0, Fl.bits 0)), (hx1.length : Int), (0 : Int), (Fl.bits 0), (0 : Int), false, false, (Fl.bits 0, Fl.bits 0))]) (0 : Int)).2.2.2.2.2.2.2.1, (gt ([((4 : Int), (List.replicate 64 (Fl.bits 0, Fl.bits 0)), (List.replicate 64 (Fl.bits 0, Fl.bits 0)), (hx1.length : Int), (0 : Int), (Fl.bits 0), (0 : Int), false, false, (Fl.bits 0, Fl.bits 0))]) (0 : Int)).2.2.2.2.2.2.2.2.1, (gt ([((4 : Int), (List.replicate 64 (Fl.bits 0, Fl.bits 0)), (List.replicate 64 (Fl.bits 0, Fl.bits 0)), (hx1.length : Int), (0 : Int), (Fl.bits 0), (0 : Int), false, false, (Fl.bits 0, Fl.bits 0))]) (0 : Int)).2.2.2.2.2.2.2.2.2))).bind fun q8 => (if 0 ≤ (0 : Int) ∧ (0 : Int) < (hx1.length : Int) then ((f_feedback_first (gt hx1 (0 : Int))).bind fun q16 => ((some (q8.set ((0 : Int)).toNat ((gt q8 (0 : Int)).1, (gt q8 (0 : Int)).2.1, (gt q8 (0 : Int)).2.2.1, (gt q8 (0 : Int)).2.2.2.1, (gt q8 (0 : Int)).2.2.2.2.1, q16.1, (gt q8 (0 : Int)).2.2.2.2.2.2.1, (gt q8 (0 : Int)).2.2.2.2.2.2.2.1, (gt q8 (0 : Int)).2.2.2.2.2.2.2.2.1, (gt q8 (0 : Int)).2.2.2.2.2.2.2.2.2))).bind fun q20 => ((some (q20.set ((0 : Int)).toNat ((gt q20 (0 : Int)).1, (gt q20 (0 : Int)).2.1, (gt q20 (0 : Int)).2.2.1, (gt q20 (0 : Int)).2.2.2.1, (gt q20 (0 : Int)).2.2.2.2.1, (gt q20 (0 : Int)).2.2.2.2.2.1, q16.2.1, (gt q20 (0 : Int)).2.2.2.2.2.2.2.1, (gt q20 (0 : Int)).2.2.2.2.2.2.2.2.1, (gt q20 (0 : Int)).2.2.2.2.2.2.2.2.2))).bind fun q23 => (some ((gt q23 (0 : Int)), (0 : Int)))))) else none)) else none)))))
theorem f_feedback_New_c {S : Nat → Prop} {w0 w : World} {ow : List Res} (hp : Hp S w0 w ow) (vhx1 : Value) (hx1 : (List (Fl × Fl))) (hhx1 : RdS Ek.c128 S w0 vhx1 hx1) {r : ((Int × (List (Fl × Fl)) × (List (Fl × Fl)) × Int × Int × Fl × Int × Bool × Bool × (Fl × Fl)) × Int)} (h : f_feedback_New hx1 = some r) :
   Calls Tryz.prog 50 #[.int .i64 (4 : Int), vhx1] w (fun e w' => ∃ (u0 : Value), e = .returned (.tuple #[eptr (aslv u0 1) (0 : Int) 136, .int .i64 r.2]) ∧ Hp S w0 w' (Res.sl EK1 122 (aslv u0 1) [r.1] :: ow)) := by
  unfold f_feedback_New at h
  refine enx (n := 48) Tryz.func50 fun a hf => ?_
  refine wp_mono (Q := fun e a w => e = .ret ∧ ∃ (u0 : Value), Fr 48 a [(4, eptr (aslv u0 1) (0 : Int) 136), (5, .int .i64 r.2)] ∧ Hp S w0 w (Res.sl EK1 122 (aslv u0 1) [r.1] :: ow)) ?_ ?_
  rotate_left
  ·
   rintro e a w ⟨rfl, x0, hf, hp⟩
   exact ret2 hf rfl rfl rfl ⟨x0, rfl, hp⟩
  refine go ?_; intro a hf
  obtain ⟨q1, hcall2, h⟩ := bnd h
  refine st_call hf (by decide) Tryz.func62 rfl rfl rfl rfl rfl (f_points_Edge_c hp _ hcall2) ?_
  rintro _ w ⟨rfl, hp⟩
  replace hp : Hp _ _ _ (ow) := hp
  refine ⟨_, rfl, fun a hf => ?_⟩
  refine go ?_; intro a hf
  refine wp_if hf rfl (fun hb => ?_) (fun hb => ?_)
  ·
   replace h := ifT h hb
   refine go ?_; intro a hf
   cases h
  replace h := ifF h hb
  refine wp_skip ?_
  refine go ?_; intro a hf
  obtain ⟨q3, hcall4, h⟩ := bnd h
  refine st_call hf (by decide) Tryz.func63 rfl rfl rfl rfl rfl (f_feedback_Check_c hp _ _ hhx1 hcall4) ?_
  rintro _ w ⟨rfl, hp⟩
  replace hp : Hp _ _ _ (ow) := hp
  refine ⟨_, rfl, fun a hf => ?_⟩
  refine go ?_; intro a hf
  refine wp_if hf rfl (fun hb => ?_) (fun hb => ?_)
  ·
   replace h := ifT h hb
   refine go ?_; intro a hf
   cases h
  replace h := ifF h hb
  refine wp_skip ?_
  refine go ?_; intro a hf
  refine st_len (E := Ek.c128) hf (by decide) Tryz.underlying54 rfl rfl (hhx1.sl hp) fun a _ hf => ?_
  refine st_buildA (vals := [(0, .int .i64 (4 : Int)), (3, .int .i64 (hx1.length : Int))]) (cells := ([.int .i64 (4 : Int)] ++ ((List.replicate 64 ([.complex .f64 0 0] : List Value)).flatten ++ ((List.replicate 64 ([.complex .f64 0 0] : List Value)).flatten ++ ([.int .i64 (hx1.length : Int)] ++ ([.int .i64 0] ++ ([.float .f64 0] ++ ([.int .i64 0] ++ ([.bool false] ++ ([.bool false] ++ [.complex .f64 0 0])))))))))) hf (by decide) rfl (by simp [hf.ev (x := (Operand.tmp 22)) rfl, hf.ev (x := (Operand.tmp 24)) rfl]) (fun w => by kernel_rfl) fun a _ hf => ?_
  refine st_boxBig (E := EK1) (x9 := ((4 : Int), (List.replicate 64 (Fl.bits 0, Fl.bits 0)), (List.replicate 64 (Fl.bits 0, Fl.bits 0)), (hx1.length : Int), (0 : Int), (Fl.bits 0), (0 : Int), false, false, (Fl.bits 0, Fl.bits 0))) hf (by decide) hp rfl rfl ⟨[.int .i64 (4 : Int)], ((List.replicate 64 ([.complex .f64 0 0] : List Value)).flatten ++ ((List.replicate 64 ([.complex .f64 0 0] : List Value)).flatten ++ ([.int .i64 (hx1.length : Int)] ++ ([.int .i64 0] ++ ([.float .f64 0] ++ ([.int .i64 0] ++ ([.bool false] ++ ([.bool false] ++ [.complex .f64 0 0])))))))), rfl, rfl, ⟨(List.replicate 64 ([.complex .f64 0 0] : List Value)).flatten, ((List.replicate 64 ([.complex .f64 0 0] : List Value)).flatten ++ ([.int .i64 (hx1.length : Int)] ++ ([.int .i64 0] ++ ([.float .f64 0] ++ ([.int .i64 0] ++ ([.bool false] ++ ([.bool false] ++ [.complex .f64 0 0]))))))), rfl, (arr_zero (N := 64) (F := Ek.c128) (zc := ([.complex .f64 0 0] : List Value)) (z := (Fl.bits 0, Fl.bits 0)) ⟨_, _, rfl, rfl, rfl⟩), ⟨(List.replicate 64 ([.complex .f64 0 0] : List Value)).flatten, ([.int .i64 (hx1.length : Int)] ++ ([.int .i64 0] ++ ([.float .f64 0] ++ ([.int .i64 0] ++ ([.bool false] ++ ([.bool false] ++ [.complex .f64 0 0])))))), rfl, (arr_zero (N := 64) (F := Ek.c128) (zc := ([.complex .f64 0 0] : List Value)) (z := (Fl.bits 0, Fl.bits 0)) ⟨_, _, rfl, rfl, rfl⟩), ⟨[.int .i64 (hx1.length : Int)], ([.int .i64 0] ++ ([.float .f64 0] ++ ([.int .i64 0] ++ ([.bool false] ++ ([.bool false] ++ [.complex .f64 0 0]))))), rfl, rfl, ⟨[.int .i64 0], ([.float .f64 0] ++ ([.int .i64 0] ++ ([.bool false] ++ ([.bool false] ++ [.complex .f64 0 0])))), rfl, rfl, ⟨[.float .f64 0], ([.int .i64 0] ++ ([.bool false] ++ ([.bool false] ++ [.complex .f64 0 0]))), rfl, ⟨_, rfl, rfl⟩, ⟨[.int .i64 0], ([.bool false] ++ ([.bool false] ++ [.complex .f64 0 0])), rfl, rfl, ⟨[.bool false], ([.bool false] ++ [.complex .f64 0 0]), rfl, rfl, ⟨[.bool false], [.complex .f64 0 0], rfl, rfl, ⟨_, _, rfl, rfl, rfl⟩⟩⟩⟩⟩⟩⟩⟩⟩⟩ ?_
  clear hf; intro a w v5 hf hp0; clear hp; have hp := hp0; clear hp0
  replace hp : Hp _ _ _ (Res.sl EK1 122 (aslv v5 1) ([((4 : Int), (List.replicate 64 (Fl.bits 0, Fl.bits 0)), (List.replicate 64 (Fl.bits 0, Fl.bits 0)), (hx1.length : Int), (0 : Int), (Fl.bits 0), (0 : Int), false, false, (Fl.bits 0, Fl.bits 0))]) :: ow) := hp
  refine go ?_; intro a hf
  refine st_nilE hf (by decide) rfl rfl (Sl.ptr (hp.sl (i := 0) rfl) (aslv_ix (hp.sl (i := 0) rfl) (show (0 : Int) ≤ (0 : Int) ∧ (0 : Int) < ((1 : Nat) : Int) from by decide)).1 (aslv_ix (hp.sl (i := 0) rfl) (show (0 : Int) ≤ (0 : Int) ∧ (0 : Int) < ((1 : Nat) : Int) from by decide)).2) fun a _ hf => ?_
  refine st_faP (off := 1) (sz := 64) hf (by decide) (by kernel_rfl) (by decide) rfl rfl (Sl.isP (hp.sl (i := 0) rfl) (aslv_ix (hp.sl (i := 0) rfl) (show (0 : Int) ≤ (0 : Int) ∧ (0 : Int) < ((1 : Nat) : Int) from by decide)).1 (aslv_ix (hp.sl (i := 0) rfl) (show (0 : Int) ≤ (0 : Int) ∧ (0 : Int) < ((1 : Nat) : Int) from by decide)).2) fun a _ hf => ?_
  refine st_slQ (F := Ek.c128) (N := 64) hf (by decide) Tryz.underlying120 (by kernel_rfl) rfl rfl (IsP.optr (Sl.isP (hp.sl (i := 0) rfl) (aslv_ix (hp.sl (i := 0) rfl) (show (0 : Int) ≤ (0 : Int) ∧ (0 : Int) < ((1 : Nat) : Int) from by decide)).1 (aslv_ix (hp.sl (i := 0) rfl) (show (0 : Int) ≤ (0 : Int) ∧ (0 : Int) < ((1 : Nat) : Int) from by decide)).2) _) fun a _ hf => ?_
  refine go ?_; intro a hf
  obtain ⟨hc7, h⟩ := chk h
  refine st_copyQ (E := EK1) (F := Ek.c128) (N := 64) (o := 1) rfl (Sub.comp (Sub.snd (E := (Ek.int .i64)) (F := EK2)) (Sub.fst (E := (Ek.arr 64 Ek.c128)) (F := EK3))) hf (by decide) Tryz.underlying54 (by kernel_rfl) hp (i := 0) rfl (hhx1.sl hp) hc7 (aslv_ix (hp.sl (i := 0) rfl) (show (0 : Int) ≤ (0 : Int) ∧ (0 : Int) < ((1 : Nat) : Int) from by decide)).1 (aslv_ix (hp.sl (i := 0) rfl) (show (0 : Int) ≤ (0 : Int) ∧ (0 : Int) < ((1 : Nat) : Int) from by decide)).2 rfl rfl rfl ?_
  clear hf; intro a w hf hp0; clear hp; have hp := hp0; clear hp0
  replace hp : Hp _ _ _ (Res.sl EK1 122 (aslv v5 1) (([((4 : Int), (List.replicate 64 (Fl.bits 0, Fl.bits 0)), (List.replicate 64 (Fl.bits 0, Fl.bits 0)), (hx1.length : Int), (0 : Int), (Fl.bits 0), (0 : Int), false, false, (Fl.bits 0, Fl.bits 0))]).set ((0 : Int)).toNat ((gt ([((4 : Int), (List.replicate 64 (Fl.bits 0, Fl.bits 0)), (List.replicate 64 (Fl.bits 0, Fl.bits 0)), (hx1.length : Int), (0 : Int), (Fl.bits 0), (0 : Int), false, false, (Fl.bits 0, Fl.bits 0))]) (0 : Int)).1, (cpy ((gt ([((4 : Int), (List.replicate 64 (Fl.bits 0, Fl.bits 0)), (List.replicate 64 (Fl.bits 0, Fl.bits 0)), (hx1.length : Int), (0 : Int), (Fl.bits 0), (0 : Int), false, false, (Fl.bits 0, Fl.bits 0))]) (0 : Int)).2.1) 0 hx1), (gt ([((4 : Int), (List.replicate 64 (Fl.bits 0, Fl.bits 0)), (List.replicate 64 (Fl.bits 0, Fl.bits 0)), (hx1.length : Int), (0 : Int), (Fl.bits 0), (0 : Int), false, false, (Fl.bits 0, Fl.bits 0))]) (0 : Int)).2.2.1, (gt ([((4 : Int), (List.replicate 64 (Fl.bits 0, Fl.bits 0)), (List.replicate 64 (Fl.bits 0, Fl.bits 0)), (hx1.length : Int), (0 : Int), (Fl.bits 0), (0 : Int), false, false, (Fl.bits 0, Fl.bits 0))]) (0 : Int)).2.2.2.1, (gt ([((4 : Int), (List.replicate 64 (Fl.bits 0, Fl.bits 0)), (List.replicate 64 (Fl.bits 0, Fl.bits 0)), (hx1.length : Int), (0 : Int), (Fl.bits 0), (0 : Int), false, false, (Fl.bits 0, Fl.bits 0))]) (0 : Int)).2.2.2.2.1, (gt ([((4 : Int), (List.replicate 64 (Fl.bits 0, Fl.bits 0)), (List.replicate 64 (Fl.bits 0, Fl.bits 0)), (hx1.length : Int), (0 : Int), (Fl.bits 0), (0 : Int), false, false, (Fl.bits 0, Fl.bits 0))]) (0 : Int)).2.2.2.2.2.1, (gt ([((4 : Int), (List.replicate 64 (Fl.bits 0, Fl.bits 0)), (List.replicate 64 (Fl.bits 0, Fl.bits 0)), (hx1.length : Int), (0 : Int), (Fl.bits 0), (0 : Int), false, false, (Fl.bits 0, Fl.bits 0))]) (0 : Int)).2.2.2.2.2.2.1, (gt ([((4 : Int), (List.replicate 64 (Fl.bits 0, Fl.bits 0)), (List.replicate 64 (Fl.bits 0, Fl.bits 0)), (hx1.length : Int), (0 : Int), (Fl.bits 0), (0 : Int), false, false, (Fl.bits 0, Fl.bits 0))]) (0 : Int)).2.2.2.2.2.2.2.1, (gt ([((4 : Int), (List.replicate 64 (Fl.bits 0, Fl.bits 0)), (List.replicate 64 (Fl.bits 0, Fl.bits 0)), (hx1.length : Int), (0 : Int), (Fl.bits 0), (0 : Int), false, false, (Fl.bits 0, Fl.bits 0))]) (0 : Int)).2.2.2.2.2.2.2.2.1, (gt ([((4 : Int), (List.replicate 64 (Fl.bits 0, Fl.bits 0)), (List.replicate 64 (Fl.bits 0, Fl.bits 0)), (hx1.length : Int), (0 : Int), (Fl.bits 0), (0 : Int), false, false, (Fl.bits 0, Fl.bits 0))]) (0 : Int)).2.2.2.2.2.2.2.2.2)) :: ow) := hp
  obtain ⟨q8, hq9, h⟩ := bnd h
  have hq10 := Option.some.inj hq9
  rw [hq10] at hp
  replace hp : Hp _ _ _ (Res.sl EK1 122 (aslv v5 1) q8 :: ow) := hp
  refine go ?_; intro a hf
  obtain ⟨hc11, h⟩ := chk h
  refine st_index (E := Ek.c128) hf (by decide) Tryz.underlying54 elt35 rfl rfl rfl (hhx1.sl hp) hc11.1 hc11.2 fun a _ hf => ?_
  refine st_ldC hf (by decide) pl35 rfl rfl (hhx1.sl hp) hc11.1 hc11.2 ?_
  clear hf; intro a bb12 bb13 y14 y15 ha hf; clear ha
  obtain ⟨q16, hcall17, h⟩ := bnd h
  refine st_call hf (by decide) Tryz.func64 rfl rfl rfl rfl rfl (f_feedback_first_c hp _ _ _ (show Fl.rep bb12 ((gt hx1 (0 : Int))).1 from y14) (show Fl.rep bb13 ((gt hx1 (0 : Int))).2 from y15) hcall17) ?_
  rintro _ w ⟨v18, rfl, y19, hp⟩
  replace hp : Hp _ _ _ (_ :: ow) := hp
  refine ⟨_, rfl, fun a hf => ?_⟩
  refine go ?_; intro a hf
  refine st_nilE hf (by decide) rfl rfl (Sl.ptr (hp.sl (i := 0) rfl) (aslv_ix (hp.sl (i := 0) rfl) (show (0 : Int) ≤ (0 : Int) ∧ (0 : Int) < ((1 : Nat) : Int) from by decide)).1 (aslv_ix (hp.sl (i := 0) rfl) (show (0 : Int) ≤ (0 : Int) ∧ (0 : Int) < ((1 : Nat) : Int) from by decide)).2) fun a _ hf => ?_
  refine st_faP (off := 131) (sz := 1) hf (by decide) (by kernel_rfl) (by decide) rfl rfl (Sl.isP (hp.sl (i := 0) rfl) (aslv_ix (hp.sl (i := 0) rfl) (show (0 : Int) ≤ (0 : Int) ∧ (0 : Int) < ((1 : Nat) : Int) from by decide)).1 (aslv_ix (hp.sl (i := 0) rfl) (show (0 : Int) ≤ (0 : Int) ∧ (0 : Int) < ((1 : Nat) : Int) from by decide)).2) fun a _ hf => ?_
  refine st_stQ (E := EK1) (F := Ek.f64) (o := 131) (Sub.comp (Sub.snd (E := (Ek.int .i64)) (F := EK2)) (Sub.comp (Sub.snd (E := (Ek.arr 64 Ek.c128)) (F := EK3)) (Sub.comp (Sub.snd (E := (Ek.arr 64 Ek.c128)) (F := EK4)) (Sub.comp (Sub.snd (E := (Ek.int .i64)) (F := EK5)) (Sub.comp (Sub.snd (E := (Ek.int .i64)) (F := EK6)) (Sub.fst (E := Ek.f64) (F := EK7))))))) hf (by kernel_rfl) hp (i := 0) rfl rfl rfl rfl (show Ek.f64.rep [.float .f64 v18] q16.1 from ⟨_, rfl, y19⟩) (aslv_ix (hp.sl (i := 0) rfl) (show (0 : Int) ≤ (0 : Int) ∧ (0 : Int) < ((1 : Nat) : Int) from by decide)).1 (aslv_ix (hp.sl (i := 0) rfl) (show (0 : Int) ≤ (0 : Int) ∧ (0 : Int) < ((1 : Nat) : Int) from by decide)).2 ?_
  clear hf; intro a w hf hp0; clear hp; have hp := hp0; clear hp0
  replace hp : Hp _ _ _ (Res.sl EK1 122 (aslv v5 1) (q8.set ((0 : Int)).toNat ((gt q8 (0 : Int)).1, (gt q8 (0 : Int)).2.1, (gt q8 (0 : Int)).2.2.1, (gt q8 (0 : Int)).2.2.2.1, (gt q8 (0 : Int)).2.2.2.2.1, q16.1, (gt q8 (0 : Int)).2.2.2.2.2.2.1, (gt q8 (0 : Int)).2.2.2.2.2.2.2.1, (gt q8 (0 : Int)).2.2.2.2.2.2.2.2.1, (gt q8 (0 : Int)).2.2.2.2.2.2.2.2.2)) :: ow) := hp
  obtain ⟨q20, hq21, h⟩ := bnd h
  have hq22 := Option.some.inj hq21
  rw [hq22] at hp
  replace hp : Hp _ _ _ (Res.sl EK1 122 (aslv v5 1) q20 :: ow) := hp
  refine st_nilE hf (by decide) rfl rfl (Sl.ptr (hp.sl (i := 0) rfl) (aslv_ix (hp.sl (i := 0) rfl) (show (0 : Int) ≤ (0 : Int) ∧ (0 : Int) < ((1 : Nat) : Int) from by decide)).1 (aslv_ix (hp.sl (i := 0) rfl) (show (0 : Int) ≤ (0 : Int) ∧ (0 : Int) < ((1 : Nat) : Int) from by decide)).2) fun a _ hf => ?_
  refine st_faP (off := 132) (sz := 1) hf (by decide) (by kernel_rfl) (by decide) rfl rfl (Sl.isP (hp.sl (i := 0) rfl) (aslv_ix (hp.sl (i := 0) rfl) (show (0 : Int) ≤ (0 : Int) ∧ (0 : Int) < ((1 : Nat) : Int) from by decide)).1 (aslv_ix (hp.sl (i := 0) rfl) (show (0 : Int) ≤ (0 : Int) ∧ (0 : Int) < ((1 : Nat) : Int) from by decide)).2) fun a _ hf => ?_
  refine st_stQ (E := EK1) (F := (Ek.int .i64)) (o := 132) (Sub.comp (Sub.snd (E := (Ek.int .i64)) (F := EK2)) (Sub.comp (Sub.snd (E := (Ek.arr 64 Ek.c128)) (F := EK3)) (Sub.comp (Sub.snd (E := (Ek.arr 64 Ek.c128)) (F := EK4)) (Sub.comp (Sub.snd (E := (Ek.int .i64)) (F := EK5)) (Sub.comp (Sub.snd (E := (Ek.int .i64)) (F := EK6)) (Sub.comp (Sub.snd (E := Ek.f64) (F := EK7)) (Sub.fst (E := (Ek.int .i64)) (F := EK8)))))))) hf (by kernel_rfl) hp (i := 0) rfl rfl rfl rfl rfl (aslv_ix (hp.sl (i := 0) rfl) (show (0 : Int) ≤ (0 : Int) ∧ (0 : Int) < ((1 : Nat) : Int) from by decide)).1 (aslv_ix (hp.sl (i := 0) rfl) (show (0 : Int) ≤ (0 : Int) ∧ (0 : Int) < ((1 : Nat) : Int) from by decide)).2 ?_
  clear hf; intro a w hf hp0; clear hp; have hp := hp0; clear hp0
  replace hp : Hp _ _ _ (Res.sl EK1 122 (aslv v5 1) (q20.set ((0 : Int)).toNat ((gt q20 (0 : Int)).1, (gt q20 (0 : Int)).2.1, (gt q20 (0 : Int)).2.2.1, (gt q20 (0 : Int)).2.2.2.1, (gt q20 (0 : Int)).2.2.2.2.1, (gt q20 (0 : Int)).2.2.2.2.2.1, q16.2.1, (gt q20 (0 : Int)).2.2.2.2.2.2.2.1, (gt q20 (0 : Int)).2.2.2.2.2.2.2.2.1, (gt q20 (0 : Int)).2.2.2.2.2.2.2.2.2)) :: ow) := hp
  obtain ⟨q23, hq24, h⟩ := bnd h
  have hq25 := Option.some.inj hq24
  rw [hq25] at hp
  replace hp : Hp _ _ _ (Res.sl EK1 122 (aslv v5 1) q23 :: ow) := hp
  refine go ?_; intro a hf
  rw [aslv_one (hp.sl (i := 0) rfl)] at hp
  obtain rfl := oj h
  exact ⟨rfl, ⟨_, hf.sb, hp⟩⟩

noncomputable def f_grid_within (xx0 : Fl) : Option Bool := (some ((fge xx0 (Fl.bits 13875590451928498176)) && (fle xx0 (Fl.bits 4652218415073722368))))
theorem f_grid_within_c {S : Nat → Prop} {w0 w : World} {ow : List Res} (hp : Hp S w0 w ow) (bxx0 : Nat) (xx0 : Fl) (hxx0 : xx0.rep bxx0) {r : Bool} (h : f_grid_within xx0 = some r) :
   Calls Tryz.prog 72 #[.float .f64 bxx0] w (fun e w' => e = .returned (.bool r) ∧ Hp S w0 w' (ow)) := by
  unfold f_grid_within at h
  refine enx (n := 9) Tryz.func72 fun a hf => ?_
  refine wp_mono (Q := fun e a w => e = .ret ∧ Fr 9 a [(2, .bool r)] ∧ Hp S w0 w (ow)) ?_ ?_
  rotate_left
  ·
   rintro e a w ⟨rfl, hf, hp⟩
   exact ret1 hf rfl rfl ⟨rfl, hp⟩
  refine go ?_; intro a hf
  refine st_fcmp (r_fge (fx := xx0) (fy := (Fl.bits 13875590451928498176)) hxx0 rfl) hf (by decide) rfl rfl rfl fun a _ hf => ?_
  refine go ?_; intro a hf
  refine wpList_cut 3 (fun a w => Fr 9 a [(8, .bool ((fge xx0 (Fl.bits 13875590451928498176)) && (fle xx0 (Fl.bits 4652218415073722368))))] ∧ Hp S w0 w (ow)) ?_ ?_
  ·
   rcases Bool.eq_false_or_eq_true (fge xx0 (Fl.bits 13875590451928498176)) with hb2 | hb2
   ·
    refine go ?_; intro a hf
    refine st_fcmp (r_fle (fx := xx0) (fy := (Fl.bits 4652218415073722368)) hxx0 rfl) hf (by decide) (wantY hf rfl rfl hb2) rfl rfl fun a _ hf => ?_
    refine go ?_; intro a hf
    exact ⟨hf.sub ⟨(by rw [hb2]; rfl), trivial⟩, hp⟩
   refine go ?_; intro a hf
   exact ⟨hf.sub ⟨(by rw [hb2]; rfl), trivial⟩, hp⟩
  rintro a w ⟨hf, hp⟩
  refine go ?_; intro a hf
  obtain rfl := oj h
  exact ⟨rfl, ⟨hf.sb, hp⟩⟩

noncomputable def f_grid_On (xx0 : Fl) : Option Bool := ((f_grid_within xx0).bind fun q1 => ((if q1 = true then ((f_math_Floor (fmul xx0 (Fl.bits 4661225614328463360))).bind fun q8 => (some (feq q8 (fmul xx0 (Fl.bits 4661225614328463360))))) else (some false)).bind fun z5 => (some z5)))
theorem f_grid_On_c {S : Nat → Prop} {w0 w : World} {ow : List Res} (hp : Hp S w0 w ow) (bxx0 : Nat) (xx0 : Fl) (hxx0 : xx0.rep bxx0) {r : Bool} (h : f_grid_On xx0 = some r) :
   Calls Tryz.prog 55 #[.float .f64 bxx0] w (fun e w' => e = .returned (.bool r) ∧ Hp S w0 w' (ow)) := by
  unfold f_grid_On at h
  refine enx (n := 13) Tryz.func55 fun a hf => ?_
  refine wp_mono (Q := fun e a w => e = .ret ∧ Fr 13 a [(2, .bool r)] ∧ Hp S w0 w (ow)) ?_ ?_
  rotate_left
  ·
   rintro e a w ⟨rfl, hf, hp⟩
   exact ret1 hf rfl rfl ⟨rfl, hp⟩
  refine go ?_; intro a hf
  obtain ⟨q1, hcall2, h⟩ := bnd h
  refine st_call hf (by decide) Tryz.func72 rfl rfl rfl rfl rfl (f_grid_within_c hp _ _ (show Fl.rep bxx0 xx0 from hxx0) hcall2) ?_
  rintro _ w ⟨rfl, hp⟩
  replace hp : Hp _ _ _ (ow) := hp
  refine ⟨_, rfl, fun a hf => ?_⟩
  refine go ?_; intro a hf
  obtain ⟨z5, hz3, h⟩ := bnd h
  refine wpList_cut 7 (fun a w => Fr 13 a [(12, .bool z5)] ∧ Hp S w0 w (ow)) ?_ ?_
  ·
   rcases Bool.eq_false_or_eq_true q1 with hb4 | hb4
   ·
    replace hz3 := ifT hz3 hb4
    refine go ?_; intro a hf
    refine st_farith (op := .mul) rfl hf (by decide) hp (wantY hf rfl rfl hb4) rfl rfl (show Fl.rep bxx0 xx0 from hxx0) (show Fl.rep 4661225614328463360 (Fl.bits 4661225614328463360) from rfl) ?_
    clear hf; intro a w bb6 y7 hf hp0; clear hp; have hp := hp0; clear hp0
    replace hp : Hp _ _ _ (ow) := hp
    obtain ⟨q8, hcall9, hz3⟩ := bnd hz3
    refine st_call hf (by decide) Tryz.func73 rfl rfl (wantY hf rfl rfl hb4) rfl rfl (f_math_Floor_c hp _ _ (show Fl.rep bb6 (fmul xx0 (Fl.bits 4661225614328463360)) from y7) hcall9) ?_
    rintro _ w ⟨v10, rfl, y11, hp⟩
    replace hp : Hp _ _ _ (ow) := hp
    refine ⟨_, rfl, fun a hf => ?_⟩
    refine go ?_; intro a hf
    refine st_farith (op := .mul) rfl hf (by decide) hp (wantY hf rfl rfl hb4) rfl rfl (show Fl.rep bxx0 xx0 from hxx0) (show Fl.rep 4661225614328463360 (Fl.bits 4661225614328463360) from rfl) ?_
    clear hf; intro a w bb12 y13 hf hp0; clear hp; have hp := hp0; clear hp0
    replace hp : Hp _ _ _ (ow) := hp
    refine st_fcmp (r_feq (fx := q8) (fy := (fmul xx0 (Fl.bits 4661225614328463360))) y11 y13) hf (by decide) (wantY hf rfl rfl hb4) rfl rfl fun a _ hf => ?_
    obtain rfl := oj hz3
    refine go ?_; intro a hf
    exact ⟨hf.sb, hp⟩
   replace hz3 := ifF hz3 hb4
   obtain rfl := oj hz3
   refine go ?_; intro a hf
   exact ⟨hf.sb, hp⟩
  rintro a w ⟨hf, hp⟩
  refine go ?_; intro a hf
  obtain rfl := oj h
  exact ⟨rfl, ⟨hf.sb, hp⟩⟩

noncomputable def f_grid_may (sx0_V : (Fl × Fl)) (sx0_Lost : Bool) : Option Bool := (if sx0_Lost = true then (some (ceq sx0_V (Fl.bits 0, Fl.bits 0))) else ((f_grid_On sx0_V.1).bind fun q3 => ((if q3 = true then ((f_grid_On sx0_V.2).bind fun q8 => (some q8)) else (some false)).bind fun z7 => (some z7))))
theorem f_grid_may_c {S : Nat → Prop} {w0 w : World} {ow : List Res} (hp : Hp S w0 w ow) (bsx0_V csx0_V : Nat) (sx0_V : Fl × Fl) (hsx0_V : sx0_V.1.rep bsx0_V) (ksx0_V : sx0_V.2.rep csx0_V) (sx0_Lost : Bool) {r : Bool} (h : f_grid_may sx0_V sx0_Lost = some r) :
   Calls Tryz.prog 43 #[.agg #[.complex .f64 bsx0_V csx0_V, .bool sx0_Lost]] w (fun e w' => e = .returned (.bool r) ∧ Hp S w0 w' (ow)) := by
  unfold f_grid_may at h
  refine enx (n := 18) Tryz.func43 fun a hf => ?_
  refine wp_mono (Q := fun e a w => e = .ret ∧ Fr 18 a [(2, .bool r)] ∧ Hp S w0 w (ow)) ?_ ?_
  rotate_left
  ·
   rintro e a w ⟨rfl, hf, hp⟩
   exact ret1 hf rfl rfl ⟨rfl, hp⟩
  refine goT ?_
  refine st_boxO (cs := [.complex .f64 bsx0_V csx0_V, .bool sx0_Lost]) hf (by decide) hp rfl rfl rfl ?_
  clear hf; intro a w v1 hf hp0; clear hp; have hp := hp0; clear hp0
  replace hp : Hp _ _ _ (Res.obj 37 v1 [.complex .f64 bsx0_V csx0_V, .bool sx0_Lost] :: ow) := hp
  refine go ?_; intro a hf
  refine st_fa (o' := 1) hf (by decide) (off := 1) (sz := 1) (by kernel_rfl) (by decide) rfl rfl (hp.ob (i := 0) rfl) rfl fun a _ hf => ?_
  refine st_ldO (u := .bool sx0_Lost) hf (by decide) pl4 rfl rfl (hp.ob (i := 0) rfl) rfl fun a _ hf => ?_
  refine goT ?_
  refine wp_if hf rfl (fun hb => ?_) (fun hb => ?_)
  ·
   replace h := ifT h hb
   refine goT ?_
   refine st_fa (o' := 0) hf (by decide) (off := 0) (sz := 1) (by kernel_rfl) (by decide) rfl rfl (hp.ob (i := 0) rfl) rfl fun a _ hf => ?_
   refine st_ldO (u := .complex .f64 bsx0_V csx0_V) hf (by decide) pl35 rfl rfl (hp.ob (i := 0) rfl) rfl fun a _ hf => ?_
   refine st_ccmp (r_ceq (x := sx0_V) (y := (Fl.bits 0, Fl.bits 0)) hsx0_V ksx0_V rfl rfl) hf (by decide) rfl rfl rfl fun a _ hf => ?_
   refine go ?_; intro a hf
   obtain rfl := oj h
   have hp : Hp _ _ _ (ow) := (hp.pk [] 1 :)
   exact ⟨rfl, ⟨hf.sb, hp⟩⟩
  replace h := ifF h hb
  refine wp_skip ?_
  refine goT ?_
  refine st_fa (o' := 0) hf (by decide) (off := 0) (sz := 1) (by kernel_rfl) (by decide) rfl rfl (hp.ob (i := 0) rfl) rfl fun a _ hf => ?_
  refine st_ldO (u := .complex .f64 bsx0_V csx0_V) hf (by decide) pl35 rfl rfl (hp.ob (i := 0) rfl) rfl fun a _ hf => ?_
  refine go ?_; intro a hf
  obtain ⟨q3, hcall4, h⟩ := bnd h
  refine st_call hf (by decide) Tryz.func55 rfl rfl rfl rfl rfl (f_grid_On_c hp _ _ (show Fl.rep bsx0_V sx0_V.1 from hsx0_V) hcall4) ?_
  rintro _ w ⟨rfl, hp⟩
  replace hp : Hp _ _ _ (_ :: ow) := hp
  refine ⟨_, rfl, fun a hf => ?_⟩
  refine go ?_; intro a hf
  obtain ⟨z7, hz5, h⟩ := bnd h
  refine wpList_cut 5 (fun a w => Fr 18 a [(17, .bool z7)] ∧ Hp S w0 w (Res.obj 37 v1 [.complex .f64 bsx0_V csx0_V, .bool sx0_Lost] :: ow)) ?_ ?_
  ·
   rcases Bool.eq_false_or_eq_true q3 with hb6 | hb6
   ·
    replace hz5 := ifT hz5 hb6
    refine st_fa (o' := 0) hf (by decide) (off := 0) (sz := 1) (by kernel_rfl) (by decide) (wantY hf rfl rfl hb6) rfl (hp.ob (i := 0) rfl) rfl fun a _ hf => ?_
    refine st_ldO (u := .complex .f64 bsx0_V csx0_V) hf (by decide) pl35 (wantY hf rfl rfl hb6) rfl (hp.ob (i := 0) rfl) rfl fun a _ hf => ?_
    refine go ?_; intro a hf
    obtain ⟨q8, hcall9, hz5⟩ := bnd hz5
    refine st_call hf (by decide) Tryz.func55 rfl rfl (wantY hf rfl rfl hb6) rfl rfl (f_grid_On_c hp _ _ (show Fl.rep csx0_V sx0_V.2 from ksx0_V) hcall9) ?_
    rintro _ w ⟨rfl, hp⟩
    replace hp : Hp _ _ _ (_ :: ow) := hp
    refine ⟨_, rfl, fun a hf => ?_⟩
    obtain rfl := oj hz5
    refine go ?_; intro a hf
    exact ⟨hf.sb, hp⟩
   replace hz5 := ifF hz5 hb6
   obtain rfl := oj hz5
   refine go ?_; intro a hf
   exact ⟨hf.sb, hp⟩
  rintro a w ⟨hf, hp⟩
  refine go ?_; intro a hf
  obtain rfl := oj h
  have hp : Hp _ _ _ (ow) := (hp.pk [] 1 :)
  exact ⟨rfl, ⟨hf.sb, hp⟩⟩

noncomputable def f_grid_Check.s1c (l0 : (List ((Fl × Fl) × Bool))) (t11 : Int) : Option (Int ⊕ (Unit ⊕ (Int × Int))) := (if (decide (t11 < (l0.length : Int))) = true then (if 0 ≤ t11 ∧ t11 < (l0.length : Int) then ((f_grid_may ((gt l0 t11).1) ((gt l0 t11).2)).bind fun q10 => (if (!q10) = true then (some (Sum.inr (Sum.inr (t11, (7 : Int))))) else (some (Sum.inl (IntKind.i64.wrap (t11 + (1 : Int))))))) else none) else (some (Sum.inr (Sum.inl ()))))
noncomputable def f_grid_Check.s1 (l0 : (List ((Fl × Fl) × Bool))) (s : Int) : Option (Int ⊕ (Unit ⊕ (Int × Int))) := f_grid_Check.s1c l0 s
noncomputable def f_grid_Check (l0 : (List ((Fl × Fl) × Bool))) : Option (Int × Int) := (if (decide ((65536 : Int) < (l0.length : Int))) = true then (some ((0 : Int), (1 : Int))) else ((loop (f_grid_Check.s1 l0) (0 : Int)).bind (fun q12 => sm q12 (fun q13 => (some ((0 : Int), (0 : Int)))) (fun q14 => (some (q14.1, q14.2))))))
theorem f_grid_Check_c {S : Nat → Prop} {w0 w : World} {ow : List Res} (hp : Hp S w0 w ow) (vl0 : Value) (l0 : (List ((Fl × Fl) × Bool))) (hl0 : RdS (Ek.pair Ek.c128 Ek.bool) S w0 vl0 l0) {r : (Int × Int)} (h : f_grid_Check l0 = some r) :
   Calls Tryz.prog 25 #[vl0] w (fun e w' => e = .returned (.tuple #[.int .i64 r.1, .int .i64 r.2]) ∧ Hp S w0 w' (ow)) := by
  unfold f_grid_Check at h
  refine enx (n := 21) Tryz.func25 fun a hf => ?_
  refine wp_mono (Q := fun e a w => e = .ret ∧ Fr 21 a [(2, .int .i64 r.1), (3, .int .i64 r.2)] ∧ Hp S w0 w (ow)) ?_ ?_
  rotate_left
  ·
   rintro e a w ⟨rfl, hf, hp⟩
   exact ret2 hf rfl rfl rfl ⟨rfl, hp⟩
  refine go ?_; intro a hf
  refine st_len (E := (Ek.pair Ek.c128 Ek.bool)) hf (by decide) Tryz.underlying33 rfl rfl (hl0.sl hp) fun a _ hf => ?_
  refine go ?_; intro a hf
  refine wp_if hf rfl (fun hb => ?_) (fun hb => ?_)
  ·
   replace h := ifT h hb
   refine go ?_; intro a hf
   obtain rfl := oj h
   exact ⟨rfl, ⟨hf.sb, hp⟩⟩
  replace h := ifF h hb
  refine wp_skip ?_
  refine go ?_; intro a hf
  refine st_len (E := (Ek.pair Ek.c128 Ek.bool)) hf (by decide) Tryz.underlying33 rfl rfl (hl0.sl hp) fun a _ hf => ?_
  refine go ?_; intro a hf
  obtain ⟨q12, hl, h⟩ := bnd h
  refine wp_loop_pure (f := (f_grid_Check.s1 l0)) (s := (0 : Int)) (fun s a w => Fr 21 a [(9, vl0), (10, .int .i64 (l0.length : Int)), (11, .int .i64 s)] ∧ Hp S w0 w (ow)) (fun q e a w => match q with | (Sum.inl q) => e = .exit 0 ∧ Fr 21 a [] ∧ Hp S w0 w (ow) | (Sum.inr q) => e = .ret ∧ Fr 21 a [(2, .int .i64 q.1), (3, .int .i64 q.2)] ∧ Hp S w0 w (ow)) ?_ hl ⟨hf.sb, hp⟩ ?_
  ·
   clear hl hf hp
   intro s x a w h hI
   obtain ⟨t11, hs⟩ : ∃ z, z = s := ⟨s, rfl⟩; subst hs
   obtain ⟨hf, hp⟩ : Fr 21 a [(9, vl0), (10, .int .i64 (l0.length : Int)), (11, .int .i64 t11)] ∧ Hp S w0 w (ow) := hI
   replace h : f_grid_Check.s1c l0 t11 = some x := h
   unfold f_grid_Check.s1c at h
   refine go ?_; intro a hf
   refine wp_if hf rfl (fun hb => ?_) (fun hb => ?_)
   ·
    replace h := ifT h hb
    refine wp_skip ?_
    refine go ?_; intro a hf
    obtain ⟨hc1, h⟩ := chk h
    refine st_index (E := (Ek.pair Ek.c128 Ek.bool)) hf (by decide) Tryz.underlying33 elt37 rfl rfl rfl (hl0.sl hp) hc1.1 hc1.2 fun a _ hf => ?_
    refine st_ldQA (F := (Ek.pair Ek.c128 Ek.bool)) (yv := (gt l0 t11)) (m := 2) hf (by decide) (by kernel_rfl) rfl rfl rfl (Part.whole (hl0.sl hp) hc1.1 hc1.2) ?_
    clear hf; intro a cs2 hr3 ha hf; clear ha
    obtain ⟨_, _, rfl, ⟨bb4, bb5, rfl, y6, y7⟩, rfl⟩ := hr3
    replace hf : Fr _ _ ((15, .agg #[.complex .f64 bb4 bb5, .bool ((gt l0 t11).2)]) :: _) := hf
    refine st_alloc (cs := [.complex .f64 0 0, .bool false]) (zv := .agg #[.complex .f64 0 0, .bool false]) hf (by decide) (by kernel_rfl) rfl hp rfl ?_
    clear hf; intro a w v8 hf hp0; clear hp; have hp := hp0; clear hp0
    replace hp : Hp _ _ _ (Res.obj 37 v8 [.complex .f64 0 0, .bool false] :: ow) := hp
    refine go ?_; intro a hf
    refine st_stO (us := [.complex .f64 bb4 bb5, .bool ((gt l0 t11).2)]) hf hp (i := 0) rfl rfl rfl rfl rfl (by rfl) (by kernel_rfl) (Nat.le_of_ble_eq_true rfl) ?_
    clear hf; intro a w hf hp0; clear hp; have hp := hp0; clear hp0
    replace hp : Hp _ _ _ (Res.obj 37 v8 [.complex .f64 bb4 bb5, .bool ((gt l0 t11).2)] :: ow) := hp
    refine goT ?_
    refine st_ldOA (m := 2) (us := [.complex .f64 bb4 bb5, .bool ((gt l0 t11).2)]) hf (by decide) (by kernel_rfl) rfl rfl (hp.ob (i := 0) rfl) rfl rfl fun a _ hf => ?_
    obtain ⟨q10, hcall11, h⟩ := bnd h
    refine st_call hf (by decide) Tryz.func43 rfl rfl rfl rfl rfl (f_grid_may_c hp _ _ _ (show Fl.rep bb4 ((gt l0 t11).1).1 from y6) (show Fl.rep bb5 ((gt l0 t11).1).2 from y7) _ hcall11) ?_
    rintro _ w ⟨rfl, hp⟩
    replace hp : Hp _ _ _ (_ :: ow) := hp
    refine ⟨_, rfl, fun a hf => ?_⟩
    refine go ?_; intro a hf
    refine wp_if hf rfl (fun hb => ?_) (fun hb => ?_)
    ·
     replace h := ifT h hb
     refine go ?_; intro a hf
     refine ib_r ?_
     refine th_r ?_
     obtain rfl := oj h
     have hp : Hp _ _ _ (ow) := (hp.pk [] 1 :)
     exact rnd_r (by simp) ⟨rfl, ⟨hf.sb, hp⟩⟩
    replace h := ifF h hb
    refine wp_skip ?_
    refine go ?_; intro a hf
    obtain rfl := oj h
    have hp : Hp _ _ _ (ow) := (hp.pk [] 1 :)
    exact rnd_l ⟨hf.sb, hp⟩
   replace h := ifF h hb
   refine wp_exit ?_
   refine th_e ?_
   obtain rfl := oj h
   exact rnd_r (by simp) ⟨rfl, hf.sub trivial, hp⟩
  clear hl hf hp
  intro e a w hne hO
  rcases q12 with q13 | q14
  ·
   replace h := smL h
   obtain ⟨rfl, hf, hp⟩ := hO
   refine ib_same ?_
   refine go ?_; intro a hf
   obtain rfl := oj h
   exact ⟨rfl, ⟨hf.sb, hp⟩⟩
  replace h := smR h
  obtain ⟨rfl, hf, hp⟩ := hO
  refine ib_r ?_
  refine th_r ?_
  obtain rfl := oj h
  exact ⟨rfl, ⟨hf.sb, hp⟩⟩

noncomputable def f_feedback_times (ax0 : (Fl × Fl)) (bx1 : (Fl × Fl)) : Option (Fl × Fl) := (some ((fsub (fmul ax0.1 bx1.1) (fmul ax0.2 bx1.2)), (fadd (fmul ax0.1 bx1.2) (fmul ax0.2 bx1.1))))
theorem f_feedback_times_c {S : Nat → Prop} {w0 w : World} {ow : List Res} (hp : Hp S w0 w ow) (bax0 cax0 : Nat) (ax0 : Fl × Fl) (hax0 : ax0.1.rep bax0) (kax0 : ax0.2.rep cax0) (bbx1 cbx1 : Nat) (bx1 : Fl × Fl) (hbx1 : bx1.1.rep bbx1) (kbx1 : bx1.2.rep cbx1) {r : (Fl × Fl)} (h : f_feedback_times ax0 bx1 = some r) :
   Calls Tryz.prog 65 #[.complex .f64 bax0 cax0, .complex .f64 bbx1 cbx1] w (fun e w' => ∃ (b0 : Nat) (b1 : Nat), e = .returned (.tuple #[.float .f64 b0, .float .f64 b1]) ∧ Fl.rep b0 r.1 ∧ Fl.rep b1 r.2 ∧ Hp S w0 w' (ow)) := by
  unfold f_feedback_times at h
  refine enx (n := 28) Tryz.func65 fun a hf => ?_
  refine wp_mono (Q := fun e a w => e = .ret ∧ ∃ (b0 : Nat) (b1 : Nat), Fr 28 a [(4, .float .f64 b0), (5, .float .f64 b1)] ∧ Fl.rep b0 r.1 ∧ Fl.rep b1 r.2 ∧ Hp S w0 w (ow)) ?_ ?_
  rotate_left
  ·
   rintro e a w ⟨rfl, x0, x1, hf, y0, y1, hp⟩
   exact ret2 hf rfl rfl rfl ⟨x0, x1, rfl, y0, y1, hp⟩
  refine go ?_; intro a hf
  refine st_farith (op := .mul) rfl hf (by decide) hp rfl rfl rfl (show Fl.rep bax0 ax0.1 from hax0) (show Fl.rep bbx1 bx1.1 from hbx1) ?_
  clear hf; intro a w bb1 y2 hf hp0; clear hp; have hp := hp0; clear hp0
  replace hp : Hp _ _ _ (ow) := hp
  refine go ?_; intro a hf
  refine st_farith (op := .mul) rfl hf (by decide) hp rfl rfl rfl (show Fl.rep cax0 ax0.2 from kax0) (show Fl.rep cbx1 bx1.2 from kbx1) ?_
  clear hf; intro a w bb3 y4 hf hp0; clear hp; have hp := hp0; clear hp0
  replace hp : Hp _ _ _ (ow) := hp
  refine st_farith (op := .sub) rfl hf (by decide) hp rfl rfl rfl (show Fl.rep bb1 (fmul ax0.1 bx1.1) from y2) (show Fl.rep bb3 (fmul ax0.2 bx1.2) from y4) ?_
  clear hf; intro a w bb5 y6 hf hp0; clear hp; have hp := hp0; clear hp0
  replace hp : Hp _ _ _ (ow) := hp
  refine go ?_; intro a hf
  refine st_farith (op := .mul) rfl hf (by decide) hp rfl rfl rfl (show Fl.rep bax0 ax0.1 from hax0) (show Fl.rep cbx1 bx1.2 from kbx1) ?_
  clear hf; intro a w bb7 y8 hf hp0; clear hp; have hp := hp0; clear hp0
  replace hp : Hp _ _ _ (ow) := hp
  refine go ?_; intro a hf
  refine st_farith (op := .mul) rfl hf (by decide) hp rfl rfl rfl (show Fl.rep cax0 ax0.2 from kax0) (show Fl.rep bbx1 bx1.1 from hbx1) ?_
  clear hf; intro a w bb9 y10 hf hp0; clear hp; have hp := hp0; clear hp0
  replace hp : Hp _ _ _ (ow) := hp
  refine st_farith (op := .add) rfl hf (by decide) hp rfl rfl rfl (show Fl.rep bb7 (fmul ax0.1 bx1.2) from y8) (show Fl.rep bb9 (fmul ax0.2 bx1.1) from y10) ?_
  clear hf; intro a w bb11 y12 hf hp0; clear hp; have hp := hp0; clear hp0
  replace hp : Hp _ _ _ (ow) := hp
  refine go ?_; intro a hf
  obtain rfl := oj h
  exact ⟨rfl, ⟨_, _, hf.sb, y6, y12, hp⟩⟩

noncomputable def f_math_IsNaN (f0 : Fl) : Option Bool := (some (fne f0 f0))
theorem f_math_IsNaN_c {S : Nat → Prop} {w0 w : World} {ow : List Res} (hp : Hp S w0 w ow) (bf0 : Nat) (f0 : Fl) (hf0 : f0.rep bf0) {r : Bool} (h : f_math_IsNaN f0 = some r) :
   Calls Tryz.prog 90 #[.float .f64 bf0] w (fun e w' => e = .returned (.bool r) ∧ Hp S w0 w' (ow)) := by
  unfold f_math_IsNaN at h
  refine enx (n := 6) Tryz.func90 fun a hf => ?_
  refine wp_mono (Q := fun e a w => e = .ret ∧ Fr 6 a [(2, .bool r)] ∧ Hp S w0 w (ow)) ?_ ?_
  rotate_left
  ·
   rintro e a w ⟨rfl, hf, hp⟩
   exact ret1 hf rfl rfl ⟨rfl, hp⟩
  refine go ?_; intro a hf
  refine st_fcmp (r_fne (fx := f0) (fy := f0) hf0 hf0) hf (by decide) rfl rfl rfl fun a _ hf => ?_
  refine go ?_; intro a hf
  obtain rfl := oj h
  exact ⟨rfl, ⟨hf.sb, hp⟩⟩

noncomputable def f_slice_nan (zx0 : (Fl × Fl)) : Option Bool := ((f_math_IsNaN zx0.1).bind fun q1 => ((if q1 = true then (some true) else ((f_math_IsNaN zx0.2).bind fun q6 => (some q6))).bind fun z5 => (some z5)))
theorem f_slice_nan_c {S : Nat → Prop} {w0 w : World} {ow : List Res} (hp : Hp S w0 w ow) (bzx0 czx0 : Nat) (zx0 : Fl × Fl) (hzx0 : zx0.1.rep bzx0) (kzx0 : zx0.2.rep czx0) {r : Bool} (h : f_slice_nan zx0 = some r) :
   Calls Tryz.prog 87 #[.complex .f64 bzx0 czx0] w (fun e w' => e = .returned (.bool r) ∧ Hp S w0 w' (ow)) := by
  unfold f_slice_nan at h
  refine enx (n := 11) Tryz.func87 fun a hf => ?_
  refine wp_mono (Q := fun e a w => e = .ret ∧ Fr 11 a [(2, .bool r)] ∧ Hp S w0 w (ow)) ?_ ?_
  rotate_left
  ·
   rintro e a w ⟨rfl, hf, hp⟩
   exact ret1 hf rfl rfl ⟨rfl, hp⟩
  refine go ?_; intro a hf
  obtain ⟨q1, hcall2, h⟩ := bnd h
  refine st_call hf (by decide) Tryz.func90 rfl rfl rfl rfl rfl (f_math_IsNaN_c hp _ _ (show Fl.rep bzx0 zx0.1 from hzx0) hcall2) ?_
  rintro _ w ⟨rfl, hp⟩
  replace hp : Hp _ _ _ (ow) := hp
  refine ⟨_, rfl, fun a hf => ?_⟩
  refine go ?_; intro a hf
  obtain ⟨z5, hz3, h⟩ := bnd h
  refine wpList_cut 4 (fun a w => Fr 11 a [(10, .bool z5)] ∧ Hp S w0 w (ow)) ?_ ?_
  ·
   rcases Bool.eq_false_or_eq_true q1 with hb4 | hb4
   ·
    replace hz3 := ifT hz3 hb4
    obtain rfl := oj hz3
    refine go ?_; intro a hf
    exact ⟨hf.sb, hp⟩
   replace hz3 := ifF hz3 hb4
   refine go ?_; intro a hf
   obtain ⟨q6, hcall7, hz3⟩ := bnd hz3
   refine st_call hf (by decide) Tryz.func90 rfl rfl (wantY hf rfl rfl hb4) rfl rfl (f_math_IsNaN_c hp _ _ (show Fl.rep czx0 zx0.2 from kzx0) hcall7) ?_
   rintro _ w ⟨rfl, hp⟩
   replace hp : Hp _ _ _ (ow) := hp
   refine ⟨_, rfl, fun a hf => ?_⟩
   obtain rfl := oj hz3
   refine go ?_; intro a hf
   exact ⟨hf.sb, hp⟩
  rintro a w ⟨hf, hp⟩
  refine go ?_; intro a hf
  obtain rfl := oj h
  exact ⟨rfl, ⟨hf.sb, hp⟩⟩

noncomputable def f_math_IsInf (f0 : Fl) (sign1 : Int) : Option Bool := (if (sign1 == (0 : Int)) = true then ((f_math_Abs f0).bind fun q1 => (some (fgt q1 (Fl.bits 9218868437227405311)))) else (if (decide (sign1 < (0 : Int))) = true then (some (fgt (fneg f0) (Fl.bits 9218868437227405311))) else (some (fgt f0 (Fl.bits 9218868437227405311)))))
theorem f_math_IsInf_c {S : Nat → Prop} {w0 w : World} {ow : List Res} (hp : Hp S w0 w ow) (bf0 : Nat) (f0 : Fl) (hf0 : f0.rep bf0) (sign1 : Int) {r : Bool} (h : f_math_IsInf f0 sign1 = some r) :
   Calls Tryz.prog 88 #[.float .f64 bf0, .int .i64 sign1] w (fun e w' => e = .returned (.bool r) ∧ Hp S w0 w' (ow)) := by
  unfold f_math_IsInf at h
  refine enx (n := 15) Tryz.func88 fun a hf => ?_
  refine wp_mono (Q := fun e a w => e = .ret ∧ Fr 15 a [(4, .bool r)] ∧ Hp S w0 w (ow)) ?_ ?_
  rotate_left
  ·
   rintro e a w ⟨rfl, hf, hp⟩
   exact ret1 hf rfl rfl ⟨rfl, hp⟩
  refine go ?_; intro a hf
  refine wp_if hf rfl (fun hb => ?_) (fun hb => ?_)
  ·
   replace h := ifT h hb
   refine go ?_; intro a hf
   obtain ⟨q1, hcall2, h⟩ := bnd h
   refine st_call hf (by decide) Tryz.func86 rfl rfl rfl rfl rfl (f_math_Abs_c hp _ _ (show Fl.rep bf0 f0 from hf0) hcall2) ?_
   rintro _ w ⟨v3, rfl, y4, hp⟩
   replace hp : Hp _ _ _ (ow) := hp
   refine ⟨_, rfl, fun a hf => ?_⟩
   refine go ?_; intro a hf
   refine st_fcmp (r_fgt (fx := q1) (fy := (Fl.bits 9218868437227405311)) y4 rfl) hf (by decide) rfl rfl rfl fun a _ hf => ?_
   refine go ?_; intro a hf
   obtain rfl := oj h
   exact ⟨rfl, ⟨hf.sb, hp⟩⟩
  replace h := ifF h hb
  refine go ?_; intro a hf
  refine wp_if hf rfl (fun hb => ?_) (fun hb => ?_)
  ·
   replace h := ifT h hb
   refine go ?_; intro a hf
   refine st_fneg hf (by decide) rfl rfl fun a _ hf => ?_
   refine go ?_; intro a hf
   refine st_fcmp (r_fgt (fx := (fneg f0)) (fy := (Fl.bits 9218868437227405311)) (fneg_rep hf0) rfl) hf (by decide) rfl rfl rfl fun a _ hf => ?_
   refine go ?_; intro a hf
   obtain rfl := oj h
   exact ⟨rfl, ⟨hf.sb, hp⟩⟩
  replace h := ifF h hb
  refine wp_skip ?_
  refine go ?_; intro a hf
  refine st_fcmp (r_fgt (fx := f0) (fy := (Fl.bits 9218868437227405311)) hf0 rfl) hf (by decide) rfl rfl rfl fun a _ hf => ?_
  refine go ?_; intro a hf
  obtain rfl := oj h
  exact ⟨rfl, ⟨hf.sb, hp⟩⟩

noncomputable def f_slice_ways  : Option Unit := (some ())
theorem f_slice_ways_c {S : Nat → Prop} {w0 w : World} {ow : List Res} (hp : Hp S w0 w ow) {r : Unit} (h : f_slice_ways = some r) :
   Calls Tryz.prog 89 #[] w (fun e w' => ∃ (u0 : Value), e = .returned (u0) ∧ Hp S w0 w' (Res.map kid u0 [((4 : Int), .agg #[.func (.func 94) #[] #[]]), ((16 : Int), .agg #[.func (.func 94) #[] #[]]), ((32 : Int), .agg #[.func (.func 95) #[] #[]]), ((64 : Int), .agg #[.func (.func 94) #[] #[]]), ((128 : Int), .agg #[.func (.func 95) #[] #[]]), ((256 : Int), .agg #[.func (.func 94) #[] #[]])] :: ow)) := by
  unfold f_slice_ways at h
  refine enx (n := 13) Tryz.func89 fun a hf => ?_
  refine wp_mono (Q := fun e a w => e = .ret ∧ ∃ (u0 : Value), Fr 13 a [(0, u0)] ∧ Hp S w0 w (Res.map kid u0 [((4 : Int), .agg #[.func (.func 94) #[] #[]]), ((16 : Int), .agg #[.func (.func 94) #[] #[]]), ((32 : Int), .agg #[.func (.func 95) #[] #[]]), ((64 : Int), .agg #[.func (.func 94) #[] #[]]), ((128 : Int), .agg #[.func (.func 95) #[] #[]]), ((256 : Int), .agg #[.func (.func 94) #[] #[]])] :: ow)) ?_ ?_
  rotate_left
  ·
   rintro e a w ⟨rfl, x0, hf, hp⟩
   exact ret1 hf rfl rfl ⟨x0, rfl, hp⟩
  refine go ?_; intro a hf
  refine st_buildA (vals := [(0, .func (.func 94) #[] #[])]) (cells := [.func (.func 94) #[] #[]]) hf (by decide) rfl (by simp [hf.ev (x := (Operand.func 94)) rfl]) (fun w => by kernel_rfl) fun a _ hf => ?_
  refine st_buildA (vals := [(0, .func (.func 95) #[] #[])]) (cells := [.func (.func 95) #[] #[]]) hf (by decide) rfl (by simp [hf.ev (x := (Operand.func 95)) rfl]) (fun w => by kernel_rfl) fun a _ hf => ?_
  refine st_alloc (cs := [.nilFunc]) (zv := .agg #[.nilFunc]) hf (by decide) (by kernel_rfl) rfl hp rfl ?_
  clear hf; intro a w v1 hf hp0; clear hp; have hp := hp0; clear hp0
  replace hp : Hp _ _ _ (Res.obj 160 v1 [.nilFunc] :: ow) := hp
  refine st_alloc (cs := [.nilFunc]) (zv := .agg #[.nilFunc]) hf (by decide) (by kernel_rfl) rfl hp rfl ?_
  clear hf; intro a w v3 hf hp0; clear hp; have hp := hp0; clear hp0
  replace hp : Hp _ _ _ (Res.obj 160 v3 [.nilFunc] :: _ :: ow) := hp
  refine st_stO (us := [.func (.func 94) #[] #[]]) hf hp (i := 1) rfl rfl rfl rfl rfl (by rfl) (by kernel_rfl) (Nat.le_of_ble_eq_true rfl) ?_
  clear hf; intro a w hf hp0; clear hp; have hp := hp0; clear hp0
  replace hp : Hp _ _ _ (_ :: Res.obj 160 v1 [.func (.func 94) #[] #[]] :: ow) := hp
  refine st_stO (us := [.func (.func 95) #[] #[]]) hf hp (i := 0) rfl rfl rfl rfl rfl (by rfl) (by kernel_rfl) (Nat.le_of_ble_eq_true rfl) ?_
  clear hf; intro a w hf hp0; clear hp; have hp := hp0; clear hp0
  replace hp : Hp _ _ _ (Res.obj 160 v3 [.func (.func 95) #[] #[]] :: _ :: ow) := hp
  refine goT ?_
  refine st_makeMap (enc := kid) hf (by decide) hp rfl ?_
  clear hf; intro a w g5 hf hp0; clear hp; have hp := hp0; clear hp0
  replace hp : Hp _ _ _ (Res.map kid (.map (some g5)) [] :: _ :: _ :: ow) := hp
  refine st_ldOA (m := 1) (us := [.func (.func 94) #[] #[]]) hf (by decide) (by kernel_rfl) rfl rfl (hp.ob (i := 2) rfl) rfl rfl fun a _ hf => ?_
  refine st_mapIns (b := .agg #[.func (.func 94) #[] #[]]) hf Tryz.underlying161 Tryz.underlying3 hp (i := 0) rfl (by rfl) rfl rfl rfl rfl ?_
  clear hf; intro a w hf hp0; clear hp; have hp := hp0; clear hp0
  replace hp : Hp _ _ _ (Res.map kid (.map (some g5)) [((4 : Int), .agg #[.func (.func 94) #[] #[]])] :: _ :: _ :: ow) := hp
  refine st_ldOA (m := 1) (us := [.func (.func 94) #[] #[]]) hf (by decide) (by kernel_rfl) rfl rfl (hp.ob (i := 2) rfl) rfl rfl fun a _ hf => ?_
  refine st_mapIns (b := .agg #[.func (.func 94) #[] #[]]) hf Tryz.underlying161 Tryz.underlying3 hp (i := 0) rfl (by rfl) rfl rfl rfl rfl ?_
  clear hf; intro a w hf hp0; clear hp; have hp := hp0; clear hp0
  replace hp : Hp _ _ _ (Res.map kid (.map (some g5)) [((4 : Int), .agg #[.func (.func 94) #[] #[]]), ((16 : Int), .agg #[.func (.func 94) #[] #[]])] :: _ :: _ :: ow) := hp
  refine st_ldOA (m := 1) (us := [.func (.func 95) #[] #[]]) hf (by decide) (by kernel_rfl) rfl rfl (hp.ob (i := 1) rfl) rfl rfl fun a _ hf => ?_
  refine st_mapIns (b := .agg #[.func (.func 95) #[] #[]]) hf Tryz.underlying161 Tryz.underlying3 hp (i := 0) rfl (by rfl) rfl rfl rfl rfl ?_
  clear hf; intro a w hf hp0; clear hp; have hp := hp0; clear hp0
  replace hp : Hp _ _ _ (Res.map kid (.map (some g5)) [((4 : Int), .agg #[.func (.func 94) #[] #[]]), ((16 : Int), .agg #[.func (.func 94) #[] #[]]), ((32 : Int), .agg #[.func (.func 95) #[] #[]])] :: _ :: _ :: ow) := hp
  refine st_ldOA (m := 1) (us := [.func (.func 94) #[] #[]]) hf (by decide) (by kernel_rfl) rfl rfl (hp.ob (i := 2) rfl) rfl rfl fun a _ hf => ?_
  refine st_mapIns (b := .agg #[.func (.func 94) #[] #[]]) hf Tryz.underlying161 Tryz.underlying3 hp (i := 0) rfl (by rfl) rfl rfl rfl rfl ?_
  clear hf; intro a w hf hp0; clear hp; have hp := hp0; clear hp0
  replace hp : Hp _ _ _ (Res.map kid (.map (some g5)) [((4 : Int), .agg #[.func (.func 94) #[] #[]]), ((16 : Int), .agg #[.func (.func 94) #[] #[]]), ((32 : Int), .agg #[.func (.func 95) #[] #[]]), ((64 : Int), .agg #[.func (.func 94) #[] #[]])] :: _ :: _ :: ow) := hp
  refine st_ldOA (m := 1) (us := [.func (.func 95) #[] #[]]) hf (by decide) (by kernel_rfl) rfl rfl (hp.ob (i := 1) rfl) rfl rfl fun a _ hf => ?_
  refine st_mapIns (b := .agg #[.func (.func 95) #[] #[]]) hf Tryz.underlying161 Tryz.underlying3 hp (i := 0) rfl (by rfl) rfl rfl rfl rfl ?_
  clear hf; intro a w hf hp0; clear hp; have hp := hp0; clear hp0
  replace hp : Hp _ _ _ (Res.map kid (.map (some g5)) [((4 : Int), .agg #[.func (.func 94) #[] #[]]), ((16 : Int), .agg #[.func (.func 94) #[] #[]]), ((32 : Int), .agg #[.func (.func 95) #[] #[]]), ((64 : Int), .agg #[.func (.func 94) #[] #[]]), ((128 : Int), .agg #[.func (.func 95) #[] #[]])] :: _ :: _ :: ow) := hp
  refine st_ldOA (m := 1) (us := [.func (.func 94) #[] #[]]) hf (by decide) (by kernel_rfl) rfl rfl (hp.ob (i := 2) rfl) rfl rfl fun a _ hf => ?_
  refine st_mapIns (b := .agg #[.func (.func 94) #[] #[]]) hf Tryz.underlying161 Tryz.underlying3 hp (i := 0) rfl (by rfl) rfl rfl rfl rfl ?_
  clear hf; intro a w hf hp0; clear hp; have hp := hp0; clear hp0
  replace hp : Hp _ _ _ (Res.map kid (.map (some g5)) [((4 : Int), .agg #[.func (.func 94) #[] #[]]), ((16 : Int), .agg #[.func (.func 94) #[] #[]]), ((32 : Int), .agg #[.func (.func 95) #[] #[]]), ((64 : Int), .agg #[.func (.func 94) #[] #[]]), ((128 : Int), .agg #[.func (.func 95) #[] #[]]), ((256 : Int), .agg #[.func (.func 94) #[] #[]])] :: _ :: _ :: ow) := hp
  refine go ?_; intro a hf
  obtain rfl := oj h
  have hp : Hp _ _ _ (_ :: ow) := (hp.pk [0] 3 :)
  exact ⟨rfl, ⟨_, hf.sb, hp⟩⟩

noncomputable def f_math_Min (xx0 : Fl) (yx1 : Fl) : Option Fl := ((fpickS true .lt xx0 yx1).bind fun q1 => (some q1))
theorem f_math_Min_c {S : Nat → Prop} {w0 w : World} {ow : List Res} (hp : Hp S w0 w ow) (bxx0 : Nat) (xx0 : Fl) (hxx0 : xx0.rep bxx0) (byx1 : Nat) (yx1 : Fl) (hyx1 : yx1.rep byx1) {r : Fl} (h : f_math_Min xx0 yx1 = some r) :
   Calls Tryz.prog 105 #[.float .f64 bxx0, .float .f64 byx1] w (fun e w' => ∃ (b0 : Nat), e = .returned (.float .f64 b0) ∧ Fl.rep b0 r ∧ Hp S w0 w' (ow)) := by
  unfold f_math_Min at h
  refine enx (n := 11) Tryz.func105 fun a hf => ?_
  refine wp_mono (Q := fun e a w => e = .ret ∧ ∃ (b0 : Nat), Fr 11 a [(4, .float .f64 b0)] ∧ Fl.rep b0 r ∧ Hp S w0 w (ow)) ?_ ?_
  rotate_left
  ·
   rintro e a w ⟨rfl, x0, hf, y0, hp⟩
   exact ret1 hf rfl rfl ⟨x0, rfl, y0, hp⟩
  refine go ?_; intro a hf
  refine wp_if hf rfl (fun hb => ?_) (fun hb => ?_)
  rotate_left
  · exact absurd hb (by decide)
  refine go ?_; intro a hf
  obtain ⟨q1, hq2, h⟩ := bnd h
  refine st_extern (ex := Extern.MathDim.pick "math.archMin" true .lt) (r := .float .f64 (flb q1)) (f := 109) (vs := [.float .f64 bxx0, .float .f64 byx1]) hf (by decide) Tryz.func109 rfl rfl (by kernel_rfl) (by kernel_rfl) rfl rfl rfl (run_fpickS hxx0 hyx1 hq2 _ _) fun a _ hf => ?_
  refine go ?_; intro a hf
  obtain rfl := oj h
  exact ⟨rfl, ⟨_, hf.sb, (fpickS_rep hq2), hp⟩⟩

noncomputable def f_math_Max (xx0 : Fl) (yx1 : Fl) : Option Fl := ((fpickS false .gt xx0 yx1).bind fun q1 => (some q1))
theorem f_math_Max_c {S : Nat → Prop} {w0 w : World} {ow : List Res} (hp : Hp S w0 w ow) (bxx0 : Nat) (xx0 : Fl) (hxx0 : xx0.rep bxx0) (byx1 : Nat) (yx1 : Fl) (hyx1 : yx1.rep byx1) {r : Fl} (h : f_math_Max xx0 yx1 = some r) :
   Calls Tryz.prog 104 #[.float .f64 bxx0, .float .f64 byx1] w (fun e w' => ∃ (b0 : Nat), e = .returned (.float .f64 b0) ∧ Fl.rep b0 r ∧ Hp S w0 w' (ow)) := by
  unfold f_math_Max at h
  refine enx (n := 11) Tryz.func104 fun a hf => ?_
  refine wp_mono (Q := fun e a w => e = .ret ∧ ∃ (b0 : Nat), Fr 11 a [(4, .float .f64 b0)] ∧ Fl.rep b0 r ∧ Hp S w0 w (ow)) ?_ ?_
  rotate_left
  ·
   rintro e a w ⟨rfl, x0, hf, y0, hp⟩
   exact ret1 hf rfl rfl ⟨x0, rfl, y0, hp⟩
  refine go ?_; intro a hf
  refine wp_if hf rfl (fun hb => ?_) (fun hb => ?_)
  rotate_left
  · exact absurd hb (by decide)
  refine go ?_; intro a hf
  obtain ⟨q1, hq2, h⟩ := bnd h
  refine st_extern (ex := Extern.MathDim.pick "math.archMax" false .gt) (r := .float .f64 (flb q1)) (f := 107) (vs := [.float .f64 bxx0, .float .f64 byx1]) hf (by decide) Tryz.func107 rfl rfl (by kernel_rfl) (by kernel_rfl) rfl rfl rfl (run_fpickS hxx0 hyx1 hq2 _ _) fun a _ hf => ?_
  refine go ?_; intro a hf
  obtain rfl := oj h
  exact ⟨rfl, ⟨_, hf.sb, (fpickS_rep hq2), hp⟩⟩

noncomputable def f_math_Ceil (xx0 : Fl) : Option Fl := (some (fint Ieee.Toward.up xx0))
theorem f_math_Ceil_c {S : Nat → Prop} {w0 w : World} {ow : List Res} (hp : Hp S w0 w ow) (bxx0 : Nat) (xx0 : Fl) (hxx0 : xx0.rep bxx0) {r : Fl} (h : f_math_Ceil xx0 = some r) :
   Calls Tryz.prog 106 #[.float .f64 bxx0] w (fun e w' => ∃ (b0 : Nat), e = .returned (.float .f64 b0) ∧ Fl.rep b0 r ∧ Hp S w0 w' (ow)) := by
  unfold f_math_Ceil at h
  refine enx (n := 7) Tryz.func106 fun a hf => ?_
  refine wp_mono (Q := fun e a w => e = .ret ∧ ∃ (b0 : Nat), Fr 7 a [(2, .float .f64 b0)] ∧ Fl.rep b0 r ∧ Hp S w0 w (ow)) ?_ ?_
  rotate_left
  ·
   rintro e a w ⟨rfl, x0, hf, y0, hp⟩
   exact ret1 hf rfl rfl ⟨x0, rfl, y0, hp⟩
  refine go ?_; intro a hf
  refine wp_if hf rfl (fun hb => ?_) (fun hb => ?_)
  rotate_left
  · exact absurd hb (by decide)
  refine go ?_; intro a hf
  refine st_fint (fx := xx0) (nm := "math.archCeil") (way := Ieee.Toward.up) (f := 111) hf (by decide) hp Tryz.func111 rfl rfl (by kernel_rfl) (by kernel_rfl) rfl rfl rfl hxx0 ?_
  clear hf; intro a w bb1 y2 hf hp0; clear hp; have hp := hp0; clear hp0
  replace hp : Hp _ _ _ (ow) := hp
  refine go ?_; intro a hf
  obtain rfl := oj h
  exact ⟨rfl, ⟨_, hf.sb, y2, hp⟩⟩

noncomputable def f_slice_Axis (xx0 : Fl) (edge1 : Int) : Option (Int × Int) := ((if (((decide (edge1 < (1 : Int))) || (decide ((15 : Int) < edge1))) || (((edge1).tmod (2 : Int)) == (0 : Int))) = true then (some true) else ((f_math_IsNaN xx0).bind fun q8 => (some q8))).bind fun z7 => (if z7 = true then (some ((0 : Int), (1 : Int))) else ((f_math_Min xx0 (fofi edge1)).bind fun q10 => ((f_math_Max (fneg (fofi edge1)) q10).bind fun q14 => ((f_math_Ceil q14).bind fun q18 => ((ftoi .i64 q18).bind fun q22 => (if (((q22).tmod (2 : Int)) == (0 : Int)) = true then (some ((imax (IntKind.i64.wrap (q22 - (1 : Int))) (IntKind.i64.wrap (0 - edge1))), (0 : Int))) else (some ((imax q22 (IntKind.i64.wrap (0 - edge1))), (0 : Int))))))))))
theorem f_slice_Axis_c {S : Nat → Prop} {w0 w : World} {ow : List Res} (hp : Hp S w0 w ow) (bxx0 : Nat) (xx0 : Fl) (hxx0 : xx0.rep bxx0) (edge1 : Int) {r : (Int × Int)} (h : f_slice_Axis xx0 edge1 = some r) :
   Calls Tryz.prog 98 #[.float .f64 bxx0, .int .i64 edge1] w (fun e w' => e = .returned (.tuple #[.int .i64 r.1, .int .i64 r.2]) ∧ Hp S w0 w' (ow)) := by
  unfold f_slice_Axis at h
  refine enx (n := 42) Tryz.func98 fun a hf => ?_
  refine wp_mono (Q := fun e a w => e = .ret ∧ Fr 42 a [(4, .int .i64 r.1), (5, .int .i64 r.2)] ∧ Hp S w0 w (ow)) ?_ ?_
  rotate_left
  ·
   rintro e a w ⟨rfl, hf, hp⟩
   exact ret2 hf rfl rfl rfl ⟨rfl, hp⟩
  refine go ?_; intro a hf
  refine wpList_cut 3 (fun a w => Fr 42 a [(0, .float .f64 bxx0), (1, .int .i64 edge1), (12, .bool ((decide (edge1 < (1 : Int))) || (decide ((15 : Int) < edge1))))] ∧ Hp S w0 w (ow)) ?_ ?_
  ·
   rcases Bool.eq_false_or_eq_true (decide (edge1 < (1 : Int))) with hb2 | hb2
   ·
    refine go ?_; intro a hf
    exact ⟨hf.sub ⟨rfl, rfl, (by rw [hb2]; rfl), trivial⟩, hp⟩
   refine go ?_; intro a hf
   exact ⟨hf.sub ⟨rfl, rfl, (by rw [hb2]; rfl), trivial⟩, hp⟩
  rintro a w ⟨hf, hp⟩
  refine go ?_; intro a hf
  refine wpList_cut 4 (fun a w => Fr 42 a [(0, .float .f64 bxx0), (1, .int .i64 edge1), (17, .bool (((decide (edge1 < (1 : Int))) || (decide ((15 : Int) < edge1))) || (((edge1).tmod (2 : Int)) == (0 : Int))))] ∧ Hp S w0 w (ow)) ?_ ?_
  ·
   rcases Bool.eq_false_or_eq_true ((decide (edge1 < (1 : Int))) || (decide ((15 : Int) < edge1))) with hb4 | hb4
   ·
    refine go ?_; intro a hf
    exact ⟨hf.sub ⟨rfl, rfl, (by rw [hb4]; rfl), trivial⟩, hp⟩
   refine go ?_; intro a hf
   refine st_irem hf (by decide) (wantY hf rfl rfl hb4) rfl rfl (by decide) fun a _ hf => ?_
   refine go ?_; intro a hf
   exact ⟨hf.sub ⟨rfl, rfl, (by rw [hb4]; rfl), trivial⟩, hp⟩
  rintro a w ⟨hf, hp⟩
  refine go ?_; intro a hf
  obtain ⟨z7, hz5, h⟩ := bnd h
  refine wpList_cut 3 (fun a w => Fr 42 a [(0, .float .f64 bxx0), (1, .int .i64 edge1), (21, .bool z7)] ∧ Hp S w0 w (ow)) ?_ ?_
  ·
   rcases Bool.eq_false_or_eq_true (((decide (edge1 < (1 : Int))) || (decide ((15 : Int) < edge1))) || (((edge1).tmod (2 : Int)) == (0 : Int))) with hb6 | hb6
   ·
    replace hz5 := ifT hz5 hb6
    obtain rfl := oj hz5
    refine go ?_; intro a hf
    exact ⟨hf.sb, hp⟩
   replace hz5 := ifF hz5 hb6
   refine go ?_; intro a hf
   obtain ⟨q8, hcall9, hz5⟩ := bnd hz5
   refine st_call hf (by decide) Tryz.func90 rfl rfl (wantY hf rfl rfl hb6) rfl rfl (f_math_IsNaN_c hp _ _ (show Fl.rep bxx0 xx0 from hxx0) hcall9) ?_
   rintro _ w ⟨rfl, hp⟩
   replace hp : Hp _ _ _ (ow) := hp
   refine ⟨_, rfl, fun a hf => ?_⟩
   obtain rfl := oj hz5
   refine go ?_; intro a hf
   exact ⟨hf.sb, hp⟩
  rintro a w ⟨hf, hp⟩
  refine goT ?_
  refine wp_if hf rfl (fun hb => ?_) (fun hb => ?_)
  ·
   replace h := ifT h hb
   refine go ?_; intro a hf
   obtain rfl := oj h
   exact ⟨rfl, ⟨hf.sb, hp⟩⟩
  replace h := ifF h hb
  refine wp_skip ?_
  refine go ?_; intro a hf
  refine st_conv_if Tryz.underlying3 Tryz.underlying39 hf (by decide) rfl rfl fun a _ hf => ?_
  refine st_fneg hf (by decide) rfl rfl fun a _ hf => ?_
  refine go ?_; intro a hf
  refine st_conv_if Tryz.underlying3 Tryz.underlying39 hf (by decide) rfl rfl fun a _ hf => ?_
  obtain ⟨q10, hcall11, h⟩ := bnd h
  refine st_call hf (by decide) Tryz.func105 rfl rfl rfl rfl rfl (f_math_Min_c hp _ _ (show Fl.rep bxx0 xx0 from hxx0) _ _ (show Fl.rep (FloatKind.f64.nearest edge1) (fofi edge1) from rfl) hcall11) ?_
  rintro _ w ⟨v12, rfl, y13, hp⟩
  replace hp : Hp _ _ _ (ow) := hp
  refine ⟨_, rfl, fun a hf => ?_⟩
  obtain ⟨q14, hcall15, h⟩ := bnd h
  refine st_call hf (by decide) Tryz.func104 rfl rfl rfl rfl rfl (f_math_Max_c hp _ _ (show Fl.rep (Op.negFloat .f64 (FloatKind.f64.nearest edge1)) (fneg (fofi edge1)) from (fneg_rep rfl)) _ _ (show Fl.rep v12 q10 from y13) hcall15) ?_
  rintro _ w ⟨v16, rfl, y17, hp⟩
  replace hp : Hp _ _ _ (ow) := hp
  refine ⟨_, rfl, fun a hf => ?_⟩
  refine go ?_; intro a hf
  obtain ⟨q18, hcall19, h⟩ := bnd h
  refine st_call hf (by decide) Tryz.func106 rfl rfl rfl rfl rfl (f_math_Ceil_c hp _ _ (show Fl.rep v16 q14 from y17) hcall19) ?_
  rintro _ w ⟨v20, rfl, y21, hp⟩
  replace hp : Hp _ _ _ (ow) := hp
  refine ⟨_, rfl, fun a hf => ?_⟩
  obtain ⟨q22, hq23, h⟩ := bnd h
  refine st_conv_fi (by rw [Tryz.underlying39]; rfl) Tryz.underlying3 hf (by decide) rfl rfl (show Fl.rep v20 q18 from y21) hq23 fun a _ hf => ?_
  refine go ?_; intro a hf
  refine st_irem hf (by decide) rfl rfl rfl (by decide) fun a _ hf => ?_
  refine go ?_; intro a hf
  refine wp_if hf rfl (fun hb => ?_) (fun hb => ?_)
  ·
   replace h := ifT h hb
   refine go ?_; intro a hf
   refine st_imax hf (by decide) rfl rfl rfl fun a _ hf => ?_
   refine go ?_; intro a hf
   obtain rfl := oj h
   exact ⟨rfl, ⟨hf.sb, hp⟩⟩
  replace h := ifF h hb
  refine wp_skip ?_
  refine go ?_; intro a hf
  refine st_imax hf (by decide) rfl rfl rfl fun a _ hf => ?_
  refine go ?_; intro a hf
  obtain rfl := oj h
  exact ⟨rfl, ⟨hf.sb, hp⟩⟩

noncomputable def f_points_All.s1c (size0 : Int) (q1 : ((Int × Int × CG) × Bool)) (out6 : (List (Fl × Fl))) (t19 : Int) : Option (((List (Fl × Fl)) × Int) ⊕ (List (Fl × Fl))) := (if (decide (t19 < ((List.replicate (size0).toNat (Fl.bits 0, Fl.bits 0)).length : Int))) = true then ((q1.1.2.2 t19).bind fun q15 => (if 0 ≤ t19 ∧ t19 < (out6.length : Int) then (some (Sum.inl ((out6.set (t19).toNat q15), (IntKind.i64.wrap (t19 + (1 : Int)))))) else none)) else (some (Sum.inr out6)))
noncomputable def f_points_All.s1 (size0 : Int) (q1 : ((Int × Int × CG) × Bool)) (s : ((List (Fl × Fl)) × Int)) : Option (((List (Fl × Fl)) × Int) ⊕ (List (Fl × Fl))) := f_points_All.s1c size0 q1 s.1 s.2
noncomputable def f_points_All (size0 : Int) : Option ((List (Fl × Fl)) × Int) := ((f_points_of size0).bind fun q1 => (if (!q1.2) = true then (some ([], (1 : Int))) else (if 0 ≤ size0 ∧ size0 ≤ size0 ∧ size0 * 16 ≤ 281474976710656 then ((loop (f_points_All.s1 size0 q1) ((List.replicate (size0).toNat (Fl.bits 0, Fl.bits 0)), (0 : Int))).bind (fun q27 => (some (q27, (0 : Int))))) else none)))
theorem f_points_All_c {S : Nat → Prop} {w0 w : World} {ow : List Res} (hp : Hp S w0 w ow) (size0 : Int) {r : ((List (Fl × Fl)) × Int)} (h : f_points_All size0 = some r) :
   Calls Tryz.prog 32 #[.int .i64 size0] w (fun e w' => ∃ (u0 : Value), e = .returned (.tuple #[u0, .int .i64 r.2]) ∧ Hp S w0 w' (Res.sl Ek.c128 35 u0 r.1 :: ow)) := by
  unfold f_points_All at h
  refine enx (n := 31) Tryz.func32 fun a hf => ?_
  refine wp_mono (Q := fun e a w => e = .ret ∧ ∃ (u0 : Value), Fr 31 a [(2, u0), (3, .int .i64 r.2)] ∧ Hp S w0 w (Res.sl Ek.c128 35 u0 r.1 :: ow)) ?_ ?_
  rotate_left
  ·
   rintro e a w ⟨rfl, x0, hf, hp⟩
   exact ret2 hf rfl rfl rfl ⟨x0, rfl, hp⟩
  refine go ?_; intro a hf
  obtain ⟨q1, hcall2, h⟩ := bnd h
  refine st_call hf (by decide) Tryz.func31 rfl rfl rfl rfl rfl (f_points_of_c hp _ hcall2) ?_
  rintro _ w ⟨v3, rfl, hp⟩
  replace hp : Hp _ _ _ (Res.clo Tryz.prog v3 q1.1.2.2 :: ow) := hp
  refine ⟨_, rfl, fun a hf => ?_⟩
  refine go ?_; intro a hf
  refine st_alloc (cs := [.int .i64 (0 : Int), .int .i64 (0 : Int), .nilFunc]) (zv := .agg #[.int .i64 (0 : Int), .int .i64 (0 : Int), .nilFunc]) hf (by decide) (by kernel_rfl) rfl hp rfl ?_
  clear hf; intro a w v5 hf hp0; clear hp; have hp := hp0; clear hp0
  replace hp : Hp _ _ _ (Res.obj 91 v5 [.int .i64 (0 : Int), .int .i64 (0 : Int), .nilFunc] :: _ :: ow) := hp
  refine st_stO (us := [.int .i64 q1.1.1, .int .i64 q1.1.2.1, v3]) hf hp (i := 0) rfl rfl rfl rfl rfl (by simp only [List.all_cons, List.all_nil, hp.cloOne (i := 1) rfl]; rfl) (by kernel_rfl) (Nat.le_of_ble_eq_true rfl) ?_
  clear hf; intro a w hf hp0; clear hp; have hp := hp0; clear hp0
  replace hp : Hp _ _ _ (Res.obj 91 v5 [.int .i64 q1.1.1, .int .i64 q1.1.2.1, v3] :: _ :: ow) := hp
  refine go ?_; intro a hf
  refine wp_if hf rfl (fun hb => ?_) (fun hb => ?_)
  ·
   replace h := ifT h hb
   refine go ?_; intro a hf
   obtain rfl := oj h
   have hp := hp.nil Ek.c128 35
   have hp : Hp _ _ _ (Res.sl Ek.c128 35 (.slice none 0 0) ([]) :: ow) := (hp.pk [0] 3 :)
   exact ⟨rfl, ⟨_, hf.sb, hp⟩⟩
  replace h := ifF h hb
  refine wp_skip ?_
  refine go ?_; intro a hf
  obtain ⟨hc8, h⟩ := chk h
  refine st_make (E := Ek.c128) hf (by decide) elt35 Tryz.underlying54 (by decide) hp rfl rfl rfl hc8.1 hc8.2.1 hc8.2.2 ?_
  clear hf; intro a w v9 hf hp0; clear hp; have hp := hp0; clear hp0
  replace hp : Hp _ _ _ (Res.sl Ek.c128 35 v9 (List.replicate (size0).toNat (Fl.bits 0, Fl.bits 0)) :: Res.obj 91 v5 [.int .i64 q1.1.1, .int .i64 q1.1.2.1, v3] :: Res.clo Tryz.prog v3 q1.1.2.2 :: ow) := hp
  refine go ?_; intro a hf
  refine st_len (E := Ek.c128) hf (by decide) Tryz.underlying54 rfl rfl (hp.sl (i := 0) rfl) fun a _ hf => ?_
  refine go ?_; intro a hf
  obtain ⟨q27, hl, h⟩ := bnd h
  refine wp_loop_pure (f := (f_points_All.s1 size0 q1)) (s := ((List.replicate (size0).toNat (Fl.bits 0, Fl.bits 0)), (0 : Int))) (fun s a w => ∃ (v11 : Value), Fr 31 a [(4, optr v5 0), (6, v11), (18, .int .i64 ((List.replicate (size0).toNat (Fl.bits 0, Fl.bits 0)).length : Int)), (19, .int .i64 s.2)] ∧ Hp S w0 w (Res.sl Ek.c128 35 v11 s.1 :: Res.obj 91 v5 [.int .i64 q1.1.1, .int .i64 q1.1.2.1, v3] :: Res.clo Tryz.prog v3 q1.1.2.2 :: ow)) (fun q e a w => e = .exit 0 ∧ ∃ (v13 : Value), Fr 31 a [(6, v13)] ∧ Hp S w0 w (Res.sl Ek.c128 35 v13 q :: ow)) ?_ hl ⟨_, hf.sb, hp⟩ ?_
  ·
   clear hl hf hp
   intro s x a w h hI
   obtain ⟨out6, t19⟩ := s
   obtain ⟨v11, hf, hp⟩ : ∃ (v11 : Value), Fr 31 a [(4, optr v5 0), (6, v11), (18, .int .i64 ((List.replicate (size0).toNat (Fl.bits 0, Fl.bits 0)).length : Int)), (19, .int .i64 t19)] ∧ Hp S w0 w (Res.sl Ek.c128 35 v11 out6 :: Res.obj 91 v5 [.int .i64 q1.1.1, .int .i64 q1.1.2.1, v3] :: Res.clo Tryz.prog v3 q1.1.2.2 :: ow) := hI
   replace h : f_points_All.s1c size0 q1 out6 t19 = some x := h
   unfold f_points_All.s1c at h
   refine go ?_; intro a hf
   refine wp_if hf rfl (fun hb => ?_) (fun hb => ?_)
   ·
    replace h := ifT h hb
    refine wp_skip ?_
    refine go ?_; intro a hf
    refine st_fa (o' := 2) hf (by decide) (off := 2) (sz := 1) (by kernel_rfl) (by decide) rfl rfl (hp.ob (i := 1) rfl) rfl fun a _ hf => ?_
    refine st_ldO (u := v3) hf (by decide) pl89 rfl rfl (hp.ob (i := 1) rfl) rfl fun a _ hf => ?_
    refine go ?_; intro a hf
    obtain ⟨q15, hcall16, h⟩ := bnd h
    obtain ⟨S17, hp18, rd19, up20, bk21⟩ := Hp.lendC hp (i := 2) rfl
    refine st_callC rd19 hcall16 hf (by decide) hp18 rfl rfl rfl ?_
    clear hf; intro a w v22 v23 y24 y25 hp0 hf; have hp0 := bk21 _ _ hp0; clear hp; have hp := hp0; clear hp0
    replace hp : Hp _ _ _ (_ :: Res.sl Ek.c128 35 v11 out6 :: _ :: ow) := hp
    obtain ⟨hc26, h⟩ := chk h
    refine st_index (E := Ek.c128) hf (by decide) Tryz.underlying54 elt35 rfl rfl rfl (hp.sl (i := 1) rfl) hc26.1 hc26.2 fun a _ hf => ?_
    refine st_store (E := Ek.c128) hf elt35 hp (i := 1) rfl rfl rfl rfl (show Ek.c128.rep [.complex .f64 v22 v23] q15 from ⟨_, _, rfl, y24, y25⟩) hc26.1 hc26.2 ?_
    clear hf; intro a w hf hp0; clear hp; have hp := hp0; clear hp0
    replace hp : Hp _ _ _ (_ :: Res.sl Ek.c128 35 v11 (out6.set (t19).toNat q15) :: _ :: ow) := hp
    refine go ?_; intro a hf
    obtain rfl := oj h
    have hp : Hp _ _ _ (_ :: _ :: _ :: ow) := (hp.pk [1, 2, 0] 3 :)
    exact rnd_l ⟨_, hf.sb, hp⟩
   replace h := ifF h hb
   refine wp_exit ?_
   refine th_e ?_
   obtain rfl := oj h
   have hp : Hp _ _ _ (Res.sl Ek.c128 35 v11 out6 :: ow) := (hp.pk [0] 3 :)
   exact rnd_r (by simp) ⟨rfl, _, hf.sb, hp⟩
  clear hl hf hp
  intro e a w hne hO
  obtain ⟨rfl, v13, hf, hp⟩ := hO
  refine ib_same ?_
  refine go ?_; intro a hf
  obtain rfl := oj h
  exact ⟨rfl, ⟨_, hf.sb, hp⟩⟩

noncomputable def f_points_Label.s1c (zx1 : (Fl × Fl)) (q1 : ((List (Fl × Fl)) × Int)) (t20 : Int) : Option (Int ⊕ (Unit ⊕ (Int × Int))) := (if (decide (t20 < (q1.1.length : Int))) = true then (if 0 ≤ t20 ∧ t20 < (q1.1.length : Int) then (if (ceq (gt q1.1 t20) zx1) = true then (some (Sum.inr (Sum.inr (t20, (0 : Int))))) else (some (Sum.inl (IntKind.i64.wrap (t20 + (1 : Int)))))) else none) else (some (Sum.inr (Sum.inl ()))))
noncomputable def f_points_Label.s1 (zx1 : (Fl × Fl)) (q1 : ((List (Fl × Fl)) × Int)) (s : Int) : Option (Int ⊕ (Unit ⊕ (Int × Int))) := f_points_Label.s1c zx1 q1 s
noncomputable def f_points_Label (size0 : Int) (zx1 : (Fl × Fl)) : Option (Int × Int) := ((f_points_All size0).bind fun q1 => (if (q1.2 != (0 : Int)) = true then (some ((0 : Int), q1.2)) else ((loop (f_points_Label.s1 zx1 q1) (0 : Int)).bind (fun q10 => sm q10 (fun q11 => (some ((0 : Int), (6 : Int)))) (fun q12 => (some (q12.1, q12.2)))))))
theorem f_points_Label_c {S : Nat → Prop} {w0 w : World} {ow : List Res} (hp : Hp S w0 w ow) (size0 : Int) (bzx1 czx1 : Nat) (zx1 : Fl × Fl) (hzx1 : zx1.1.rep bzx1) (kzx1 : zx1.2.rep czx1) {r : (Int × Int)} (h : f_points_Label size0 zx1 = some r) :
   Calls Tryz.prog 15 #[.int .i64 size0, .complex .f64 bzx1 czx1] w (fun e w' => e = .returned (.tuple #[.int .i64 r.1, .int .i64 r.2]) ∧ Hp S w0 w' (ow)) := by
  unfold f_points_Label at h
  refine enx (n := 30) Tryz.func15 fun a hf => ?_
  refine wp_mono (Q := fun e a w => e = .ret ∧ Fr 30 a [(4, .int .i64 r.1), (5, .int .i64 r.2)] ∧ Hp S w0 w (ow)) ?_ ?_
  rotate_left
  ·
   rintro e a w ⟨rfl, hf, hp⟩
   exact ret2 hf rfl rfl rfl ⟨rfl, hp⟩
  refine go ?_; intro a hf
  obtain ⟨q1, hcall2, h⟩ := bnd h
  refine st_call hf (by decide) Tryz.func32 rfl rfl rfl rfl rfl (f_points_All_c hp _ hcall2) ?_
  rintro _ w ⟨v3, rfl, hp⟩
  replace hp : Hp _ _ _ (Res.sl Ek.c128 35 v3 q1.1 :: ow) := hp
  refine ⟨_, rfl, fun a hf => ?_⟩
  refine go ?_; intro a hf
  refine wp_if hf rfl (fun hb => ?_) (fun hb => ?_)
  ·
   replace h := ifT h hb
   refine go ?_; intro a hf
   obtain rfl := oj h
   have hp : Hp _ _ _ (ow) := (hp.pk [] 1 :)
   exact ⟨rfl, ⟨hf.sb, hp⟩⟩
  replace h := ifF h hb
  refine wp_skip ?_
  refine go ?_; intro a hf
  refine st_len (E := Ek.c128) hf (by decide) Tryz.underlying54 rfl rfl (hp.sl (i := 0) rfl) fun a _ hf => ?_
  refine go ?_; intro a hf
  obtain ⟨q10, hl, h⟩ := bnd h
  refine wp_loop_pure (f := (f_points_Label.s1 zx1 q1)) (s := (0 : Int)) (fun s a w => Fr 30 a [(1, .complex .f64 bzx1 czx1), (18, v3), (19, .int .i64 (q1.1.length : Int)), (20, .int .i64 s)] ∧ Hp S w0 w (Res.sl Ek.c128 35 v3 q1.1 :: ow)) (fun q e a w => match q with | (Sum.inl q) => e = .exit 0 ∧ Fr 30 a [] ∧ Hp S w0 w (ow) | (Sum.inr q) => e = .ret ∧ Fr 30 a [(4, .int .i64 q.1), (5, .int .i64 q.2)] ∧ Hp S w0 w (ow)) ?_ hl ⟨hf.sb, hp⟩ ?_
  ·
   clear hl hf hp
   intro s x a w h hI
   obtain ⟨t20, hs⟩ : ∃ z, z = s := ⟨s, rfl⟩; subst hs
   obtain ⟨hf, hp⟩ : Fr 30 a [(1, .complex .f64 bzx1 czx1), (18, v3), (19, .int .i64 (q1.1.length : Int)), (20, .int .i64 t20)] ∧ Hp S w0 w (Res.sl Ek.c128 35 v3 q1.1 :: ow) := hI
   replace h : f_points_Label.s1c zx1 q1 t20 = some x := h
   unfold f_points_Label.s1c at h
   refine go ?_; intro a hf
   refine wp_if hf rfl (fun hb => ?_) (fun hb => ?_)
   ·
    replace h := ifT h hb
    refine wp_skip ?_
    refine go ?_; intro a hf
    obtain ⟨hc5, h⟩ := chk h
    refine st_index (E := Ek.c128) hf (by decide) Tryz.underlying54 elt35 rfl rfl rfl (hp.sl (i := 0) rfl) hc5.1 hc5.2 fun a _ hf => ?_
    refine st_ldC hf (by decide) pl35 rfl rfl (hp.sl (i := 0) rfl) hc5.1 hc5.2 ?_
    clear hf; intro a bb6 bb7 y8 y9 ha hf; clear ha
    refine go ?_; intro a hf
    refine st_ccmp (r_ceq (x := (gt q1.1 t20)) (y := zx1) y8 y9 hzx1 kzx1) hf (by decide) rfl rfl rfl fun a _ hf => ?_
    refine goT ?_
    refine wp_if hf rfl (fun hb => ?_) (fun hb => ?_)
    ·
     replace h := ifT h hb
     refine go ?_; intro a hf
     refine ib_r ?_
     refine th_r ?_
     obtain rfl := oj h
     have hp : Hp _ _ _ (ow) := (hp.pk [] 1 :)
     exact rnd_r (by simp) ⟨rfl, ⟨hf.sb, hp⟩⟩
    replace h := ifF h hb
    refine wp_skip ?_
    refine go ?_; intro a hf
    obtain rfl := oj h
    exact rnd_l ⟨hf.sb, hp⟩
   replace h := ifF h hb
   refine wp_exit ?_
   refine th_e ?_
   obtain rfl := oj h
   have hp : Hp _ _ _ (ow) := (hp.pk [] 1 :)
   exact rnd_r (by simp) ⟨rfl, hf.sub trivial, hp⟩
  clear hl hf hp
  intro e a w hne hO
  rcases q10 with q11 | q12
  ·
   replace h := smL h
   obtain ⟨rfl, hf, hp⟩ := hO
   refine ib_same ?_
   refine go ?_; intro a hf
   obtain rfl := oj h
   exact ⟨rfl, ⟨hf.sb, hp⟩⟩
  replace h := smR h
  obtain ⟨rfl, hf, hp⟩ := hO
  refine ib_r ?_
  refine th_r ?_
  obtain rfl := oj h
  exact ⟨rfl, ⟨hf.sb, hp⟩⟩

noncomputable def f_slice_axes (edge1 : Int) (zx2 : (Fl × Fl)) : Option (Int × (Fl × Fl) × Bool) := ((f_slice_Axis zx2.1 edge1).bind fun q3 => ((f_slice_Axis zx2.2 edge1).bind fun q5 => ((f_points_Label (4 : Int) ((fofi q3.1), (fofi q5.1))).bind fun q7 => (some (q7.1, ((fofi q3.1), (fofi q5.1)), false)))))
theorem f_slice_axes_c {S : Nat → Prop} {w0 w : World} {ow : List Res} (hp : Hp S w0 w ow) (edge1 : Int) (bzx2 czx2 : Nat) (zx2 : Fl × Fl) (hzx2 : zx2.1.rep bzx2) (kzx2 : zx2.2.rep czx2) {r : (Int × (Fl × Fl) × Bool)} (h : f_slice_axes edge1 zx2 = some r) :
   Calls Tryz.prog 94 #[.int .i64 (4 : Int), .int .i64 edge1, .complex .f64 bzx2 czx2] w (fun e w' => ∃ (b0 : Nat) (b1 : Nat), e = .returned (.agg #[.int .i64 r.1, .complex .f64 b0 b1, .bool r.2.2]) ∧ Fl.rep b0 r.2.1.1 ∧ Fl.rep b1 r.2.1.2 ∧ Hp S w0 w' (ow)) := by
  unfold f_slice_axes at h
  refine enx (n := 42) Tryz.func94 fun a hf => ?_
  refine wp_mono (Q := fun e a w => e = .ret ∧ ∃ (b0 : Nat) (b1 : Nat) (c0 : Value), Fr 42 a [(6, optr c0 0)] ∧ Fl.rep b0 r.2.1.1 ∧ Fl.rep b1 r.2.1.2 ∧ Hp S w0 w (Res.obj 59 c0 [.int .i64 r.1, .complex .f64 b0 b1, .bool r.2.2] :: ow)) ?_ ?_
  rotate_left
  ·
   rintro e a w ⟨rfl, x0, x1, c0, hf, y0, y1, hp⟩
   exact retG1 hf rfl ⟨_, _, rfl, hp.ob (i := 0) rfl, .inr ⟨by kernel_rfl, rfl⟩⟩ ⟨x0, x1, rfl, y0, y1, hp.drop⟩
  refine goT ?_
  refine st_alloc (cs := [.int .i64 (0 : Int), .complex .f64 0 0, .bool false]) (zv := .agg #[.int .i64 (0 : Int), .complex .f64 0 0, .bool false]) hf (by decide) (by kernel_rfl) rfl hp rfl ?_
  clear hf; intro a w v1 hf hp0; clear hp; have hp := hp0; clear hp0
  replace hp : Hp _ _ _ (Res.obj 59 v1 [.int .i64 (0 : Int), .complex .f64 0 0, .bool false] :: ow) := hp
  refine go ?_; intro a hf
  obtain ⟨q3, hcall4, h⟩ := bnd h
  refine st_call hf (by decide) Tryz.func98 rfl rfl rfl rfl rfl (f_slice_Axis_c hp _ _ (show Fl.rep bzx2 zx2.1 from hzx2) _ hcall4) ?_
  rintro _ w ⟨rfl, hp⟩
  replace hp : Hp _ _ _ (_ :: ow) := hp
  refine ⟨_, rfl, fun a hf => ?_⟩
  refine go ?_; intro a hf
  obtain ⟨q5, hcall6, h⟩ := bnd h
  refine st_call hf (by decide) Tryz.func98 rfl rfl rfl rfl rfl (f_slice_Axis_c hp _ _ (show Fl.rep czx2 zx2.2 from kzx2) _ hcall6) ?_
  rintro _ w ⟨rfl, hp⟩
  replace hp : Hp _ _ _ (_ :: ow) := hp
  refine ⟨_, rfl, fun a hf => ?_⟩
  refine go ?_; intro a hf
  refine st_conv_if Tryz.underlying3 Tryz.underlying39 hf (by decide) rfl rfl fun a _ hf => ?_
  refine go ?_; intro a hf
  refine st_conv_if Tryz.underlying3 Tryz.underlying39 hf (by decide) rfl rfl fun a _ hf => ?_
  refine go ?_; intro a hf
  obtain ⟨q7, hcall8, h⟩ := bnd h
  refine st_call hf (by decide) Tryz.func15 rfl rfl rfl rfl rfl (f_points_Label_c hp _ _ _ _ (show Fl.rep (FloatKind.f64.nearest q3.1) (((fofi q3.1), (fofi q5.1))).1 from rfl) (show Fl.rep (FloatKind.f64.nearest q5.1) (((fofi q3.1), (fofi q5.1))).2 from rfl) hcall8) ?_
  rintro _ w ⟨rfl, hp⟩
  replace hp : Hp _ _ _ (_ :: ow) := hp
  refine ⟨_, rfl, fun a hf => ?_⟩
  refine go ?_; intro a hf
  refine st_buildA (vals := [(0, .int .i64 q7.1), (1, .complex .f64 (FloatKind.f64.nearest q3.1) (FloatKind.f64.nearest q5.1))]) (cells := [.int .i64 q7.1, .complex .f64 (FloatKind.f64.nearest q3.1) (FloatKind.f64.nearest q5.1), .bool false]) hf (by decide) rfl (by simp [hf.ev (x := (Operand.tmp 39)) rfl, hf.ev (x := (Operand.tmp 40)) rfl]) (fun w => by kernel_rfl) fun a _ hf => ?_
  refine st_stO (us := [.int .i64 q7.1, .complex .f64 (FloatKind.f64.nearest q3.1) (FloatKind.f64.nearest q5.1), .bool false]) hf hp (i := 0) rfl rfl rfl rfl rfl (by rfl) (by kernel_rfl) (Nat.le_of_ble_eq_true rfl) ?_
  clear hf; intro a w hf hp0; clear hp; have hp := hp0; clear hp0
  replace hp : Hp _ _ _ (Res.obj 59 v1 [.int .i64 q7.1, .complex .f64 (FloatKind.f64.nearest q3.1) (FloatKind.f64.nearest q5.1), .bool false] :: ow) := hp
  refine goT ?_
  obtain rfl := oj h
  exact ⟨rfl, ⟨_, _, _, hf.sb, rfl, rfl, hp⟩⟩

noncomputable def f_slice_decide (edge1 : Int) (zx2 : (Fl × Fl)) : Option (Int × (Fl × Fl) × Bool) := ((f_slice_nan zx2).bind fun q3 => ((if q3 = true then (some true) else ((f_math_IsInf zx2.1 (0 : Int)).bind fun q8 => (some q8))).bind fun z7 => ((if z7 = true then (some true) else ((f_math_IsInf zx2.2 (0 : Int)).bind fun q13 => (some q13))).bind fun z12 => (if z12 = true then (some ((0 : Int), (Fl.bits 0, Fl.bits 0), true)) else ((f_slice_ways).bind fun q15 => ((f_slice_axes edge1 zx2).bind fun q19 => (some (q19.1, q19.2.1, q19.2.2))))))))
theorem f_slice_decide_c {S : Nat → Prop} {w0 w : World} {ow : List Res} (hp : Hp S w0 w ow) (edge1 : Int) (bzx2 czx2 : Nat) (zx2 : Fl × Fl) (hzx2 : zx2.1.rep bzx2) (kzx2 : zx2.2.rep czx2) {r : (Int × (Fl × Fl) × Bool)} (h : f_slice_decide edge1 zx2 = some r) :
   Calls Tryz.prog 81 #[.int .i64 (4 : Int), .int .i64 edge1, .complex .f64 bzx2 czx2] w (fun e w' => ∃ (b0 : Nat) (b1 : Nat), e = .returned (.agg #[.int .i64 r.1, .complex .f64 b0 b1, .bool r.2.2]) ∧ Fl.rep b0 r.2.1.1 ∧ Fl.rep b1 r.2.1.2 ∧ Hp S w0 w' (ow)) := by
  unfold f_slice_decide at h
  refine enx (n := 28) Tryz.func81 fun a hf => ?_
  refine wp_mono (Q := fun e a w => e = .ret ∧ ∃ (b0 : Nat) (b1 : Nat) (c0 : Value), Fr 28 a [(6, optr c0 0)] ∧ Fl.rep b0 r.2.1.1 ∧ Fl.rep b1 r.2.1.2 ∧ Hp S w0 w (Res.obj 59 c0 [.int .i64 r.1, .complex .f64 b0 b1, .bool r.2.2] :: ow)) ?_ ?_
  rotate_left
  ·
   rintro e a w ⟨rfl, x0, x1, c0, hf, y0, y1, hp⟩
   exact retG1 hf rfl ⟨_, _, rfl, hp.ob (i := 0) rfl, .inr ⟨by kernel_rfl, rfl⟩⟩ ⟨x0, x1, rfl, y0, y1, hp.drop⟩
  refine goT ?_
  refine st_alloc (cs := [.int .i64 (0 : Int), .complex .f64 0 0, .bool false]) (zv := .agg #[.int .i64 (0 : Int), .complex .f64 0 0, .bool false]) hf (by decide) (by kernel_rfl) rfl hp rfl ?_
  clear hf; intro a w v1 hf hp0; clear hp; have hp := hp0; clear hp0
  replace hp : Hp _ _ _ (Res.obj 59 v1 [.int .i64 (0 : Int), .complex .f64 0 0, .bool false] :: ow) := hp
  refine go ?_; intro a hf
  obtain ⟨q3, hcall4, h⟩ := bnd h
  refine st_call hf (by decide) Tryz.func87 rfl rfl rfl rfl rfl (f_slice_nan_c hp _ _ _ (show Fl.rep bzx2 (zx2).1 from hzx2) (show Fl.rep czx2 (zx2).2 from kzx2) hcall4) ?_
  rintro _ w ⟨rfl, hp⟩
  replace hp : Hp _ _ _ (_ :: ow) := hp
  refine ⟨_, rfl, fun a hf => ?_⟩
  refine go ?_; intro a hf
  obtain ⟨z7, hz5, h⟩ := bnd h
  refine wpList_cut 4 (fun a w => Fr 28 a [(0, .int .i64 (4 : Int)), (1, .int .i64 edge1), (2, .complex .f64 bzx2 czx2), (6, optr v1 0), (13, .bool z7)] ∧ Hp S w0 w (Res.obj 59 v1 [.int .i64 (0 : Int), .complex .f64 0 0, .bool false] :: ow)) ?_ ?_
  ·
   rcases Bool.eq_false_or_eq_true q3 with hb6 | hb6
   ·
    replace hz5 := ifT hz5 hb6
    obtain rfl := oj hz5
    refine go ?_; intro a hf
    exact ⟨hf.sb, hp⟩
   replace hz5 := ifF hz5 hb6
   refine go ?_; intro a hf
   obtain ⟨q8, hcall9, hz5⟩ := bnd hz5
   refine st_call hf (by decide) Tryz.func88 rfl rfl (wantY hf rfl rfl hb6) rfl rfl (f_math_IsInf_c hp _ _ (show Fl.rep bzx2 zx2.1 from hzx2) _ hcall9) ?_
   rintro _ w ⟨rfl, hp⟩
   replace hp : Hp _ _ _ (_ :: ow) := hp
   refine ⟨_, rfl, fun a hf => ?_⟩
   obtain rfl := oj hz5
   refine go ?_; intro a hf
   exact ⟨hf.sb, hp⟩
  rintro a w ⟨hf, hp⟩
  refine go ?_; intro a hf
  obtain ⟨z12, hz10, h⟩ := bnd h
  refine wpList_cut 4 (fun a w => Fr 28 a [(0, .int .i64 (4 : Int)), (1, .int .i64 edge1), (2, .complex .f64 bzx2 czx2), (6, optr v1 0), (18, .bool z12)] ∧ Hp S w0 w (Res.obj 59 v1 [.int .i64 (0 : Int), .complex .f64 0 0, .bool false] :: ow)) ?_ ?_
  ·
   rcases Bool.eq_false_or_eq_true z7 with hb11 | hb11
   ·
    replace hz10 := ifT hz10 hb11
    obtain rfl := oj hz10
    refine go ?_; intro a hf
    exact ⟨hf.sb, hp⟩
   replace hz10 := ifF hz10 hb11
   refine go ?_; intro a hf
   obtain ⟨q13, hcall14, hz10⟩ := bnd hz10
   refine st_call hf (by decide) Tryz.func88 rfl rfl (wantY hf rfl rfl hb11) rfl rfl (f_math_IsInf_c hp _ _ (show Fl.rep czx2 zx2.2 from kzx2) _ hcall14) ?_
   rintro _ w ⟨rfl, hp⟩
   replace hp : Hp _ _ _ (_ :: ow) := hp
   refine ⟨_, rfl, fun a hf => ?_⟩
   obtain rfl := oj hz10
   refine go ?_; intro a hf
   exact ⟨hf.sb, hp⟩
  rintro a w ⟨hf, hp⟩
  refine goT ?_
  refine wp_if hf rfl (fun hb => ?_) (fun hb => ?_)
  ·
   replace h := ifT h hb
   refine goT ?_
   refine st_buildA (vals := [(2, .bool true)]) (cells := [.int .i64 (0 : Int), .complex .f64 0 0, .bool true]) hf (by decide) rfl (by simp [hf.ev (x := (Operand.const (.bool true))) rfl]) (fun w => by kernel_rfl) fun a _ hf => ?_
   refine st_stO (us := [.int .i64 (0 : Int), .complex .f64 0 0, .bool true]) hf hp (i := 0) rfl rfl rfl rfl rfl (by rfl) (by kernel_rfl) (Nat.le_of_ble_eq_true rfl) ?_
   clear hf; intro a w hf hp0; clear hp; have hp := hp0; clear hp0
   replace hp : Hp _ _ _ (Res.obj 59 v1 [.int .i64 (0 : Int), .complex .f64 0 0, .bool true] :: ow) := hp
   refine goT ?_
   obtain rfl := oj h
   exact ⟨rfl, ⟨_, _, _, hf.sb, rfl, rfl, hp⟩⟩
  replace h := ifF h hb
  refine wp_skip ?_
  refine goT ?_
  obtain ⟨q15, hcall16, h⟩ := bnd h
  refine st_call hf (by decide) Tryz.func89 rfl rfl rfl rfl rfl (f_slice_ways_c hp  hcall16) ?_
  rintro _ w ⟨v17, rfl, hp⟩
  replace hp : Hp _ _ _ (Res.map kid v17 [((4 : Int), .agg #[.func (.func 94) #[] #[]]), ((16 : Int), .agg #[.func (.func 94) #[] #[]]), ((32 : Int), .agg #[.func (.func 95) #[] #[]]), ((64 : Int), .agg #[.func (.func 94) #[] #[]]), ((128 : Int), .agg #[.func (.func 95) #[] #[]]), ((256 : Int), .agg #[.func (.func 94) #[] #[]])] :: Res.obj 59 v1 [.int .i64 (0 : Int), .complex .f64 0 0, .bool false] :: ow) := hp
  refine ⟨_, rfl, fun a hf => ?_⟩
  refine go ?_; intro a hf
  refine st_lookup (enc := kid) (z0 := (.agg #[.nilFunc])) (ok := false) hf (by decide) Tryz.underlying161 Tryz.underlying3 (by kernel_rfl) hp (i := 0) rfl rfl rfl rfl fun a _ hf => ?_
  replace hf : Fr _ _ ((22, .agg #[.func (.func 94) #[] #[]]) :: _) := hf
  refine st_fieldE hf (by decide) (off := 0) (e := 155) (by kernel_rfl) pl155 rfl rfl rfl fun a _ hf => ?_
  refine go ?_; intro a hf
  obtain ⟨q19, hcall20, h⟩ := bnd h
  refine st_call hf (by decide) Tryz.func94 rfl rfl rfl rfl rfl (f_slice_axes_c hp _ _ _ _ (show Fl.rep bzx2 (zx2).1 from hzx2) (show Fl.rep czx2 (zx2).2 from kzx2) hcall20) ?_
  rintro _ w ⟨v21, v22, rfl, y23, y24, hp⟩
  replace hp : Hp _ _ _ (_ :: _ :: ow) := hp
  refine ⟨_, rfl, fun a hf => ?_⟩
  refine st_stO (us := [.int .i64 q19.1, .complex .f64 v21 v22, .bool q19.2.2]) hf hp (i := 1) rfl rfl rfl rfl rfl (by rfl) (by kernel_rfl) (Nat.le_of_ble_eq_true rfl) ?_
  clear hf; intro a w hf hp0; clear hp; have hp := hp0; clear hp0
  replace hp : Hp _ _ _ (_ :: Res.obj 59 v1 [.int .i64 q19.1, .complex .f64 v21 v22, .bool q19.2.2] :: ow) := hp
  refine goT ?_
  obtain rfl := oj h
  have hp : Hp _ _ _ (_ :: ow) := (hp.pk [1] 2 :)
  exact ⟨rfl, ⟨_, _, _, hf.sb, y23, y24, hp⟩⟩

end Go.Proofs.YtgdhjjdgghilhaaGreat
