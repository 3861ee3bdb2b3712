/- The functions foghorn foghorntop.TopLeast: what each answers, as a plain function, and that its call answers it; printed by gen.py. -/
import Derived.Test.YtgdhjjdgghilhaaGreatProg
import Derived.Test.YtgdhjjdgghilhaaGreatGlUi
import Derived.KernelRfl
import Derived.Test.YtgdhjjdgghilhaaGreatG1p2
set_option linter.unusedVariables false
set_option linter.unusedSimpArgs false
set_option maxRecDepth 100000
set_option maxHeartbeats 4000000
namespace Go.Proofs.YtgdhjjdgghilhaaGreat
open GL
noncomputable def f_trellis_Code_step_1 (n0 : Int) : Option Bool := ((f_math_bits_OnesCount32 n0).bind fun q1 => (some (decide ((0 : Int) < (iand .i64 q1 (1 : Int))))))
theorem f_trellis_Code_step_1_c {S : Nat → Prop} {w0 w : World} {ow : List Res} (hp : Hp S w0 w ow) (n0 : Int) {r : Bool} (h : f_trellis_Code_step_1 n0 = some r) :
   Calls Tryz.prog 33 #[.int .u32 n0] w (fun e w' => e = .returned (.bool r) ∧ Hp S w0 w' (ow)) := by
  unfold f_trellis_Code_step_1 at h
  refine enx (n := 7) Tryz.func33 fun a hf => ?_
  refine wp_mono (Q := fun e a w => e = .ret ∧ Fr 7 a [(2, .bool r)] ∧ Hp S w0 w (ow)) ?_ ?_
  rotate_left
  ·
   rintro e a w ⟨rfl, hf, hp⟩
   exact ret1 hf rfl rfl ⟨rfl, hp⟩
  refine go ?_; intro a hf
  obtain ⟨q1, hcall2, h⟩ := bnd h
  refine st_call hf (by decide) Tryz.func34 rfl rfl rfl rfl rfl (f_math_bits_OnesCount32_c hp _ hcall2) ?_
  rintro _ w ⟨rfl, hp⟩
  replace hp : Hp _ _ _ (ow) := hp
  refine ⟨_, rfl, fun a hf => ?_⟩
  refine go ?_; intro a hf
  obtain rfl := oj h
  exact ⟨rfl, ⟨hf.sb, hp⟩⟩

noncomputable def f_trellis_Code_step.j1 (cO : Int) (cT : Int) (all9 : Int) : Option (Int × Bool × Bool) := ((f_trellis_Code_step_1 (iand .u32 all9 cO)).bind fun q9 => ((f_trellis_Code_step_1 (iand .u32 all9 cT)).bind fun q11 => (some ((IntKind.i64.wrap (ishr .u32 all9 (1 : Int))), q9, q11))))
noncomputable def f_trellis_Code_step (cL : Int) (cO : Int) (cT : Int) (state1 : Int) (bit2 : Bool) : Option (Int × Bool × Bool) := (if bit2 = true then (if 0 ≤ (IntKind.i64.wrap (cL - (1 : Int))) then (f_trellis_Code_step.j1 cO cT (ior .u32 (IntKind.u32.wrap state1) (ishl .u32 (1 : Int) (IntKind.i64.wrap (cL - (1 : Int)))))) else none) else (f_trellis_Code_step.j1 cO cT (IntKind.u32.wrap state1)))
theorem f_trellis_Code_step_c {S : Nat → Prop} {w0 w : World} {ow : List Res} (hp : Hp S w0 w ow) (cL : Int) (cO : Int) (cT : Int) (state1 : Int) (bit2 : Bool) {r : (Int × Bool × Bool)} (h : f_trellis_Code_step cL cO cT state1 bit2 = some r) :
   Calls Tryz.prog 17 #[.agg #[.int .i64 cL, .int .u32 cO, .int .u32 cT], .int .i64 state1, .bool bit2] w (fun e w' => e = .returned (.tuple #[.int .i64 r.1, .bool r.2.1, .bool r.2.2]) ∧ Hp S w0 w' (ow)) := by
  unfold f_trellis_Code_step at h
  refine enx (n := 35) Tryz.func17 fun a hf => ?_
  refine wp_mono (Q := fun e a w => e = .ret ∧ Fr 35 a [(6, .int .i64 r.1), (7, .bool r.2.1), (8, .bool r.2.2)] ∧ Hp S w0 w (ow)) ?_ ?_
  rotate_left
  ·
   rintro e a w ⟨rfl, hf, hp⟩
   exact ret3 hf rfl rfl rfl rfl ⟨rfl, hp⟩
  refine goT ?_
  refine st_boxO (cs := [.int .i64 cL, .int .u32 cO, .int .u32 cT]) hf (by decide) hp rfl rfl rfl ?_
  clear hf; intro a w v1 hf hp0; clear hp; have hp := hp0; clear hp0
  replace hp : Hp _ _ _ (Res.obj 27 v1 [.int .i64 cL, .int .u32 cO, .int .u32 cT] :: ow) := hp
  refine go ?_; intro a hf
  refine st_conv_ii hf (by decide) (by rw [Tryz.underlying3]; rfl) Tryz.underlying25 rfl rfl fun a _ hf => ?_
  refine st_assign hf rfl rfl (by decide) fun a _ hf => ?_
  refine st_nil hf ?_
  refine th_n ?_
  refine wp_seq_cut (fun a w => ∃ (all9 : Int), f_trellis_Code_step.j1 cO cT all9 = some r ∧ Fr 35 a [(3, optr v1 0), (9, .int .u32 all9)] ∧ Hp S w0 w (Res.obj 27 v1 [.int .i64 cL, .int .u32 cO, .int .u32 cT] :: ow)) ?_ ?_
  ·
   refine go ?_; intro a hf
   refine wp_if hf rfl (fun hb => ?_) (fun hb => ?_)
   ·
    replace h := ifT h hb
    refine go ?_; intro a hf
    refine st_fa (o' := 0) hf (by decide) (off := 0) (sz := 1) (by kernel_rfl) (by decide) rfl rfl (hp.ob (i := 0) rfl) rfl fun a _ hf => ?_
    refine st_ldO (u := .int .i64 cL) hf (by decide) pl3 rfl rfl (hp.ob (i := 0) rfl) rfl fun a _ hf => ?_
    refine go ?_; intro a hf
    obtain ⟨hc13, h⟩ := chk h
    refine st_ishl hf (by decide) rfl rfl rfl hc13 fun a _ hf => ?_
    refine go ?_; intro a hf
    exact ⟨_, h, hf.sb, hp⟩
   replace h := ifF h hb
   refine wp_skip ?_
   refine th_n ?_
   exact ⟨_, h, hf.sb, hp⟩
  rintro a w ⟨all9, h, hf, hp⟩
  unfold f_trellis_Code_step.j1 at h
  refine go ?_; intro a hf
  obtain ⟨S3, hp4, rd5, up6, bk7⟩ := Hp.lendO hp (i := 0) rfl
  have rl8 := rd5
  obtain ⟨q9, hcall10, h⟩ := bnd h
  obtain ⟨q11, hcall12, h⟩ := bnd h
  refine wp_cutN (fun a w => Fr 35 a [(6, .int .i64 (IntKind.i64.wrap (ishr .u32 all9 (1 : Int)))), (7, .bool q9), (8, .bool q11)] ∧ Hp S w0 w (Res.obj 27 v1 [.int .i64 cL, .int .u32 cO, .int .u32 cT] :: ow)) ?_ ?_
  ·
   have hp := hp4.same (Same.drew w)
   refine dr_begin' _ (fun w' => ∃ l, Hp S3 w w' l) [] (by kernel_rfl) ?_
   refine dv 0 hf ⟨_, hp⟩ fun a hf => ?_
   refine dr_takeK 1 _ rfl hf rfl (fun w ⟨_, hp⟩ => st_ishr hf (by decide) rfl rfl rfl (by decide) tk) ⟨_, hp⟩ fun a hf => ?_
   refine dr_takeK 2 _ rfl hf rfl (fun w ⟨_, hp⟩ => st_conv_ii hf (by decide) (by rw [Tryz.underlying25]; rfl) Tryz.underlying3 rfl rfl tk) ⟨_, hp⟩ fun a hf => ?_
   refine dv 3 hf ⟨_, hp⟩ fun a hf => ?_
   refine dv 4 hf ⟨_, hp⟩ fun a hf => ?_
   refine dr_takeK 5 _ rfl hf rfl (fun w ⟨_, hp⟩ => st_fa (o' := 1) hf (by decide) (off := 1) (sz := 1) (by kernel_rfl) (by decide) rfl rfl (rl8.ob hp) rfl tk) ⟨_, hp⟩ fun a hf => ?_
   refine dr_takeK 6 _ rfl hf rfl (fun w ⟨_, hp⟩ => st_ldO (u := .int .u32 cO) hf (by decide) pl25 rfl rfl (rl8.ob hp) rfl tk) ⟨_, hp⟩ fun a hf => ?_
   refine dv 7 hf ⟨_, hp⟩ fun a hf => ?_
   refine dv 9 hf ⟨_, hp⟩ fun a hf => ?_
   refine dv 10 hf ⟨_, hp⟩ fun a hf => ?_
   refine dr_takeK 11 _ rfl hf rfl (fun w ⟨_, hp⟩ => st_fa (o' := 2) hf (by decide) (off := 2) (sz := 1) (by kernel_rfl) (by decide) rfl rfl (rl8.ob hp) rfl tk) ⟨_, hp⟩ fun a hf => ?_
   refine dr_takeK 12 _ rfl hf rfl (fun w ⟨_, hp⟩ => st_ldO (u := .int .u32 cT) hf (by decide) pl25 rfl rfl (rl8.ob hp) rfl tk) ⟨_, hp⟩ fun a hf => ?_
   refine dv 13 hf ⟨_, hp⟩ fun a hf => ?_
   refine dr_one 8 rfl (by kernel_rfl) ?_
   refine st_call hf (by decide) Tryz.func33 rfl rfl rfl rfl rfl (f_trellis_Code_step_1_c hp _ hcall10) ?_
   rintro _ w ⟨rfl, hp⟩
   replace hp : Hp _ _ _ (ow) := hp
   refine ⟨_, rfl, fun a hf => ?_⟩
   refine nx hf (fun _ _ => ⟨_, hp⟩) ?_
   refine dr_one 14 rfl (by kernel_rfl) ?_
   refine st_call hf (by decide) Tryz.func33 rfl rfl rfl rfl rfl (f_trellis_Code_step_1_c hp _ hcall12) ?_
   rintro _ w ⟨rfl, hp⟩
   replace hp : Hp _ _ _ (ow) := hp
   refine ⟨_, rfl, fun a hf => ?_⟩
   refine nx hf (fun _ _ => ⟨_, hp⟩) ?_
   refine dv 15 hf ⟨_, hp⟩ fun a hf => ?_
   refine dv 16 hf ⟨_, hp⟩ fun a hf => ?_
   refine dv 17 hf ⟨_, hp⟩ fun a hf => ?_
   refine dr_end (by kernel_rfl) ?_ _
   have hp := bk7 _ _ hp
   exact ⟨hf.sb, hp⟩
  rintro a w ⟨hf, hp⟩
  refine goT ?_
  obtain rfl := oj h
  have hp : Hp _ _ _ (ow) := (hp.pk [] 1 :)
  exact ⟨rfl, ⟨hf.sb, hp⟩⟩

noncomputable def f_trellis_Code_Encode_1 (t0 : Int) (one1 : Bool) (two2 : Bool) (t3 : (List Bool)) : Option (List Bool) := (if (t3.length + ([one1, two2]).length) * 1 ≤ 140737488355328 then (some (t3 ++ [one1, two2])) else none)
theorem f_trellis_Code_Encode_1_c {S : Nat → Prop} {w0 w : World} {ow : List Res} (t0 : Int) (one1 : Bool) (two2 : Bool) (vt3 : Value) (t3 : (List Bool)) (ot3 : Value) (hp : Hp S w0 w (Res.sl Ek.bool 4 vt3 t3 :: Res.obj 22 ot3 [vt3] :: ow)) {r : (List Bool)} (h : f_trellis_Code_Encode_1 t0 one1 two2 t3 = some r) :
   Calls Tryz.prog 18 #[.int .i64 t0, .bool one1, .bool two2, optr ot3 0] w (fun e w' => ∃ (u0 : Value), e = .returned (.tuple #[]) ∧ Hp S w0 w' (Res.sl Ek.bool 4 u0 r :: Res.obj 22 ot3 [u0] :: ow)) := by
  unfold f_trellis_Code_Encode_1 at h
  refine enx (n := 12) Tryz.func18 fun a hf => ?_
  refine wp_mono (Q := fun e a w => (e = .ret ∨ e = .normal) ∧ ∃ (u0 : Value), Fr 12 a [] ∧ Hp S w0 w (Res.sl Ek.bool 4 u0 r :: Res.obj 22 ot3 [u0] :: ow)) ?_ ?_
  rotate_left
  ·
   rintro e a w ⟨rfl | rfl, x0, hf, hp⟩
   · exact ret0 hf rfl ⟨x0, rfl, hp⟩
   · exact ret0n hf rfl ⟨x0, rfl, hp⟩
  refine wp_reg ?_
  refine st_ldO (u := vt3) hf (by decide) pl22 rfl rfl (hp.ob (i := 1) rfl) rfl fun a _ hf => ?_
  refine go ?_; intro a hf
  refine st_build (E := Ek.bool) (xs := [one1, two2]) hf (by decide) elt4 Tryz.underlying22 hp (vals := #[(0, .bool one1), (1, .bool two2)]) (cells := #[.bool one1, .bool two2]) rfl (by simp [hf.ev (x := (Operand.tmp 8)) rfl, hf.ev (x := (Operand.tmp 9)) rfl]) (Nat.le_of_ble_eq_true rfl) (Nat.le_of_ble_eq_true rfl) (z := .bool false) (by kernel_rfl) (by kernel_rfl) rfl (reps_cons (cs := [.bool one1]) rfl (reps_cons (cs := [.bool two2]) rfl (reps_nil _))) ?_
  clear hf; intro a w v3 hf hp0; clear hp; have hp := hp0; clear hp0
  replace hp : Hp _ _ _ (Res.sl Ek.bool 4 v3 ([one1, two2]) :: Res.sl Ek.bool 4 vt3 t3 :: Res.obj 22 ot3 [vt3] :: ow) := hp
  obtain ⟨hc5, h⟩ := chk h
  refine st_append (E := Ek.bool) hf (by decide) elt4 Tryz.underlying22 (by decide) hp (i := 1) rfl rfl rfl rfl (hp.sl (i := 0) rfl) hc5 ?_
  clear hf; intro a w v6 hf hp0; clear hp; have hp := hp0; clear hp0
  replace hp : Hp _ _ _ (_ :: Res.sl Ek.bool 4 v6 (t3 ++ [one1, two2]) :: _ :: ow) := hp
  refine st_stO (us := [v6]) hf hp (i := 2) rfl rfl rfl rfl (cells_sh (hp.sl (i := 1) rfl).shapeV) (ones_sh (hp.sl (i := 1) rfl).shapeV) (by kernel_rfl) (Nat.le_of_ble_eq_true rfl) ?_
  clear hf; intro a w hf hp0; clear hp; have hp := hp0; clear hp0
  replace hp : Hp _ _ _ (_ :: _ :: Res.obj 22 ot3 [v6] :: ow) := hp
  refine st_nil hf ?_
  obtain rfl := oj h
  have hp : Hp _ _ _ (_ :: _ :: ow) := (hp.pk [1, 2] 3 :)
  exact ⟨(.inr rfl), ⟨_, hf.sub trivial, hp⟩⟩

noncomputable def f_trellis_Code_through.s1c (cL : Int) (l1 : (List Bool)) (t6000_Length : Int) (t6000_One : Int) (t6000_Two : Int) (tell3_0c : (List Bool)) (state10 : Int) (t33 : Int) : Option (((List Bool) × Int × Int) ⊕ (List Bool)) := (if (decide (t33 < (IntKind.i64.wrap ((IntKind.i64.wrap ((l1.length : Int) + cL)) - (1 : Int))))) = true then ((if (decide (t33 < (l1.length : Int))) = true then (if 0 ≤ t33 ∧ t33 < (l1.length : Int) then (some (gt l1 t33)) else none) else (some false)).bind fun z15 => ((f_trellis_Code_step t6000_Length t6000_One t6000_Two state10 z15).bind fun q17 => ((f_trellis_Code_Encode_1 q17.1 q17.2.1 q17.2.2 tell3_0c).bind fun q19 => (some (Sum.inl (q19, q17.1, (IntKind.i64.wrap (t33 + (1 : Int))))))))) else (some (Sum.inr tell3_0c)))
noncomputable def f_trellis_Code_through.s1 (cL : Int) (l1 : (List Bool)) (t6000_Length : Int) (t6000_One : Int) (t6000_Two : Int) (s : ((List Bool) × Int × Int)) : Option (((List Bool) × Int × Int) ⊕ (List Bool)) := f_trellis_Code_through.s1c cL l1 t6000_Length t6000_One t6000_Two s.1 s.2.1 s.2.2
noncomputable def f_trellis_Code_through (cL : Int) (cO : Int) (cT : Int) (l1 : (List Bool)) (t6000_Length : Int) (t6000_One : Int) (t6000_Two : Int) (t4000 : (List Bool)) : Option (Int × (List Bool)) := ((f_trellis_Code_Check cL cO cT).bind fun q5 => (if (q5 != (0 : Int)) = true then (some (q5, t4000)) else (if (decide ((16384 : Int) < (IntKind.i64.wrap ((IntKind.i64.wrap ((l1.length : Int) + cL)) - (1 : Int))))) = true then (some ((1 : Int), t4000)) else ((loop (f_trellis_Code_through.s1 cL l1 t6000_Length t6000_One t6000_Two) (t4000, (0 : Int), (0 : Int))).bind (fun q24 => (some ((0 : Int), q24)))))))
theorem f_trellis_Code_through_c {S : Nat → Prop} {w0 w : World} {ow : List Res} (cL : Int) (cO : Int) (cT : Int) (vl1 : Value) (l1 : (List Bool)) (hl1 : RdS Ek.bool S w0 vl1 l1) (t6000_Length : Int) (t6000_One : Int) (t6000_Two : Int) (vt4000 : Value) (t4000 : (List Bool)) (ot4000 : Value) (hp : Hp S w0 w (Res.sl Ek.bool 4 vt4000 t4000 :: Res.obj 22 ot4000 [vt4000] :: ow)) {r : (Int × (List Bool))} (h : f_trellis_Code_through cL cO cT l1 t6000_Length t6000_One t6000_Two t4000 = some r) :
   Calls Tryz.prog 16 #[.agg #[.int .i64 cL, .int .u32 cO, .int .u32 cT], vl1, .func (.func 17) #[.agg #[.int .i64 t6000_Length, .int .u32 t6000_One, .int .u32 t6000_Two]] #[], .func (.func 18) #[] #[optr ot4000 0]] w (fun e w' => ∃ (u0 : Value), e = .returned (.int .i64 r.1) ∧ Hp S w0 w' (Res.sl Ek.bool 4 u0 r.2 :: Res.obj 22 ot4000 [u0] :: ow)) := by
  unfold f_trellis_Code_through at h
  refine enx (n := 60) Tryz.func16 fun a hf => ?_
  refine wp_mono (Q := fun e a w => e = .ret ∧ ∃ (u0 : Value), Fr 60 a [(8, .int .i64 r.1)] ∧ Hp S w0 w (Res.sl Ek.bool 4 u0 r.2 :: Res.obj 22 ot4000 [u0] :: ow)) ?_ ?_
  rotate_left
  ·
   rintro e a w ⟨rfl, x0, hf, hp⟩
   exact ret1 hf rfl rfl ⟨x0, rfl, hp⟩
  refine goT ?_
  refine st_boxO (cs := [.int .i64 cL, .int .u32 cO, .int .u32 cT]) hf (by decide) hp rfl rfl rfl ?_
  clear hf; intro a w v3 hf hp0; clear hp; have hp := hp0; clear hp0
  replace hp : Hp _ _ _ (Res.obj 27 v3 [.int .i64 cL, .int .u32 cO, .int .u32 cT] :: Res.sl Ek.bool 4 vt4000 t4000 :: Res.obj 22 ot4000 [vt4000] :: ow) := hp
  refine go ?_; intro a hf
  refine st_ldOA (m := 3) (us := [.int .i64 cL, .int .u32 cO, .int .u32 cT]) hf (by decide) (by kernel_rfl) rfl rfl (hp.ob (i := 0) rfl) rfl rfl fun a _ hf => ?_
  obtain ⟨q5, hcall6, h⟩ := bnd h
  refine st_call hf (by decide) Tryz.func24 rfl rfl rfl rfl rfl (f_trellis_Code_Check_c hp _ _ _ hcall6) ?_
  rintro _ w ⟨rfl, hp⟩
  replace hp : Hp _ _ _ (_ :: _ :: _ :: ow) := hp
  refine ⟨_, rfl, fun a hf => ?_⟩
  refine go ?_; intro a hf
  refine wp_if hf rfl (fun hb => ?_) (fun hb => ?_)
  ·
   replace h := ifT h hb
   refine go ?_; intro a hf
   obtain rfl := oj h
   have hp : Hp _ _ _ (_ :: _ :: ow) := (hp.pk [1, 2] 3 :)
   exact ⟨rfl, ⟨_, hf.sb, hp⟩⟩
  replace h := ifF h hb
  refine wp_skip ?_
  refine go ?_; intro a hf
  refine st_len (E := Ek.bool) hf (by decide) Tryz.underlying22 rfl rfl (hl1.sl hp) fun a _ hf => ?_
  refine st_fa (o' := 0) hf (by decide) (off := 0) (sz := 1) (by kernel_rfl) (by decide) rfl rfl (hp.ob (i := 0) rfl) rfl fun a _ hf => ?_
  refine st_ldO (u := .int .i64 cL) hf (by decide) pl3 rfl rfl (hp.ob (i := 0) rfl) rfl fun a _ hf => ?_
  refine go ?_; intro a hf
  refine wp_if hf rfl (fun hb => ?_) (fun hb => ?_)
  ·
   replace h := ifT h hb
   refine go ?_; intro a hf
   obtain rfl := oj h
   have hp : Hp _ _ _ (_ :: _ :: ow) := (hp.pk [1, 2] 3 :)
   exact ⟨rfl, ⟨_, hf.sb, hp⟩⟩
  replace h := ifF h hb
  refine wp_skip ?_
  refine go ?_; intro a hf
  refine st_len (E := Ek.bool) hf (by decide) Tryz.underlying22 rfl rfl (hl1.sl hp) fun a _ hf => ?_
  refine st_fa (o' := 0) hf (by decide) (off := 0) (sz := 1) (by kernel_rfl) (by decide) rfl rfl (hp.ob (i := 0) rfl) rfl fun a _ hf => ?_
  refine st_ldO (u := .int .i64 cL) hf (by decide) pl3 rfl rfl (hp.ob (i := 0) rfl) rfl fun a _ hf => ?_
  refine go ?_; intro a hf
  obtain ⟨q24, hl, h⟩ := bnd h
  have hp : Hp _ _ _ (_ :: _ :: ow) := (hp.pk [1, 2] 3 :)
  refine wp_loop_pure (f := (f_trellis_Code_through.s1 cL l1 t6000_Length t6000_One t6000_Two)) (s := (t4000, (0 : Int), (0 : Int))) (fun s a w => ∃ (v7 : Value), Fr 60 a [(1, vl1), (2, .func (.func 17) #[.agg #[.int .i64 t6000_Length, .int .u32 t6000_One, .int .u32 t6000_Two]] #[]), (3, .func (.func 18) #[] #[optr ot4000 0]), (10, .int .i64 s.2.1), (32, .int .i64 (IntKind.i64.wrap ((IntKind.i64.wrap ((l1.length : Int) + cL)) - (1 : Int)))), (33, .int .i64 s.2.2)] ∧ Hp S w0 w (Res.sl Ek.bool 4 v7 s.1 :: Res.obj 22 ot4000 [v7] :: ow)) (fun q e a w => e = .exit 0 ∧ ∃ (v10 : Value), Fr 60 a [(3, .func (.func 18) #[] #[optr ot4000 0])] ∧ Hp S w0 w (Res.sl Ek.bool 4 v10 q :: Res.obj 22 ot4000 [v10] :: ow)) ?_ hl ⟨_, hf.sb, hp⟩ ?_
  ·
   clear hl hf hp
   intro s x a w h hI
   obtain ⟨tell3_0c, state10, t33⟩ := s
   obtain ⟨v7, hf, hp⟩ : ∃ (v7 : Value), Fr 60 a [(1, vl1), (2, .func (.func 17) #[.agg #[.int .i64 t6000_Length, .int .u32 t6000_One, .int .u32 t6000_Two]] #[]), (3, .func (.func 18) #[] #[optr ot4000 0]), (10, .int .i64 state10), (32, .int .i64 (IntKind.i64.wrap ((IntKind.i64.wrap ((l1.length : Int) + cL)) - (1 : Int)))), (33, .int .i64 t33)] ∧ Hp S w0 w (Res.sl Ek.bool 4 v7 tell3_0c :: Res.obj 22 ot4000 [v7] :: ow) := hI
   replace h : f_trellis_Code_through.s1c cL l1 t6000_Length t6000_One t6000_Two tell3_0c state10 t33 = some x := h
   unfold f_trellis_Code_through.s1c at h
   refine go ?_; intro a hf
   refine wp_if hf rfl (fun hb => ?_) (fun hb => ?_)
   ·
    replace h := ifT h hb
    refine wp_skip ?_
    refine go ?_; intro a hf
    refine st_len (E := Ek.bool) hf (by decide) Tryz.underlying22 rfl rfl (hl1.sl hp) fun a _ hf => ?_
    refine go ?_; intro a hf
    obtain ⟨z15, hz13, h⟩ := bnd h
    refine wpList_cut 5 (fun a w => Fr 60 a [(1, vl1), (2, .func (.func 17) #[.agg #[.int .i64 t6000_Length, .int .u32 t6000_One, .int .u32 t6000_Two]] #[]), (3, .func (.func 18) #[] #[optr ot4000 0]), (32, .int .i64 (IntKind.i64.wrap ((IntKind.i64.wrap ((l1.length : Int) + cL)) - (1 : Int)))), (33, .int .i64 t33), (37, .func (.func 17) #[.agg #[.int .i64 t6000_Length, .int .u32 t6000_One, .int .u32 t6000_Two]] #[]), (38, .int .i64 state10), (48, .bool z15)] ∧ Hp S w0 w (Res.sl Ek.bool 4 v7 tell3_0c :: Res.obj 22 ot4000 [v7] :: ow)) ?_ ?_
    ·
     rcases Bool.eq_false_or_eq_true (decide (t33 < (l1.length : Int))) with hb14 | hb14
     ·
      replace hz13 := ifT hz13 hb14
      refine go ?_; intro a hf
      obtain ⟨hc16, hz13⟩ := chk hz13
      refine st_index (E := Ek.bool) hf (by decide) Tryz.underlying22 elt4 (wantY hf rfl rfl hb14) rfl rfl (hl1.sl hp) hc16.1 hc16.2 fun a _ hf => ?_
      refine st_ldB hf (by decide) pl4 (wantY hf rfl rfl hb14) rfl (hl1.sl hp) hc16.1 hc16.2 fun a _ hf => ?_
      obtain rfl := oj hz13
      refine go ?_; intro a hf
      exact ⟨hf.sb, hp⟩
     replace hz13 := ifF hz13 hb14
     obtain rfl := oj hz13
     refine go ?_; intro a hf
     exact ⟨hf.sb, hp⟩
    rintro a w ⟨hf, hp⟩
    obtain ⟨q17, hcall18, h⟩ := bnd h
    refine st_callM hf (by decide) Tryz.func17 rfl rfl rfl rfl rfl (f_trellis_Code_step_c hp _ _ _ _ _ hcall18) ?_
    rintro _ w ⟨rfl, hp⟩
    replace hp : Hp _ _ _ (Res.sl Ek.bool 4 v7 tell3_0c :: Res.obj 22 ot4000 [v7] :: ow) := hp
    refine ⟨_, rfl, fun a hf => ?_⟩
    refine go ?_; intro a hf
    obtain ⟨q19, hcall20, h⟩ := bnd h
    have hp21 : Hp _ _ _ (Res.sl Ek.bool 4 v7 tell3_0c :: Res.obj 22 ot4000 [v7] :: ow) := (hp.pk [0, 1] 2 :)
    refine st_call hf (by decide) Tryz.func18 rfl rfl rfl rfl rfl (f_trellis_Code_Encode_1_c _ _ _ _ _ _ hp21 hcall20) ?_
    rintro _ w ⟨v22, rfl, hp⟩
    replace hp : Hp _ _ _ (Res.sl Ek.bool 4 v22 q19 :: Res.obj 22 ot4000 [v22] :: ow) := hp
    refine ⟨_, rfl, fun a hf => ?_⟩
    refine go ?_; intro a hf
    obtain rfl := oj h
    exact rnd_l ⟨_, hf.sb, hp⟩
   replace h := ifF h hb
   refine wp_exit ?_
   refine th_e ?_
   obtain rfl := oj h
   exact rnd_r (by simp) ⟨rfl, _, hf.sb, hp⟩
  clear hl hf hp
  intro e a w hne hO
  obtain ⟨rfl, v10, hf, hp⟩ := hO
  refine ib_same ?_
  refine go ?_; intro a hf
  obtain rfl := oj h
  exact ⟨rfl, ⟨_, hf.sb, hp⟩⟩

noncomputable def f_trellis_Code_Encode (cL : Int) (cO : Int) (cT : Int) (bits1 : (List Bool)) : Option ((List Bool) × Int) := ((f_trellis_Code_through cL cO cT bits1 cL cO cT ([])).bind fun q5 => (some (q5.2, q5.1)))
theorem f_trellis_Code_Encode_c {S : Nat → Prop} {w0 w : World} {ow : List Res} (hp : Hp S w0 w ow) (cL : Int) (cO : Int) (cT : Int) (vbits1 : Value) (bits1 : (List Bool)) (hbits1 : RdS Ek.bool S w0 vbits1 bits1) {r : ((List Bool) × Int)} (h : f_trellis_Code_Encode cL cO cT bits1 = some r) :
   Calls Tryz.prog 5 #[.agg #[.int .i64 cL, .int .u32 cO, .int .u32 cT], vbits1] w (fun e w' => ∃ (u0 : Value), e = .returned (.tuple #[u0, .int .i64 r.2]) ∧ Hp S w0 w' (Res.sl Ek.bool 4 u0 r.1 :: ow)) := by
  unfold f_trellis_Code_Encode at h
  refine enx (n := 16) Tryz.func5 fun a hf => ?_
  refine wp_mono (Q := fun e a w => e = .ret ∧ ∃ (u0 : Value), Fr 16 a [(4, u0), (5, .int .i64 r.2)] ∧ Hp S w0 w (Res.sl Ek.bool 4 u0 r.1 :: ow)) ?_ ?_
  rotate_left
  ·
   rintro e a w ⟨rfl, x0, hf, hp⟩
   exact ret2 hf rfl rfl rfl ⟨x0, rfl, hp⟩
  refine goT ?_
  refine st_boxO (cs := [.int .i64 cL, .int .u32 cO, .int .u32 cT]) hf (by decide) hp rfl rfl rfl ?_
  clear hf; intro a w v1 hf hp0; clear hp; have hp := hp0; clear hp0
  replace hp : Hp _ _ _ (Res.obj 27 v1 [.int .i64 cL, .int .u32 cO, .int .u32 cT] :: ow) := hp
  refine go ?_; intro a hf
  refine st_alloc (cs := [.slice none 0 0]) (zv := .slice none 0 0) hf (by decide) (by kernel_rfl) rfl hp rfl ?_
  clear hf; intro a w v3 hf hp0; clear hp; have hp := hp0; clear hp0
  replace hp : Hp _ _ _ (Res.obj 22 v3 [.slice none 0 0] :: _ :: ow) := hp
  refine goT ?_
  refine st_ldOA (m := 3) (us := [.int .i64 cL, .int .u32 cO, .int .u32 cT]) hf (by decide) (by kernel_rfl) rfl rfl (hp.ob (i := 1) rfl) rfl rfl fun a _ hf => ?_
  refine go ?_; intro a hf
  refine st_ldOA (m := 3) (us := [.int .i64 cL, .int .u32 cO, .int .u32 cT]) hf (by decide) (by kernel_rfl) rfl rfl (hp.ob (i := 1) rfl) rfl rfl fun a _ hf => ?_
  refine st_makeFuncM hf (by decide) rfl rfl fun a _ hf => ?_
  refine st_makeFunc1 hf (by decide) rfl rfl fun a _ hf => ?_
  obtain ⟨q5, hcall6, h⟩ := bnd h
  have hp := hp.nil Ek.bool 4
  have hp8 : Hp _ _ _ (Res.sl Ek.bool 4 (.slice none 0 0) ([] : List Bool) :: Res.obj 22 v3 [.slice none 0 0] :: Res.obj 27 v1 [.int .i64 cL, .int .u32 cO, .int .u32 cT] :: ow) := (hp.pk [0, 1, 2] 3 :)
  refine st_call hf (by decide) Tryz.func16 rfl rfl rfl rfl rfl (f_trellis_Code_through_c _ _ _ _ _ hbits1 _ _ _ _ _ _ hp8 hcall6) ?_
  rintro _ w ⟨v9, rfl, hp⟩
  replace hp : Hp _ _ _ (Res.sl Ek.bool 4 v9 q5.2 :: Res.obj 22 v3 [v9] :: _ :: ow) := hp
  refine ⟨_, rfl, fun a hf => ?_⟩
  refine go ?_; intro a hf
  refine st_ldO (u := v9) hf (by decide) pl22 rfl rfl (hp.ob (i := 1) rfl) rfl fun a _ hf => ?_
  refine go ?_; intro a hf
  obtain rfl := oj h
  have hp : Hp _ _ _ (_ :: ow) := (hp.pk [0] 3 :)
  exact ⟨rfl, ⟨_, hf.sb, hp⟩⟩

noncomputable def f_soft_sign (bx0 : Bool) : Option Fl := (if bx0 = true then (some (Fl.bits 4607182418800017408)) else (some (Fl.bits 13830554455654793216)))
theorem f_soft_sign_c {S : Nat → Prop} {w0 w : World} {ow : List Res} (hp : Hp S w0 w ow) (bx0 : Bool) {r : Fl} (h : f_soft_sign bx0 = some r) :
   Calls Tryz.prog 19 #[.bool bx0] w (fun e w' => ∃ (b0 : Nat), e = .returned (.float .f64 b0) ∧ Fl.rep b0 r ∧ Hp S w0 w' (ow)) := by
  unfold f_soft_sign at h
  refine enx (n := 4) Tryz.func19 fun a hf => ?_
  refine wp_mono (Q := fun e a w => e = .ret ∧ ∃ (b0 : Nat), Fr 4 a [(2, .float .f64 b0)] ∧ Fl.rep b0 r ∧ Hp S w0 w (ow)) ?_ ?_
  rotate_left
  ·
   rintro e a w ⟨rfl, x0, hf, y0, hp⟩
   exact ret1 hf rfl rfl ⟨x0, rfl, y0, hp⟩
  refine go ?_; intro a hf
  refine wp_if hf rfl (fun hb => ?_) (fun hb => ?_)
  ·
   replace h := ifT h hb
   refine go ?_; intro a hf
   obtain rfl := oj h
   exact ⟨rfl, ⟨_, hf.sb, rfl, hp⟩⟩
  replace h := ifF h hb
  refine wp_skip ?_
  refine go ?_; intro a hf
  obtain rfl := oj h
  exact ⟨rfl, ⟨_, hf.sb, rfl, hp⟩⟩

noncomputable def f_soft_Point (one0 : Bool) (two1 : Bool) : Option (Fl × Fl) := ((f_soft_sign one0).bind fun q1 => ((f_soft_sign two1).bind fun q5 => (some (q1, q5))))
theorem f_soft_Point_c {S : Nat → Prop} {w0 w : World} {ow : List Res} (hp : Hp S w0 w ow) (one0 : Bool) (two1 : Bool) {r : (Fl × Fl)} (h : f_soft_Point one0 two1 = some r) :
   Calls Tryz.prog 6 #[.bool one0, .bool two1] w (fun e w' => ∃ (b0 : Nat) (b1 : Nat), e = .returned (.complex .f64 b0 b1) ∧ Fl.rep b0 r.1 ∧ Fl.rep b1 r.2 ∧ Hp S w0 w' (ow)) := by
  unfold f_soft_Point at h
  refine enx (n := 10) Tryz.func6 fun a hf => ?_
  refine wp_mono (Q := fun e a w => e = .ret ∧ ∃ (b0 : Nat) (b1 : Nat), Fr 10 a [(4, .complex .f64 b0 b1)] ∧ Fl.rep b0 r.1 ∧ Fl.rep b1 r.2 ∧ Hp S w0 w (ow)) ?_ ?_
  rotate_left
  ·
   rintro e a w ⟨rfl, x0, x1, hf, y0, y1, hp⟩
   exact ret1 hf rfl rfl ⟨x0, x1, rfl, y0, y1, hp⟩
  refine go ?_; intro a hf
  obtain ⟨q1, hcall2, h⟩ := bnd h
  refine st_call hf (by decide) Tryz.func19 rfl rfl rfl rfl rfl (f_soft_sign_c hp _ hcall2) ?_
  rintro _ w ⟨v3, rfl, y4, hp⟩
  replace hp : Hp _ _ _ (ow) := hp
  refine ⟨_, rfl, fun a hf => ?_⟩
  refine go ?_; intro a hf
  obtain ⟨q5, hcall6, h⟩ := bnd h
  refine st_call hf (by decide) Tryz.func19 rfl rfl rfl rfl rfl (f_soft_sign_c hp _ hcall6) ?_
  rintro _ w ⟨v7, rfl, y8, hp⟩
  replace hp : Hp _ _ _ (ow) := hp
  refine ⟨_, rfl, fun a hf => ?_⟩
  refine go ?_; intro a hf
  obtain rfl := oj h
  exact ⟨rfl, ⟨_, _, hf.sb, y4, y8, hp⟩⟩

noncomputable def f_foghorntop_mod (xx0 : Int) (n1 : Int) : Option Int := (if n1 ≠ 0 then (if (decide (((xx0).tmod n1) < (0 : Int))) = true then (some (IntKind.i64.wrap (((xx0).tmod n1) + n1))) else (some ((xx0).tmod n1))) else none)
theorem f_foghorntop_mod_c {S : Nat → Prop} {w0 w : World} {ow : List Res} (hp : Hp S w0 w ow) (xx0 : Int) (n1 : Int) {r : Int} (h : f_foghorntop_mod xx0 n1 = some r) :
   Calls Tryz.prog 7 #[.int .i64 xx0, .int .i64 n1] w (fun e w' => e = .returned (.int .i64 r) ∧ Hp S w0 w' (ow)) := by
  unfold f_foghorntop_mod at h
  refine enx (n := 15) Tryz.func7 fun a hf => ?_
  refine wp_mono (Q := fun e a w => e = .ret ∧ Fr 15 a [(4, .int .i64 r)] ∧ Hp S w0 w (ow)) ?_ ?_
  rotate_left
  ·
   rintro e a w ⟨rfl, hf, hp⟩
   exact ret1 hf rfl rfl ⟨rfl, hp⟩
  refine go ?_; intro a hf
  obtain ⟨hc1, h⟩ := chk h
  refine st_irem hf (by decide) rfl rfl rfl hc1 fun a _ hf => ?_
  refine go ?_; intro a hf
  refine wp_if hf rfl (fun hb => ?_) (fun hb => ?_)
  ·
   replace h := ifT h hb
   refine go ?_; intro a hf
   obtain rfl := oj h
   exact ⟨rfl, ⟨hf.sb, hp⟩⟩
  replace h := ifF h hb
  refine wp_skip ?_
  refine go ?_; intro a hf
  obtain rfl := oj h
  exact ⟨rfl, ⟨hf.sb, hp⟩⟩

noncomputable def f_hard_fits_1 (m0 : Int) : Option Bool := (some (decide ((2 : Int) < m0)))
theorem f_hard_fits_1_c {S : Nat → Prop} {w0 w : World} {ow : List Res} (hp : Hp S w0 w ow) (m0 : Int) {r : Bool} (h : f_hard_fits_1 m0 = some r) :
   Calls Tryz.prog 36 #[.int .u8 m0] w (fun e w' => e = .returned (.bool r) ∧ Hp S w0 w' (ow)) := by
  unfold f_hard_fits_1 at h
  refine enx (n := 5) Tryz.func36 fun a hf => ?_
  refine wp_mono (Q := fun e a w => e = .ret ∧ Fr 5 a [(2, .bool r)] ∧ Hp S w0 w (ow)) ?_ ?_
  rotate_left
  ·
   rintro e a w ⟨rfl, hf, hp⟩
   exact ret1 hf rfl rfl ⟨rfl, hp⟩
  refine go ?_; intro a hf
  obtain rfl := oj h
  exact ⟨rfl, ⟨hf.sb, hp⟩⟩

noncomputable def f_slices_IndexFunc_hard_Mark_hard_Mark.s1c (sx0 : (List Int)) (t8 : Int) : Option (Int ⊕ (Unit ⊕ Int)) := (if (decide (t8 < (sx0.length : Int))) = true then (if 0 ≤ t8 ∧ t8 < (sx0.length : Int) then ((f_hard_fits_1 (gt sx0 t8)).bind fun q2 => (if q2 = true then (some (Sum.inr (Sum.inr t8))) else (some (Sum.inl (IntKind.i64.wrap (t8 + (1 : Int))))))) else none) else (some (Sum.inr (Sum.inl ()))))
noncomputable def f_slices_IndexFunc_hard_Mark_hard_Mark.s1 (sx0 : (List Int)) (s : Int) : Option (Int ⊕ (Unit ⊕ Int)) := f_slices_IndexFunc_hard_Mark_hard_Mark.s1c sx0 s
noncomputable def f_slices_IndexFunc_hard_Mark_hard_Mark (sx0 : (List Int)) : Option Int := ((loop (f_slices_IndexFunc_hard_Mark_hard_Mark.s1 sx0) (0 : Int)).bind (fun q4 => sm q4 (fun q5 => (some (-1 : Int))) (fun q6 => (some q6))))
theorem f_slices_IndexFunc_hard_Mark_hard_Mark_c {S : Nat → Prop} {w0 w : World} {ow : List Res} (hp : Hp S w0 w ow) (vsx0 : Value) (sx0 : (List Int)) (hsx0 : RdS (Ek.int .u8) S w0 vsx0 sx0) {r : Int} (h : f_slices_IndexFunc_hard_Mark_hard_Mark sx0 = some r) :
   Calls Tryz.prog 54 #[vsx0, .func (.func 36) #[] #[]] w (fun e w' => e = .returned (.int .i64 r) ∧ Hp S w0 w' (ow)) := by
  unfold f_slices_IndexFunc_hard_Mark_hard_Mark at h
  refine enx (n := 19) Tryz.func54 fun a hf => ?_
  refine wp_mono (Q := fun e a w => e = .ret ∧ Fr 19 a [(4, .int .i64 r)] ∧ Hp S w0 w (ow)) ?_ ?_
  rotate_left
  ·
   rintro e a w ⟨rfl, hf, hp⟩
   exact ret1 hf rfl rfl ⟨rfl, hp⟩
  refine go ?_; intro a hf
  refine st_len (E := (Ek.int .u8)) hf (by decide) Tryz.underlying32 rfl rfl (hsx0.sl hp) fun a _ hf => ?_
  refine go ?_; intro a hf
  obtain ⟨q4, hl, h⟩ := bnd h
  refine wp_loop_pure (f := (f_slices_IndexFunc_hard_Mark_hard_Mark.s1 sx0)) (s := (0 : Int)) (fun s a w => Fr 19 a [(0, vsx0), (1, .func (.func 36) #[] #[]), (7, .int .i64 (sx0.length : Int)), (8, .int .i64 s)] ∧ Hp S w0 w (ow)) (fun q e a w => match q with | (Sum.inl q) => e = .exit 0 ∧ Fr 19 a [] ∧ Hp S w0 w (ow) | (Sum.inr q) => e = .ret ∧ Fr 19 a [(4, .int .i64 q)] ∧ Hp S w0 w (ow)) ?_ hl ⟨hf.sb, hp⟩ ?_
  ·
   clear hl hf hp
   intro s x a w h hI
   obtain ⟨t8, hs⟩ : ∃ z, z = s := ⟨s, rfl⟩; subst hs
   obtain ⟨hf, hp⟩ : Fr 19 a [(0, vsx0), (1, .func (.func 36) #[] #[]), (7, .int .i64 (sx0.length : Int)), (8, .int .i64 t8)] ∧ Hp S w0 w (ow) := hI
   replace h : f_slices_IndexFunc_hard_Mark_hard_Mark.s1c sx0 t8 = some x := h
   unfold f_slices_IndexFunc_hard_Mark_hard_Mark.s1c at h
   refine go ?_; intro a hf
   refine wp_if hf rfl (fun hb => ?_) (fun hb => ?_)
   ·
    replace h := ifT h hb
    refine wp_skip ?_
    refine go ?_; intro a hf
    obtain ⟨hc1, h⟩ := chk h
    refine st_index (E := (Ek.int .u8)) hf (by decide) Tryz.underlying32 elt34 rfl rfl rfl (hsx0.sl hp) hc1.1 hc1.2 fun a _ hf => ?_
    refine st_ldI hf (by decide) pl34 rfl rfl (hsx0.sl hp) hc1.1 hc1.2 fun a _ hf => ?_
    obtain ⟨q2, hcall3, h⟩ := bnd h
    refine st_call hf (by decide) Tryz.func36 rfl rfl rfl rfl rfl (f_hard_fits_1_c hp _ hcall3) ?_
    rintro _ w ⟨rfl, hp⟩
    replace hp : Hp _ _ _ (ow) := hp
    refine ⟨_, rfl, fun a hf => ?_⟩
    refine goT ?_
    refine wp_if hf rfl (fun hb => ?_) (fun hb => ?_)
    ·
     replace h := ifT h hb
     refine go ?_; intro a hf
     refine ib_r ?_
     refine th_r ?_
     obtain rfl := oj h
     exact rnd_r (by simp) ⟨rfl, ⟨hf.sb, hp⟩⟩
    replace h := ifF h hb
    refine wp_skip ?_
    refine go ?_; intro a hf
    obtain rfl := oj h
    exact rnd_l ⟨hf.sb, hp⟩
   replace h := ifF h hb
   refine wp_exit ?_
   refine th_e ?_
   obtain rfl := oj h
   exact rnd_r (by simp) ⟨rfl, hf.sub trivial, hp⟩
  clear hl hf hp
  intro e a w hne hO
  rcases q4 with q5 | q6
  ·
   replace h := smL h
   obtain ⟨rfl, hf, hp⟩ := hO
   refine ib_same ?_
   refine go ?_; intro a hf
   obtain rfl := oj h
   exact ⟨rfl, ⟨hf.sb, hp⟩⟩
  replace h := smR h
  obtain ⟨rfl, hf, hp⟩ := hO
  refine ib_r ?_
  refine th_r ?_
  obtain rfl := oj h
  exact ⟨rfl, ⟨hf.sb, hp⟩⟩

noncomputable def f_slices_ContainsFunc_hard_Mark_hard_Mark (sx0 : (List Int)) : Option Bool := ((f_slices_IndexFunc_hard_Mark_hard_Mark sx0).bind fun q1 => (some (decide ((0 : Int) ≤ q1))))
theorem f_slices_ContainsFunc_hard_Mark_hard_Mark_c {S : Nat → Prop} {w0 w : World} {ow : List Res} (hp : Hp S w0 w ow) (vsx0 : Value) (sx0 : (List Int)) (hsx0 : RdS (Ek.int .u8) S w0 vsx0 sx0) {r : Bool} (h : f_slices_ContainsFunc_hard_Mark_hard_Mark sx0 = some r) :
   Calls Tryz.prog 35 #[vsx0, .func (.func 36) #[] #[]] w (fun e w' => e = .returned (.bool r) ∧ Hp S w0 w' (ow)) := by
  unfold f_slices_ContainsFunc_hard_Mark_hard_Mark at h
  refine enx (n := 9) Tryz.func35 fun a hf => ?_
  refine wp_mono (Q := fun e a w => e = .ret ∧ Fr 9 a [(4, .bool r)] ∧ Hp S w0 w (ow)) ?_ ?_
  rotate_left
  ·
   rintro e a w ⟨rfl, hf, hp⟩
   exact ret1 hf rfl rfl ⟨rfl, hp⟩
  refine go ?_; intro a hf
  obtain ⟨q1, hcall2, h⟩ := bnd h
  refine st_call hf (by decide) Tryz.func54 rfl rfl rfl rfl rfl (f_slices_IndexFunc_hard_Mark_hard_Mark_c hp _ _ hsx0 hcall2) ?_
  rintro _ w ⟨rfl, hp⟩
  replace hp : Hp _ _ _ (ow) := hp
  refine ⟨_, rfl, fun a hf => ?_⟩
  refine go ?_; intro a hf
  obtain rfl := oj h
  exact ⟨rfl, ⟨hf.sb, hp⟩⟩

noncomputable def f_hard_fits (cL : Int) (cO : Int) (cT : Int) (marks1 : (List Int)) : Option Bool := ((f_trellis_Code_Check cL cO cT).bind fun q3 => (if ((((q3 != (0 : Int)) || (decide ((32768 : Int) < (marks1.length : Int)))) || ((((marks1.length : Int)).tmod (2 : Int)) != (0 : Int))) || (decide ((marks1.length : Int) < (IntKind.i64.wrap ((2 : Int) * (IntKind.i64.wrap (cL - (1 : Int)))))))) = true then (some false) else ((f_slices_ContainsFunc_hard_Mark_hard_Mark marks1).bind fun q11 => (some (!q11)))))
theorem f_hard_fits_c {S : Nat → Prop} {w0 w : World} {ow : List Res} (hp : Hp S w0 w ow) (cL : Int) (cO : Int) (cT : Int) (vmarks1 : Value) (marks1 : (List Int)) (hmarks1 : RdS (Ek.int .u8) S w0 vmarks1 marks1) {r : Bool} (h : f_hard_fits cL cO cT marks1 = some r) :
   Calls Tryz.prog 20 #[.agg #[.int .i64 cL, .int .u32 cO, .int .u32 cT], vmarks1] w (fun e w' => e = .returned (.bool r) ∧ Hp S w0 w' (ow)) := by
  unfold f_hard_fits at h
  refine enx (n := 31) Tryz.func20 fun a hf => ?_
  refine wp_mono (Q := fun e a w => e = .ret ∧ Fr 31 a [(4, .bool r)] ∧ Hp S w0 w (ow)) ?_ ?_
  rotate_left
  ·
   rintro e a w ⟨rfl, hf, hp⟩
   exact ret1 hf rfl rfl ⟨rfl, hp⟩
  refine goT ?_
  refine st_boxO (cs := [.int .i64 cL, .int .u32 cO, .int .u32 cT]) hf (by decide) hp rfl rfl rfl ?_
  clear hf; intro a w v1 hf hp0; clear hp; have hp := hp0; clear hp0
  replace hp : Hp _ _ _ (Res.obj 27 v1 [.int .i64 cL, .int .u32 cO, .int .u32 cT] :: ow) := hp
  refine go ?_; intro a hf
  refine st_ldOA (m := 3) (us := [.int .i64 cL, .int .u32 cO, .int .u32 cT]) hf (by decide) (by kernel_rfl) rfl rfl (hp.ob (i := 0) rfl) rfl rfl fun a _ hf => ?_
  obtain ⟨q3, hcall4, h⟩ := bnd h
  refine st_call hf (by decide) Tryz.func24 rfl rfl rfl rfl rfl (f_trellis_Code_Check_c hp _ _ _ hcall4) ?_
  rintro _ w ⟨rfl, hp⟩
  replace hp : Hp _ _ _ (_ :: ow) := hp
  refine ⟨_, rfl, fun a hf => ?_⟩
  refine go ?_; intro a hf
  refine wpList_cut 4 (fun a w => Fr 31 a [(1, vmarks1), (2, optr v1 0), (12, .bool ((q3 != (0 : Int)) || (decide ((32768 : Int) < (marks1.length : Int)))))] ∧ Hp S w0 w (Res.obj 27 v1 [.int .i64 cL, .int .u32 cO, .int .u32 cT] :: ow)) ?_ ?_
  ·
   rcases Bool.eq_false_or_eq_true (q3 != (0 : Int)) with hb6 | hb6
   ·
    refine go ?_; intro a hf
    exact ⟨hf.sub ⟨rfl, rfl, (by rw [hb6]; rfl), trivial⟩, hp⟩
   refine go ?_; intro a hf
   refine st_len (E := (Ek.int .u8)) hf (by decide) Tryz.underlying32 (wantY hf rfl rfl hb6) rfl (hmarks1.sl hp) fun a _ hf => ?_
   refine go ?_; intro a hf
   exact ⟨hf.sub ⟨rfl, rfl, (by rw [hb6]; rfl), trivial⟩, hp⟩
  rintro a w ⟨hf, hp⟩
  refine go ?_; intro a hf
  refine wpList_cut 5 (fun a w => Fr 31 a [(1, vmarks1), (2, optr v1 0), (18, .bool (((q3 != (0 : Int)) || (decide ((32768 : Int) < (marks1.length : Int)))) || ((((marks1.length : Int)).tmod (2 : Int)) != (0 : Int))))] ∧ Hp S w0 w (Res.obj 27 v1 [.int .i64 cL, .int .u32 cO, .int .u32 cT] :: ow)) ?_ ?_
  ·
   rcases Bool.eq_false_or_eq_true ((q3 != (0 : Int)) || (decide ((32768 : Int) < (marks1.length : Int)))) with hb8 | hb8
   ·
    refine go ?_; intro a hf
    exact ⟨hf.sub ⟨rfl, rfl, (by rw [hb8]; rfl), trivial⟩, hp⟩
   refine go ?_; intro a hf
   refine st_len (E := (Ek.int .u8)) hf (by decide) Tryz.underlying32 (wantY hf rfl rfl hb8) rfl (hmarks1.sl hp) fun a _ hf => ?_
   refine st_irem hf (by decide) (wantY hf rfl rfl hb8) rfl rfl (by decide) fun a _ hf => ?_
   refine go ?_; intro a hf
   exact ⟨hf.sub ⟨rfl, rfl, (by rw [hb8]; rfl), trivial⟩, hp⟩
  rintro a w ⟨hf, hp⟩
  refine go ?_; intro a hf
  refine wpList_cut 8 (fun a w => Fr 31 a [(1, vmarks1), (27, .bool ((((q3 != (0 : Int)) || (decide ((32768 : Int) < (marks1.length : Int)))) || ((((marks1.length : Int)).tmod (2 : Int)) != (0 : Int))) || (decide ((marks1.length : Int) < (IntKind.i64.wrap ((2 : Int) * (IntKind.i64.wrap (cL - (1 : Int)))))))))] ∧ Hp S w0 w (Res.obj 27 v1 [.int .i64 cL, .int .u32 cO, .int .u32 cT] :: ow)) ?_ ?_
  ·
   rcases Bool.eq_false_or_eq_true (((q3 != (0 : Int)) || (decide ((32768 : Int) < (marks1.length : Int)))) || ((((marks1.length : Int)).tmod (2 : Int)) != (0 : Int))) with hb10 | hb10
   ·
    refine go ?_; intro a hf
    exact ⟨hf.sub ⟨rfl, (by rw [hb10]; rfl), trivial⟩, hp⟩
   refine go ?_; intro a hf
   refine st_len (E := (Ek.int .u8)) hf (by decide) Tryz.underlying32 (wantY hf rfl rfl hb10) rfl (hmarks1.sl hp) fun a _ hf => ?_
   refine st_fa (o' := 0) hf (by decide) (off := 0) (sz := 1) (by kernel_rfl) (by decide) (wantY hf rfl rfl hb10) rfl (hp.ob (i := 0) rfl) rfl fun a _ hf => ?_
   refine st_ldO (u := .int .i64 cL) hf (by decide) pl3 (wantY hf rfl rfl hb10) rfl (hp.ob (i := 0) rfl) rfl fun a _ hf => ?_
   refine go ?_; intro a hf
   exact ⟨hf.sub ⟨rfl, (by rw [hb10]; rfl), trivial⟩, hp⟩
  rintro a w ⟨hf, hp⟩
  refine goT ?_
  refine wp_if hf rfl (fun hb => ?_) (fun hb => ?_)
  ·
   replace h := ifT h hb
   refine go ?_; intro a hf
   obtain rfl := oj h
   have hp : Hp _ _ _ (ow) := (hp.pk [] 1 :)
   exact ⟨rfl, ⟨hf.sb, hp⟩⟩
  replace h := ifF h hb
  refine wp_skip ?_
  refine go ?_; intro a hf
  obtain ⟨q11, hcall12, h⟩ := bnd h
  refine st_call hf (by decide) Tryz.func35 rfl rfl rfl rfl rfl (f_slices_ContainsFunc_hard_Mark_hard_Mark_c hp _ _ hmarks1 hcall12) ?_
  rintro _ w ⟨rfl, hp⟩
  replace hp : Hp _ _ _ (_ :: ow) := hp
  refine ⟨_, rfl, fun a hf => ?_⟩
  refine go ?_; intro a hf
  obtain rfl := oj h
  have hp : Hp _ _ _ (ow) := (hp.pk [] 1 :)
  exact ⟨rfl, ⟨hf.sb, hp⟩⟩

noncomputable def f_hard_unlike (bx0 : Int) (m1 : Int) : Option Int := (if ((m1 != (2 : Int)) && ((IntKind.u8.wrap bx0) != m1)) = true then (some (1 : Int)) else (some (0 : Int)))
theorem f_hard_unlike_c {S : Nat → Prop} {w0 w : World} {ow : List Res} (hp : Hp S w0 w ow) (bx0 : Int) (m1 : Int) {r : Int} (h : f_hard_unlike bx0 m1 = some r) :
   Calls Tryz.prog 37 #[.int .u32 bx0, .int .u8 m1] w (fun e w' => e = .returned (.int .i32 r) ∧ Hp S w0 w' (ow)) := by
  unfold f_hard_unlike at h
  refine enx (n := 13) Tryz.func37 fun a hf => ?_
  refine wp_mono (Q := fun e a w => e = .ret ∧ Fr 13 a [(4, .int .i32 r)] ∧ Hp S w0 w (ow)) ?_ ?_
  rotate_left
  ·
   rintro e a w ⟨rfl, hf, hp⟩
   exact ret1 hf rfl rfl ⟨rfl, hp⟩
  refine go ?_; intro a hf
  refine wpList_cut 5 (fun a w => Fr 13 a [(12, .bool ((m1 != (2 : Int)) && ((IntKind.u8.wrap bx0) != m1)))] ∧ Hp S w0 w (ow)) ?_ ?_
  ·
   rcases Bool.eq_false_or_eq_true (m1 != (2 : Int)) with hb2 | hb2
   ·
    refine go ?_; intro a hf
    refine st_conv_ii hf (by decide) (by rw [Tryz.underlying25]; rfl) Tryz.underlying34 (wantY hf rfl rfl hb2) rfl fun a _ hf => ?_
    refine go ?_; intro a hf
    exact ⟨hf.sub ⟨(by rw [hb2]; rfl), trivial⟩, hp⟩
   refine go ?_; intro a hf
   exact ⟨hf.sub ⟨(by rw [hb2]; rfl), trivial⟩, hp⟩
  rintro a w ⟨hf, hp⟩
  refine goT ?_
  refine wp_if hf rfl (fun hb => ?_) (fun hb => ?_)
  ·
   replace h := ifT h hb
   refine go ?_; intro a hf
   obtain rfl := oj h
   exact ⟨rfl, ⟨hf.sb, hp⟩⟩
  replace h := ifF h hb
  refine wp_skip ?_
  refine go ?_; intro a hf
  obtain rfl := oj h
  exact ⟨rfl, ⟨hf.sb, hp⟩⟩

noncomputable def f_hard_step (cL : Int) (cO : Int) (cT : Int) (state1 : Int) (bit2 : Int) (marks3 : (List Int)) : Option (Int × Int) := (if 0 ≤ (IntKind.i64.wrap (cL - (1 : Int))) then ((f_math_bits_OnesCount32 (iand .u32 (ior .u32 (ishl .u32 bit2 (IntKind.i64.wrap (cL - (1 : Int)))) state1) cO)).bind fun q11 => ((f_math_bits_OnesCount32 (iand .u32 (ior .u32 (ishl .u32 bit2 (IntKind.i64.wrap (cL - (1 : Int)))) state1) cT)).bind fun q13 => (if 0 ≤ (0 : Int) ∧ (0 : Int) < (marks3.length : Int) then ((f_hard_unlike (IntKind.u32.wrap (iand .i64 q11 (1 : Int))) (gt marks3 (0 : Int))).bind fun q16 => (if 0 ≤ (1 : Int) ∧ (1 : Int) < (marks3.length : Int) then ((f_hard_unlike (IntKind.u32.wrap (iand .i64 q13 (1 : Int))) (gt marks3 (1 : Int))).bind fun q19 => (some ((ishr .u32 (ior .u32 (ishl .u32 bit2 (IntKind.i64.wrap (cL - (1 : Int)))) state1) (1 : Int)), (IntKind.i32.wrap (q16 + q19))))) else none)) else none))) else none)
theorem f_hard_step_c {S : Nat → Prop} {w0 w : World} {ow : List Res} (hp : Hp S w0 w ow) (cL : Int) (cO : Int) (cT : Int) (state1 : Int) (bit2 : Int) (vmarks3 : Value) (marks3 : (List Int)) (hmarks3 : RdS (Ek.int .u8) S w0 vmarks3 marks3) {r : (Int × Int)} (h : f_hard_step cL cO cT state1 bit2 marks3 = some r) :
   Calls Tryz.prog 21 #[.agg #[.int .i64 cL, .int .u32 cO, .int .u32 cT], .int .u32 state1, .int .u32 bit2, vmarks3] w (fun e w' => e = .returned (.tuple #[.int .u32 r.1, .int .i32 r.2]) ∧ Hp S w0 w' (ow)) := by
  unfold f_hard_step at h
  refine enx (n := 47) Tryz.func21 fun a hf => ?_
  refine wp_mono (Q := fun e a w => e = .ret ∧ Fr 47 a [(8, .int .u32 r.1), (9, .int .i32 r.2)] ∧ Hp S w0 w (ow)) ?_ ?_
  rotate_left
  ·
   rintro e a w ⟨rfl, hf, hp⟩
   exact ret2 hf rfl rfl rfl ⟨rfl, hp⟩
  refine goT ?_
  refine st_boxO (cs := [.int .i64 cL, .int .u32 cO, .int .u32 cT]) hf (by decide) hp rfl rfl rfl ?_
  clear hf; intro a w v1 hf hp0; clear hp; have hp := hp0; clear hp0
  replace hp : Hp _ _ _ (Res.obj 27 v1 [.int .i64 cL, .int .u32 cO, .int .u32 cT] :: ow) := hp
  refine go ?_; intro a hf
  refine st_fa (o' := 0) hf (by decide) (off := 0) (sz := 1) (by kernel_rfl) (by decide) rfl rfl (hp.ob (i := 0) rfl) rfl fun a _ hf => ?_
  refine st_ldO (u := .int .i64 cL) hf (by decide) pl3 rfl rfl (hp.ob (i := 0) rfl) rfl fun a _ hf => ?_
  refine go ?_; intro a hf
  obtain ⟨hc3, h⟩ := chk h
  refine st_ishl hf (by decide) rfl rfl rfl hc3 fun a _ hf => ?_
  refine go ?_; intro a hf
  obtain ⟨S4, hp5, rd6, up7, bk8⟩ := Hp.lendO hp (i := 0) rfl
  have rl9 := ((hmarks3.now hp).mono up7)
  have rl10 := rd6
  obtain ⟨q11, hcall12, h⟩ := bnd h
  obtain ⟨q13, hcall14, h⟩ := bnd h
  refine wp_cutN (fun a w => Fr 47 a [(3, vmarks3), (10, .int .u32 (ior .u32 (ishl .u32 bit2 (IntKind.i64.wrap (cL - (1 : Int)))) state1)), (11, .int .u32 (IntKind.u32.wrap (iand .i64 q11 (1 : Int)))), (12, .int .u32 (IntKind.u32.wrap (iand .i64 q13 (1 : Int))))] ∧ Hp S w0 w (Res.obj 27 v1 [.int .i64 cL, .int .u32 cO, .int .u32 cT] :: ow)) ?_ ?_
  ·
   have hp := hp5.same (Same.drew w)
   refine dr_begin' _ (fun w' => ∃ l, Hp S4 w w' l) [] (by kernel_rfl) ?_
   refine dv 0 hf ⟨_, hp⟩ fun a hf => ?_
   refine dr_takeK 1 _ rfl hf rfl (fun w ⟨_, hp⟩ => st_fa (o' := 1) hf (by decide) (off := 1) (sz := 1) (by kernel_rfl) (by decide) rfl rfl (rl10.ob hp) rfl tk) ⟨_, hp⟩ fun a hf => ?_
   refine dr_takeK 2 _ rfl hf rfl (fun w ⟨_, hp⟩ => st_ldO (u := .int .u32 cO) hf (by decide) pl25 rfl rfl (rl10.ob hp) rfl tk) ⟨_, hp⟩ fun a hf => ?_
   refine dv 3 hf ⟨_, hp⟩ fun a hf => ?_
   refine dv 7 hf ⟨_, hp⟩ fun a hf => ?_
   refine dr_takeK 8 _ rfl hf rfl (fun w ⟨_, hp⟩ => st_fa (o' := 2) hf (by decide) (off := 2) (sz := 1) (by kernel_rfl) (by decide) rfl rfl (rl10.ob hp) rfl tk) ⟨_, hp⟩ fun a hf => ?_
   refine dr_takeK 9 _ rfl hf rfl (fun w ⟨_, hp⟩ => st_ldO (u := .int .u32 cT) hf (by decide) pl25 rfl rfl (rl10.ob hp) rfl tk) ⟨_, hp⟩ fun a hf => ?_
   refine dv 10 hf ⟨_, hp⟩ fun a hf => ?_
   refine dr_one 4 rfl (by kernel_rfl) ?_
   refine st_call hf (by decide) Tryz.func34 rfl rfl rfl rfl rfl (f_math_bits_OnesCount32_c hp _ hcall12) ?_
   rintro _ w ⟨rfl, hp⟩
   replace hp : Hp _ _ _ (ow) := hp
   refine ⟨_, rfl, fun a hf => ?_⟩
   refine nx hf (fun _ _ => ⟨_, hp⟩) ?_
   refine dv 5 hf ⟨_, hp⟩ fun a hf => ?_
   refine dr_takeK 6 _ rfl hf rfl (fun w ⟨_, hp⟩ => st_conv_ii hf (by decide) (by rw [Tryz.underlying3]; rfl) Tryz.underlying25 rfl rfl tk) ⟨_, hp⟩ fun a hf => ?_
   refine dr_one 11 rfl (by kernel_rfl) ?_
   refine st_call hf (by decide) Tryz.func34 rfl rfl rfl rfl rfl (f_math_bits_OnesCount32_c hp _ hcall14) ?_
   rintro _ w ⟨rfl, hp⟩
   replace hp : Hp _ _ _ (ow) := hp
   refine ⟨_, rfl, fun a hf => ?_⟩
   refine nx hf (fun _ _ => ⟨_, hp⟩) ?_
   refine dv 12 hf ⟨_, hp⟩ fun a hf => ?_
   refine dr_takeK 13 _ rfl hf rfl (fun w ⟨_, hp⟩ => st_conv_ii hf (by decide) (by rw [Tryz.underlying3]; rfl) Tryz.underlying25 rfl rfl tk) ⟨_, hp⟩ fun a hf => ?_
   refine dv 14 hf ⟨_, hp⟩ fun a hf => ?_
   refine dv 15 hf ⟨_, hp⟩ fun a hf => ?_
   refine dr_end (by kernel_rfl) ?_ _
   have hp := bk8 _ _ hp
   exact ⟨hf.sb, hp⟩
  rintro a w ⟨hf, hp⟩
  refine goT ?_
  obtain ⟨hc15, h⟩ := chk h
  obtain ⟨q16, hcall17, h⟩ := bnd h
  obtain ⟨hc18, h⟩ := chk h
  obtain ⟨q19, hcall20, h⟩ := bnd h
  refine wp_cutN (fun a w => Fr 47 a [(8, .int .u32 (ishr .u32 (ior .u32 (ishl .u32 bit2 (IntKind.i64.wrap (cL - (1 : Int)))) state1) (1 : Int))), (9, .int .i32 (IntKind.i32.wrap (q16 + q19)))] ∧ Hp S w0 w (Res.obj 27 v1 [.int .i64 cL, .int .u32 cO, .int .u32 cT] :: ow)) ?_ ?_
  ·
   have hp := hp.same (Same.drew w)
   refine dr_begin' _ (fun w' => ∃ l, Hp S w0 w' l) [] (by kernel_rfl) ?_
   refine dv 0 hf ⟨_, hp⟩ fun a hf => ?_
   refine dr_takeK 1 _ rfl hf rfl (fun w ⟨_, hp⟩ => st_ishr hf (by decide) rfl rfl rfl (by decide) tk) ⟨_, hp⟩ fun a hf => ?_
   refine dv 2 hf ⟨_, hp⟩ fun a hf => ?_
   refine dv 3 hf ⟨_, hp⟩ fun a hf => ?_
   refine dr_takeK 4 _ rfl hf rfl (fun w ⟨_, hp⟩ => st_index (E := (Ek.int .u8)) hf (by decide) Tryz.underlying32 elt34 rfl rfl rfl (hmarks3.sl hp) hc15.1 hc15.2 tk) ⟨_, hp⟩ fun a hf => ?_
   refine dr_takeK 5 _ rfl hf rfl (fun w ⟨_, hp⟩ => st_ldI hf (by decide) pl34 rfl rfl (hmarks3.sl hp) hc15.1 hc15.2 tk) ⟨_, hp⟩ fun a hf => ?_
   refine dv 7 hf ⟨_, hp⟩ fun a hf => ?_
   refine dv 8 hf ⟨_, hp⟩ fun a hf => ?_
   refine dr_takeK 9 _ rfl hf rfl (fun w ⟨_, hp⟩ => st_index (E := (Ek.int .u8)) hf (by decide) Tryz.underlying32 elt34 rfl rfl rfl (hmarks3.sl hp) hc18.1 hc18.2 tk) ⟨_, hp⟩ fun a hf => ?_
   refine dr_takeK 10 _ rfl hf rfl (fun w ⟨_, hp⟩ => st_ldI hf (by decide) pl34 rfl rfl (hmarks3.sl hp) hc18.1 hc18.2 tk) ⟨_, hp⟩ fun a hf => ?_
   refine dr_one 6 rfl (by kernel_rfl) ?_
   refine st_call hf (by decide) Tryz.func37 rfl rfl rfl rfl rfl (f_hard_unlike_c hp _ _ hcall17) ?_
   rintro _ w ⟨rfl, hp⟩
   replace hp : Hp _ _ _ (_ :: ow) := hp
   refine ⟨_, rfl, fun a hf => ?_⟩
   refine nx hf (fun _ _ => ⟨_, hp⟩) ?_
   refine dr_one 11 rfl (by kernel_rfl) ?_
   refine st_call hf (by decide) Tryz.func37 rfl rfl rfl rfl rfl (f_hard_unlike_c hp _ _ hcall20) ?_
   rintro _ w ⟨rfl, hp⟩
   replace hp : Hp _ _ _ (_ :: ow) := hp
   refine ⟨_, rfl, fun a hf => ?_⟩
   refine nx hf (fun _ _ => ⟨_, hp⟩) ?_
   refine dv 12 hf ⟨_, hp⟩ fun a hf => ?_
   refine dv 13 hf ⟨_, hp⟩ fun a hf => ?_
   refine dv 14 hf ⟨_, hp⟩ fun a hf => ?_
   refine dr_end (by kernel_rfl) ?_ _
   exact ⟨hf.sb, hp⟩
  rintro a w ⟨hf, hp⟩
  refine goT ?_
  obtain rfl := oj h
  have hp : Hp _ _ _ (ow) := (hp.pk [] 1 :)
  exact ⟨rfl, ⟨hf.sb, hp⟩⟩

noncomputable def f_hard_Path.s1c (cL : Int) (marks1 : (List Int)) (rest10 : (List (List Int))) (t40 : Int) : Option (((List (List Int)) × Int) ⊕ (List (List Int))) := (if (decide (t40 < (ishl .u32 (1 : Int) (IntKind.i64.wrap (cL - (1 : Int)))))) = true then (if 0 ≤ (IntKind.i64.wrap (((marks1.length : Int)).tdiv (2 : Int))) ∧ (IntKind.i64.wrap (((marks1.length : Int)).tdiv (2 : Int))) < (rest10.length : Int) then (if 0 ≤ t40 ∧ t40 < (64 : Int) then (some (Sum.inl ((rest10.set ((IntKind.i64.wrap (((marks1.length : Int)).tdiv (2 : Int)))).toNat ((gt rest10 (IntKind.i64.wrap (((marks1.length : Int)).tdiv (2 : Int)))).set (t40).toNat (1048576 : Int))), (IntKind.u32.wrap (t40 + (1 : Int)))))) else none) else none) else (some (Sum.inr rest10)))
noncomputable def f_hard_Path.s1 (cL : Int) (marks1 : (List Int)) (s : ((List (List Int)) × Int)) : Option (((List (List Int)) × Int) ⊕ (List (List Int))) := f_hard_Path.s1c cL marks1 s.1 s.2
noncomputable def f_hard_Path.s3c (cL : Int) (cO : Int) (cT : Int) (marks1 : (List Int)) (t12 : Int) (rest10 : (List (List Int))) (t60 : Int) : Option (((List (List Int)) × Int) ⊕ (List (List Int))) := (if (decide (t60 < (ishl .u32 (1 : Int) (IntKind.i64.wrap (cL - (1 : Int)))))) = true then (if 0 ≤ (IntKind.i64.wrap ((2 : Int) * t12)) ∧ (IntKind.i64.wrap ((2 : Int) * t12)) ≤ (marks1.length : Int) then ((f_hard_step cL cO cT t60 (0 : Int) ((marks1.drop (((IntKind.i64.wrap ((2 : Int) * t12))).toNat)).take (marks1.length - ((IntKind.i64.wrap ((2 : Int) * t12))).toNat))).bind fun q37 => (if 0 ≤ (IntKind.i64.wrap (t12 + (1 : Int))) ∧ (IntKind.i64.wrap (t12 + (1 : Int))) < (rest10.length : Int) then (if 0 ≤ q37.1 ∧ q37.1 < (64 : Int) then (if 0 ≤ t12 ∧ t12 < (rest10.length : Int) then (if 0 ≤ t60 ∧ t60 < (64 : Int) then (if (decide (t12 < (IntKind.i64.wrap ((IntKind.i64.wrap (((marks1.length : Int)).tdiv (2 : Int))) - (IntKind.i64.wrap (cL - (1 : Int))))))) = true then (if 0 ≤ (IntKind.i64.wrap ((2 : Int) * t12)) ∧ (IntKind.i64.wrap ((2 : Int) * t12)) ≤ (marks1.length : Int) then ((f_hard_step cL cO cT t60 (1 : Int) ((marks1.drop (((IntKind.i64.wrap ((2 : Int) * t12))).toNat)).take (marks1.length - ((IntKind.i64.wrap ((2 : Int) * t12))).toNat))).bind fun q60 => (if 0 ≤ t12 ∧ t12 < ((rest10.set (t12).toNat ((gt rest10 t12).set (t60).toNat (IntKind.i32.wrap (q37.2 + (gt (gt rest10 (IntKind.i64.wrap (t12 + (1 : Int)))) q37.1))))).length : Int) then (if 0 ≤ t60 ∧ t60 < (64 : Int) then (if 0 ≤ (IntKind.i64.wrap (t12 + (1 : Int))) ∧ (IntKind.i64.wrap (t12 + (1 : Int))) < ((rest10.set (t12).toNat ((gt rest10 t12).set (t60).toNat (IntKind.i32.wrap (q37.2 + (gt (gt rest10 (IntKind.i64.wrap (t12 + (1 : Int)))) q37.1))))).length : Int) then (if 0 ≤ q60.1 ∧ q60.1 < (64 : Int) then (if 0 ≤ t12 ∧ t12 < ((rest10.set (t12).toNat ((gt rest10 t12).set (t60).toNat (IntKind.i32.wrap (q37.2 + (gt (gt rest10 (IntKind.i64.wrap (t12 + (1 : Int)))) q37.1))))).length : Int) then (if 0 ≤ t60 ∧ t60 < (64 : Int) then (some (Sum.inl (((rest10.set (t12).toNat ((gt rest10 t12).set (t60).toNat (IntKind.i32.wrap (q37.2 + (gt (gt rest10 (IntKind.i64.wrap (t12 + (1 : Int)))) q37.1))))).set (t12).toNat ((gt (rest10.set (t12).toNat ((gt rest10 t12).set (t60).toNat (IntKind.i32.wrap (q37.2 + (gt (gt rest10 (IntKind.i64.wrap (t12 + (1 : Int)))) q37.1))))) t12).set (t60).toNat (imin (gt (gt (rest10.set (t12).toNat ((gt rest10 t12).set (t60).toNat (IntKind.i32.wrap (q37.2 + (gt (gt rest10 (IntKind.i64.wrap (t12 + (1 : Int)))) q37.1))))) t12) t60) (IntKind.i32.wrap (q60.2 + (gt (gt (rest10.set (t12).toNat ((gt rest10 t12).set (t60).toNat (IntKind.i32.wrap (q37.2 + (gt (gt rest10 (IntKind.i64.wrap (t12 + (1 : Int)))) q37.1))))) (IntKind.i64.wrap (t12 + (1 : Int)))) q60.1)))))), (IntKind.u32.wrap (t60 + (1 : Int)))))) else none) else none) else none) else none) else none) else none)) else none) else (some (Sum.inl ((rest10.set (t12).toNat ((gt rest10 t12).set (t60).toNat (IntKind.i32.wrap (q37.2 + (gt (gt rest10 (IntKind.i64.wrap (t12 + (1 : Int)))) q37.1))))), (IntKind.u32.wrap (t60 + (1 : Int))))))) else none) else none) else none) else none)) else none) else (some (Sum.inr rest10)))
noncomputable def f_hard_Path.s3 (cL : Int) (cO : Int) (cT : Int) (marks1 : (List Int)) (t12 : Int) (s : ((List (List Int)) × Int)) : Option (((List (List Int)) × Int) ⊕ (List (List Int))) := f_hard_Path.s3c cL cO cT marks1 t12 s.1 s.2
noncomputable def f_hard_Path.s2c (cL : Int) (cO : Int) (cT : Int) (marks1 : (List Int)) (rest10 : (List (List Int))) (t12 : Int) : Option (((List (List Int)) × Int) ⊕ (List (List Int))) := (if (decide ((0 : Int) ≤ t12)) = true then ((loop (f_hard_Path.s3 cL cO cT marks1 t12) (rest10, (0 : Int))).bind (fun q75 => (some (Sum.inl (q75, (IntKind.i64.wrap (t12 - (1 : Int)))))))) else (some (Sum.inr rest10)))
noncomputable def f_hard_Path.s2 (cL : Int) (cO : Int) (cT : Int) (marks1 : (List Int)) (s : ((List (List Int)) × Int)) : Option (((List (List Int)) × Int) ⊕ (List (List Int))) := f_hard_Path.s2c cL cO cT marks1 s.1 s.2
noncomputable def f_hard_Path.s4c (cL : Int) (cO : Int) (cT : Int) (marks1 : (List Int)) (q76 : (List (List Int))) (message4 : (List Bool)) (at16 : Int) (t125 : Int) : Option (((List Bool) × Int × Int) ⊕ (List Bool)) := (if (decide (t125 < (IntKind.i64.wrap ((IntKind.i64.wrap (((marks1.length : Int)).tdiv (2 : Int))) - (IntKind.i64.wrap (cL - (1 : Int))))))) = true then (if 0 ≤ (IntKind.i64.wrap ((2 : Int) * t125)) ∧ (IntKind.i64.wrap ((2 : Int) * t125)) ≤ (marks1.length : Int) then ((f_hard_step cL cO cT at16 (0 : Int) ((marks1.drop (((IntKind.i64.wrap ((2 : Int) * t125))).toNat)).take (marks1.length - ((IntKind.i64.wrap ((2 : Int) * t125))).toNat))).bind fun q94 => (if 0 ≤ (IntKind.i64.wrap (t125 + (1 : Int))) ∧ (IntKind.i64.wrap (t125 + (1 : Int))) < (q76.length : Int) then (if 0 ≤ q94.1 ∧ q94.1 < (64 : Int) then (if 0 ≤ t125 ∧ t125 < (q76.length : Int) then (if 0 ≤ at16 ∧ at16 < (64 : Int) then (if 0 ≤ t125 ∧ t125 < (message4.length : Int) then (if 0 ≤ t125 ∧ t125 < ((message4.set (t125).toNat ((IntKind.i32.wrap (q94.2 + (gt (gt q76 (IntKind.i64.wrap (t125 + (1 : Int)))) q94.1))) != (gt (gt q76 t125) at16))).length : Int) then (if (gt (message4.set (t125).toNat ((IntKind.i32.wrap (q94.2 + (gt (gt q76 (IntKind.i64.wrap (t125 + (1 : Int)))) q94.1))) != (gt (gt q76 t125) at16))) t125) = true then (if 0 ≤ (IntKind.i64.wrap ((2 : Int) * t125)) ∧ (IntKind.i64.wrap ((2 : Int) * t125)) ≤ (marks1.length : Int) then ((f_hard_step cL cO cT at16 (1 : Int) ((marks1.drop (((IntKind.i64.wrap ((2 : Int) * t125))).toNat)).take (marks1.length - ((IntKind.i64.wrap ((2 : Int) * t125))).toNat))).bind fun q120 => (some (Sum.inl ((message4.set (t125).toNat ((IntKind.i32.wrap (q94.2 + (gt (gt q76 (IntKind.i64.wrap (t125 + (1 : Int)))) q94.1))) != (gt (gt q76 t125) at16))), q120.1, (IntKind.i64.wrap (t125 + (1 : Int))))))) else none) else (some (Sum.inl ((message4.set (t125).toNat ((IntKind.i32.wrap (q94.2 + (gt (gt q76 (IntKind.i64.wrap (t125 + (1 : Int)))) q94.1))) != (gt (gt q76 t125) at16))), q94.1, (IntKind.i64.wrap (t125 + (1 : Int))))))) else none) else none) else none) else none) else none) else none)) else none) else (some (Sum.inr message4)))
noncomputable def f_hard_Path.s4 (cL : Int) (cO : Int) (cT : Int) (marks1 : (List Int)) (q76 : (List (List Int))) (s : ((List Bool) × Int × Int)) : Option (((List Bool) × Int × Int) ⊕ (List Bool)) := f_hard_Path.s4c cL cO cT marks1 q76 s.1 s.2.1 s.2.2
noncomputable def f_hard_Path (cL : Int) (cO : Int) (cT : Int) (marks1 : (List Int)) : Option ((List Bool) × Int × Int) := ((f_hard_fits cL cO cT marks1).bind fun q3 => (if (!q3) = true then (some ([], (0 : Int), (1 : Int))) else (if 0 ≤ (IntKind.i64.wrap (cL - (1 : Int))) then (if 0 ≤ (IntKind.i64.wrap ((IntKind.i64.wrap (((marks1.length : Int)).tdiv (2 : Int))) + (1 : Int))) ∧ (IntKind.i64.wrap ((IntKind.i64.wrap (((marks1.length : Int)).tdiv (2 : Int))) + (1 : Int))) ≤ (IntKind.i64.wrap ((IntKind.i64.wrap (((marks1.length : Int)).tdiv (2 : Int))) + (1 : Int))) ∧ (IntKind.i64.wrap ((IntKind.i64.wrap (((marks1.length : Int)).tdiv (2 : Int))) + (1 : Int))) * 256 ≤ 281474976710656 then ((loop (f_hard_Path.s1 cL marks1) ((List.replicate ((IntKind.i64.wrap ((IntKind.i64.wrap (((marks1.length : Int)).tdiv (2 : Int))) + (1 : Int)))).toNat (List.replicate 64 (0 : Int))), (0 : Int))).bind (fun q16 => (if 0 ≤ (IntKind.i64.wrap (((marks1.length : Int)).tdiv (2 : Int))) ∧ (IntKind.i64.wrap (((marks1.length : Int)).tdiv (2 : Int))) < (q16.length : Int) then ((loop (f_hard_Path.s2 cL cO cT marks1) ((q16.set ((IntKind.i64.wrap (((marks1.length : Int)).tdiv (2 : Int)))).toNat ((gt q16 (IntKind.i64.wrap (((marks1.length : Int)).tdiv (2 : Int)))).set ((0 : Int)).toNat (0 : Int))), (IntKind.i64.wrap ((IntKind.i64.wrap (((marks1.length : Int)).tdiv (2 : Int))) - (1 : Int))))).bind (fun q76 => (if 0 ≤ (IntKind.i64.wrap ((IntKind.i64.wrap (((marks1.length : Int)).tdiv (2 : Int))) - (IntKind.i64.wrap (cL - (1 : Int))))) ∧ (IntKind.i64.wrap ((IntKind.i64.wrap (((marks1.length : Int)).tdiv (2 : Int))) - (IntKind.i64.wrap (cL - (1 : Int))))) ≤ (IntKind.i64.wrap ((IntKind.i64.wrap (((marks1.length : Int)).tdiv (2 : Int))) - (IntKind.i64.wrap (cL - (1 : Int))))) ∧ (IntKind.i64.wrap ((IntKind.i64.wrap (((marks1.length : Int)).tdiv (2 : Int))) - (IntKind.i64.wrap (cL - (1 : Int))))) * 1 ≤ 281474976710656 then ((loop (f_hard_Path.s4 cL cO cT marks1 q76) ((List.replicate ((IntKind.i64.wrap ((IntKind.i64.wrap (((marks1.length : Int)).tdiv (2 : Int))) - (IntKind.i64.wrap (cL - (1 : Int)))))).toNat false), (0 : Int), (0 : Int))).bind (fun q122 => (if 0 ≤ (0 : Int) ∧ (0 : Int) < (q76.length : Int) then (some (q122, (IntKind.i64.wrap (gt (gt q76 (0 : Int)) (0 : Int))), (0 : Int))) else none))) else none))) else none))) else none) else none)))
theorem f_hard_Path_c {S : Nat → Prop} {w0 w : World} {ow : List Res} (hp : Hp S w0 w ow) (cL : Int) (cO : Int) (cT : Int) (vmarks1 : Value) (marks1 : (List Int)) (hmarks1 : RdS (Ek.int .u8) S w0 vmarks1 marks1) {r : ((List Bool) × Int × Int)} (h : f_hard_Path cL cO cT marks1 = some r) :
   Calls Tryz.prog 8 #[.agg #[.int .i64 cL, .int .u32 cO, .int .u32 cT], vmarks1] w (fun e w' => ∃ (u0 : Value), e = .returned (.tuple #[u0, .int .i64 r.2.1, .int .i64 r.2.2]) ∧ Hp S w0 w' (Res.sl Ek.bool 4 u0 r.1 :: ow)) := by
  unfold f_hard_Path at h
  refine enx (n := 179) Tryz.func8 fun a hf => ?_
  refine wp_mono (Q := fun e a w => e = .ret ∧ ∃ (u0 : Value), Fr 179 a [(4, u0), (5, .int .i64 r.2.1), (6, .int .i64 r.2.2)] ∧ Hp S w0 w (Res.sl Ek.bool 4 u0 r.1 :: ow)) ?_ ?_
  rotate_left
  ·
   rintro e a w ⟨rfl, x0, hf, hp⟩
   exact ret3 hf rfl rfl rfl rfl ⟨x0, rfl, hp⟩
  refine goT ?_
  refine st_boxO (cs := [.int .i64 cL, .int .u32 cO, .int .u32 cT]) hf (by decide) hp rfl rfl rfl ?_
  clear hf; intro a w v1 hf hp0; clear hp; have hp := hp0; clear hp0
  replace hp : Hp _ _ _ (Res.obj 27 v1 [.int .i64 cL, .int .u32 cO, .int .u32 cT] :: ow) := hp
  refine go ?_; intro a hf
  refine st_ldOA (m := 3) (us := [.int .i64 cL, .int .u32 cO, .int .u32 cT]) hf (by decide) (by kernel_rfl) rfl rfl (hp.ob (i := 0) rfl) rfl rfl fun a _ hf => ?_
  refine go ?_; intro a hf
  obtain ⟨q3, hcall4, h⟩ := bnd h
  refine st_call hf (by decide) Tryz.func20 rfl rfl rfl rfl rfl (f_hard_fits_c hp _ _ _ _ _ hmarks1 hcall4) ?_
  rintro _ w ⟨rfl, hp⟩
  replace hp : Hp _ _ _ (_ :: ow) := hp
  refine ⟨_, rfl, fun a hf => ?_⟩
  refine go ?_; intro a hf
  refine wp_if hf rfl (fun hb => ?_) (fun hb => ?_)
  ·
   replace h := ifT h hb
   refine go ?_; intro a hf
   obtain rfl := oj h
   have hp := hp.nil Ek.bool 4
   have hp : Hp _ _ _ (Res.sl Ek.bool 4 (.slice none 0 0) ([]) :: ow) := (hp.pk [0] 2 :)
   exact ⟨rfl, ⟨_, hf.sb, hp⟩⟩
  replace h := ifF h hb
  refine wp_skip ?_
  refine go ?_; intro a hf
  refine st_len (E := (Ek.int .u8)) hf (by decide) Tryz.underlying32 rfl rfl (hmarks1.sl hp) fun a _ hf => ?_
  refine st_iquo hf (by decide) rfl rfl rfl (by decide) fun a _ hf => ?_
  refine go ?_; intro a hf
  refine st_fa (o' := 0) hf (by decide) (off := 0) (sz := 1) (by kernel_rfl) (by decide) rfl rfl (hp.ob (i := 0) rfl) rfl fun a _ hf => ?_
  refine st_ldO (u := .int .i64 cL) hf (by decide) pl3 rfl rfl (hp.ob (i := 0) rfl) rfl fun a _ hf => ?_
  refine go ?_; intro a hf
  refine st_fa (o' := 0) hf (by decide) (off := 0) (sz := 1) (by kernel_rfl) (by decide) rfl rfl (hp.ob (i := 0) rfl) rfl fun a _ hf => ?_
  refine st_ldO (u := .int .i64 cL) hf (by decide) pl3 rfl rfl (hp.ob (i := 0) rfl) rfl fun a _ hf => ?_
  refine go ?_; intro a hf
  obtain ⟨hc6, h⟩ := chk h
  refine st_ishl hf (by decide) rfl rfl rfl hc6 fun a _ hf => ?_
  refine go ?_; intro a hf
  obtain ⟨hc7, h⟩ := chk h
  refine st_make (E := (Ek.arr 64 (Ek.int .i32))) hf (by decide) elt66 Tryz.underlying65 (by decide) hp rfl rfl rfl hc7.1 hc7.2.1 hc7.2.2 ?_
  clear hf; intro a w v8 hf hp0; clear hp; have hp := hp0; clear hp0
  replace hp : Hp _ _ _ (Res.sl (Ek.arr 64 (Ek.int .i32)) 66 v8 (List.replicate ((IntKind.i64.wrap ((IntKind.i64.wrap (((marks1.length : Int)).tdiv (2 : Int))) + (1 : Int)))).toNat (List.replicate 64 (0 : Int))) :: Res.obj 27 v1 [.int .i64 cL, .int .u32 cO, .int .u32 cT] :: ow) := hp
  refine go ?_; intro a hf
  obtain ⟨q16, hl, h⟩ := bnd h
  refine wp_loop_pure (f := (f_hard_Path.s1 cL marks1)) (s := ((List.replicate ((IntKind.i64.wrap ((IntKind.i64.wrap (((marks1.length : Int)).tdiv (2 : Int))) + (1 : Int)))).toNat (List.replicate 64 (0 : Int))), (0 : Int))) (fun s a w => ∃ (v10 : Value), Fr 179 a [(1, vmarks1), (2, optr v1 0), (7, .int .i64 (IntKind.i64.wrap (((marks1.length : Int)).tdiv (2 : Int)))), (8, .int .i64 (IntKind.i64.wrap ((IntKind.i64.wrap (((marks1.length : Int)).tdiv (2 : Int))) - (IntKind.i64.wrap (cL - (1 : Int)))))), (9, .int .u32 (ishl .u32 (1 : Int) (IntKind.i64.wrap (cL - (1 : Int))))), (10, v10), (39, .int .u32 (ishl .u32 (1 : Int) (IntKind.i64.wrap (cL - (1 : Int))))), (40, .int .u32 s.2)] ∧ Hp S w0 w (Res.sl (Ek.arr 64 (Ek.int .i32)) 66 v10 s.1 :: Res.obj 27 v1 [.int .i64 cL, .int .u32 cO, .int .u32 cT] :: ow)) (fun q e a w => e = .exit 0 ∧ ∃ (v12 : Value), Fr 179 a [(1, vmarks1), (2, optr v1 0), (7, .int .i64 (IntKind.i64.wrap (((marks1.length : Int)).tdiv (2 : Int)))), (8, .int .i64 (IntKind.i64.wrap ((IntKind.i64.wrap (((marks1.length : Int)).tdiv (2 : Int))) - (IntKind.i64.wrap (cL - (1 : Int)))))), (9, .int .u32 (ishl .u32 (1 : Int) (IntKind.i64.wrap (cL - (1 : Int))))), (10, v12)] ∧ Hp S w0 w (Res.sl (Ek.arr 64 (Ek.int .i32)) 66 v12 q :: Res.obj 27 v1 [.int .i64 cL, .int .u32 cO, .int .u32 cT] :: ow)) ?_ hl ⟨_, hf.sb, hp⟩ ?_
  ·
   clear hl hf hp
   intro s x a w h hI
   obtain ⟨rest10, t40⟩ := s
   obtain ⟨v10, hf, hp⟩ : ∃ (v10 : Value), Fr 179 a [(1, vmarks1), (2, optr v1 0), (7, .int .i64 (IntKind.i64.wrap (((marks1.length : Int)).tdiv (2 : Int)))), (8, .int .i64 (IntKind.i64.wrap ((IntKind.i64.wrap (((marks1.length : Int)).tdiv (2 : Int))) - (IntKind.i64.wrap (cL - (1 : Int)))))), (9, .int .u32 (ishl .u32 (1 : Int) (IntKind.i64.wrap (cL - (1 : Int))))), (10, v10), (39, .int .u32 (ishl .u32 (1 : Int) (IntKind.i64.wrap (cL - (1 : Int))))), (40, .int .u32 t40)] ∧ Hp S w0 w (Res.sl (Ek.arr 64 (Ek.int .i32)) 66 v10 rest10 :: Res.obj 27 v1 [.int .i64 cL, .int .u32 cO, .int .u32 cT] :: ow) := hI
   replace h : f_hard_Path.s1c cL marks1 rest10 t40 = some x := h
   unfold f_hard_Path.s1c at h
   refine go ?_; intro a hf
   refine wp_if hf rfl (fun hb => ?_) (fun hb => ?_)
   ·
    replace h := ifT h hb
    refine wp_skip ?_
    refine go ?_; intro a hf
    obtain ⟨hc14, h⟩ := chk h
    refine st_index (E := (Ek.arr 64 (Ek.int .i32))) hf (by decide) Tryz.underlying65 elt66 rfl rfl rfl (hp.sl (i := 0) rfl) hc14.1 hc14.2 fun a _ hf => ?_
    obtain ⟨hc15, h⟩ := chk h
    refine st_iaP (sz := 1) hf (by decide) Tryz.underlying66 (by kernel_rfl) rfl rfl rfl (Sl.isP (hp.sl (i := 0) rfl) hc14.1 hc14.2) hc15.1 hc15.2 fun a _ hf => ?_
    refine st_stQ (E := (Ek.arr 64 (Ek.int .i32))) (F := (Ek.int .i32)) (o := (t40).toNat * 1) (Sub.arr (F := (Ek.int .i32)) (N := 64) (j := t40) hc15.1 hc15.2) hf (by kernel_rfl) hp (i := 0) rfl rfl rfl rfl rfl hc14.1 hc14.2 ?_
    clear hf; intro a w hf hp0; clear hp; have hp := hp0; clear hp0
    replace hp : Hp _ _ _ (Res.sl (Ek.arr 64 (Ek.int .i32)) 66 v10 (rest10.set ((IntKind.i64.wrap (((marks1.length : Int)).tdiv (2 : Int)))).toNat ((gt rest10 (IntKind.i64.wrap (((marks1.length : Int)).tdiv (2 : Int)))).set (t40).toNat (1048576 : Int))) :: _ :: ow) := hp
    refine go ?_; intro a hf
    obtain rfl := oj h
    exact rnd_l ⟨_, hf.sb, hp⟩
   replace h := ifF h hb
   refine wp_exit ?_
   refine th_e ?_
   obtain rfl := oj h
   exact rnd_r (by simp) ⟨rfl, _, hf.sb, hp⟩
  clear hl hf hp
  intro e a w hne hO
  obtain ⟨rfl, v12, hf, hp⟩ := hO
  refine ib_same ?_
  refine go ?_; intro a hf
  obtain ⟨hc17, h⟩ := chk h
  refine st_index (E := (Ek.arr 64 (Ek.int .i32))) hf (by decide) Tryz.underlying65 elt66 rfl rfl rfl (hp.sl (i := 0) rfl) hc17.1 hc17.2 fun a _ hf => ?_
  have hc18 : 0 ≤ (0 : Int) ∧ (0 : Int) < (64 : Int) := by decide
  refine st_iaP (sz := 1) hf (by decide) Tryz.underlying66 (by kernel_rfl) rfl rfl rfl (Sl.isP (hp.sl (i := 0) rfl) hc17.1 hc17.2) hc18.1 hc18.2 fun a _ hf => ?_
  refine st_stQ (E := (Ek.arr 64 (Ek.int .i32))) (F := (Ek.int .i32)) (o := ((0 : Int)).toNat * 1) (Sub.arr (F := (Ek.int .i32)) (N := 64) (j := (0 : Int)) hc18.1 hc18.2) hf (by kernel_rfl) hp (i := 0) rfl rfl rfl rfl rfl hc17.1 hc17.2 ?_
  clear hf; intro a w hf hp0; clear hp; have hp := hp0; clear hp0
  replace hp : Hp _ _ _ (Res.sl (Ek.arr 64 (Ek.int .i32)) 66 v12 (q16.set ((IntKind.i64.wrap (((marks1.length : Int)).tdiv (2 : Int)))).toNat ((gt q16 (IntKind.i64.wrap (((marks1.length : Int)).tdiv (2 : Int)))).set ((0 : Int)).toNat (0 : Int))) :: _ :: ow) := hp
  refine go ?_; intro a hf
  obtain ⟨q76, hl, h⟩ := bnd h
  refine wp_loop_pure (f := (f_hard_Path.s2 cL cO cT marks1)) (s := ((q16.set ((IntKind.i64.wrap (((marks1.length : Int)).tdiv (2 : Int)))).toNat ((gt q16 (IntKind.i64.wrap (((marks1.length : Int)).tdiv (2 : Int)))).set ((0 : Int)).toNat (0 : Int))), (IntKind.i64.wrap ((IntKind.i64.wrap (((marks1.length : Int)).tdiv (2 : Int))) - (1 : Int))))) (fun s a w => ∃ (v19 : Value), Fr 179 a [(1, vmarks1), (2, optr v1 0), (8, .int .i64 (IntKind.i64.wrap ((IntKind.i64.wrap (((marks1.length : Int)).tdiv (2 : Int))) - (IntKind.i64.wrap (cL - (1 : Int)))))), (9, .int .u32 (ishl .u32 (1 : Int) (IntKind.i64.wrap (cL - (1 : Int))))), (10, v19), (12, .int .i64 s.2)] ∧ Hp S w0 w (Res.sl (Ek.arr 64 (Ek.int .i32)) 66 v19 s.1 :: Res.obj 27 v1 [.int .i64 cL, .int .u32 cO, .int .u32 cT] :: ow)) (fun q e a w => e = .exit 2 ∧ ∃ (v21 : Value), Fr 179 a [(1, vmarks1), (2, optr v1 0), (8, .int .i64 (IntKind.i64.wrap ((IntKind.i64.wrap (((marks1.length : Int)).tdiv (2 : Int))) - (IntKind.i64.wrap (cL - (1 : Int)))))), (10, v21)] ∧ Hp S w0 w (Res.sl (Ek.arr 64 (Ek.int .i32)) 66 v21 q :: Res.obj 27 v1 [.int .i64 cL, .int .u32 cO, .int .u32 cT] :: ow)) ?_ hl ⟨_, hf.sb, hp⟩ ?_
  ·
   clear hl hf hp
   intro s x a w h hI
   obtain ⟨rest10, t12⟩ := s
   obtain ⟨v19, hf, hp⟩ : ∃ (v19 : Value), Fr 179 a [(1, vmarks1), (2, optr v1 0), (8, .int .i64 (IntKind.i64.wrap ((IntKind.i64.wrap (((marks1.length : Int)).tdiv (2 : Int))) - (IntKind.i64.wrap (cL - (1 : Int)))))), (9, .int .u32 (ishl .u32 (1 : Int) (IntKind.i64.wrap (cL - (1 : Int))))), (10, v19), (12, .int .i64 t12)] ∧ Hp S w0 w (Res.sl (Ek.arr 64 (Ek.int .i32)) 66 v19 rest10 :: Res.obj 27 v1 [.int .i64 cL, .int .u32 cO, .int .u32 cT] :: ow) := hI
   replace h : f_hard_Path.s2c cL cO cT marks1 rest10 t12 = some x := h
   unfold f_hard_Path.s2c at h
   refine go ?_; intro a hf
   refine wp_if hf rfl (fun hb => ?_) (fun hb => ?_)
   ·
    replace h := ifT h hb
    refine wp_skip ?_
    refine go ?_; intro a hf
    obtain ⟨q75, hl, h⟩ := bnd h
    refine wp_loop_pure (f := (f_hard_Path.s3 cL cO cT marks1 t12)) (s := (rest10, (0 : Int))) (fun s a w => ∃ (v23 : Value), Fr 179 a [(1, vmarks1), (2, optr v1 0), (8, .int .i64 (IntKind.i64.wrap ((IntKind.i64.wrap (((marks1.length : Int)).tdiv (2 : Int))) - (IntKind.i64.wrap (cL - (1 : Int)))))), (9, .int .u32 (ishl .u32 (1 : Int) (IntKind.i64.wrap (cL - (1 : Int))))), (10, v23), (12, .int .i64 t12), (59, .int .u32 (ishl .u32 (1 : Int) (IntKind.i64.wrap (cL - (1 : Int))))), (60, .int .u32 s.2)] ∧ Hp S w0 w (Res.sl (Ek.arr 64 (Ek.int .i32)) 66 v23 s.1 :: Res.obj 27 v1 [.int .i64 cL, .int .u32 cO, .int .u32 cT] :: ow)) (fun q e a w => e = .exit 4 ∧ ∃ (v25 : Value), Fr 179 a [(1, vmarks1), (2, optr v1 0), (8, .int .i64 (IntKind.i64.wrap ((IntKind.i64.wrap (((marks1.length : Int)).tdiv (2 : Int))) - (IntKind.i64.wrap (cL - (1 : Int)))))), (9, .int .u32 (ishl .u32 (1 : Int) (IntKind.i64.wrap (cL - (1 : Int))))), (10, v25), (12, .int .i64 t12)] ∧ Hp S w0 w (Res.sl (Ek.arr 64 (Ek.int .i32)) 66 v25 q :: Res.obj 27 v1 [.int .i64 cL, .int .u32 cO, .int .u32 cT] :: ow)) ?_ hl ⟨_, hf.sb, hp⟩ ?_
    ·
     clear hl hf hp
     intro s x a w h hI
     obtain ⟨rest10, t60⟩ := s
     obtain ⟨v23, hf, hp⟩ : ∃ (v23 : Value), Fr 179 a [(1, vmarks1), (2, optr v1 0), (8, .int .i64 (IntKind.i64.wrap ((IntKind.i64.wrap (((marks1.length : Int)).tdiv (2 : Int))) - (IntKind.i64.wrap (cL - (1 : Int)))))), (9, .int .u32 (ishl .u32 (1 : Int) (IntKind.i64.wrap (cL - (1 : Int))))), (10, v23), (12, .int .i64 t12), (59, .int .u32 (ishl .u32 (1 : Int) (IntKind.i64.wrap (cL - (1 : Int))))), (60, .int .u32 t60)] ∧ Hp S w0 w (Res.sl (Ek.arr 64 (Ek.int .i32)) 66 v23 rest10 :: Res.obj 27 v1 [.int .i64 cL, .int .u32 cO, .int .u32 cT] :: ow) := hI
     replace h : f_hard_Path.s3c cL cO cT marks1 t12 rest10 t60 = some x := h
     unfold f_hard_Path.s3c at h
     refine go ?_; intro a hf
     refine wp_if hf rfl (fun hb => ?_) (fun hb => ?_)
     ·
      replace h := ifT h hb
      refine wp_skip ?_
      refine go ?_; intro a hf
      obtain ⟨S27, hp28, rd29, up30, bk31⟩ := Hp.lendO hp (i := 1) rfl
      have rl32 := ((hmarks1.now hp).mono up30)
      have rl33 := rd29
      obtain ⟨hc34, h⟩ := chk h
      have hc35 : ((IntKind.i64.wrap ((2 : Int) * t12))).toNat ≤ marks1.length := by omega
      have hc36 : marks1.length ≤ marks1.length := by omega
      obtain ⟨q37, hcall38, h⟩ := bnd h
      refine wp_cutN (fun a w => Fr 179 a [(1, vmarks1), (2, optr v1 0), (8, .int .i64 (IntKind.i64.wrap ((IntKind.i64.wrap (((marks1.length : Int)).tdiv (2 : Int))) - (IntKind.i64.wrap (cL - (1 : Int)))))), (9, .int .u32 (ishl .u32 (1 : Int) (IntKind.i64.wrap (cL - (1 : Int))))), (10, v23), (12, .int .i64 t12), (13, .int .u32 t60), (14, .int .u32 q37.1), (15, .int .i32 q37.2), (59, .int .u32 (ishl .u32 (1 : Int) (IntKind.i64.wrap (cL - (1 : Int))))), (60, .int .u32 t60)] ∧ Hp S w0 w (Res.obj 27 v1 [.int .i64 cL, .int .u32 cO, .int .u32 cT] :: Res.sl (Ek.arr 64 (Ek.int .i32)) 66 v23 rest10 :: ow)) ?_ ?_
      ·
       have hp := hp28.same (Same.drew w)
       refine dr_begin' _ (fun w' => ∃ l, Hp S27 w w' l) [] (by kernel_rfl) ?_
       refine dr_takeK 0 _ rfl hf rfl (fun w ⟨_, hp⟩ => st_ldOA (m := 3) (us := [.int .i64 cL, .int .u32 cO, .int .u32 cT]) hf (by decide) (by kernel_rfl) rfl rfl (rl33.ob hp) rfl rfl tk) ⟨_, hp⟩ fun a hf => ?_
       refine dv 1 hf ⟨_, hp⟩ fun a hf => ?_
       refine dv 2 hf ⟨_, hp⟩ fun a hf => ?_
       refine dv 3 hf ⟨_, hp⟩ fun a hf => ?_
       refine dv 4 hf ⟨_, hp⟩ fun a hf => ?_
       refine dr_takeK 5 _ rfl hf rfl (fun w ⟨_, hp⟩ => st_cutS (E := (Ek.int .u8)) hf (by decide) Tryz.underlying32 elt34 rfl rfl (rl32.sl hp) (.inr ⟨_, _, rfl, evI rfl hc34.1⟩) (.inl ⟨rfl, rfl⟩) hc35 hc36 tk) ⟨_, hp⟩ fun a hf => ?_
       refine dr_one 6 rfl (by kernel_rfl) ?_
       refine st_call hf (by decide) Tryz.func21 rfl rfl rfl rfl rfl (f_hard_step_c hp _ _ _ _ _ _ _ (RdS.cut rl32 hc35 hc36) hcall38) ?_
       rintro _ w ⟨rfl, hp⟩
       replace hp : Hp _ _ _ (Res.sl (Ek.arr 64 (Ek.int .i32)) 66 v23 rest10 :: ow) := hp
       refine ⟨_, rfl, fun a hf => ?_⟩
       refine nx hf (fun _ _ => ⟨_, hp⟩) ?_
       refine dv 7 hf ⟨_, hp⟩ fun a hf => ?_
       refine dv 8 hf ⟨_, hp⟩ fun a hf => ?_
       refine dv 9 hf ⟨_, hp⟩ fun a hf => ?_
       refine dv 10 hf ⟨_, hp⟩ fun a hf => ?_
       refine dv 11 hf ⟨_, hp⟩ fun a hf => ?_
       refine dr_end (by kernel_rfl) ?_ _
       have hp := bk31 _ _ hp
       exact ⟨hf.sb, hp⟩
      rintro a w ⟨hf, hp⟩
      refine goT ?_
      obtain ⟨S39, hp40, rd41, up42, bk43⟩ := Hp.lendS hp (i := 1) rfl
      have rl44 := ((hmarks1.now hp).mono up42)
      have rl45 := rd41
      obtain ⟨hc46, h⟩ := chk h
      obtain ⟨hc47, h⟩ := chk h
      obtain ⟨hc48, h⟩ := chk h
      obtain ⟨hc49, h⟩ := chk h
      refine wp_cutN (fun a w => Fr 179 a [(1, vmarks1), (2, optr v1 0), (8, .int .i64 (IntKind.i64.wrap ((IntKind.i64.wrap (((marks1.length : Int)).tdiv (2 : Int))) - (IntKind.i64.wrap (cL - (1 : Int)))))), (9, .int .u32 (ishl .u32 (1 : Int) (IntKind.i64.wrap (cL - (1 : Int))))), (10, v23), (12, .int .i64 t12), (13, .int .u32 t60), (59, .int .u32 (ishl .u32 (1 : Int) (IntKind.i64.wrap (cL - (1 : Int))))), (60, .int .u32 t60)] ∧ Hp S w0 w (Res.sl (Ek.arr 64 (Ek.int .i32)) 66 v23 (rest10.set (t12).toNat ((gt rest10 t12).set (t60).toNat (IntKind.i32.wrap (q37.2 + (gt (gt rest10 (IntKind.i64.wrap (t12 + (1 : Int)))) q37.1))))) :: Res.obj 27 v1 [.int .i64 cL, .int .u32 cO, .int .u32 cT] :: ow)) ?_ ?_
      ·
       have hp := hp40.same (Same.drew w)
       refine dr_begin' _ (fun w' => ∃ l, Hp S39 w w' l) [14] (by kernel_rfl) ?_
       refine dr_takeP 0 (v23) rfl (by kernel_rfl) (by kernel_rfl) (by kernel_rfl) rfl rfl hf (by decide) rfl (fun w => ?_) ?_
       ·
        refine st_move hf rfl rfl (by decide) ?_
        clear hf; intro a ha hf
        exact st_nil hf (th_n ⟨ha, rfl⟩)
       clear hf; intro a hf
       refine dr_takeP 1 (.int .i64 t12) rfl (by kernel_rfl) (by kernel_rfl) (by kernel_rfl) rfl rfl hf (by decide) rfl (fun w => ?_) ?_
       ·
        refine st_move hf rfl rfl (by decide) ?_
        clear hf; intro a ha hf
        exact st_nil hf (th_n ⟨ha, rfl⟩)
       clear hf; intro a hf
       refine dr_takeP 2 (.int .u32 t60) rfl (by kernel_rfl) (by kernel_rfl) (by kernel_rfl) rfl rfl hf (by decide) rfl (fun w => ?_) ?_
       ·
        refine st_move hf rfl rfl (by decide) ?_
        clear hf; intro a ha hf
        exact st_nil hf (th_n ⟨ha, rfl⟩)
       clear hf; intro a hf
       refine dr_takeP 3 (.int .i32 q37.2) rfl (by kernel_rfl) (by kernel_rfl) (by kernel_rfl) rfl rfl hf (by decide) rfl (fun w => ?_) ?_
       ·
        refine st_move hf rfl rfl (by decide) ?_
        clear hf; intro a ha hf
        exact st_nil hf (th_n ⟨ha, rfl⟩)
       clear hf; intro a hf
       refine dr_takeP 4 (v23) rfl (by kernel_rfl) (by kernel_rfl) (by kernel_rfl) rfl rfl hf (by decide) rfl (fun w => ?_) ?_
       ·
        refine st_move hf rfl rfl (by decide) ?_
        clear hf; intro a ha hf
        exact st_nil hf (th_n ⟨ha, rfl⟩)
       clear hf; intro a hf
       refine dr_takeP 5 (.int .i64 t12) rfl (by kernel_rfl) (by kernel_rfl) (by kernel_rfl) rfl rfl hf (by decide) rfl (fun w => ?_) ?_
       ·
        refine st_move hf rfl rfl (by decide) ?_
        clear hf; intro a ha hf
        exact st_nil hf (th_n ⟨ha, rfl⟩)
       clear hf; intro a hf
       refine dr_takeP 6 (.int .i64 (IntKind.i64.wrap (t12 + (1 : Int)))) rfl (by kernel_rfl) (by kernel_rfl) (by kernel_rfl) rfl rfl hf (by decide) rfl (fun w => ?_) ?_
       ·
        refine st_iadd hf (by decide) rfl rfl rfl ?_
        clear hf; intro a ha hf
        exact st_nil hf (th_n ⟨ha, rfl⟩)
       clear hf; intro a hf
       refine dr_takeP 7 (.int .u32 q37.1) rfl (by kernel_rfl) (by kernel_rfl) (by kernel_rfl) rfl rfl hf (by decide) rfl (fun w => ?_) ?_
       ·
        refine st_move hf rfl rfl (by decide) ?_
        clear hf; intro a ha hf
        exact st_nil hf (th_n ⟨ha, rfl⟩)
       clear hf; intro a hf
       refine dr_takeP 8 (eptr v23 (IntKind.i64.wrap (t12 + (1 : Int))) 64) rfl (by kernel_rfl) (by kernel_rfl) (by kernel_rfl) rfl rfl hf (by decide) rfl (fun w => ?_) ?_
       ·
        refine st_index (E := (Ek.arr 64 (Ek.int .i32))) hf (by decide) Tryz.underlying65 elt66 rfl rfl rfl rl45.any hc46.1 hc46.2 ?_
        clear hf; intro a ha hf
        exact st_nil hf (th_n ⟨ha, rfl⟩)
       clear hf; intro a hf
       refine dr_takeP 9 (optr (eptr v23 (IntKind.i64.wrap (t12 + (1 : Int))) 64) ((q37.1).toNat * 1)) rfl (by kernel_rfl) (by kernel_rfl) (by kernel_rfl) rfl rfl hf (by decide) rfl (fun w => ?_) ?_
       ·
        refine st_iaP (sz := 1) hf (by decide) Tryz.underlying66 (by kernel_rfl) rfl rfl rfl (Sl.isP rl45.any hc46.1 hc46.2) hc47.1 hc47.2 ?_
        clear hf; intro a ha hf
        exact st_nil hf (th_n ⟨ha, rfl⟩)
       clear hf; intro a hf
       refine dr_take2 10 (.int .i32 (gt (gt rest10 (IntKind.i64.wrap (t12 + (1 : Int)))) q37.1)) rfl (by kernel_rfl) (by kernel_rfl) (by kernel_rfl) (by kernel_rfl) (by kernel_rfl) rfl rfl hf (by decide) rfl (fun w hp => ?_) ⟨_, hp⟩ ?_
       ·
        obtain ⟨_, hp⟩ := hp
        refine st_ldQ (F := (Ek.int .i32)) (yv := (gt (gt rest10 (IntKind.i64.wrap (t12 + (1 : Int)))) q37.1)) hf (by decide) pl21 (fun x => .int .i32 x) (fun _ _ h => h) rfl rfl (Sl.part (E := (Ek.arr 64 (Ek.int .i32))) (F := (Ek.int .i32)) (o := (q37.1).toNat * 1) (Sub.arr (F := (Ek.int .i32)) (N := 64) (j := q37.1) hc47.1 hc47.2) (rl45.sl hp) hc46.1 hc46.2) ?_
        clear hf; intro a ha hf
        exact st_nil hf (th_n ⟨ha, rfl⟩)
       clear hf; intro a hf
       refine dr_takeP 11 (.int .i32 (IntKind.i32.wrap (q37.2 + (gt (gt rest10 (IntKind.i64.wrap (t12 + (1 : Int)))) q37.1)))) rfl (by kernel_rfl) (by kernel_rfl) (by kernel_rfl) rfl rfl hf (by decide) rfl (fun w => ?_) ?_
       ·
        refine st_iadd hf (by decide) rfl rfl rfl ?_
        clear hf; intro a ha hf
        exact st_nil hf (th_n ⟨ha, rfl⟩)
       clear hf; intro a hf
       refine dr_takeP 12 (eptr v23 t12 64) rfl (by kernel_rfl) (by kernel_rfl) (by kernel_rfl) rfl rfl hf (by decide) rfl (fun w => ?_) ?_
       ·
        refine st_index (E := (Ek.arr 64 (Ek.int .i32))) hf (by decide) Tryz.underlying65 elt66 rfl rfl rfl rl45.any hc48.1 hc48.2 ?_
        clear hf; intro a ha hf
        exact st_nil hf (th_n ⟨ha, rfl⟩)
       clear hf; intro a hf
       refine dr_takeP 13 (optr (eptr v23 t12 64) ((t60).toNat * 1)) rfl (by kernel_rfl) (by kernel_rfl) (by kernel_rfl) rfl rfl hf (by decide) rfl (fun w => ?_) ?_
       ·
        refine st_iaP (sz := 1) hf (by decide) Tryz.underlying66 (by kernel_rfl) rfl rfl rfl (Sl.isP rl45.any hc48.1 hc48.2) hc49.1 hc49.2 ?_
        clear hf; intro a ha hf
        exact st_nil hf (th_n ⟨ha, rfl⟩)
       clear hf; intro a hf
       have hp := bk43 _ _ hp
       refine dr_one 14 rfl (by kernel_rfl) ?_
       refine st_stQ (E := (Ek.arr 64 (Ek.int .i32))) (F := (Ek.int .i32)) (o := (t60).toNat * 1) (Sub.arr (F := (Ek.int .i32)) (N := 64) (j := t60) hc49.1 hc49.2) hf (by kernel_rfl) hp (i := 0) rfl rfl rfl rfl rfl hc48.1 hc48.2 ?_
       clear hf; intro a w hf hp0; clear hp; have hp := hp0; clear hp0
       replace hp : Hp _ _ _ (Res.sl (Ek.arr 64 (Ek.int .i32)) 66 v23 (rest10.set (t12).toNat ((gt rest10 t12).set (t60).toNat (IntKind.i32.wrap (q37.2 + (gt (gt rest10 (IntKind.i64.wrap (t12 + (1 : Int)))) q37.1))))) :: Res.obj 27 v1 [.int .i64 cL, .int .u32 cO, .int .u32 cT] :: ow) := hp
       refine st_nil hf (th_n ⟨fun hn => absurd hn (by decide), ?_⟩)
       refine dr_end (by kernel_rfl) ?_ _
       exact ⟨hf.sb, hp⟩
      rintro a w ⟨hf, hp⟩
      refine go ?_; intro a hf
      refine wp_if hf rfl (fun hb => ?_) (fun hb => ?_)
      ·
       replace h := ifT h hb
       refine wp_seq ?_
       obtain ⟨S50, hp51, rd52, up53, bk54⟩ := Hp.lendO hp (i := 1) rfl
       have rl55 := ((hmarks1.now hp).mono up53)
       have rl56 := rd52
       obtain ⟨hc57, h⟩ := chk h
       have hc58 : ((IntKind.i64.wrap ((2 : Int) * t12))).toNat ≤ marks1.length := by omega
       have hc59 : marks1.length ≤ marks1.length := by omega
       obtain ⟨q60, hcall61, h⟩ := bnd h
       refine wp_cutN (fun a w => Fr 179 a [(1, vmarks1), (2, optr v1 0), (8, .int .i64 (IntKind.i64.wrap ((IntKind.i64.wrap (((marks1.length : Int)).tdiv (2 : Int))) - (IntKind.i64.wrap (cL - (1 : Int)))))), (9, .int .u32 (ishl .u32 (1 : Int) (IntKind.i64.wrap (cL - (1 : Int))))), (10, v23), (12, .int .i64 t12), (13, .int .u32 t60), (14, .int .u32 q60.1), (15, .int .i32 q60.2), (59, .int .u32 (ishl .u32 (1 : Int) (IntKind.i64.wrap (cL - (1 : Int))))), (60, .int .u32 t60)] ∧ Hp S w0 w (Res.obj 27 v1 [.int .i64 cL, .int .u32 cO, .int .u32 cT] :: Res.sl (Ek.arr 64 (Ek.int .i32)) 66 v23 (rest10.set (t12).toNat ((gt rest10 t12).set (t60).toNat (IntKind.i32.wrap (q37.2 + (gt (gt rest10 (IntKind.i64.wrap (t12 + (1 : Int)))) q37.1))))) :: ow)) ?_ ?_
       ·
        have hp := hp51.same (Same.drew w)
        refine dr_begin' _ (fun w' => ∃ l, Hp S50 w w' l) [] (by kernel_rfl) ?_
        refine dr_takeK 0 _ rfl hf rfl (fun w ⟨_, hp⟩ => st_ldOA (m := 3) (us := [.int .i64 cL, .int .u32 cO, .int .u32 cT]) hf (by decide) (by kernel_rfl) rfl rfl (rl56.ob hp) rfl rfl tk) ⟨_, hp⟩ fun a hf => ?_
        refine dv 1 hf ⟨_, hp⟩ fun a hf => ?_
        refine dv 2 hf ⟨_, hp⟩ fun a hf => ?_
        refine dv 3 hf ⟨_, hp⟩ fun a hf => ?_
        refine dv 4 hf ⟨_, hp⟩ fun a hf => ?_
        refine dr_takeK 5 _ rfl hf rfl (fun w ⟨_, hp⟩ => st_cutS (E := (Ek.int .u8)) hf (by decide) Tryz.underlying32 elt34 rfl rfl (rl55.sl hp) (.inr ⟨_, _, rfl, evI rfl hc57.1⟩) (.inl ⟨rfl, rfl⟩) hc58 hc59 tk) ⟨_, hp⟩ fun a hf => ?_
        refine dr_one 6 rfl (by kernel_rfl) ?_
        refine st_call hf (by decide) Tryz.func21 rfl rfl rfl rfl rfl (f_hard_step_c hp _ _ _ _ _ _ _ (RdS.cut rl55 hc58 hc59) hcall61) ?_
        rintro _ w ⟨rfl, hp⟩
        replace hp : Hp _ _ _ (_ :: ow) := hp
        refine ⟨_, rfl, fun a hf => ?_⟩
        refine nx hf (fun _ _ => ⟨_, hp⟩) ?_
        refine dv 7 hf ⟨_, hp⟩ fun a hf => ?_
        refine dv 8 hf ⟨_, hp⟩ fun a hf => ?_
        refine dv 9 hf ⟨_, hp⟩ fun a hf => ?_
        refine dv 10 hf ⟨_, hp⟩ fun a hf => ?_
        refine dv 11 hf ⟨_, hp⟩ fun a hf => ?_
        refine dr_end (by kernel_rfl) ?_ _
        have hp := bk54 _ _ hp
        exact ⟨hf.sb, hp⟩
       rintro a w ⟨hf, hp⟩
       refine th_n ?_
       obtain ⟨S62, hp63, rd64, up65, bk66⟩ := Hp.lendS hp (i := 1) rfl
       have rl67 := ((hmarks1.now hp).mono up65)
       have rl68 := rd64
       obtain ⟨hc69, h⟩ := chk h
       obtain ⟨hc70, h⟩ := chk h
       obtain ⟨hc71, h⟩ := chk h
       obtain ⟨hc72, h⟩ := chk h
       obtain ⟨hc73, h⟩ := chk h
       obtain ⟨hc74, h⟩ := chk h
       refine wp_cutN (fun a w => Fr 179 a [(1, vmarks1), (2, optr v1 0), (8, .int .i64 (IntKind.i64.wrap ((IntKind.i64.wrap (((marks1.length : Int)).tdiv (2 : Int))) - (IntKind.i64.wrap (cL - (1 : Int)))))), (9, .int .u32 (ishl .u32 (1 : Int) (IntKind.i64.wrap (cL - (1 : Int))))), (10, v23), (12, .int .i64 t12), (59, .int .u32 (ishl .u32 (1 : Int) (IntKind.i64.wrap (cL - (1 : Int))))), (60, .int .u32 t60)] ∧ Hp S w0 w (Res.sl (Ek.arr 64 (Ek.int .i32)) 66 v23 ((rest10.set (t12).toNat ((gt rest10 t12).set (t60).toNat (IntKind.i32.wrap (q37.2 + (gt (gt rest10 (IntKind.i64.wrap (t12 + (1 : Int)))) q37.1))))).set (t12).toNat ((gt (rest10.set (t12).toNat ((gt rest10 t12).set (t60).toNat (IntKind.i32.wrap (q37.2 + (gt (gt rest10 (IntKind.i64.wrap (t12 + (1 : Int)))) q37.1))))) t12).set (t60).toNat (imin (gt (gt (rest10.set (t12).toNat ((gt rest10 t12).set (t60).toNat (IntKind.i32.wrap (q37.2 + (gt (gt rest10 (IntKind.i64.wrap (t12 + (1 : Int)))) q37.1))))) t12) t60) (IntKind.i32.wrap (q60.2 + (gt (gt (rest10.set (t12).toNat ((gt rest10 t12).set (t60).toNat (IntKind.i32.wrap (q37.2 + (gt (gt rest10 (IntKind.i64.wrap (t12 + (1 : Int)))) q37.1))))) (IntKind.i64.wrap (t12 + (1 : Int)))) q60.1)))))) :: Res.obj 27 v1 [.int .i64 cL, .int .u32 cO, .int .u32 cT] :: ow)) ?_ ?_
       ·
        have hp := hp63.same (Same.drew w)
        refine dr_begin' _ (fun w' => ∃ l, Hp S62 w w' l) [21] (by kernel_rfl) ?_
        refine dr_takeP 0 (v23) rfl (by kernel_rfl) (by kernel_rfl) (by kernel_rfl) rfl rfl hf (by decide) rfl (fun w => ?_) ?_
        ·
         refine st_move hf rfl rfl (by decide) ?_
         clear hf; intro a ha hf
         exact st_nil hf (th_n ⟨ha, rfl⟩)
        clear hf; intro a hf
        refine dr_takeP 1 (.int .i64 t12) rfl (by kernel_rfl) (by kernel_rfl) (by kernel_rfl) rfl rfl hf (by decide) rfl (fun w => ?_) ?_
        ·
         refine st_move hf rfl rfl (by decide) ?_
         clear hf; intro a ha hf
         exact st_nil hf (th_n ⟨ha, rfl⟩)
        clear hf; intro a hf
        refine dr_takeP 2 (.int .u32 t60) rfl (by kernel_rfl) (by kernel_rfl) (by kernel_rfl) rfl rfl hf (by decide) rfl (fun w => ?_) ?_
        ·
         refine st_move hf rfl rfl (by decide) ?_
         clear hf; intro a ha hf
         exact st_nil hf (th_n ⟨ha, rfl⟩)
        clear hf; intro a hf
        refine dr_takeP 3 (v23) rfl (by kernel_rfl) (by kernel_rfl) (by kernel_rfl) rfl rfl hf (by decide) rfl (fun w => ?_) ?_
        ·
         refine st_move hf rfl rfl (by decide) ?_
         clear hf; intro a ha hf
         exact st_nil hf (th_n ⟨ha, rfl⟩)
        clear hf; intro a hf
        refine dr_takeP 4 (.int .i64 t12) rfl (by kernel_rfl) (by kernel_rfl) (by kernel_rfl) rfl rfl hf (by decide) rfl (fun w => ?_) ?_
        ·
         refine st_move hf rfl rfl (by decide) ?_
         clear hf; intro a ha hf
         exact st_nil hf (th_n ⟨ha, rfl⟩)
        clear hf; intro a hf
        refine dr_takeP 5 (.int .u32 t60) rfl (by kernel_rfl) (by kernel_rfl) (by kernel_rfl) rfl rfl hf (by decide) rfl (fun w => ?_) ?_
        ·
         refine st_move hf rfl rfl (by decide) ?_
         clear hf; intro a ha hf
         exact st_nil hf (th_n ⟨ha, rfl⟩)
        clear hf; intro a hf
        refine dr_takeP 6 (eptr v23 t12 64) rfl (by kernel_rfl) (by kernel_rfl) (by kernel_rfl) rfl rfl hf (by decide) rfl (fun w => ?_) ?_
        ·
         refine st_index (E := (Ek.arr 64 (Ek.int .i32))) hf (by decide) Tryz.underlying65 elt66 rfl rfl rfl rl68.any hc69.1 hc69.2 ?_
         clear hf; intro a ha hf
         exact st_nil hf (th_n ⟨ha, rfl⟩)
        clear hf; intro a hf
        refine dr_takeP 7 (optr (eptr v23 t12 64) ((t60).toNat * 1)) rfl (by kernel_rfl) (by kernel_rfl) (by kernel_rfl) rfl rfl hf (by decide) rfl (fun w => ?_) ?_
        ·
         refine st_iaP (sz := 1) hf (by decide) Tryz.underlying66 (by kernel_rfl) rfl rfl rfl (Sl.isP rl68.any hc69.1 hc69.2) hc70.1 hc70.2 ?_
         clear hf; intro a ha hf
         exact st_nil hf (th_n ⟨ha, rfl⟩)
        clear hf; intro a hf
        refine dr_take2 8 (.int .i32 (gt (gt (rest10.set (t12).toNat ((gt rest10 t12).set (t60).toNat (IntKind.i32.wrap (q37.2 + (gt (gt rest10 (IntKind.i64.wrap (t12 + (1 : Int)))) q37.1))))) t12) t60)) rfl (by kernel_rfl) (by kernel_rfl) (by kernel_rfl) (by kernel_rfl) (by kernel_rfl) rfl rfl hf (by decide) rfl (fun w hp => ?_) ⟨_, hp⟩ ?_
        ·
         obtain ⟨_, hp⟩ := hp
         refine st_ldQ (F := (Ek.int .i32)) (yv := (gt (gt (rest10.set (t12).toNat ((gt rest10 t12).set (t60).toNat (IntKind.i32.wrap (q37.2 + (gt (gt rest10 (IntKind.i64.wrap (t12 + (1 : Int)))) q37.1))))) t12) t60)) hf (by decide) pl21 (fun x => .int .i32 x) (fun _ _ h => h) rfl rfl (Sl.part (E := (Ek.arr 64 (Ek.int .i32))) (F := (Ek.int .i32)) (o := (t60).toNat * 1) (Sub.arr (F := (Ek.int .i32)) (N := 64) (j := t60) hc70.1 hc70.2) (rl68.sl hp) hc69.1 hc69.2) ?_
         clear hf; intro a ha hf
         exact st_nil hf (th_n ⟨ha, rfl⟩)
        clear hf; intro a hf
        refine dr_takeP 9 (.int .i32 q60.2) rfl (by kernel_rfl) (by kernel_rfl) (by kernel_rfl) rfl rfl hf (by decide) rfl (fun w => ?_) ?_
        ·
         refine st_move hf rfl rfl (by decide) ?_
         clear hf; intro a ha hf
         exact st_nil hf (th_n ⟨ha, rfl⟩)
        clear hf; intro a hf
        refine dr_takeP 10 (v23) rfl (by kernel_rfl) (by kernel_rfl) (by kernel_rfl) rfl rfl hf (by decide) rfl (fun w => ?_) ?_
        ·
         refine st_move hf rfl rfl (by decide) ?_
         clear hf; intro a ha hf
         exact st_nil hf (th_n ⟨ha, rfl⟩)
        clear hf; intro a hf
        refine dr_takeP 11 (.int .i64 t12) rfl (by kernel_rfl) (by kernel_rfl) (by kernel_rfl) rfl rfl hf (by decide) rfl (fun w => ?_) ?_
        ·
         refine st_move hf rfl rfl (by decide) ?_
         clear hf; intro a ha hf
         exact st_nil hf (th_n ⟨ha, rfl⟩)
        clear hf; intro a hf
        refine dr_takeP 12 (.int .i64 (IntKind.i64.wrap (t12 + (1 : Int)))) rfl (by kernel_rfl) (by kernel_rfl) (by kernel_rfl) rfl rfl hf (by decide) rfl (fun w => ?_) ?_
        ·
         refine st_iadd hf (by decide) rfl rfl rfl ?_
         clear hf; intro a ha hf
         exact st_nil hf (th_n ⟨ha, rfl⟩)
        clear hf; intro a hf
        refine dr_takeP 13 (.int .u32 q60.1) rfl (by kernel_rfl) (by kernel_rfl) (by kernel_rfl) rfl rfl hf (by decide) rfl (fun w => ?_) ?_
        ·
         refine st_move hf rfl rfl (by decide) ?_
         clear hf; intro a ha hf
         exact st_nil hf (th_n ⟨ha, rfl⟩)
        clear hf; intro a hf
        refine dr_takeP 14 (eptr v23 (IntKind.i64.wrap (t12 + (1 : Int))) 64) rfl (by kernel_rfl) (by kernel_rfl) (by kernel_rfl) rfl rfl hf (by decide) rfl (fun w => ?_) ?_
        ·
         refine st_index (E := (Ek.arr 64 (Ek.int .i32))) hf (by decide) Tryz.underlying65 elt66 rfl rfl rfl rl68.any hc71.1 hc71.2 ?_
         clear hf; intro a ha hf
         exact st_nil hf (th_n ⟨ha, rfl⟩)
        clear hf; intro a hf
        refine dr_takeP 15 (optr (eptr v23 (IntKind.i64.wrap (t12 + (1 : Int))) 64) ((q60.1).toNat * 1)) rfl (by kernel_rfl) (by kernel_rfl) (by kernel_rfl) rfl rfl hf (by decide) rfl (fun w => ?_) ?_
        ·
         refine st_iaP (sz := 1) hf (by decide) Tryz.underlying66 (by kernel_rfl) rfl rfl rfl (Sl.isP rl68.any hc71.1 hc71.2) hc72.1 hc72.2 ?_
         clear hf; intro a ha hf
         exact st_nil hf (th_n ⟨ha, rfl⟩)
        clear hf; intro a hf
        refine dr_take2 16 (.int .i32 (gt (gt (rest10.set (t12).toNat ((gt rest10 t12).set (t60).toNat (IntKind.i32.wrap (q37.2 + (gt (gt rest10 (IntKind.i64.wrap (t12 + (1 : Int)))) q37.1))))) (IntKind.i64.wrap (t12 + (1 : Int)))) q60.1)) rfl (by kernel_rfl) (by kernel_rfl) (by kernel_rfl) (by kernel_rfl) (by kernel_rfl) rfl rfl hf (by decide) rfl (fun w hp => ?_) ⟨_, hp⟩ ?_
        ·
         obtain ⟨_, hp⟩ := hp
         refine st_ldQ (F := (Ek.int .i32)) (yv := (gt (gt (rest10.set (t12).toNat ((gt rest10 t12).set (t60).toNat (IntKind.i32.wrap (q37.2 + (gt (gt rest10 (IntKind.i64.wrap (t12 + (1 : Int)))) q37.1))))) (IntKind.i64.wrap (t12 + (1 : Int)))) q60.1)) hf (by decide) pl21 (fun x => .int .i32 x) (fun _ _ h => h) rfl rfl (Sl.part (E := (Ek.arr 64 (Ek.int .i32))) (F := (Ek.int .i32)) (o := (q60.1).toNat * 1) (Sub.arr (F := (Ek.int .i32)) (N := 64) (j := q60.1) hc72.1 hc72.2) (rl68.sl hp) hc71.1 hc71.2) ?_
         clear hf; intro a ha hf
         exact st_nil hf (th_n ⟨ha, rfl⟩)
        clear hf; intro a hf
        refine dr_takeP 17 (.int .i32 (IntKind.i32.wrap (q60.2 + (gt (gt (rest10.set (t12).toNat ((gt rest10 t12).set (t60).toNat (IntKind.i32.wrap (q37.2 + (gt (gt rest10 (IntKind.i64.wrap (t12 + (1 : Int)))) q37.1))))) (IntKind.i64.wrap (t12 + (1 : Int)))) q60.1)))) rfl (by kernel_rfl) (by kernel_rfl) (by kernel_rfl) rfl rfl hf (by decide) rfl (fun w => ?_) ?_
        ·
         refine st_iadd hf (by decide) rfl rfl rfl ?_
         clear hf; intro a ha hf
         exact st_nil hf (th_n ⟨ha, rfl⟩)
        clear hf; intro a hf
        refine dr_takeP 18 (.int .i32 (imin (gt (gt (rest10.set (t12).toNat ((gt rest10 t12).set (t60).toNat (IntKind.i32.wrap (q37.2 + (gt (gt rest10 (IntKind.i64.wrap (t12 + (1 : Int)))) q37.1))))) t12) t60) (IntKind.i32.wrap (q60.2 + (gt (gt (rest10.set (t12).toNat ((gt rest10 t12).set (t60).toNat (IntKind.i32.wrap (q37.2 + (gt (gt rest10 (IntKind.i64.wrap (t12 + (1 : Int)))) q37.1))))) (IntKind.i64.wrap (t12 + (1 : Int)))) q60.1))))) rfl (by kernel_rfl) (by kernel_rfl) (by kernel_rfl) rfl rfl hf (by decide) rfl (fun w => ?_) ?_
        ·
         refine st_imin hf (by decide) rfl rfl rfl ?_
         clear hf; intro a ha hf
         exact st_nil hf (th_n ⟨ha, rfl⟩)
        clear hf; intro a hf
        refine dr_takeP 19 (eptr v23 t12 64) rfl (by kernel_rfl) (by kernel_rfl) (by kernel_rfl) rfl rfl hf (by decide) rfl (fun w => ?_) ?_
        ·
         refine st_index (E := (Ek.arr 64 (Ek.int .i32))) hf (by decide) Tryz.underlying65 elt66 rfl rfl rfl rl68.any hc73.1 hc73.2 ?_
         clear hf; intro a ha hf
         exact st_nil hf (th_n ⟨ha, rfl⟩)
        clear hf; intro a hf
        refine dr_takeP 20 (optr (eptr v23 t12 64) ((t60).toNat * 1)) rfl (by kernel_rfl) (by kernel_rfl) (by kernel_rfl) rfl rfl hf (by decide) rfl (fun w => ?_) ?_
        ·
         refine st_iaP (sz := 1) hf (by decide) Tryz.underlying66 (by kernel_rfl) rfl rfl rfl (Sl.isP rl68.any hc73.1 hc73.2) hc74.1 hc74.2 ?_
         clear hf; intro a ha hf
         exact st_nil hf (th_n ⟨ha, rfl⟩)
        clear hf; intro a hf
        have hp := bk66 _ _ hp
        refine dr_one 21 rfl (by kernel_rfl) ?_
        refine st_stQ (E := (Ek.arr 64 (Ek.int .i32))) (F := (Ek.int .i32)) (o := (t60).toNat * 1) (Sub.arr (F := (Ek.int .i32)) (N := 64) (j := t60) hc74.1 hc74.2) hf (by kernel_rfl) hp (i := 0) rfl rfl rfl rfl rfl hc73.1 hc73.2 ?_
        clear hf; intro a w hf hp0; clear hp; have hp := hp0; clear hp0
        replace hp : Hp _ _ _ (Res.sl (Ek.arr 64 (Ek.int .i32)) 66 v23 ((rest10.set (t12).toNat ((gt rest10 t12).set (t60).toNat (IntKind.i32.wrap (q37.2 + (gt (gt rest10 (IntKind.i64.wrap (t12 + (1 : Int)))) q37.1))))).set (t12).toNat ((gt (rest10.set (t12).toNat ((gt rest10 t12).set (t60).toNat (IntKind.i32.wrap (q37.2 + (gt (gt rest10 (IntKind.i64.wrap (t12 + (1 : Int)))) q37.1))))) t12).set (t60).toNat (imin (gt (gt (rest10.set (t12).toNat ((gt rest10 t12).set (t60).toNat (IntKind.i32.wrap (q37.2 + (gt (gt rest10 (IntKind.i64.wrap (t12 + (1 : Int)))) q37.1))))) t12) t60) (IntKind.i32.wrap (q60.2 + (gt (gt (rest10.set (t12).toNat ((gt rest10 t12).set (t60).toNat (IntKind.i32.wrap (q37.2 + (gt (gt rest10 (IntKind.i64.wrap (t12 + (1 : Int)))) q37.1))))) (IntKind.i64.wrap (t12 + (1 : Int)))) q60.1)))))) :: Res.obj 27 v1 [.int .i64 cL, .int .u32 cO, .int .u32 cT] :: ow) := hp
        refine st_nil hf (th_n ⟨fun hn => absurd hn (by decide), ?_⟩)
        refine dr_end (by kernel_rfl) ?_ _
        exact ⟨hf.sb, hp⟩
       rintro a w ⟨hf, hp⟩
       refine go ?_; intro a hf
       obtain rfl := oj h
       exact rnd_l ⟨_, hf.sb, hp⟩
      replace h := ifF h hb
      refine wp_skip ?_
      refine go ?_; intro a hf
      obtain rfl := oj h
      exact rnd_l ⟨_, hf.sb, hp⟩
     replace h := ifF h hb
     refine wp_exit ?_
     refine th_e ?_
     obtain rfl := oj h
     exact rnd_r (by simp) ⟨rfl, _, hf.sb, hp⟩
    clear hl hf hp
    intro e a w hne hO
    obtain ⟨rfl, v25, hf, hp⟩ := hO
    refine ib_same ?_
    refine go ?_; intro a hf
    obtain rfl := oj h
    exact rnd_l ⟨_, hf.sb, hp⟩
   replace h := ifF h hb
   refine wp_exit ?_
   refine th_e ?_
   obtain rfl := oj h
   exact rnd_r (by simp) ⟨rfl, _, hf.sb, hp⟩
  clear hl hf hp
  intro e a w hne hO
  obtain ⟨rfl, v21, hf, hp⟩ := hO
  refine ib_same ?_
  refine go ?_; intro a hf
  obtain ⟨hc77, h⟩ := chk h
  refine st_make (E := Ek.bool) hf (by decide) elt4 Tryz.underlying22 (by decide) hp rfl rfl rfl hc77.1 hc77.2.1 hc77.2.2 ?_
  clear hf; intro a w v78 hf hp0; clear hp; have hp := hp0; clear hp0
  replace hp : Hp _ _ _ (Res.sl Ek.bool 4 v78 (List.replicate ((IntKind.i64.wrap ((IntKind.i64.wrap (((marks1.length : Int)).tdiv (2 : Int))) - (IntKind.i64.wrap (cL - (1 : Int)))))).toNat false) :: Res.sl (Ek.arr 64 (Ek.int .i32)) 66 v21 q76 :: _ :: ow) := hp
  refine go ?_; intro a hf
  obtain ⟨q122, hl, h⟩ := bnd h
  have hp : Hp _ _ _ (_ :: _ :: _ :: ow) := (hp.pk [0, 2, 1] 3 :)
  refine wp_loop_pure (f := (f_hard_Path.s4 cL cO cT marks1 q76)) (s := ((List.replicate ((IntKind.i64.wrap ((IntKind.i64.wrap (((marks1.length : Int)).tdiv (2 : Int))) - (IntKind.i64.wrap (cL - (1 : Int)))))).toNat false), (0 : Int), (0 : Int))) (fun s a w => ∃ (v80 : Value), Fr 179 a [(1, vmarks1), (2, optr v1 0), (4, v80), (10, v21), (16, .int .u32 s.2.1), (124, .int .i64 (IntKind.i64.wrap ((IntKind.i64.wrap (((marks1.length : Int)).tdiv (2 : Int))) - (IntKind.i64.wrap (cL - (1 : Int)))))), (125, .int .i64 s.2.2)] ∧ Hp S w0 w (Res.sl Ek.bool 4 v80 s.1 :: Res.obj 27 v1 [.int .i64 cL, .int .u32 cO, .int .u32 cT] :: Res.sl (Ek.arr 64 (Ek.int .i32)) 66 v21 q76 :: ow)) (fun q e a w => e = .exit 6 ∧ ∃ (v82 : Value), Fr 179 a [(4, v82), (10, v21)] ∧ Hp S w0 w (Res.sl Ek.bool 4 v82 q :: Res.sl (Ek.arr 64 (Ek.int .i32)) 66 v21 q76 :: ow)) ?_ hl ⟨_, hf.sb, hp⟩ ?_
  ·
   clear hl hf hp
   intro s x a w h hI
   obtain ⟨message4, at16, t125⟩ := s
   obtain ⟨v80, hf, hp⟩ : ∃ (v80 : Value), Fr 179 a [(1, vmarks1), (2, optr v1 0), (4, v80), (10, v21), (16, .int .u32 at16), (124, .int .i64 (IntKind.i64.wrap ((IntKind.i64.wrap (((marks1.length : Int)).tdiv (2 : Int))) - (IntKind.i64.wrap (cL - (1 : Int)))))), (125, .int .i64 t125)] ∧ Hp S w0 w (Res.sl Ek.bool 4 v80 message4 :: Res.obj 27 v1 [.int .i64 cL, .int .u32 cO, .int .u32 cT] :: Res.sl (Ek.arr 64 (Ek.int .i32)) 66 v21 q76 :: ow) := hI
   replace h : f_hard_Path.s4c cL cO cT marks1 q76 message4 at16 t125 = some x := h
   unfold f_hard_Path.s4c at h
   refine go ?_; intro a hf
   refine wp_if hf rfl (fun hb => ?_) (fun hb => ?_)
   ·
    replace h := ifT h hb
    refine wp_skip ?_
    refine go ?_; intro a hf
    obtain ⟨S84, hp85, rd86, up87, bk88⟩ := Hp.lendO hp (i := 1) rfl
    have rl89 := ((hmarks1.now hp).mono up87)
    have rl90 := rd86
    obtain ⟨hc91, h⟩ := chk h
    have hc92 : ((IntKind.i64.wrap ((2 : Int) * t125))).toNat ≤ marks1.length := by omega
    have hc93 : marks1.length ≤ marks1.length := by omega
    obtain ⟨q94, hcall95, h⟩ := bnd h
    refine wp_cutN (fun a w => Fr 179 a [(1, vmarks1), (2, optr v1 0), (4, v80), (10, v21), (16, .int .u32 at16), (17, .int .i64 t125), (18, .int .u32 q94.1), (19, .int .i32 q94.2), (124, .int .i64 (IntKind.i64.wrap ((IntKind.i64.wrap (((marks1.length : Int)).tdiv (2 : Int))) - (IntKind.i64.wrap (cL - (1 : Int)))))), (125, .int .i64 t125)] ∧ Hp S w0 w (Res.obj 27 v1 [.int .i64 cL, .int .u32 cO, .int .u32 cT] :: Res.sl Ek.bool 4 v80 message4 :: Res.sl (Ek.arr 64 (Ek.int .i32)) 66 v21 q76 :: ow)) ?_ ?_
    ·
     have hp := hp85.same (Same.drew w)
     refine dr_begin' _ (fun w' => ∃ l, Hp S84 w w' l) [] (by kernel_rfl) ?_
     refine dr_takeK 0 _ rfl hf rfl (fun w ⟨_, hp⟩ => st_ldOA (m := 3) (us := [.int .i64 cL, .int .u32 cO, .int .u32 cT]) hf (by decide) (by kernel_rfl) rfl rfl (rl90.ob hp) rfl rfl tk) ⟨_, hp⟩ fun a hf => ?_
     refine dv 1 hf ⟨_, hp⟩ fun a hf => ?_
     refine dv 2 hf ⟨_, hp⟩ fun a hf => ?_
     refine dv 3 hf ⟨_, hp⟩ fun a hf => ?_
     refine dv 4 hf ⟨_, hp⟩ fun a hf => ?_
     refine dr_takeK 5 _ rfl hf rfl (fun w ⟨_, hp⟩ => st_cutS (E := (Ek.int .u8)) hf (by decide) Tryz.underlying32 elt34 rfl rfl (rl89.sl hp) (.inr ⟨_, _, rfl, evI rfl hc91.1⟩) (.inl ⟨rfl, rfl⟩) hc92 hc93 tk) ⟨_, hp⟩ fun a hf => ?_
     refine dr_one 6 rfl (by kernel_rfl) ?_
     refine st_call hf (by decide) Tryz.func21 rfl rfl rfl rfl rfl (f_hard_step_c hp _ _ _ _ _ _ _ (RdS.cut rl89 hc92 hc93) hcall95) ?_
     rintro _ w ⟨rfl, hp⟩
     replace hp : Hp _ _ _ (Res.sl Ek.bool 4 v80 message4 :: _ :: ow) := hp
     refine ⟨_, rfl, fun a hf => ?_⟩
     refine nx hf (fun _ _ => ⟨_, hp⟩) ?_
     refine dv 7 hf ⟨_, hp⟩ fun a hf => ?_
     refine dv 8 hf ⟨_, hp⟩ fun a hf => ?_
     refine dv 9 hf ⟨_, hp⟩ fun a hf => ?_
     refine dv 10 hf ⟨_, hp⟩ fun a hf => ?_
     refine dv 11 hf ⟨_, hp⟩ fun a hf => ?_
     refine dr_end (by kernel_rfl) ?_ _
     have hp := bk88 _ _ hp
     exact ⟨hf.sb, hp⟩
    rintro a w ⟨hf, hp⟩
    refine goT ?_
    obtain ⟨S96, hp97, rd98, up99, bk100⟩ := Hp.lendS hp (i := 2) rfl
    have rl101 := ((hmarks1.now hp).mono up99)
    have rl102 := rd98
    have fx108 := hp.sl (i := 1) rfl
    obtain ⟨hc103, h⟩ := chk h
    obtain ⟨hc104, h⟩ := chk h
    obtain ⟨hc105, h⟩ := chk h
    obtain ⟨hc106, h⟩ := chk h
    obtain ⟨hc107, h⟩ := chk h
    refine wp_cutN (fun a w => Fr 179 a [(1, vmarks1), (2, optr v1 0), (4, v80), (10, v21), (16, .int .u32 at16), (17, .int .i64 t125), (18, .int .u32 q94.1), (124, .int .i64 (IntKind.i64.wrap ((IntKind.i64.wrap (((marks1.length : Int)).tdiv (2 : Int))) - (IntKind.i64.wrap (cL - (1 : Int)))))), (125, .int .i64 t125)] ∧ Hp S w0 w (Res.sl (Ek.arr 64 (Ek.int .i32)) 66 v21 q76 :: Res.obj 27 v1 [.int .i64 cL, .int .u32 cO, .int .u32 cT] :: Res.sl Ek.bool 4 v80 (message4.set (t125).toNat ((IntKind.i32.wrap (q94.2 + (gt (gt q76 (IntKind.i64.wrap (t125 + (1 : Int)))) q94.1))) != (gt (gt q76 t125) at16))) :: ow)) ?_ ?_
    ·
     have hp := hp97.same (Same.drew w)
     refine dr_begin' _ (fun w' => ∃ l, Hp S96 w w' l) [] (by kernel_rfl) ?_
     refine dr_takeP 0 (v80) rfl (by kernel_rfl) (by kernel_rfl) (by kernel_rfl) rfl rfl hf (by decide) rfl (fun w => ?_) ?_
     ·
      refine st_move hf rfl rfl (by decide) ?_
      clear hf; intro a ha hf
      exact st_nil hf (th_n ⟨ha, rfl⟩)
     clear hf; intro a hf
     refine dr_takeP 1 (.int .i64 t125) rfl (by kernel_rfl) (by kernel_rfl) (by kernel_rfl) rfl rfl hf (by decide) rfl (fun w => ?_) ?_
     ·
      refine st_move hf rfl rfl (by decide) ?_
      clear hf; intro a ha hf
      exact st_nil hf (th_n ⟨ha, rfl⟩)
     clear hf; intro a hf
     refine dr_takeP 2 (.int .i32 q94.2) rfl (by kernel_rfl) (by kernel_rfl) (by kernel_rfl) rfl rfl hf (by decide) rfl (fun w => ?_) ?_
     ·
      refine st_move hf rfl rfl (by decide) ?_
      clear hf; intro a ha hf
      exact st_nil hf (th_n ⟨ha, rfl⟩)
     clear hf; intro a hf
     refine dr_takeP 3 (v21) rfl (by kernel_rfl) (by kernel_rfl) (by kernel_rfl) rfl rfl hf (by decide) rfl (fun w => ?_) ?_
     ·
      refine st_move hf rfl rfl (by decide) ?_
      clear hf; intro a ha hf
      exact st_nil hf (th_n ⟨ha, rfl⟩)
     clear hf; intro a hf
     refine dr_takeP 4 (.int .i64 t125) rfl (by kernel_rfl) (by kernel_rfl) (by kernel_rfl) rfl rfl hf (by decide) rfl (fun w => ?_) ?_
     ·
      refine st_move hf rfl rfl (by decide) ?_
      clear hf; intro a ha hf
      exact st_nil hf (th_n ⟨ha, rfl⟩)
     clear hf; intro a hf
     refine dr_takeP 5 (.int .i64 (IntKind.i64.wrap (t125 + (1 : Int)))) rfl (by kernel_rfl) (by kernel_rfl) (by kernel_rfl) rfl rfl hf (by decide) rfl (fun w => ?_) ?_
     ·
      refine st_iadd hf (by decide) rfl rfl rfl ?_
      clear hf; intro a ha hf
      exact st_nil hf (th_n ⟨ha, rfl⟩)
     clear hf; intro a hf
     refine dr_takeP 6 (.int .u32 q94.1) rfl (by kernel_rfl) (by kernel_rfl) (by kernel_rfl) rfl rfl hf (by decide) rfl (fun w => ?_) ?_
     ·
      refine st_move hf rfl rfl (by decide) ?_
      clear hf; intro a ha hf
      exact st_nil hf (th_n ⟨ha, rfl⟩)
     clear hf; intro a hf
     refine dr_takeP 7 (eptr v21 (IntKind.i64.wrap (t125 + (1 : Int))) 64) rfl (by kernel_rfl) (by kernel_rfl) (by kernel_rfl) rfl rfl hf (by decide) rfl (fun w => ?_) ?_
     ·
      refine st_index (E := (Ek.arr 64 (Ek.int .i32))) hf (by decide) Tryz.underlying65 elt66 rfl rfl rfl rl102.any hc103.1 hc103.2 ?_
      clear hf; intro a ha hf
      exact st_nil hf (th_n ⟨ha, rfl⟩)
     clear hf; intro a hf
     refine dr_takeP 8 (optr (eptr v21 (IntKind.i64.wrap (t125 + (1 : Int))) 64) ((q94.1).toNat * 1)) rfl (by kernel_rfl) (by kernel_rfl) (by kernel_rfl) rfl rfl hf (by decide) rfl (fun w => ?_) ?_
     ·
      refine st_iaP (sz := 1) hf (by decide) Tryz.underlying66 (by kernel_rfl) rfl rfl rfl (Sl.isP rl102.any hc103.1 hc103.2) hc104.1 hc104.2 ?_
      clear hf; intro a ha hf
      exact st_nil hf (th_n ⟨ha, rfl⟩)
     clear hf; intro a hf
     refine dr_takeK 9 _ rfl hf rfl (fun w ⟨_, hp⟩ => st_ldQ (F := (Ek.int .i32)) (yv := (gt (gt q76 (IntKind.i64.wrap (t125 + (1 : Int)))) q94.1)) hf (by decide) pl21 (fun x => .int .i32 x) (fun _ _ h => h) rfl rfl (Sl.part (E := (Ek.arr 64 (Ek.int .i32))) (F := (Ek.int .i32)) (o := (q94.1).toNat * 1) (Sub.arr (F := (Ek.int .i32)) (N := 64) (j := q94.1) hc104.1 hc104.2) (rl102.sl hp) hc103.1 hc103.2) tk) ⟨_, hp⟩ fun a hf => ?_
     refine dr_takeP 10 (.int .i32 (IntKind.i32.wrap (q94.2 + (gt (gt q76 (IntKind.i64.wrap (t125 + (1 : Int)))) q94.1)))) rfl (by kernel_rfl) (by kernel_rfl) (by kernel_rfl) rfl rfl hf (by decide) rfl (fun w => ?_) ?_
     ·
      refine st_iadd hf (by decide) rfl rfl rfl ?_
      clear hf; intro a ha hf
      exact st_nil hf (th_n ⟨ha, rfl⟩)
     clear hf; intro a hf
     refine dr_takeP 11 (v21) rfl (by kernel_rfl) (by kernel_rfl) (by kernel_rfl) rfl rfl hf (by decide) rfl (fun w => ?_) ?_
     ·
      refine st_move hf rfl rfl (by decide) ?_
      clear hf; intro a ha hf
      exact st_nil hf (th_n ⟨ha, rfl⟩)
     clear hf; intro a hf
     refine dr_takeP 12 (.int .i64 t125) rfl (by kernel_rfl) (by kernel_rfl) (by kernel_rfl) rfl rfl hf (by decide) rfl (fun w => ?_) ?_
     ·
      refine st_move hf rfl rfl (by decide) ?_
      clear hf; intro a ha hf
      exact st_nil hf (th_n ⟨ha, rfl⟩)
     clear hf; intro a hf
     refine dr_takeP 13 (.int .u32 at16) rfl (by kernel_rfl) (by kernel_rfl) (by kernel_rfl) rfl rfl hf (by decide) rfl (fun w => ?_) ?_
     ·
      refine st_move hf rfl rfl (by decide) ?_
      clear hf; intro a ha hf
      exact st_nil hf (th_n ⟨ha, rfl⟩)
     clear hf; intro a hf
     refine dr_takeP 14 (eptr v21 t125 64) rfl (by kernel_rfl) (by kernel_rfl) (by kernel_rfl) rfl rfl hf (by decide) rfl (fun w => ?_) ?_
     ·
      refine st_index (E := (Ek.arr 64 (Ek.int .i32))) hf (by decide) Tryz.underlying65 elt66 rfl rfl rfl rl102.any hc105.1 hc105.2 ?_
      clear hf; intro a ha hf
      exact st_nil hf (th_n ⟨ha, rfl⟩)
     clear hf; intro a hf
     refine dr_takeP 15 (optr (eptr v21 t125 64) ((at16).toNat * 1)) rfl (by kernel_rfl) (by kernel_rfl) (by kernel_rfl) rfl rfl hf (by decide) rfl (fun w => ?_) ?_
     ·
      refine st_iaP (sz := 1) hf (by decide) Tryz.underlying66 (by kernel_rfl) rfl rfl rfl (Sl.isP rl102.any hc105.1 hc105.2) hc106.1 hc106.2 ?_
      clear hf; intro a ha hf
      exact st_nil hf (th_n ⟨ha, rfl⟩)
     clear hf; intro a hf
     refine dr_takeK 16 _ rfl hf rfl (fun w ⟨_, hp⟩ => st_ldQ (F := (Ek.int .i32)) (yv := (gt (gt q76 t125) at16)) hf (by decide) pl21 (fun x => .int .i32 x) (fun _ _ h => h) rfl rfl (Sl.part (E := (Ek.arr 64 (Ek.int .i32))) (F := (Ek.int .i32)) (o := (at16).toNat * 1) (Sub.arr (F := (Ek.int .i32)) (N := 64) (j := at16) hc106.1 hc106.2) (rl102.sl hp) hc105.1 hc105.2) tk) ⟨_, hp⟩ fun a hf => ?_
     refine dr_takeP 17 (.bool ((IntKind.i32.wrap (q94.2 + (gt (gt q76 (IntKind.i64.wrap (t125 + (1 : Int)))) q94.1))) != (gt (gt q76 t125) at16))) rfl (by kernel_rfl) (by kernel_rfl) (by kernel_rfl) rfl rfl hf (by decide) rfl (fun w => ?_) ?_
     ·
      refine st_ineq hf (by decide) rfl rfl rfl ?_
      clear hf; intro a ha hf
      exact st_nil hf (th_n ⟨ha, rfl⟩)
     clear hf; intro a hf
     refine dr_takeP 18 (eptr v80 t125 1) rfl (by kernel_rfl) (by kernel_rfl) (by kernel_rfl) rfl rfl hf (by decide) rfl (fun w => ?_) ?_
     ·
      refine st_index (E := Ek.bool) hf (by decide) Tryz.underlying22 elt4 rfl rfl rfl fx108 hc107.1 hc107.2 ?_
      clear hf; intro a ha hf
      exact st_nil hf (th_n ⟨ha, rfl⟩)
     clear hf; intro a hf
     refine dr_one 19 rfl (by kernel_rfl) ?_
     refine st_store (E := Ek.bool) hf elt4 hp (i := 1) rfl rfl rfl rfl rfl hc107.1 hc107.2 ?_
     clear hf; intro a w hf hp0; clear hp; have hp := hp0; clear hp0
     replace hp : Hp _ _ _ (Res.obj 27 v1 [.int .i64 cL, .int .u32 cO, .int .u32 cT] :: Res.sl Ek.bool 4 v80 (message4.set (t125).toNat ((IntKind.i32.wrap (q94.2 + (gt (gt q76 (IntKind.i64.wrap (t125 + (1 : Int)))) q94.1))) != (gt (gt q76 t125) at16))) :: ow) := hp
     refine nx hf (fun _ _ => ⟨_, hp⟩) ?_
     refine dr_end (by kernel_rfl) ?_ _
     have hp := bk100 _ _ hp
     exact ⟨hf.sb, hp⟩
    rintro a w ⟨hf, hp⟩
    refine go ?_; intro a hf
    obtain ⟨hc109, h⟩ := chk h
    refine st_index (E := Ek.bool) hf (by decide) Tryz.underlying22 elt4 rfl rfl rfl (hp.sl (i := 2) rfl) hc109.1 hc109.2 fun a _ hf => ?_
    refine st_ldB hf (by decide) pl4 rfl rfl (hp.sl (i := 2) rfl) hc109.1 hc109.2 fun a _ hf => ?_
    refine goT ?_
    refine wp_if hf rfl (fun hb => ?_) (fun hb => ?_)
    ·
     replace h := ifT h hb
     obtain ⟨S110, hp111, rd112, up113, bk114⟩ := Hp.lendO hp (i := 1) rfl
     have rl115 := ((hmarks1.now hp).mono up113)
     have rl116 := rd112
     obtain ⟨hc117, h⟩ := chk h
     have hc118 : ((IntKind.i64.wrap ((2 : Int) * t125))).toNat ≤ marks1.length := by omega
     have hc119 : marks1.length ≤ marks1.length := by omega
     obtain ⟨q120, hcall121, h⟩ := bnd h
     refine wp_cutN (fun a w => Fr 179 a [(1, vmarks1), (2, optr v1 0), (4, v80), (10, v21), (18, .int .u32 q120.1), (124, .int .i64 (IntKind.i64.wrap ((IntKind.i64.wrap (((marks1.length : Int)).tdiv (2 : Int))) - (IntKind.i64.wrap (cL - (1 : Int)))))), (125, .int .i64 t125)] ∧ Hp S w0 w (Res.obj 27 v1 [.int .i64 cL, .int .u32 cO, .int .u32 cT] :: Res.sl (Ek.arr 64 (Ek.int .i32)) 66 v21 q76 :: Res.sl Ek.bool 4 v80 (message4.set (t125).toNat ((IntKind.i32.wrap (q94.2 + (gt (gt q76 (IntKind.i64.wrap (t125 + (1 : Int)))) q94.1))) != (gt (gt q76 t125) at16))) :: ow)) ?_ ?_
     ·
      have hp := hp111.same (Same.drew w)
      refine dr_begin' _ (fun w' => ∃ l, Hp S110 w w' l) [] (by kernel_rfl) ?_
      refine dr_takeK 0 _ rfl hf rfl (fun w ⟨_, hp⟩ => st_ldOA (m := 3) (us := [.int .i64 cL, .int .u32 cO, .int .u32 cT]) hf (by decide) (by kernel_rfl) rfl rfl (rl116.ob hp) rfl rfl tk) ⟨_, hp⟩ fun a hf => ?_
      refine dv 1 hf ⟨_, hp⟩ fun a hf => ?_
      refine dv 2 hf ⟨_, hp⟩ fun a hf => ?_
      refine dv 3 hf ⟨_, hp⟩ fun a hf => ?_
      refine dv 4 hf ⟨_, hp⟩ fun a hf => ?_
      refine dr_takeK 5 _ rfl hf rfl (fun w ⟨_, hp⟩ => st_cutS (E := (Ek.int .u8)) hf (by decide) Tryz.underlying32 elt34 rfl rfl (rl115.sl hp) (.inr ⟨_, _, rfl, evI rfl hc117.1⟩) (.inl ⟨rfl, rfl⟩) hc118 hc119 tk) ⟨_, hp⟩ fun a hf => ?_
      refine dr_one 6 rfl (by kernel_rfl) ?_
      refine st_call hf (by decide) Tryz.func21 rfl rfl rfl rfl rfl (f_hard_step_c hp _ _ _ _ _ _ _ (RdS.cut rl115 hc118 hc119) hcall121) ?_
      rintro _ w ⟨rfl, hp⟩
      replace hp : Hp _ _ _ (Res.sl (Ek.arr 64 (Ek.int .i32)) 66 v21 q76 :: _ :: ow) := hp
      refine ⟨_, rfl, fun a hf => ?_⟩
      refine nx hf (fun _ _ => ⟨_, hp⟩) ?_
      refine dv 7 hf ⟨_, hp⟩ fun a hf => ?_
      refine dv 8 hf ⟨_, hp⟩ fun a hf => ?_
      refine dv 9 hf ⟨_, hp⟩ fun a hf => ?_
      refine dv 10 hf ⟨_, hp⟩ fun a hf => ?_
      refine dr_end (by kernel_rfl) ?_ _
      have hp := bk114 _ _ hp
      exact ⟨hf.sb, hp⟩
     rintro a w ⟨hf, hp⟩
     refine go ?_; intro a hf
     obtain rfl := oj h
     have hp : Hp _ _ _ (_ :: Res.obj 27 v1 [.int .i64 cL, .int .u32 cO, .int .u32 cT] :: _ :: ow) := (hp.pk [2, 0, 1] 3 :)
     exact rnd_l ⟨_, hf.sb, hp⟩
    replace h := ifF h hb
    refine wp_skip ?_
    refine go ?_; intro a hf
    obtain rfl := oj h
    have hp : Hp _ _ _ (_ :: _ :: _ :: ow) := (hp.pk [2, 1, 0] 3 :)
    exact rnd_l ⟨_, hf.sb, hp⟩
   replace h := ifF h hb
   refine wp_exit ?_
   refine th_e ?_
   obtain rfl := oj h
   have hp : Hp _ _ _ (Res.sl Ek.bool 4 v80 message4 :: _ :: ow) := (hp.pk [0, 2] 3 :)
   exact rnd_r (by simp) ⟨rfl, _, hf.sb, hp⟩
  clear hl hf hp
  intro e a w hne hO
  obtain ⟨rfl, v82, hf, hp⟩ := hO
  refine ib_same ?_
  refine goT ?_
  obtain ⟨S123, hp124, rd125, up126, bk127⟩ := Hp.lendS hp (i := 1) rfl
  have rl128 := rd125
  obtain ⟨hc129, h⟩ := chk h
  have hc130 : 0 ≤ (0 : Int) ∧ (0 : Int) < (64 : Int) := by decide
  refine wp_cutN (fun a w => Fr 179 a [(4, v82), (5, .int .i64 (IntKind.i64.wrap (gt (gt q76 (0 : Int)) (0 : Int)))), (6, .int .i64 (0 : Int))] ∧ Hp S w0 w (Res.sl (Ek.arr 64 (Ek.int .i32)) 66 v21 q76 :: Res.sl Ek.bool 4 v82 q122 :: ow)) ?_ ?_
  ·
   have hp := hp124.same (Same.drew w)
   refine dr_begin' _ (fun w' => ∃ l, Hp S123 w w' l) [] (by kernel_rfl) ?_
   refine dv 0 hf ⟨_, hp⟩ fun a hf => ?_
   refine dv 1 hf ⟨_, hp⟩ fun a hf => ?_
   refine dr_takeK 2 _ rfl hf rfl (fun w ⟨_, hp⟩ => st_index (E := (Ek.arr 64 (Ek.int .i32))) hf (by decide) Tryz.underlying65 elt66 rfl rfl rfl (rl128.sl hp) hc129.1 hc129.2 tk) ⟨_, hp⟩ fun a hf => ?_
   refine dr_takeK 3 _ rfl hf rfl (fun w ⟨_, hp⟩ => st_iaP (sz := 1) hf (by decide) Tryz.underlying66 (by kernel_rfl) rfl rfl rfl (Sl.isP (rl128.sl hp) hc129.1 hc129.2) hc130.1 hc130.2 tk) ⟨_, hp⟩ fun a hf => ?_
   refine dr_takeK 4 _ rfl hf rfl (fun w ⟨_, hp⟩ => st_ldQ (F := (Ek.int .i32)) (yv := (gt (gt q76 (0 : Int)) (0 : Int))) hf (by decide) pl21 (fun x => .int .i32 x) (fun _ _ h => h) rfl rfl (Sl.part (E := (Ek.arr 64 (Ek.int .i32))) (F := (Ek.int .i32)) (o := ((0 : Int)).toNat * 1) (Sub.arr (F := (Ek.int .i32)) (N := 64) (j := (0 : Int)) hc130.1 hc130.2) (rl128.sl hp) hc129.1 hc129.2) tk) ⟨_, hp⟩ fun a hf => ?_
   refine dr_takeK 5 _ rfl hf rfl (fun w ⟨_, hp⟩ => st_conv_ii hf (by decide) (by rw [Tryz.underlying21]; rfl) Tryz.underlying3 rfl rfl tk) ⟨_, hp⟩ fun a hf => ?_
   refine dv 6 hf ⟨_, hp⟩ fun a hf => ?_
   refine dv 7 hf ⟨_, hp⟩ fun a hf => ?_
   refine dv 8 hf ⟨_, hp⟩ fun a hf => ?_
   refine dr_end (by kernel_rfl) ?_ _
   have hp := bk127 _ _ hp
   exact ⟨hf.sb, hp⟩
  rintro a w ⟨hf, hp⟩
  refine goT ?_
  obtain rfl := oj h
  have hp : Hp _ _ _ (Res.sl Ek.bool 4 v82 q122 :: ow) := (hp.pk [1] 2 :)
  exact ⟨rfl, ⟨_, hf.sb, hp⟩⟩

noncomputable def f_hard_Cost.j1 (cL : Int) (cO : Int) (cT : Int) (marks2 : (List Int)) (at8 : Int) (sum9 : Int) (t33 : Int) (bit11 : Int) : Option ((Int × Int × Int) ⊕ Int) := (if 0 ≤ (IntKind.i64.wrap ((2 : Int) * t33)) ∧ (IntKind.i64.wrap ((2 : Int) * t33)) ≤ (marks2.length : Int) then ((f_hard_step cL cO cT at8 bit11 ((marks2.drop (((IntKind.i64.wrap ((2 : Int) * t33))).toNat)).take (marks2.length - ((IntKind.i64.wrap ((2 : Int) * t33))).toNat))).bind fun q18 => (some (Sum.inl (q18.1, (IntKind.i32.wrap (sum9 + q18.2)), (IntKind.i64.wrap (t33 + (1 : Int))))))) else none)
noncomputable def f_hard_Cost.s1c (cL : Int) (cO : Int) (cT : Int) (message1 : (List Bool)) (marks2 : (List Int)) (at8 : Int) (sum9 : Int) (t33 : Int) : Option ((Int × Int × Int) ⊕ Int) := (if (decide (t33 < (IntKind.i64.wrap (((marks2.length : Int)).tdiv (2 : Int))))) = true then ((if (decide (t33 < (message1.length : Int))) = true then (if 0 ≤ t33 ∧ t33 < (message1.length : Int) then (some (gt message1 t33)) else none) else (some false)).bind fun z22 => (if z22 = true then (f_hard_Cost.j1 cL cO cT marks2 at8 sum9 t33 (1 : Int)) else (f_hard_Cost.j1 cL cO cT marks2 at8 sum9 t33 (0 : Int)))) else (some (Sum.inr sum9)))
noncomputable def f_hard_Cost.s1 (cL : Int) (cO : Int) (cT : Int) (message1 : (List Bool)) (marks2 : (List Int)) (s : (Int × Int × Int)) : Option ((Int × Int × Int) ⊕ Int) := f_hard_Cost.s1c cL cO cT message1 marks2 s.1 s.2.1 s.2.2
noncomputable def f_hard_Cost (cL : Int) (cO : Int) (cT : Int) (message1 : (List Bool)) (marks2 : (List Int)) : Option (Int × Int) := ((f_hard_fits cL cO cT marks2).bind fun q3 => (if ((!q3) || ((message1.length : Int) != (IntKind.i64.wrap ((IntKind.i64.wrap (((marks2.length : Int)).tdiv (2 : Int))) - (IntKind.i64.wrap (cL - (1 : Int))))))) = true then (some ((0 : Int), (1 : Int))) else ((loop (f_hard_Cost.s1 cL cO cT message1 marks2) ((0 : Int), (0 : Int), (0 : Int))).bind (fun q24 => (some ((IntKind.i64.wrap q24), (0 : Int)))))))
theorem f_hard_Cost_c {S : Nat → Prop} {w0 w : World} {ow : List Res} (hp : Hp S w0 w ow) (cL : Int) (cO : Int) (cT : Int) (vmessage1 : Value) (message1 : (List Bool)) (hmessage1 : RdS Ek.bool S w0 vmessage1 message1) (vmarks2 : Value) (marks2 : (List Int)) (hmarks2 : RdS (Ek.int .u8) S w0 vmarks2 marks2) {r : (Int × Int)} (h : f_hard_Cost cL cO cT message1 marks2 = some r) :
   Calls Tryz.prog 9 #[.agg #[.int .i64 cL, .int .u32 cO, .int .u32 cT], vmessage1, vmarks2] w (fun e w' => e = .returned (.tuple #[.int .i64 r.1, .int .i64 r.2]) ∧ Hp S w0 w' (ow)) := by
  unfold f_hard_Cost at h
  refine enx (n := 64) Tryz.func9 fun a hf => ?_
  refine wp_mono (Q := fun e a w => e = .ret ∧ Fr 64 a [(6, .int .i64 r.1), (7, .int .i64 r.2)] ∧ Hp S w0 w (ow)) ?_ ?_
  rotate_left
  ·
   rintro e a w ⟨rfl, hf, hp⟩
   exact ret2 hf rfl rfl rfl ⟨rfl, hp⟩
  refine goT ?_
  refine st_boxO (cs := [.int .i64 cL, .int .u32 cO, .int .u32 cT]) hf (by decide) hp rfl rfl rfl ?_
  clear hf; intro a w v1 hf hp0; clear hp; have hp := hp0; clear hp0
  replace hp : Hp _ _ _ (Res.obj 27 v1 [.int .i64 cL, .int .u32 cO, .int .u32 cT] :: ow) := hp
  refine go ?_; intro a hf
  refine st_ldOA (m := 3) (us := [.int .i64 cL, .int .u32 cO, .int .u32 cT]) hf (by decide) (by kernel_rfl) rfl rfl (hp.ob (i := 0) rfl) rfl rfl fun a _ hf => ?_
  refine go ?_; intro a hf
  obtain ⟨q3, hcall4, h⟩ := bnd h
  refine st_call hf (by decide) Tryz.func20 rfl rfl rfl rfl rfl (f_hard_fits_c hp _ _ _ _ _ hmarks2 hcall4) ?_
  rintro _ w ⟨rfl, hp⟩
  replace hp : Hp _ _ _ (_ :: ow) := hp
  refine ⟨_, rfl, fun a hf => ?_⟩
  refine go ?_; intro a hf
  refine wpList_cut 11 (fun a w => Fr 64 a [(1, vmessage1), (2, vmarks2), (3, optr v1 0), (29, .bool ((!q3) || ((message1.length : Int) != (IntKind.i64.wrap ((IntKind.i64.wrap (((marks2.length : Int)).tdiv (2 : Int))) - (IntKind.i64.wrap (cL - (1 : Int))))))))] ∧ Hp S w0 w (Res.obj 27 v1 [.int .i64 cL, .int .u32 cO, .int .u32 cT] :: ow)) ?_ ?_
  ·
   rcases Bool.eq_false_or_eq_true (!q3) with hb6 | hb6
   ·
    refine go ?_; intro a hf
    exact ⟨hf.sub ⟨rfl, rfl, rfl, (by rw [hb6]; rfl), trivial⟩, hp⟩
   refine go ?_; intro a hf
   refine st_len (E := Ek.bool) hf (by decide) Tryz.underlying22 (wantY hf rfl rfl hb6) rfl (hmessage1.sl hp) fun a _ hf => ?_
   refine go ?_; intro a hf
   refine st_len (E := (Ek.int .u8)) hf (by decide) Tryz.underlying32 (wantY hf rfl rfl hb6) rfl (hmarks2.sl hp) fun a _ hf => ?_
   refine st_iquo hf (by decide) (wantY hf rfl rfl hb6) rfl rfl (by decide) fun a _ hf => ?_
   refine st_fa (o' := 0) hf (by decide) (off := 0) (sz := 1) (by kernel_rfl) (by decide) (wantY hf rfl rfl hb6) rfl (hp.ob (i := 0) rfl) rfl fun a _ hf => ?_
   refine st_ldO (u := .int .i64 cL) hf (by decide) pl3 (wantY hf rfl rfl hb6) rfl (hp.ob (i := 0) rfl) rfl fun a _ hf => ?_
   refine go ?_; intro a hf
   exact ⟨hf.sub ⟨rfl, rfl, rfl, (by rw [hb6]; rfl), trivial⟩, hp⟩
  rintro a w ⟨hf, hp⟩
  refine goT ?_
  refine wp_if hf rfl (fun hb => ?_) (fun hb => ?_)
  ·
   replace h := ifT h hb
   refine go ?_; intro a hf
   obtain rfl := oj h
   have hp : Hp _ _ _ (ow) := (hp.pk [] 1 :)
   exact ⟨rfl, ⟨hf.sb, hp⟩⟩
  replace h := ifF h hb
  refine wp_skip ?_
  refine go ?_; intro a hf
  refine st_len (E := (Ek.int .u8)) hf (by decide) Tryz.underlying32 rfl rfl (hmarks2.sl hp) fun a _ hf => ?_
  refine st_iquo hf (by decide) rfl rfl rfl (by decide) fun a _ hf => ?_
  refine go ?_; intro a hf
  obtain ⟨q24, hl, h⟩ := bnd h
  refine wp_loop_pure (f := (f_hard_Cost.s1 cL cO cT message1 marks2)) (s := ((0 : Int), (0 : Int), (0 : Int))) (fun s a w => Fr 64 a [(1, vmessage1), (2, vmarks2), (3, optr v1 0), (8, .int .u32 s.1), (9, .int .i32 s.2.1), (32, .int .i64 (IntKind.i64.wrap (((marks2.length : Int)).tdiv (2 : Int)))), (33, .int .i64 s.2.2)] ∧ Hp S w0 w (Res.obj 27 v1 [.int .i64 cL, .int .u32 cO, .int .u32 cT] :: ow)) (fun q e a w => e = .exit 0 ∧ Fr 64 a [(9, .int .i32 q)] ∧ Hp S w0 w (ow)) ?_ hl ⟨hf.sb, hp⟩ ?_
  ·
   clear hl hf hp
   intro s x a w h hI
   obtain ⟨at8, sum9, t33⟩ := s
   obtain ⟨hf, hp⟩ : Fr 64 a [(1, vmessage1), (2, vmarks2), (3, optr v1 0), (8, .int .u32 at8), (9, .int .i32 sum9), (32, .int .i64 (IntKind.i64.wrap (((marks2.length : Int)).tdiv (2 : Int)))), (33, .int .i64 t33)] ∧ Hp S w0 w (Res.obj 27 v1 [.int .i64 cL, .int .u32 cO, .int .u32 cT] :: ow) := hI
   replace h : f_hard_Cost.s1c cL cO cT message1 marks2 at8 sum9 t33 = some x := h
   unfold f_hard_Cost.s1c at h
   refine go ?_; intro a hf
   refine wp_if hf rfl (fun hb => ?_) (fun hb => ?_)
   ·
    replace h := ifT h hb
    refine wp_skip ?_
    refine th_n ?_
    refine wp_seq ?_
    refine wp_block ?_
    refine wp_seq ?_
    refine wp_reg ?_
    refine st_move hf rfl rfl (by decide) fun a _ hf => ?_
    refine st_assign hf rfl rfl (by decide) fun a _ hf => ?_
    refine st_nil hf ?_
    refine th_n ?_
    refine wp_seq ?_
    refine wp_reg ?_
    refine st_assign hf rfl rfl (by decide) fun a _ hf => ?_
    refine st_nil hf ?_
    refine th_n ?_
    refine wp_seq_cut (fun a w => ∃ (bit11 : Int), f_hard_Cost.j1 cL cO cT marks2 at8 sum9 t33 bit11 = some x ∧ Fr 64 a [(1, vmessage1), (2, vmarks2), (3, optr v1 0), (8, .int .u32 at8), (9, .int .i32 sum9), (10, .int .i64 t33), (11, .int .u32 bit11), (32, .int .i64 (IntKind.i64.wrap (((marks2.length : Int)).tdiv (2 : Int)))), (33, .int .i64 t33)] ∧ Hp S w0 w (Res.obj 27 v1 [.int .i64 cL, .int .u32 cO, .int .u32 cT] :: ow)) ?_ ?_
    ·
     refine go ?_; intro a hf
     refine st_len (E := Ek.bool) hf (by decide) Tryz.underlying22 rfl rfl (hmessage1.sl hp) fun a _ hf => ?_
     refine go ?_; intro a hf
     obtain ⟨z22, hz20, h⟩ := bnd h
     refine wpList_cut 5 (fun a w => Fr 64 a [(1, vmessage1), (2, vmarks2), (3, optr v1 0), (8, .int .u32 at8), (9, .int .i32 sum9), (10, .int .i64 t33), (11, .int .u32 (0 : Int)), (32, .int .i64 (IntKind.i64.wrap (((marks2.length : Int)).tdiv (2 : Int)))), (33, .int .i64 t33), (45, .bool z22)] ∧ Hp S w0 w (Res.obj 27 v1 [.int .i64 cL, .int .u32 cO, .int .u32 cT] :: ow)) ?_ ?_
     ·
      rcases Bool.eq_false_or_eq_true (decide (t33 < (message1.length : Int))) with hb21 | hb21
      ·
       replace hz20 := ifT hz20 hb21
       refine go ?_; intro a hf
       obtain ⟨hc23, hz20⟩ := chk hz20
       refine st_index (E := Ek.bool) hf (by decide) Tryz.underlying22 elt4 (wantY hf rfl rfl hb21) rfl rfl (hmessage1.sl hp) hc23.1 hc23.2 fun a _ hf => ?_
       refine st_ldB hf (by decide) pl4 (wantY hf rfl rfl hb21) rfl (hmessage1.sl hp) hc23.1 hc23.2 fun a _ hf => ?_
       obtain rfl := oj hz20
       refine go ?_; intro a hf
       exact ⟨hf.sb, hp⟩
      replace hz20 := ifF hz20 hb21
      obtain rfl := oj hz20
      refine go ?_; intro a hf
      exact ⟨hf.sb, hp⟩
     rintro a w ⟨hf, hp⟩
     refine goT ?_
     refine wp_if hf rfl (fun hb => ?_) (fun hb => ?_)
     ·
      replace h := ifT h hb
      refine go ?_; intro a hf
      exact ⟨_, h, hf.sb, hp⟩
     replace h := ifF h hb
     refine wp_skip ?_
     refine th_n ?_
     exact ⟨_, h, hf.sb, hp⟩
    rintro a w ⟨bit11, h, hf, hp⟩
    unfold f_hard_Cost.j1 at h
    refine wp_seq ?_
    obtain ⟨S7, hp8, rd9, up10, bk11⟩ := Hp.lendO hp (i := 0) rfl
    have rl12 := ((hmessage1.now hp).mono up10)
    have rl13 := ((hmarks2.now hp).mono up10)
    have rl14 := rd9
    obtain ⟨hc15, h⟩ := chk h
    have hc16 : ((IntKind.i64.wrap ((2 : Int) * t33))).toNat ≤ marks2.length := by omega
    have hc17 : marks2.length ≤ marks2.length := by omega
    obtain ⟨q18, hcall19, h⟩ := bnd h
    refine wp_cutN (fun a w => Fr 64 a [(1, vmessage1), (2, vmarks2), (3, optr v1 0), (9, .int .i32 sum9), (12, .int .u32 q18.1), (13, .int .i32 q18.2), (32, .int .i64 (IntKind.i64.wrap (((marks2.length : Int)).tdiv (2 : Int)))), (33, .int .i64 t33)] ∧ Hp S w0 w (Res.obj 27 v1 [.int .i64 cL, .int .u32 cO, .int .u32 cT] :: ow)) ?_ ?_
    ·
     have hp := hp8.same (Same.drew w)
     refine dr_begin' _ (fun w' => ∃ l, Hp S7 w w' l) [] (by kernel_rfl) ?_
     refine dr_takeK 0 _ rfl hf rfl (fun w ⟨_, hp⟩ => st_ldOA (m := 3) (us := [.int .i64 cL, .int .u32 cO, .int .u32 cT]) hf (by decide) (by kernel_rfl) rfl rfl (rl14.ob hp) rfl rfl tk) ⟨_, hp⟩ fun a hf => ?_
     refine dv 1 hf ⟨_, hp⟩ fun a hf => ?_
     refine dv 2 hf ⟨_, hp⟩ fun a hf => ?_
     refine dv 3 hf ⟨_, hp⟩ fun a hf => ?_
     refine dv 4 hf ⟨_, hp⟩ fun a hf => ?_
     refine dv 5 hf ⟨_, hp⟩ fun a hf => ?_
     refine dr_takeK 6 _ rfl hf rfl (fun w ⟨_, hp⟩ => st_cutS (E := (Ek.int .u8)) hf (by decide) Tryz.underlying32 elt34 rfl rfl (rl13.sl hp) (.inr ⟨_, _, rfl, evI rfl hc15.1⟩) (.inl ⟨rfl, rfl⟩) hc16 hc17 tk) ⟨_, hp⟩ fun a hf => ?_
     refine dr_one 7 rfl (by kernel_rfl) ?_
     refine st_call hf (by decide) Tryz.func21 rfl rfl rfl rfl rfl (f_hard_step_c hp _ _ _ _ _ _ _ (RdS.cut rl13 hc16 hc17) hcall19) ?_
     rintro _ w ⟨rfl, hp⟩
     replace hp : Hp _ _ _ (ow) := hp
     refine ⟨_, rfl, fun a hf => ?_⟩
     refine nx hf (fun _ _ => ⟨_, hp⟩) ?_
     refine dv 8 hf ⟨_, hp⟩ fun a hf => ?_
     refine dv 9 hf ⟨_, hp⟩ fun a hf => ?_
     refine dv 10 hf ⟨_, hp⟩ fun a hf => ?_
     refine dv 11 hf ⟨_, hp⟩ fun a hf => ?_
     refine dv 12 hf ⟨_, hp⟩ fun a hf => ?_
     refine dr_end (by kernel_rfl) ?_ _
     have hp := bk11 _ _ hp
     exact ⟨hf.sb, hp⟩
    rintro a w ⟨hf, hp⟩
    refine go ?_; intro a hf
    obtain rfl := oj h
    exact rnd_l ⟨hf.sb, hp⟩
   replace h := ifF h hb
   refine wp_exit ?_
   refine th_e ?_
   obtain rfl := oj h
   have hp : Hp _ _ _ (ow) := (hp.pk [] 1 :)
   exact rnd_r (by simp) ⟨rfl, hf.sb, hp⟩
  clear hl hf hp
  intro e a w hne hO
  obtain ⟨rfl, hf, hp⟩ := hO
  refine ib_same ?_
  refine go ?_; intro a hf
  refine st_conv_ii hf (by decide) (by rw [Tryz.underlying21]; rfl) Tryz.underlying3 rfl rfl fun a _ hf => ?_
  refine go ?_; intro a hf
  obtain rfl := oj h
  exact ⟨rfl, ⟨hf.sb, hp⟩⟩

noncomputable def f_soft_check (cL : Int) (cO : Int) (cT : Int) (l1 : (List ((Fl × Fl) × Bool))) (least2 : Int) : Option Int := ((f_trellis_Code_Check cL cO cT).bind fun q3 => (if (((q3 != (0 : Int)) || (decide ((16384 : Int) < (l1.length : Int)))) || (decide ((l1.length : Int) < least2))) = true then (some (1 : Int)) else ((f_grid_Check l1).bind fun q9 => (some q9.2))))
theorem f_soft_check_c {S : Nat → Prop} {w0 w : World} {ow : List Res} (hp : Hp S w0 w ow) (cL : Int) (cO : Int) (cT : Int) (vl1 : Value) (l1 : (List ((Fl × Fl) × Bool))) (hl1 : RdS (Ek.pair Ek.c128 Ek.bool) S w0 vl1 l1) (least2 : Int) {r : Int} (h : f_soft_check cL cO cT l1 least2 = some r) :
   Calls Tryz.prog 22 #[.agg #[.int .i64 cL, .int .u32 cO, .int .u32 cT], vl1, .int .i64 least2] w (fun e w' => e = .returned (.int .i64 r) ∧ Hp S w0 w' (ow)) := by
  unfold f_soft_check at h
  refine enx (n := 29) Tryz.func22 fun a hf => ?_
  refine wp_mono (Q := fun e a w => e = .ret ∧ Fr 29 a [(6, .int .i64 r)] ∧ Hp S w0 w (ow)) ?_ ?_
  rotate_left
  ·
   rintro e a w ⟨rfl, hf, hp⟩
   exact ret1 hf rfl rfl ⟨rfl, hp⟩
  refine goT ?_
  refine st_boxO (cs := [.int .i64 cL, .int .u32 cO, .int .u32 cT]) hf (by decide) hp rfl rfl rfl ?_
  clear hf; intro a w v1 hf hp0; clear hp; have hp := hp0; clear hp0
  replace hp : Hp _ _ _ (Res.obj 27 v1 [.int .i64 cL, .int .u32 cO, .int .u32 cT] :: ow) := hp
  refine go ?_; intro a hf
  refine st_ldOA (m := 3) (us := [.int .i64 cL, .int .u32 cO, .int .u32 cT]) hf (by decide) (by kernel_rfl) rfl rfl (hp.ob (i := 0) rfl) rfl rfl fun a _ hf => ?_
  obtain ⟨q3, hcall4, h⟩ := bnd h
  refine st_call hf (by decide) Tryz.func24 rfl rfl rfl rfl rfl (f_trellis_Code_Check_c hp _ _ _ hcall4) ?_
  rintro _ w ⟨rfl, hp⟩
  replace hp : Hp _ _ _ (_ :: ow) := hp
  refine ⟨_, rfl, fun a hf => ?_⟩
  refine go ?_; intro a hf
  refine wpList_cut 4 (fun a w => Fr 29 a [(1, vl1), (2, .int .i64 least2), (16, .bool ((q3 != (0 : Int)) || (decide ((16384 : Int) < (l1.length : Int)))))] ∧ Hp S w0 w (Res.obj 27 v1 [.int .i64 cL, .int .u32 cO, .int .u32 cT] :: ow)) ?_ ?_
  ·
   rcases Bool.eq_false_or_eq_true (q3 != (0 : Int)) with hb6 | hb6
   ·
    refine go ?_; intro a hf
    exact ⟨hf.sub ⟨rfl, rfl, (by rw [hb6]; rfl), trivial⟩, hp⟩
   refine go ?_; intro a hf
   refine st_len (E := (Ek.pair Ek.c128 Ek.bool)) hf (by decide) Tryz.underlying33 (wantY hf rfl rfl hb6) rfl (hl1.sl hp) fun a _ hf => ?_
   refine go ?_; intro a hf
   exact ⟨hf.sub ⟨rfl, rfl, (by rw [hb6]; rfl), trivial⟩, hp⟩
  rintro a w ⟨hf, hp⟩
  refine go ?_; intro a hf
  refine wpList_cut 5 (fun a w => Fr 29 a [(1, vl1), (22, .bool (((q3 != (0 : Int)) || (decide ((16384 : Int) < (l1.length : Int)))) || (decide ((l1.length : Int) < least2))))] ∧ Hp S w0 w (Res.obj 27 v1 [.int .i64 cL, .int .u32 cO, .int .u32 cT] :: ow)) ?_ ?_
  ·
   rcases Bool.eq_false_or_eq_true ((q3 != (0 : Int)) || (decide ((16384 : Int) < (l1.length : Int)))) with hb8 | hb8
   ·
    refine go ?_; intro a hf
    exact ⟨hf.sub ⟨rfl, (by rw [hb8]; rfl), trivial⟩, hp⟩
   refine go ?_; intro a hf
   refine st_len (E := (Ek.pair Ek.c128 Ek.bool)) hf (by decide) Tryz.underlying33 (wantY hf rfl rfl hb8) rfl (hl1.sl hp) fun a _ hf => ?_
   refine go ?_; intro a hf
   exact ⟨hf.sub ⟨rfl, (by rw [hb8]; rfl), trivial⟩, hp⟩
  rintro a w ⟨hf, hp⟩
  refine goT ?_
  refine wp_if hf rfl (fun hb => ?_) (fun hb => ?_)
  ·
   replace h := ifT h hb
   refine go ?_; intro a hf
   obtain rfl := oj h
   have hp : Hp _ _ _ (ow) := (hp.pk [] 1 :)
   exact ⟨rfl, ⟨hf.sb, hp⟩⟩
  replace h := ifF h hb
  refine wp_skip ?_
  refine go ?_; intro a hf
  obtain ⟨q9, hcall10, h⟩ := bnd h
  refine st_call hf (by decide) Tryz.func25 rfl rfl rfl rfl rfl (f_grid_Check_c hp _ _ hl1 hcall10) ?_
  rintro _ w ⟨rfl, hp⟩
  replace hp : Hp _ _ _ (_ :: ow) := hp
  refine ⟨_, rfl, fun a hf => ?_⟩
  refine go ?_; intro a hf
  obtain rfl := oj h
  have hp : Hp _ _ _ (ow) := (hp.pk [] 1 :)
  exact ⟨rfl, ⟨hf.sb, hp⟩⟩

noncomputable def f_trellis_Code_States (cL : Int) (cO : Int) (cT : Int) : Option (Int × Int) := ((f_trellis_Code_Check cL cO cT).bind fun q3 => (if (q3 != (0 : Int)) = true then (some ((0 : Int), q3)) else (if 0 ≤ (IntKind.i64.wrap (cL - (1 : Int))) then (some ((ishl .i64 (1 : Int) (IntKind.i64.wrap (cL - (1 : Int)))), (0 : Int))) else none)))
theorem f_trellis_Code_States_c {S : Nat → Prop} {w0 w : World} {ow : List Res} (hp : Hp S w0 w ow) (cL : Int) (cO : Int) (cT : Int) {r : (Int × Int)} (h : f_trellis_Code_States cL cO cT = some r) :
   Calls Tryz.prog 38 #[.agg #[.int .i64 cL, .int .u32 cO, .int .u32 cT]] w (fun e w' => e = .returned (.tuple #[.int .i64 r.1, .int .i64 r.2]) ∧ Hp S w0 w' (ow)) := by
  unfold f_trellis_Code_States at h
  refine enx (n := 14) Tryz.func38 fun a hf => ?_
  refine wp_mono (Q := fun e a w => e = .ret ∧ Fr 14 a [(2, .int .i64 r.1), (3, .int .i64 r.2)] ∧ Hp S w0 w (ow)) ?_ ?_
  rotate_left
  ·
   rintro e a w ⟨rfl, hf, hp⟩
   exact ret2 hf rfl rfl rfl ⟨rfl, hp⟩
  refine goT ?_
  refine st_boxO (cs := [.int .i64 cL, .int .u32 cO, .int .u32 cT]) hf (by decide) hp rfl rfl rfl ?_
  clear hf; intro a w v1 hf hp0; clear hp; have hp := hp0; clear hp0
  replace hp : Hp _ _ _ (Res.obj 27 v1 [.int .i64 cL, .int .u32 cO, .int .u32 cT] :: ow) := hp
  refine go ?_; intro a hf
  refine st_ldOA (m := 3) (us := [.int .i64 cL, .int .u32 cO, .int .u32 cT]) hf (by decide) (by kernel_rfl) rfl rfl (hp.ob (i := 0) rfl) rfl rfl fun a _ hf => ?_
  obtain ⟨q3, hcall4, h⟩ := bnd h
  refine st_call hf (by decide) Tryz.func24 rfl rfl rfl rfl rfl (f_trellis_Code_Check_c hp _ _ _ hcall4) ?_
  rintro _ w ⟨rfl, hp⟩
  replace hp : Hp _ _ _ (_ :: ow) := hp
  refine ⟨_, rfl, fun a hf => ?_⟩
  refine go ?_; intro a hf
  refine wp_if hf rfl (fun hb => ?_) (fun hb => ?_)
  ·
   replace h := ifT h hb
   refine go ?_; intro a hf
   obtain rfl := oj h
   have hp : Hp _ _ _ (ow) := (hp.pk [] 1 :)
   exact ⟨rfl, ⟨hf.sb, hp⟩⟩
  replace h := ifF h hb
  refine wp_skip ?_
  refine goT ?_
  refine st_fa (o' := 0) hf (by decide) (off := 0) (sz := 1) (by kernel_rfl) (by decide) rfl rfl (hp.ob (i := 0) rfl) rfl fun a _ hf => ?_
  refine st_ldO (u := .int .i64 cL) hf (by decide) pl3 rfl rfl (hp.ob (i := 0) rfl) rfl fun a _ hf => ?_
  refine go ?_; intro a hf
  obtain ⟨hc5, h⟩ := chk h
  refine st_ishl hf (by decide) rfl rfl rfl hc5 fun a _ hf => ?_
  refine go ?_; intro a hf
  obtain rfl := oj h
  have hp : Hp _ _ _ (ow) := (hp.pk [] 1 :)
  exact ⟨rfl, ⟨hf.sb, hp⟩⟩

noncomputable def f_trellis_Code_state (cL : Int) (cO : Int) (cT : Int) (n1 : Int) : Option Int := ((f_trellis_Code_States cL cO cT).bind fun q3 => (if (((q3.2 != (0 : Int)) || (decide (n1 < (0 : Int)))) || (decide (q3.1 ≤ n1))) = true then (some (1 : Int)) else (some (0 : Int))))
theorem f_trellis_Code_state_c {S : Nat → Prop} {w0 w : World} {ow : List Res} (hp : Hp S w0 w ow) (cL : Int) (cO : Int) (cT : Int) (n1 : Int) {r : Int} (h : f_trellis_Code_state cL cO cT n1 = some r) :
   Calls Tryz.prog 44 #[.agg #[.int .i64 cL, .int .u32 cO, .int .u32 cT], .int .i64 n1] w (fun e w' => e = .returned (.int .i64 r) ∧ Hp S w0 w' (ow)) := by
  unfold f_trellis_Code_state at h
  refine enx (n := 23) Tryz.func44 fun a hf => ?_
  refine wp_mono (Q := fun e a w => e = .ret ∧ Fr 23 a [(4, .int .i64 r)] ∧ Hp S w0 w (ow)) ?_ ?_
  rotate_left
  ·
   rintro e a w ⟨rfl, hf, hp⟩
   exact ret1 hf rfl rfl ⟨rfl, hp⟩
  refine goT ?_
  refine st_boxO (cs := [.int .i64 cL, .int .u32 cO, .int .u32 cT]) hf (by decide) hp rfl rfl rfl ?_
  clear hf; intro a w v1 hf hp0; clear hp; have hp := hp0; clear hp0
  replace hp : Hp _ _ _ (Res.obj 27 v1 [.int .i64 cL, .int .u32 cO, .int .u32 cT] :: ow) := hp
  refine go ?_; intro a hf
  refine st_ldOA (m := 3) (us := [.int .i64 cL, .int .u32 cO, .int .u32 cT]) hf (by decide) (by kernel_rfl) rfl rfl (hp.ob (i := 0) rfl) rfl rfl fun a _ hf => ?_
  obtain ⟨q3, hcall4, h⟩ := bnd h
  refine st_call hf (by decide) Tryz.func38 rfl rfl rfl rfl rfl (f_trellis_Code_States_c hp _ _ _ hcall4) ?_
  rintro _ w ⟨rfl, hp⟩
  replace hp : Hp _ _ _ (_ :: ow) := hp
  refine ⟨_, rfl, fun a hf => ?_⟩
  refine go ?_; intro a hf
  refine wpList_cut 3 (fun a w => Fr 23 a [(1, .int .i64 n1), (5, .int .i64 q3.1), (17, .bool ((q3.2 != (0 : Int)) || (decide (n1 < (0 : Int)))))] ∧ Hp S w0 w (Res.obj 27 v1 [.int .i64 cL, .int .u32 cO, .int .u32 cT] :: ow)) ?_ ?_
  ·
   rcases Bool.eq_false_or_eq_true (q3.2 != (0 : Int)) with hb6 | hb6
   ·
    refine go ?_; intro a hf
    exact ⟨hf.sub ⟨rfl, rfl, (by rw [hb6]; rfl), trivial⟩, hp⟩
   refine go ?_; intro a hf
   exact ⟨hf.sub ⟨rfl, rfl, (by rw [hb6]; rfl), trivial⟩, hp⟩
  rintro a w ⟨hf, hp⟩
  refine go ?_; intro a hf
  refine wpList_cut 4 (fun a w => Fr 23 a [(22, .bool (((q3.2 != (0 : Int)) || (decide (n1 < (0 : Int)))) || (decide (q3.1 ≤ n1))))] ∧ Hp S w0 w (Res.obj 27 v1 [.int .i64 cL, .int .u32 cO, .int .u32 cT] :: ow)) ?_ ?_
  ·
   rcases Bool.eq_false_or_eq_true ((q3.2 != (0 : Int)) || (decide (n1 < (0 : Int)))) with hb8 | hb8
   ·
    refine go ?_; intro a hf
    exact ⟨hf.sub ⟨(by rw [hb8]; rfl), trivial⟩, hp⟩
   refine go ?_; intro a hf
   exact ⟨hf.sub ⟨(by rw [hb8]; rfl), trivial⟩, hp⟩
  rintro a w ⟨hf, hp⟩
  refine goT ?_
  refine wp_if hf rfl (fun hb => ?_) (fun hb => ?_)
  ·
   replace h := ifT h hb
   refine go ?_; intro a hf
   obtain rfl := oj h
   have hp : Hp _ _ _ (ow) := (hp.pk [] 1 :)
   exact ⟨rfl, ⟨hf.sb, hp⟩⟩
  replace h := ifF h hb
  refine wp_skip ?_
  refine go ?_; intro a hf
  obtain rfl := oj h
  have hp : Hp _ _ _ (ow) := (hp.pk [] 1 :)
  exact ⟨rfl, ⟨hf.sb, hp⟩⟩

noncomputable def f_trellis_Code_Step (cL : Int) (cO : Int) (cT : Int) (state1 : Int) (bit2 : Bool) : Option (Int × Bool × Bool × Int) := ((f_trellis_Code_state cL cO cT state1).bind fun q3 => (if (q3 != (0 : Int)) = true then (some ((0 : Int), false, false, q3)) else ((f_trellis_Code_step cL cO cT state1 bit2).bind fun q5 => (some (q5.1, q5.2.1, q5.2.2, (0 : Int))))))
theorem f_trellis_Code_Step_c {S : Nat → Prop} {w0 w : World} {ow : List Res} (hp : Hp S w0 w ow) (cL : Int) (cO : Int) (cT : Int) (state1 : Int) (bit2 : Bool) {r : (Int × Bool × Bool × Int)} (h : f_trellis_Code_Step cL cO cT state1 bit2 = some r) :
   Calls Tryz.prog 26 #[.agg #[.int .i64 cL, .int .u32 cO, .int .u32 cT], .int .i64 state1, .bool bit2] w (fun e w' => e = .returned (.tuple #[.int .i64 r.1, .bool r.2.1, .bool r.2.2.1, .int .i64 r.2.2.2]) ∧ Hp S w0 w' (ow)) := by
  unfold f_trellis_Code_Step at h
  refine enx (n := 28) Tryz.func26 fun a hf => ?_
  refine wp_mono (Q := fun e a w => e = .ret ∧ Fr 28 a [(6, .int .i64 r.1), (7, .bool r.2.1), (8, .bool r.2.2.1), (9, .int .i64 r.2.2.2)] ∧ Hp S w0 w (ow)) ?_ ?_
  rotate_left
  ·
   rintro e a w ⟨rfl, hf, hp⟩
   exact ret4 hf rfl rfl rfl rfl rfl ⟨rfl, hp⟩
  refine goT ?_
  refine st_boxO (cs := [.int .i64 cL, .int .u32 cO, .int .u32 cT]) hf (by decide) hp rfl rfl rfl ?_
  clear hf; intro a w v1 hf hp0; clear hp; have hp := hp0; clear hp0
  replace hp : Hp _ _ _ (Res.obj 27 v1 [.int .i64 cL, .int .u32 cO, .int .u32 cT] :: ow) := hp
  refine go ?_; intro a hf
  refine st_ldOA (m := 3) (us := [.int .i64 cL, .int .u32 cO, .int .u32 cT]) hf (by decide) (by kernel_rfl) rfl rfl (hp.ob (i := 0) rfl) rfl rfl fun a _ hf => ?_
  refine go ?_; intro a hf
  obtain ⟨q3, hcall4, h⟩ := bnd h
  refine st_call hf (by decide) Tryz.func44 rfl rfl rfl rfl rfl (f_trellis_Code_state_c hp _ _ _ _ hcall4) ?_
  rintro _ w ⟨rfl, hp⟩
  replace hp : Hp _ _ _ (_ :: ow) := hp
  refine ⟨_, rfl, fun a hf => ?_⟩
  refine go ?_; intro a hf
  refine wp_if hf rfl (fun hb => ?_) (fun hb => ?_)
  ·
   replace h := ifT h hb
   refine go ?_; intro a hf
   obtain rfl := oj h
   have hp : Hp _ _ _ (ow) := (hp.pk [] 1 :)
   exact ⟨rfl, ⟨hf.sb, hp⟩⟩
  replace h := ifF h hb
  refine wp_skip ?_
  refine goT ?_
  refine st_ldOA (m := 3) (us := [.int .i64 cL, .int .u32 cO, .int .u32 cT]) hf (by decide) (by kernel_rfl) rfl rfl (hp.ob (i := 0) rfl) rfl rfl fun a _ hf => ?_
  refine go ?_; intro a hf
  obtain ⟨q5, hcall6, h⟩ := bnd h
  refine st_call hf (by decide) Tryz.func17 rfl rfl rfl rfl rfl (f_trellis_Code_step_c hp _ _ _ _ _ hcall6) ?_
  rintro _ w ⟨rfl, hp⟩
  replace hp : Hp _ _ _ (_ :: ow) := hp
  refine ⟨_, rfl, fun a hf => ?_⟩
  refine go ?_; intro a hf
  obtain rfl := oj h
  have hp : Hp _ _ _ (ow) := (hp.pk [] 1 :)
  exact ⟨rfl, ⟨hf.sb, hp⟩⟩

noncomputable def f_soft_cost (one0 : Bool) (two1 : Bool) (sx2_V : (Fl × Fl)) (sx2_Lost : Bool) : Option Fl := (if sx2_Lost = true then (some (Fl.bits 0)) else ((f_soft_sign one0).bind fun q9 => ((farithS .mul q9 sx2_V.1).bind fun q13 => ((f_soft_sign two1).bind fun q15 => ((farithS .mul q15 sx2_V.2).bind fun q19 => ((farithS .add q13 q19).bind fun q21 => ((farithS .mul (Fl.bits 4611686018427387904) q21).bind fun q23 => ((farithS .sub (Fl.bits 4611686018427387904) q23).bind fun q25 => (some q25)))))))))
theorem f_soft_cost_c {S : Nat → Prop} {w0 w : World} {ow : List Res} (hp : Hp S w0 w ow) (one0 : Bool) (two1 : Bool) (bsx2_V csx2_V : Nat) (sx2_V : Fl × Fl) (hsx2_V : sx2_V.1.rep bsx2_V) (ksx2_V : sx2_V.2.rep csx2_V) (sx2_Lost : Bool) {r : Fl} (h : f_soft_cost one0 two1 sx2_V sx2_Lost = some r) :
   Calls Tryz.prog 27 #[.bool one0, .bool two1, .agg #[.complex .f64 bsx2_V csx2_V, .bool sx2_Lost]] w (fun e w' => ∃ (b0 : Nat), e = .returned (.float .f64 b0) ∧ Fl.rep b0 r ∧ Hp S w0 w' (ow)) := by
  unfold f_soft_cost at h
  refine enx (n := 24) Tryz.func27 fun a hf => ?_
  refine wp_mono (Q := fun e a w => e = .ret ∧ ∃ (b0 : Nat), Fr 24 a [(6, .float .f64 b0)] ∧ Fl.rep b0 r ∧ Hp S w0 w (ow)) ?_ ?_
  rotate_left
  ·
   rintro e a w ⟨rfl, x0, hf, y0, hp⟩
   exact ret1 hf rfl rfl ⟨x0, rfl, y0, hp⟩
  refine goT ?_
  refine st_boxO (cs := [.complex .f64 bsx2_V csx2_V, .bool sx2_Lost]) hf (by decide) hp rfl rfl rfl ?_
  clear hf; intro a w v1 hf hp0; clear hp; have hp := hp0; clear hp0
  replace hp : Hp _ _ _ (Res.obj 37 v1 [.complex .f64 bsx2_V csx2_V, .bool sx2_Lost] :: ow) := hp
  refine go ?_; intro a hf
  refine st_fa (o' := 1) hf (by decide) (off := 1) (sz := 1) (by kernel_rfl) (by decide) rfl rfl (hp.ob (i := 0) rfl) rfl fun a _ hf => ?_
  refine st_ldO (u := .bool sx2_Lost) hf (by decide) pl4 rfl rfl (hp.ob (i := 0) rfl) rfl fun a _ hf => ?_
  refine goT ?_
  refine wp_if hf rfl (fun hb => ?_) (fun hb => ?_)
  ·
   replace h := ifT h hb
   refine go ?_; intro a hf
   obtain rfl := oj h
   have hp : Hp _ _ _ (ow) := (hp.pk [] 1 :)
   exact ⟨rfl, ⟨_, hf.sb, rfl, hp⟩⟩
  replace h := ifF h hb
  refine wp_skip ?_
  refine goT ?_
  obtain ⟨S3, hp4, rd5, up6, bk7⟩ := Hp.lendO hp (i := 0) rfl
  have rl8 := rd5
  obtain ⟨q9, hcall10, h⟩ := bnd h
  obtain ⟨q13, hq14, h⟩ := bnd h
  obtain ⟨q15, hcall16, h⟩ := bnd h
  obtain ⟨q19, hq20, h⟩ := bnd h
  obtain ⟨q21, hq22, h⟩ := bnd h
  obtain ⟨q23, hq24, h⟩ := bnd h
  obtain ⟨q25, hq26, h⟩ := bnd h
  refine wp_cutN (fun a w => Fr 24 a [(6, .float .f64 (flb q25))] ∧ Hp S w0 w (Res.obj 37 v1 [.complex .f64 bsx2_V csx2_V, .bool sx2_Lost] :: ow)) ?_ ?_
  ·
   have hp := hp4.same (Same.drew w)
   refine dr_begin' _ (fun w' => ∃ l, Hp S3 w w' l) [] (by kernel_rfl) ?_
   refine dv 0 hf ⟨_, hp⟩ fun a hf => ?_
   refine dr_takeK 2 _ rfl hf rfl (fun w ⟨_, hp⟩ => st_fa (o' := 0) hf (by decide) (off := 0) (sz := 1) (by kernel_rfl) (by decide) rfl rfl (rl8.ob hp) rfl tk) ⟨_, hp⟩ fun a hf => ?_
   refine dr_takeK 3 _ rfl hf rfl (fun w ⟨_, hp⟩ => st_ldO (u := .complex .f64 bsx2_V csx2_V) hf (by decide) pl35 rfl rfl (rl8.ob hp) rfl tk) ⟨_, hp⟩ fun a hf => ?_
   refine dv 4 hf ⟨_, hp⟩ fun a hf => ?_
   refine dv 6 hf ⟨_, hp⟩ fun a hf => ?_
   refine dr_takeK 8 _ rfl hf rfl (fun w ⟨_, hp⟩ => st_fa (o' := 0) hf (by decide) (off := 0) (sz := 1) (by kernel_rfl) (by decide) rfl rfl (rl8.ob hp) rfl tk) ⟨_, hp⟩ fun a hf => ?_
   refine dr_takeK 9 _ rfl hf rfl (fun w ⟨_, hp⟩ => st_ldO (u := .complex .f64 bsx2_V csx2_V) hf (by decide) pl35 rfl rfl (rl8.ob hp) rfl tk) ⟨_, hp⟩ fun a hf => ?_
   refine dv 10 hf ⟨_, hp⟩ fun a hf => ?_
   refine dr_one 1 rfl (by kernel_rfl) ?_
   refine st_call hf (by decide) Tryz.func19 rfl rfl rfl rfl rfl (f_soft_sign_c hp _ hcall10) ?_
   rintro _ w ⟨v11, rfl, y12, hp⟩
   replace hp : Hp _ _ _ (ow) := hp
   refine ⟨_, rfl, fun a hf => ?_⟩
   refine nx hf (fun _ _ => ⟨_, hp⟩) ?_
   refine dr_takeK 5 _ rfl hf rfl (fun w ⟨_, hp⟩ => st_fs (op := .mul) rfl hf (by decide) rfl rfl rfl (show Fl.rep v11 q9 from y12) (show Fl.rep bsx2_V sx2_V.1 from hsx2_V) hq14 tk) ⟨_, hp⟩ fun a hf => ?_
   refine dr_one 7 rfl (by kernel_rfl) ?_
   refine st_call hf (by decide) Tryz.func19 rfl rfl rfl rfl rfl (f_soft_sign_c hp _ hcall16) ?_
   rintro _ w ⟨v17, rfl, y18, hp⟩
   replace hp : Hp _ _ _ (ow) := hp
   refine ⟨_, rfl, fun a hf => ?_⟩
   refine nx hf (fun _ _ => ⟨_, hp⟩) ?_
   refine dr_takeK 11 _ rfl hf rfl (fun w ⟨_, hp⟩ => st_fs (op := .mul) rfl hf (by decide) rfl rfl rfl (show Fl.rep v17 q15 from y18) (show Fl.rep csx2_V sx2_V.2 from ksx2_V) hq20 tk) ⟨_, hp⟩ fun a hf => ?_
   refine dr_takeK 12 _ rfl hf rfl (fun w ⟨_, hp⟩ => st_fs (op := .add) rfl hf (by decide) rfl rfl rfl (show Fl.rep (flb q13) q13 from (farithS_rep hq14)) (show Fl.rep (flb q19) q19 from (farithS_rep hq20)) hq22 tk) ⟨_, hp⟩ fun a hf => ?_
   refine dr_takeK 13 _ rfl hf rfl (fun w ⟨_, hp⟩ => st_fs (op := .mul) rfl hf (by decide) rfl rfl rfl (show Fl.rep 4611686018427387904 (Fl.bits 4611686018427387904) from rfl) (show Fl.rep (flb q21) q21 from (farithS_rep hq22)) hq24 tk) ⟨_, hp⟩ fun a hf => ?_
   refine dr_takeK 14 _ rfl hf rfl (fun w ⟨_, hp⟩ => st_fs (op := .sub) rfl hf (by decide) rfl rfl rfl (show Fl.rep 4611686018427387904 (Fl.bits 4611686018427387904) from rfl) (show Fl.rep (flb q23) q23 from (farithS_rep hq24)) hq26 tk) ⟨_, hp⟩ fun a hf => ?_
   refine dv 15 hf ⟨_, hp⟩ fun a hf => ?_
   refine dr_end (by kernel_rfl) ?_ _
   have hp := bk7 _ _ hp
   exact ⟨hf.sb, hp⟩
  rintro a w ⟨hf, hp⟩
  refine goT ?_
  obtain rfl := oj h
  have hp : Hp _ _ _ (ow) := (hp.pk [] 1 :)
  exact ⟨rfl, ⟨_, hf.sb, (farithS_rep hq26), hp⟩⟩

end Go.Proofs.YtgdhjjdgghilhaaGreat
