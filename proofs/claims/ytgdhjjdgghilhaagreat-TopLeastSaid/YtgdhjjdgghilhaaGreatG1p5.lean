/- The functions foghorn foghorntop.TopLeast: what each answers, as a plain function, and that its call answers it; printed by gen.py. -/
import Derived.Test.YtgdhjjdgghilhaaGreatProg
import Derived.Test.YtgdhjjdgghilhaaGreatGlUi
import Derived.KernelRfl
import Derived.Test.YtgdhjjdgghilhaaGreatG1p4
set_option linter.unusedVariables false
set_option linter.unusedSimpArgs false
set_option maxRecDepth 100000
set_option maxHeartbeats 4000000
namespace Go.Proofs.YtgdhjjdgghilhaaGreat
open GL
noncomputable def f_load_has (bits0 : Int) : Option Bool := ((if ((decide ((0 : Int) ≤ bits0)) && (decide (bits0 ≤ (8 : Int)))) = true then ((f_load_energies).bind fun q6 => (if 0 ≤ bits0 ∧ bits0 < (9 : Int) then (some (decide ((0 : Int) ≤ (gt q6 bits0)))) else none)) else (some false)).bind fun z5 => (some z5))
theorem f_load_has_c {S : Nat → Prop} {w0 w : World} {ow : List Res} (hp : Hp S w0 w ow) (bits0 : Int) {r : Bool} (h : f_load_has bits0 = some r) :
   Calls Tryz.prog 58 #[.int .i64 bits0] w (fun e w' => e = .returned (.bool r) ∧ Hp S w0 w' (ow)) := by
  unfold f_load_has at h
  refine enx (n := 15) Tryz.func58 fun a hf => ?_
  refine wp_mono (Q := fun e a w => e = .ret ∧ Fr 15 a [(2, .bool r)] ∧ Hp S w0 w (ow)) ?_ ?_
  rotate_left
  ·
   rintro e a w ⟨rfl, hf, hp⟩
   exact ret1 hf rfl rfl ⟨rfl, hp⟩
  refine go ?_; intro a hf
  refine wpList_cut 3 (fun a w => Fr 15 a [(0, .int .i64 bits0), (8, .bool ((decide ((0 : Int) ≤ bits0)) && (decide (bits0 ≤ (8 : Int)))))] ∧ Hp S w0 w (ow)) ?_ ?_
  ·
   rcases Bool.eq_false_or_eq_true (decide ((0 : Int) ≤ bits0)) with hb2 | hb2
   ·
    refine go ?_; intro a hf
    exact ⟨hf.sub ⟨rfl, (by rw [hb2]; rfl), trivial⟩, hp⟩
   refine go ?_; intro a hf
   exact ⟨hf.sub ⟨rfl, (by rw [hb2]; rfl), trivial⟩, hp⟩
  rintro a w ⟨hf, hp⟩
  refine go ?_; intro a hf
  obtain ⟨z5, hz3, h⟩ := bnd h
  refine wpList_cut 5 (fun a w => Fr 15 a [(14, .bool z5)] ∧ Hp S w0 w (ow)) ?_ ?_
  ·
   rcases Bool.eq_false_or_eq_true ((decide ((0 : Int) ≤ bits0)) && (decide (bits0 ≤ (8 : Int)))) with hb4 | hb4
   ·
    replace hz3 := ifT hz3 hb4
    obtain ⟨q6, hcall7, hz3⟩ := bnd hz3
    refine st_call hf (by decide) Tryz.func59 rfl rfl (wantY hf rfl rfl hb4) rfl rfl (f_load_energies_c hp  hcall7) ?_
    rintro _ w ⟨v8, rfl, y9, y10, hp⟩
    replace hp : Hp _ _ _ (ow) := hp
    refine ⟨_, rfl, fun a hf => ?_⟩
    refine go ?_; intro a hf
    obtain ⟨hc11, hz3⟩ := chk hz3
    refine st_idxArr hf (by decide) Tryz.underlying130 pl3 (by kernel_rfl) (wantY hf rfl rfl hb4) rfl rfl y9 y10 hc11.1 hc11.2 fun a _ hf => ?_
    obtain rfl := oj hz3
    refine go ?_; intro a hf
    exact ⟨hf.sb, hp⟩
   replace hz3 := ifF hz3 hb4
   obtain rfl := oj hz3
   refine go ?_; intro a hf
   exact ⟨hf.sb, hp⟩
  rintro a w ⟨hf, hp⟩
  refine go ?_; intro a hf
  obtain rfl := oj h
  exact ⟨rfl, ⟨hf.sb, hp⟩⟩

noncomputable def f_load_Cost (weight0 : Int) (bits1 : Int) : Option (Int × Int) := ((f_load_may ([weight0])).bind fun q3 => ((if (!q3) = true then (some true) else ((f_load_has bits1).bind fun q13 => (some (!q13)))).bind fun z12 => (if z12 = true then (some ((0 : Int), (1 : Int))) else ((f_load_energies).bind fun q15 => (if 0 ≤ bits1 ∧ bits1 < (9 : Int) then (some ((IntKind.i64.wrap (weight0 * (gt q15 bits1))), (0 : Int))) else none)))))
theorem f_load_Cost_c {S : Nat → Prop} {w0 w : World} {ow : List Res} (hp : Hp S w0 w ow) (weight0 : Int) (bits1 : Int) {r : (Int × Int)} (h : f_load_Cost weight0 bits1 = some r) :
   Calls Tryz.prog 48 #[.int .i64 weight0, .int .i64 bits1] w (fun e w' => e = .returned (.tuple #[.int .i64 r.1, .int .i64 r.2]) ∧ Hp S w0 w' (ow)) := by
  unfold f_load_Cost at h
  refine enx (n := 20) Tryz.func48 fun a hf => ?_
  refine wp_mono (Q := fun e a w => e = .ret ∧ Fr 20 a [(4, .int .i64 r.1), (5, .int .i64 r.2)] ∧ Hp S w0 w (ow)) ?_ ?_
  rotate_left
  ·
   rintro e a w ⟨rfl, hf, hp⟩
   exact ret2 hf rfl rfl rfl ⟨rfl, hp⟩
  refine go ?_; intro a hf
  refine st_build (E := (Ek.int .i64)) (xs := [weight0]) hf (by decide) elt3 Tryz.underlying24 hp (vals := #[(0, .int .i64 weight0)]) (cells := #[.int .i64 weight0]) rfl (by simp [hf.ev (x := (Operand.tmp 6)) rfl]) (Nat.le_of_ble_eq_true rfl) (Nat.le_of_ble_eq_true rfl) (z := .int .i64 0) (by kernel_rfl) (by kernel_rfl) rfl (reps_cons (cs := [.int .i64 weight0]) rfl (reps_nil _)) ?_
  clear hf; intro a w v1 hf hp0; clear hp; have hp := hp0; clear hp0
  replace hp : Hp _ _ _ (Res.sl (Ek.int .i64) 3 v1 ([weight0]) :: ow) := hp
  obtain ⟨q3, hcall4, h⟩ := bnd h
  obtain ⟨S5, hp6, rd7, up8, bk9⟩ := Hp.lendS hp (i := 0) rfl
  refine st_call hf (by decide) Tryz.func46 rfl rfl rfl rfl rfl (f_load_may_c hp6 _ _ rd7 hcall4) ?_
  rintro _ w ⟨rfl, hp0⟩
  have hp0 := bk9 _ _ hp0
  clear hp; have hp := hp0; clear hp0
  replace hp : Hp _ _ _ (_ :: ow) := hp
  refine ⟨_, rfl, fun a hf => ?_⟩
  refine go ?_; intro a hf
  obtain ⟨z12, hz10, h⟩ := bnd h
  refine wpList_cut 4 (fun a w => Fr 20 a [(0, .int .i64 weight0), (1, .int .i64 bits1), (14, .bool z12)] ∧ Hp S w0 w (Res.sl (Ek.int .i64) 3 v1 ([weight0]) :: ow)) ?_ ?_
  ·
   rcases Bool.eq_false_or_eq_true (!q3) with hb11 | hb11
   ·
    replace hz10 := ifT hz10 hb11
    obtain rfl := oj hz10
    refine go ?_; intro a hf
    exact ⟨hf.sb, hp⟩
   replace hz10 := ifF hz10 hb11
   refine go ?_; intro a hf
   obtain ⟨q13, hcall14, hz10⟩ := bnd hz10
   refine st_call hf (by decide) Tryz.func58 rfl rfl (wantY hf rfl rfl hb11) rfl rfl (f_load_has_c hp _ hcall14) ?_
   rintro _ w ⟨rfl, hp⟩
   replace hp : Hp _ _ _ (_ :: ow) := hp
   refine ⟨_, rfl, fun a hf => ?_⟩
   obtain rfl := oj hz10
   refine go ?_; intro a hf
   exact ⟨hf.sb, hp⟩
  rintro a w ⟨hf, hp⟩
  refine goT ?_
  refine wp_if hf rfl (fun hb => ?_) (fun hb => ?_)
  ·
   replace h := ifT h hb
   refine go ?_; intro a hf
   obtain rfl := oj h
   have hp : Hp _ _ _ (ow) := (hp.pk [] 1 :)
   exact ⟨rfl, ⟨hf.sb, hp⟩⟩
  replace h := ifF h hb
  refine wp_skip ?_
  refine go ?_; intro a hf
  obtain ⟨q15, hcall16, h⟩ := bnd h
  refine st_call hf (by decide) Tryz.func59 rfl rfl rfl rfl rfl (f_load_energies_c hp  hcall16) ?_
  rintro _ w ⟨v17, rfl, y18, y19, hp⟩
  replace hp : Hp _ _ _ (_ :: ow) := hp
  refine ⟨_, rfl, fun a hf => ?_⟩
  refine go ?_; intro a hf
  obtain ⟨hc20, h⟩ := chk h
  refine st_idxArr hf (by decide) Tryz.underlying130 pl3 (by kernel_rfl) rfl rfl rfl y18 y19 hc20.1 hc20.2 fun a _ hf => ?_
  refine go ?_; intro a hf
  obtain rfl := oj h
  have hp : Hp _ _ _ (ow) := (hp.pk [] 1 :)
  exact ⟨rfl, ⟨hf.sb, hp⟩⟩

noncomputable def f_load_Check.s1c (weights0 : (List Int)) (bits1 : (List Int)) (xx6c_0 : (List Int)) (xx6c_1 : Int) (xx6c_2 : Int) (t33 : Int) : Option (((List Int) × Int × Int × Int) ⊕ (((List Int) × Int × Int) ⊕ (((List Int) × Int × Int) × Int))) := (if (decide (t33 < (bits1.length : Int))) = true then (if 0 ≤ t33 ∧ t33 < (bits1.length : Int) then (if 0 ≤ t33 ∧ t33 < (weights0.length : Int) then ((f_load_Cost (gt weights0 t33) (gt bits1 t33)).bind fun q27 => (if (q27.2 != (0 : Int)) = true then (some (Sum.inr (Sum.inr (([], (0 : Int), (0 : Int)), q27.2)))) else (some (Sum.inl (xx6c_0, (IntKind.i64.wrap (xx6c_1 + (gt bits1 t33))), (IntKind.i64.wrap (xx6c_2 + q27.1)), (IntKind.i64.wrap (t33 + (1 : Int)))))))) else none) else none) else (some (Sum.inr (Sum.inl (xx6c_0, xx6c_1, xx6c_2)))))
noncomputable def f_load_Check.s1 (weights0 : (List Int)) (bits1 : (List Int)) (s : ((List Int) × Int × Int × Int)) : Option (((List Int) × Int × Int × Int) ⊕ (((List Int) × Int × Int) ⊕ (((List Int) × Int × Int) × Int))) := f_load_Check.s1c weights0 bits1 s.1 s.2.1 s.2.2.1 s.2.2.2
noncomputable def f_load_Check (weights0 : (List Int)) (bits1 : (List Int)) : Option (((List Int) × Int × Int) × Int) := ((f_load_carriers (weights0.length : Int)).bind fun q3 => ((if (!q3) = true then (some true) else ((f_load_may weights0).bind fun q8 => (some (!q8)))).bind fun z7 => (if (z7 || ((bits1.length : Int) != (weights0.length : Int))) = true then (some (([], (0 : Int), (0 : Int)), (1 : Int))) else ((f_slices_Clone_int_int bits1).bind fun q13 => ((loop (f_load_Check.s1 weights0 bits1) (q13, (0 : Int), (0 : Int), (0 : Int))).bind (fun q30 => sm q30 (fun q31 => (some ((q31.1, q31.2.1, q31.2.2), (0 : Int)))) (fun q32 => (some ((q32.1.1, q32.1.2.1, q32.1.2.2), q32.2)))))))))
theorem f_load_Check_c {S : Nat → Prop} {w0 w : World} {ow : List Res} (hp : Hp S w0 w ow) (vw0 : Value) (weights0 : (List Int)) (hweights0 : RdS (Ek.int .i64) S w0 vw0 weights0) (vbits1 : Value) (bits1 : (List Int)) (hbits1 : RdS (Ek.int .i64) S w0 vbits1 bits1) {r : (((List Int) × Int × Int) × Int)} (h : f_load_Check weights0 bits1 = some r) :
   Calls Tryz.prog 28 #[vw0, vbits1] w (fun e w' => ∃ (u0 : Value), e = .returned (.tuple #[.agg #[u0, .int .i64 r.1.2.1, .int .i64 r.1.2.2], .int .i64 r.2]) ∧ Hp S w0 w' (Res.sl (Ek.int .i64) 3 u0 r.1.1 :: ow)) := by
  unfold f_load_Check at h
  refine enx (n := 63) Tryz.func28 fun a hf => ?_
  refine wp_mono (Q := fun e a w => e = .ret ∧ ∃ (u0 : Value) (c0 : Value), Fr 63 a [(4, optr c0 0), (5, .int .i64 r.2)] ∧ Hp S w0 w (Res.obj 83 c0 [u0, .int .i64 r.1.2.1, .int .i64 r.1.2.2] :: Res.sl (Ek.int .i64) 3 u0 r.1.1 :: ow)) ?_ ?_
  rotate_left
  ·
   rintro e a w ⟨rfl, x0, c0, hf, hp⟩
   exact retG2 hf rfl ⟨_, _, rfl, hp.ob (i := 0) rfl, .inr ⟨by kernel_rfl, rfl⟩⟩ rfl ⟨x0, rfl, hp.drop⟩
  refine goT ?_
  refine st_alloc (cs := [.slice none 0 0, .int .i64 (0 : Int), .int .i64 (0 : Int)]) (zv := .agg #[.slice none 0 0, .int .i64 (0 : Int), .int .i64 (0 : Int)]) hf (by decide) (by kernel_rfl) rfl hp rfl ?_
  clear hf; intro a w v1 hf hp0; clear hp; have hp := hp0; clear hp0
  replace hp : Hp _ _ _ (Res.obj 83 v1 [.slice none 0 0, .int .i64 (0 : Int), .int .i64 (0 : Int)] :: ow) := hp
  refine go ?_; intro a hf
  refine st_len (E := (Ek.int .i64)) hf (by decide) Tryz.underlying24 rfl rfl (hweights0.sl hp) fun a _ hf => ?_
  obtain ⟨q3, hcall4, h⟩ := bnd h
  refine st_call hf (by decide) Tryz.func45 rfl rfl rfl rfl rfl (f_load_carriers_c hp _ hcall4) ?_
  rintro _ w ⟨rfl, hp⟩
  replace hp : Hp _ _ _ (_ :: ow) := hp
  refine ⟨_, rfl, fun a hf => ?_⟩
  refine go ?_; intro a hf
  obtain ⟨z7, hz5, h⟩ := bnd h
  refine wpList_cut 4 (fun a w => Fr 63 a [(0, vw0), (1, vbits1), (4, optr v1 0), (19, .bool z7)] ∧ Hp S w0 w (Res.obj 83 v1 [.slice none 0 0, .int .i64 (0 : Int), .int .i64 (0 : Int)] :: ow)) ?_ ?_
  ·
   rcases Bool.eq_false_or_eq_true (!q3) with hb6 | hb6
   ·
    replace hz5 := ifT hz5 hb6
    obtain rfl := oj hz5
    refine go ?_; intro a hf
    exact ⟨hf.sb, hp⟩
   replace hz5 := ifF hz5 hb6
   refine go ?_; intro a hf
   obtain ⟨q8, hcall9, hz5⟩ := bnd hz5
   refine st_call hf (by decide) Tryz.func46 rfl rfl (wantY hf rfl rfl hb6) rfl rfl (f_load_may_c hp _ _ hweights0 hcall9) ?_
   rintro _ w ⟨rfl, hp⟩
   replace hp : Hp _ _ _ (_ :: ow) := hp
   refine ⟨_, rfl, fun a hf => ?_⟩
   obtain rfl := oj hz5
   refine go ?_; intro a hf
   exact ⟨hf.sb, hp⟩
  rintro a w ⟨hf, hp⟩
  refine go ?_; intro a hf
  refine wpList_cut 6 (fun a w => Fr 63 a [(0, vw0), (1, vbits1), (4, optr v1 0), (26, .bool (z7 || ((bits1.length : Int) != (weights0.length : Int))))] ∧ Hp S w0 w (Res.obj 83 v1 [.slice none 0 0, .int .i64 (0 : Int), .int .i64 (0 : Int)] :: ow)) ?_ ?_
  ·
   rcases Bool.eq_false_or_eq_true z7 with hb11 | hb11
   ·
    refine go ?_; intro a hf
    exact ⟨hf.sub ⟨rfl, rfl, rfl, (by rw [hb11]; rfl), trivial⟩, hp⟩
   refine go ?_; intro a hf
   refine st_len (E := (Ek.int .i64)) hf (by decide) Tryz.underlying24 (wantY hf rfl rfl hb11) rfl (hbits1.sl hp) fun a _ hf => ?_
   refine go ?_; intro a hf
   refine st_len (E := (Ek.int .i64)) hf (by decide) Tryz.underlying24 (wantY hf rfl rfl hb11) rfl (hweights0.sl hp) fun a _ hf => ?_
   refine go ?_; intro a hf
   exact ⟨hf.sub ⟨rfl, rfl, rfl, (by rw [hb11]; rfl), trivial⟩, hp⟩
  rintro a w ⟨hf, hp⟩
  refine goT ?_
  refine wp_if hf rfl (fun hb => ?_) (fun hb => ?_)
  ·
   replace h := ifT h hb
   refine goT ?_
   refine st_buildA (vals := []) (cells := [.slice none 0 0, .int .i64 (0 : Int), .int .i64 (0 : Int)]) hf (by decide) rfl (by simp []) (fun w => by kernel_rfl) fun a _ hf => ?_
   refine st_stO (us := [.slice none 0 0, .int .i64 (0 : Int), .int .i64 (0 : Int)]) hf hp (i := 0) rfl rfl rfl rfl rfl (by rfl) (by kernel_rfl) (Nat.le_of_ble_eq_true rfl) ?_
   clear hf; intro a w hf hp0; clear hp; have hp := hp0; clear hp0
   replace hp : Hp _ _ _ (_ :: ow) := hp
   refine go ?_; intro a hf
   obtain rfl := oj h
   have hp := hp.nil (Ek.int .i64) 3
   have hp : Hp _ _ _ (_ :: Res.sl (Ek.int .i64) 3 (.slice none 0 0) ([]) :: ow) := (hp.pk [1, 0] 2 :)
   exact ⟨rfl, ⟨_, _, hf.sb, hp⟩⟩
  replace h := ifF h hb
  refine wp_skip ?_
  refine go ?_; intro a hf
  obtain ⟨q13, hcall14, h⟩ := bnd h
  refine st_call hf (by decide) Tryz.func47 rfl rfl rfl rfl rfl (f_slices_Clone_int_int_c hp _ _ hbits1 hcall14) ?_
  rintro _ w ⟨v15, rfl, hp⟩
  replace hp : Hp _ _ _ (Res.sl (Ek.int .i64) 3 v15 q13 :: _ :: ow) := hp
  refine ⟨_, rfl, fun a hf => ?_⟩
  refine st_buildA (vals := [(0, v15)]) (cells := [v15, .int .i64 (0 : Int), .int .i64 (0 : Int)]) hf (by decide) rfl (by simp [hf.ev (x := (Operand.tmp 29)) rfl]) (fun w => by obtain ⟨_, _, rfl⟩ := (hp.sl (i := 0) rfl).shapeV; kernel_rfl) fun a _ hf => ?_
  refine st_alloc (cs := [.slice none 0 0, .int .i64 (0 : Int), .int .i64 (0 : Int)]) (zv := .agg #[.slice none 0 0, .int .i64 (0 : Int), .int .i64 (0 : Int)]) hf (by decide) (by kernel_rfl) rfl hp rfl ?_
  clear hf; intro a w v17 hf hp0; clear hp; have hp := hp0; clear hp0
  replace hp : Hp _ _ _ (Res.obj 83 v17 [.slice none 0 0, .int .i64 (0 : Int), .int .i64 (0 : Int)] :: _ :: _ :: ow) := hp
  refine st_stO (us := [v15, .int .i64 (0 : Int), .int .i64 (0 : Int)]) hf hp (i := 0) rfl rfl rfl rfl rfl (by first | rfl | (obtain ⟨_, _, rfl⟩ := (hp.sl (i := 1) rfl).shapeV; rfl)) (by kernel_rfl) (Nat.le_of_ble_eq_true rfl) ?_
  clear hf; intro a w hf hp0; clear hp; have hp := hp0; clear hp0
  replace hp : Hp _ _ _ (Res.obj 83 v17 [v15, .int .i64 (0 : Int), .int .i64 (0 : Int)] :: _ :: _ :: ow) := hp
  refine go ?_; intro a hf
  refine st_len (E := (Ek.int .i64)) hf (by decide) Tryz.underlying24 rfl rfl (hbits1.sl hp) fun a _ hf => ?_
  refine go ?_; intro a hf
  obtain ⟨q30, hl, h⟩ := bnd h
  have hp : Hp _ _ _ (_ :: _ :: _ :: ow) := (hp.pk [1, 0, 2] 3 :)
  refine wp_loop_pure (f := (f_load_Check.s1 weights0 bits1)) (s := (q13, (0 : Int), (0 : Int), (0 : Int))) (fun s a w => ∃ (v19 : Value), Fr 63 a [(0, vw0), (4, optr v1 0), (6, optr v17 0), (31, vbits1), (32, .int .i64 (bits1.length : Int)), (33, .int .i64 s.2.2.2)] ∧ Hp S w0 w (Res.sl (Ek.int .i64) 3 v19 s.1 :: Res.obj 83 v17 [v19, .int .i64 s.2.1, .int .i64 s.2.2.1] :: Res.obj 83 v1 [.slice none 0 0, .int .i64 (0 : Int), .int .i64 (0 : Int)] :: ow)) (fun q e a w => match q with | (Sum.inl q) => e = .exit 0 ∧ ∃ (v22 : Value), Fr 63 a [(4, optr v1 0), (6, optr v17 0)] ∧ Hp S w0 w (Res.sl (Ek.int .i64) 3 v22 q.1 :: Res.obj 83 v17 [v22, .int .i64 q.2.1, .int .i64 q.2.2] :: Res.obj 83 v1 [.slice none 0 0, .int .i64 (0 : Int), .int .i64 (0 : Int)] :: ow) | (Sum.inr q) => e = .ret ∧ ∃ (u0 : Value) (c0 : Value), Fr 63 a [(4, optr c0 0), (5, .int .i64 q.2)] ∧ Hp S w0 w (Res.obj 83 c0 [u0, .int .i64 q.1.2.1, .int .i64 q.1.2.2] :: Res.sl (Ek.int .i64) 3 u0 q.1.1 :: ow)) ?_ hl ⟨_, hf.sb, hp⟩ ?_
  ·
   clear hl hf hp
   intro s x a w h hI
   obtain ⟨xx6c_0, xx6c_1, xx6c_2, t33⟩ := s
   obtain ⟨v19, hf, hp⟩ : ∃ (v19 : Value), Fr 63 a [(0, vw0), (4, optr v1 0), (6, optr v17 0), (31, vbits1), (32, .int .i64 (bits1.length : Int)), (33, .int .i64 t33)] ∧ Hp S w0 w (Res.sl (Ek.int .i64) 3 v19 xx6c_0 :: Res.obj 83 v17 [v19, .int .i64 xx6c_1, .int .i64 xx6c_2] :: Res.obj 83 v1 [.slice none 0 0, .int .i64 (0 : Int), .int .i64 (0 : Int)] :: ow) := hI
   replace h : f_load_Check.s1c weights0 bits1 xx6c_0 xx6c_1 xx6c_2 t33 = some x := h
   unfold f_load_Check.s1c at h
   refine go ?_; intro a hf
   refine wp_if hf rfl (fun hb => ?_) (fun hb => ?_)
   ·
    replace h := ifT h hb
    refine wp_skip ?_
    refine go ?_; intro a hf
    obtain ⟨hc25, h⟩ := chk h
    refine st_index (E := (Ek.int .i64)) hf (by decide) Tryz.underlying24 elt3 rfl rfl rfl (hbits1.sl hp) hc25.1 hc25.2 fun a _ hf => ?_
    refine st_ldI hf (by decide) pl3 rfl rfl (hbits1.sl hp) hc25.1 hc25.2 fun a _ hf => ?_
    refine go ?_; intro a hf
    obtain ⟨hc26, h⟩ := chk h
    refine st_index (E := (Ek.int .i64)) hf (by decide) Tryz.underlying24 elt3 rfl rfl rfl (hweights0.sl hp) hc26.1 hc26.2 fun a _ hf => ?_
    refine st_ldI hf (by decide) pl3 rfl rfl (hweights0.sl hp) hc26.1 hc26.2 fun a _ hf => ?_
    refine go ?_; intro a hf
    obtain ⟨q27, hcall28, h⟩ := bnd h
    refine st_call hf (by decide) Tryz.func48 rfl rfl rfl rfl rfl (f_load_Cost_c hp _ _ hcall28) ?_
    rintro _ w ⟨rfl, hp⟩
    replace hp : Hp _ _ _ (Res.sl (Ek.int .i64) 3 v19 xx6c_0 :: Res.obj 83 v17 [v19, .int .i64 xx6c_1, .int .i64 xx6c_2] :: _ :: ow) := hp
    refine ⟨_, rfl, fun a hf => ?_⟩
    refine go ?_; intro a hf
    refine wp_if hf rfl (fun hb => ?_) (fun hb => ?_)
    ·
     replace h := ifT h hb
     refine goT ?_
     refine st_buildA (vals := []) (cells := [.slice none 0 0, .int .i64 (0 : Int), .int .i64 (0 : Int)]) hf (by decide) rfl (by simp []) (fun w => by kernel_rfl) fun a _ hf => ?_
     refine go ?_; intro a hf
     refine st_stO (us := [.slice none 0 0, .int .i64 (0 : Int), .int .i64 (0 : Int)]) hf hp (i := 2) rfl rfl rfl rfl rfl (by rfl) (by kernel_rfl) (Nat.le_of_ble_eq_true rfl) ?_
     clear hf; intro a w hf hp0; clear hp; have hp := hp0; clear hp0
     replace hp : Hp _ _ _ (_ :: _ :: _ :: ow) := hp
     refine go ?_; intro a hf
     refine ib_r ?_
     refine th_r ?_
     obtain rfl := oj h
     have hp := hp.nil (Ek.int .i64) 3
     have hp : Hp _ _ _ (_ :: Res.sl (Ek.int .i64) 3 (.slice none 0 0) ([]) :: ow) := (hp.pk [3, 0] 4 :)
     exact rnd_r (by simp) ⟨rfl, ⟨_, _, hf.sb, hp⟩⟩
    replace h := ifF h hb
    refine wp_skip ?_
    refine goT ?_
    refine st_fa (o' := 1) hf (by decide) (off := 1) (sz := 1) (by kernel_rfl) (by decide) rfl rfl (hp.ob (i := 1) rfl) rfl fun a _ hf => ?_
    refine st_ldO (u := .int .i64 xx6c_1) hf (by decide) pl3 rfl rfl (hp.ob (i := 1) rfl) rfl fun a _ hf => ?_
    refine go ?_; intro a hf
    refine st_fa (o' := 1) hf (by decide) (off := 1) (sz := 1) (by kernel_rfl) (by decide) rfl rfl (hp.ob (i := 1) rfl) rfl fun a _ hf => ?_
    refine st_stO (us := [.int .i64 (IntKind.i64.wrap (xx6c_1 + (gt bits1 t33)))]) hf hp (i := 1) rfl rfl rfl rfl rfl (by rfl) (by kernel_rfl) (Nat.le_of_ble_eq_true rfl) ?_
    clear hf; intro a w hf hp0; clear hp; have hp := hp0; clear hp0
    replace hp : Hp _ _ _ (Res.sl (Ek.int .i64) 3 v19 xx6c_0 :: Res.obj 83 v17 [v19, .int .i64 (IntKind.i64.wrap (xx6c_1 + (gt bits1 t33))), .int .i64 xx6c_2] :: _ :: ow) := hp
    refine goT ?_
    refine st_fa (o' := 2) hf (by decide) (off := 2) (sz := 1) (by kernel_rfl) (by decide) rfl rfl (hp.ob (i := 1) rfl) rfl fun a _ hf => ?_
    refine st_ldO (u := .int .i64 xx6c_2) hf (by decide) pl3 rfl rfl (hp.ob (i := 1) rfl) rfl fun a _ hf => ?_
    refine go ?_; intro a hf
    refine st_fa (o' := 2) hf (by decide) (off := 2) (sz := 1) (by kernel_rfl) (by decide) rfl rfl (hp.ob (i := 1) rfl) rfl fun a _ hf => ?_
    refine st_stO (us := [.int .i64 (IntKind.i64.wrap (xx6c_2 + q27.1))]) hf hp (i := 1) rfl rfl rfl rfl rfl (by rfl) (by kernel_rfl) (Nat.le_of_ble_eq_true rfl) ?_
    clear hf; intro a w hf hp0; clear hp; have hp := hp0; clear hp0
    replace hp : Hp _ _ _ (_ :: Res.obj 83 v17 [v19, .int .i64 (IntKind.i64.wrap (xx6c_1 + (gt bits1 t33))), .int .i64 (IntKind.i64.wrap (xx6c_2 + q27.1))] :: _ :: ow) := hp
    refine go ?_; intro a hf
    obtain rfl := oj h
    exact rnd_l ⟨_, hf.sb, hp⟩
   replace h := ifF h hb
   refine wp_exit ?_
   refine th_e ?_
   obtain rfl := oj h
   exact rnd_r (by simp) ⟨rfl, _, hf.sb, hp⟩
  clear hl hf hp
  intro e a w hne hO
  rcases q30 with q31 | q32
  ·
   replace h := smL h
   obtain ⟨rfl, v22, hf, hp⟩ := hO
   refine ib_same ?_
   refine goT ?_
   refine st_ldOA (m := 3) (us := [v22, .int .i64 q31.2.1, .int .i64 q31.2.2]) hf (by decide) (by kernel_rfl) rfl rfl (hp.ob (i := 1) rfl) rfl rfl fun a _ hf => ?_
   refine st_stO (us := [v22, .int .i64 q31.2.1, .int .i64 q31.2.2]) hf hp (i := 2) rfl rfl rfl rfl rfl (by first | rfl | (obtain ⟨_, _, rfl⟩ := (hp.sl (i := 0) rfl).shapeV; rfl)) (by kernel_rfl) (Nat.le_of_ble_eq_true rfl) ?_
   clear hf; intro a w hf hp0; clear hp; have hp := hp0; clear hp0
   replace hp : Hp _ _ _ (Res.sl (Ek.int .i64) 3 v22 q31.1 :: Res.obj 83 v17 [v22, .int .i64 q31.2.1, .int .i64 q31.2.2] :: Res.obj 83 v1 [v22, .int .i64 q31.2.1, .int .i64 q31.2.2] :: ow) := hp
   refine go ?_; intro a hf
   obtain rfl := oj h
   have hp : Hp _ _ _ (_ :: _ :: ow) := (hp.pk [2, 0] 3 :)
   exact ⟨rfl, ⟨_, _, hf.sb, hp⟩⟩
  replace h := smR h
  obtain ⟨rfl, x0, c0, hf, hp⟩ := hO
  refine ib_r ?_
  refine th_r ?_
  obtain rfl := oj h
  exact ⟨rfl, ⟨_, _, hf.sb, hp⟩⟩

noncomputable def f_slices_Backward_int_int (sx0 : (List Int)) : Option Unit := (some ())
theorem f_slices_Backward_int_int_c {S : Nat → Prop} {w0 w : World} {ow : List Res} (hp : Hp S w0 w ow) (vsx0 : Value) (sx0 : (List Int)) (hsx0 : RdS (Ek.int .i64) S w0 vsx0 sx0) {r : Unit} (h : f_slices_Backward_int_int sx0 = some r) :
   Calls Tryz.prog 78 #[vsx0] w (fun e w' => ∃ (u0 : Value), e = .returned (.func (.func 84) #[] #[optr u0 0]) ∧ Hp S w0 w' (Res.obj 24 u0 [vsx0] :: ow)) := by
  unfold f_slices_Backward_int_int at h
  refine enx (n := 4) Tryz.func78 fun a hf => ?_
  refine wp_mono (Q := fun e a w => e = .ret ∧ ∃ (u0 : Value), Fr 4 a [(2, .func (.func 84) #[] #[optr u0 0])] ∧ Hp S w0 w (Res.obj 24 u0 [vsx0] :: ow)) ?_ ?_
  rotate_left
  ·
   rintro e a w ⟨rfl, x0, hf, hp⟩
   exact ret1 hf rfl rfl ⟨x0, rfl, hp⟩
  refine goT ?_
  refine st_boxO (cs := [vsx0]) hf (by decide) hp rfl rfl (cells_sha (hsx0.sl hp).shapeV) ?_
  clear hf; intro a w v1 hf hp0; clear hp; have hp := hp0; clear hp0
  replace hp : Hp _ _ _ (Res.obj 24 v1 [vsx0] :: ow) := hp
  refine go ?_; intro a hf
  refine st_makeFunc1 hf (by decide) rfl rfl fun a _ hf => ?_
  refine go ?_; intro a hf
  obtain rfl := oj h
  exact ⟨rfl, ⟨_, hf.sb, hp⟩⟩

noncomputable def f_load_made.s1c (squares1 : Bool) (q18 : (List Int)) (t5cc_1 : (List Int)) (t5cc_2 : (List (List Int))) (n7 : Int) : Option (((List Int) × (List (List Int)) × Int) ⊕ ((List Int) × (List (List Int)))) := (if (decide ((0 : Int) ≤ n7)) = true then (if 0 ≤ n7 ∧ n7 < (9 : Int) then (if ((decide ((0 : Int) ≤ (gt q18 n7))) && ((!squares1) || ((iand .i64 n7 (1 : Int)) == (0 : Int)))) = true then (if (t5cc_1.length + ([n7]).length) * 8 ≤ 140737488355328 then (some (Sum.inl ((t5cc_1 ++ [n7]), t5cc_2, (IntKind.i64.wrap (n7 - (1 : Int)))))) else none) else (some (Sum.inl (t5cc_1, t5cc_2, (IntKind.i64.wrap (n7 - (1 : Int))))))) else none) else (some (Sum.inr (t5cc_1, t5cc_2))))
noncomputable def f_load_made.s1 (squares1 : Bool) (q18 : (List Int)) (s : ((List Int) × (List (List Int)) × Int)) : Option (((List Int) × (List (List Int)) × Int) ⊕ ((List Int) × (List (List Int)))) := f_load_made.s1c squares1 q18 s.1 s.2.1 s.2.2
noncomputable def f_load_made.s3c (t56 : Int) (t5cc_1 : (List Int)) (t5cc_2 : (List (List Int))) (t59 : Int) : Option (((List Int) × (List (List Int)) × Int) ⊕ ((List Int) × (List (List Int)))) := (if (decide (t59 < (2049 : Int))) = true then (if 0 ≤ t56 ∧ t56 < (t5cc_2.length : Int) then (if 0 ≤ t59 ∧ t59 < (2049 : Int) then (some (Sum.inl (t5cc_1, (t5cc_2.set (t56).toNat ((gt t5cc_2 t56).set (t59).toNat (1152921504606846976 : Int))), (IntKind.i64.wrap (t59 + (1 : Int)))))) else none) else none) else (some (Sum.inr (t5cc_1, t5cc_2))))
noncomputable def f_load_made.s3 (t56 : Int) (s : ((List Int) × (List (List Int)) × Int)) : Option (((List Int) × (List (List Int)) × Int) ⊕ ((List Int) × (List (List Int)))) := f_load_made.s3c t56 s.1 s.2.1 s.2.2
noncomputable def f_load_made.s2c (q53 : ((List Int) × (List (List Int)))) (t5cc_1 : (List Int)) (t5cc_2 : (List (List Int))) (t56 : Int) : Option (((List Int) × (List (List Int)) × Int) ⊕ ((List Int) × (List (List Int)))) := (if (decide (t56 < (q53.2.length : Int))) = true then ((loop (f_load_made.s3 t56) (t5cc_1, t5cc_2, (0 : Int))).bind (fun q81 => (some (Sum.inl (q81.1, q81.2, (IntKind.i64.wrap (t56 + (1 : Int)))))))) else (some (Sum.inr (t5cc_1, t5cc_2))))
noncomputable def f_load_made.s2 (q53 : ((List Int) × (List (List Int)))) (s : ((List Int) × (List (List Int)) × Int)) : Option (((List Int) × (List (List Int)) × Int) ⊕ ((List Int) × (List (List Int)))) := f_load_made.s2c q53 s.1 s.2.1 s.2.2
noncomputable def f_load_made.s6c (q18 : (List Int)) (q82 : ((List Int) × (List (List Int)))) (i9 : Int) (y9 : Int) (t5cc_2 : (List (List Int))) (t91 : Int) (t5m11cc_2 : (List (List Int))) (t111m11 : Int) : Option (((List (List Int)) × Int) ⊕ (List (List Int))) := (if (decide (t111m11 < (q82.1.length : Int))) = true then (if 0 ≤ t111m11 ∧ t111m11 < (q82.1.length : Int) then (if 0 ≤ i9 ∧ i9 < (t5m11cc_2.length : Int) then (if 0 ≤ (IntKind.i64.wrap (t91 + (gt q82.1 t111m11))) ∧ (IntKind.i64.wrap (t91 + (gt q82.1 t111m11))) < (2049 : Int) then (if 0 ≤ (gt q82.1 t111m11) ∧ (gt q82.1 t111m11) < (9 : Int) then (if 0 ≤ i9 ∧ i9 < (t5m11cc_2.length : Int) then (if 0 ≤ (IntKind.i64.wrap (t91 + (gt q82.1 t111m11))) ∧ (IntKind.i64.wrap (t91 + (gt q82.1 t111m11))) < (2049 : Int) then (some (Sum.inl ((t5m11cc_2.set (i9).toNat ((gt t5m11cc_2 i9).set ((IntKind.i64.wrap (t91 + (gt q82.1 t111m11)))).toNat (imin (gt (gt t5m11cc_2 i9) (IntKind.i64.wrap (t91 + (gt q82.1 t111m11)))) (IntKind.i64.wrap ((gt (gt t5cc_2 (IntKind.i64.wrap (i9 + (1 : Int)))) t91) + (IntKind.i64.wrap (y9 * (gt q18 (gt q82.1 t111m11))))))))), (IntKind.i64.wrap (t111m11 + (1 : Int)))))) else none) else none) else none) else none) else none) else none) else (some (Sum.inr t5m11cc_2)))
noncomputable def f_load_made.s6 (q18 : (List Int)) (q82 : ((List Int) × (List (List Int)))) (i9 : Int) (y9 : Int) (t5cc_2 : (List (List Int))) (t91 : Int) (s : ((List (List Int)) × Int)) : Option (((List (List Int)) × Int) ⊕ (List (List Int))) := f_load_made.s6c q18 q82 i9 y9 t5cc_2 t91 s.1 s.2
noncomputable def f_load_made.s5c (weights0 : (List Int)) (q18 : (List Int)) (q82 : ((List Int) × (List (List Int)))) (i9 : Int) (y9 : Int) (t5cc_2 : (List (List Int))) (t91 : Int) : Option (((List (List Int)) × Int) ⊕ (List (List Int))) := (if (decide (t91 < (IntKind.i64.wrap ((IntKind.i64.wrap ((8 : Int) * (IntKind.i64.wrap ((IntKind.i64.wrap ((weights0.length : Int) - i9)) - (1 : Int))))) + (1 : Int))))) = true then (if 0 ≤ (IntKind.i64.wrap (i9 + (1 : Int))) ∧ (IntKind.i64.wrap (i9 + (1 : Int))) < (t5cc_2.length : Int) then (if 0 ≤ t91 ∧ t91 < (2049 : Int) then (if ((gt (gt t5cc_2 (IntKind.i64.wrap (i9 + (1 : Int)))) t91) == (1152921504606846976 : Int)) = true then (some (Sum.inl (t5cc_2, (IntKind.i64.wrap (t91 + (1 : Int)))))) else ((loop (f_load_made.s6 q18 q82 i9 y9 t5cc_2 t91) (t5cc_2, (0 : Int))).bind (fun q162 => (some (Sum.inl (q162, (IntKind.i64.wrap (t91 + (1 : Int))))))))) else none) else none) else (some (Sum.inr t5cc_2)))
noncomputable def f_load_made.s5 (weights0 : (List Int)) (q18 : (List Int)) (q82 : ((List Int) × (List (List Int)))) (i9 : Int) (y9 : Int) (s : ((List (List Int)) × Int)) : Option (((List (List Int)) × Int) ⊕ (List (List Int))) := f_load_made.s5c weights0 q18 q82 i9 y9 s.1 s.2
noncomputable def f_load_made.b4 (weights0 : (List Int)) (q18 : (List Int)) (q82 : ((List Int) × (List (List Int)))) (x9 : (List (List Int))) (i9 y9 : Int) : Option (List (List Int)) := ((loop (f_load_made.s5 weights0 q18 q82 i9 y9) (x9, (0 : Int))).bind (fun q163 => (some q163)))
noncomputable def f_load_made (weights0 : (List Int)) (squares1 : Bool) : Option ((List Int) × (List (List Int))) := (if 0 ≤ (IntKind.i64.wrap ((weights0.length : Int) + (1 : Int))) ∧ (IntKind.i64.wrap ((weights0.length : Int) + (1 : Int))) ≤ (IntKind.i64.wrap ((weights0.length : Int) + (1 : Int))) ∧ (IntKind.i64.wrap ((weights0.length : Int) + (1 : Int))) * 16392 ≤ 281474976710656 then ((f_load_energies).bind fun q18 => ((loop (f_load_made.s1 squares1 q18) ([], (List.replicate ((IntKind.i64.wrap ((weights0.length : Int) + (1 : Int)))).toNat (List.replicate 2049 (0 : Int))), (8 : Int))).bind (fun q53 => ((loop (f_load_made.s2 q53) (q53.1, q53.2, (0 : Int))).bind (fun q82 => (if 0 ≤ (weights0.length : Int) ∧ (weights0.length : Int) < (q82.2.length : Int) then ((f_slices_Backward_int_int weights0).bind fun q105 => ((rb (f_load_made.b4 weights0 q18 q82) weights0 weights0.length (q82.2.set ((weights0.length : Int)).toNat ((gt q82.2 (weights0.length : Int)).set ((0 : Int)).toNat (0 : Int)))).bind fun q110 => (some (q82.1, q110)))) else none)))))) else none)
theorem iter84 {ub v : Value} {xs : List Int} : IterB Tryz.prog 84 ub v xs := by
  intro l J W hrd hY h0
  refine enterI (N := 19) (args := [.func (.yield l) #[] #[], optr ub 0]) Tryz.func84 rfl rfl (Nat.le_of_ble_eq_true rfl) fun a hf => ?_
  replace hf : Fr 19 a [(0, .func (.yield l) #[] #[]), (1, optr ub 0)] := hf
  refine wpIn_mono (Q := fun e a w => (e = .ret ∨ e = .normal) ∧ Fr 19 a [] ∧ J 0 w) ?_ ?_
  rotate_left
  ·
   rintro e a w ⟨rfl | rfl, hf, hj⟩
   · exact ret0 hf rfl ⟨⟨_, rfl⟩, hj⟩
   · exact ret0n hf rfl ⟨⟨_, rfl⟩, hj⟩
  refine wpIn_seq ?_
  refine wi_reg WF.wide (by rintro ⟨_, _, h, _⟩; simp at h) rfl ?_
  refine st_ldO (u := v) hf (by decide) pl24 rfl rfl (hrd _ _ h0).1 rfl fun a _ hf => ?_
  refine st_len (E := (Ek.int .i64)) hf (by decide) Tryz.underlying24 rfl rfl (hrd _ _ h0).2 fun a _ hf => ?_
  refine go ?_; intro a hf
  refine wpIn_block ?_
  have hxs : xs.length ≤ 9223372036854775807 := by
   obtain ⟨A, cap, _, h1, h2, _⟩ := (hrd _ _ h0).2
   simp only [maxLen] at h2
   omega
  have hlen : IntKind.i64.wrap ((xs.length : Int) - 1) = (xs.length : Int) - 1 := wrp64 (by omega) (by omega)
  refine wi_loop_pure (f := fun m : Nat => match m with | 0 => some (.inr ()) | m + 1 => some (.inl m)) (s := xs.length) (r := ()) (fun m a w => m ≤ xs.length ∧ J m w ∧ Fr 19 a [(0, .func (.yield l) #[] #[]), (1, optr ub 0), (3, .int .i64 ((m : Int) - 1))]) (fun _ e a w => e = .exit 0 ∧ J 0 w ∧ Fr 19 a []) ?_ ?_ ⟨Nat.le_refl _, h0, by rw [hlen] at hf; exact hf.sb⟩ ?_
  ·
   intro m x a w hfx ⟨hm, hj, hf⟩
   have no : ¬ LetsOut (Rnd (fun (m : Nat) a w => m ≤ xs.length ∧ J m w ∧ Fr 19 a [(0, .func (.yield l) #[] #[]), (1, optr ub 0), (3, .int .i64 ((m : Int) - 1))]) (fun (_ : Unit) e a w => e = .exit 0 ∧ J 0 w ∧ Fr 19 a []) x) := letsOut_rnd fun r => by rintro ⟨_, _, h, _⟩; cases h
   refine wpIn_seq ?_
   refine wpIn_seq ?_
   refine wi_reg WF.wide (letsOut_then (letsOut_then no)) rfl ?_
   refine st_move hf rfl rfl (by decide) fun a _ hf => ?_
   refine st_igeq hf (by decide) rfl rfl rfl fun a _ hf => ?_
   refine st_nil hf ?_
   refine th_n ?_
   refine wi_if hf rfl (fun hb => ?_) (fun hb => ?_)
   ·
    refine wpIn_skip ?_
    refine th_n ?_
    cases m with
    | zero => simp at hb
    | succ m =>
     have e : x = .inl m := by simpa using hfx.symm
     subst e
     have hi : (((m + 1 : Nat) : Int) - 1) = (m : Int) := by omega
     rw [hi] at hf
     have hrm := hrd _ _ hj
     refine wpIn_seq ?_
     refine wpIn_block ?_
     refine wpIn_seq ?_
     refine wi_regL ?_
     refine list_cut WF.wide 6 (fun a w' => w' = w ∧ Fr 19 a [(0, .func (.yield l) #[] #[]), (1, optr ub 0), (3, .int .i64 (m : Int)), (11, .func (.yield l) #[] #[]), (12, .int .i64 (m : Int)), (16, .int .i64 (gt xs (m : Int)))]) rfl ?_ ?_
     ·
      refine go ?_; intro a hf
      refine st_ldO (u := v) hf (by decide) pl24 rfl rfl hrm.1 rfl fun a _ hf => ?_
      refine go ?_; intro a hf
      refine st_index (E := (Ek.int .i64)) hf (by decide) Tryz.underlying24 elt3 rfl rfl rfl hrm.2 (by omega) (by omega) fun a _ hf => ?_
      refine st_ldI hf (by decide) pl3 rfl rfl hrm.2 (by omega) (by omega) fun a _ hf => ?_
      exact st_nil hf ⟨rfl, hf.sb⟩
     ·
      rintro a w' ⟨rfl, hf⟩
      refine st_yield WF.wide hf (by decide) rfl rfl rfl (hY m _ hj (by omega)) ?_
      rintro e w2 ⟨rfl, hj2⟩
      refine ⟨_, rfl, fun a hf => ?_⟩
      refine list_cut WF.wide 1 (fun a w' => w' = w2 ∧ Fr 19 a [(0, .func (.yield l) #[] #[]), (1, optr ub 0), (3, .int .i64 (m : Int)), (18, .bool false)]) rfl ?_ ?_
      ·
       refine go ?_; intro a hf
       exact ⟨rfl, hf.sb⟩
      ·
       rintro a w3 ⟨rfl, hf⟩
       refine th_n ?_
       refine wi_if hf rfl (fun hb => by cases hb) (fun _ => ?_)
       refine wpIn_skip ?_
       refine ib_n ?_
       refine th_n ?_
       refine wi_reg WF.wide no rfl ?_
       refine go ?_; intro a hf
       have hw : IntKind.i64.wrap ((m : Int) - 1) = (m : Int) - 1 := wrp64 (by omega) (by omega)
       exact rnd_l ⟨by omega, hj2, by rw [hw] at hf; exact hf.sb⟩
   ·
    refine wpIn_exit ?_
    refine th_e ?_
    cases m with
    | zero =>
     have e : x = .inr () := by simpa using hfx.symm
     subst e
     exact rnd_r (by simp) ⟨rfl, hj, hf.sub trivial⟩
    | succ m => simp at hb
  ·
   have : ∀ k : Nat, loop (fun m : Nat => match m with | 0 => (some (.inr ()) : Option (Nat ⊕ Unit)) | m + 1 => some (.inl m)) k = some () := by
    intro k
    induction k with
    | zero => exact loop_done rfl
    | succ k ih => rw [loop_step (s' := k) rfl]; exact ih
   exact this _
  ·
   rintro e a w hne ⟨rfl, hj, hf⟩
   exact ib_same ⟨.inr rfl, hf, hj⟩
theorem f_load_made_c {S : Nat → Prop} {w0 w : World} {ow : List Res} (hp : Hp S w0 w ow) (vw0 : Value) (weights0 : (List Int)) (hweights0 : RdS (Ek.int .i64) S w0 vw0 weights0) (squares1 : Bool) {r : ((List Int) × (List (List Int)))} (h : f_load_made weights0 squares1 = some r) :
   Calls Tryz.prog 60 #[vw0, .bool squares1] w (fun e w' => ∃ (u0 : Value) (u1 : Value) (u2 : Value), e = .returned (u0) ∧ Hp S w0 w' (Res.obj 137 u0 [vw0, u1, u2] :: Res.sl (Ek.int .i64) 3 u1 r.1 :: Res.sl (Ek.arr 2049 (Ek.int .i64)) 134 u2 r.2 :: ow)) := by
  unfold f_load_made at h
  refine enterM (N := 147) (args := [vw0, .bool squares1]) Tryz.func60 rfl rfl (Nat.le_of_ble_eq_true rfl) fun a hf => ?_
  replace hf : Fr 147 a [(0, vw0), (1, .bool squares1)] := hf
  refine wp_mono (Q := fun e a w => e = .ret ∧ ∃ D9 l9 o9 a0, a = dd [{ target := .collected D9, args := #[] }] a0 ∧ ∃ (u0 : Value) (u1 : Value) (u2 : Value), Fr 147 a0 [(4, u0)] ∧ Hp S w0 w (Res.obj 137 u0 [vw0, u1, u2] :: Res.sl (Ek.int .i64) 3 u1 r.1 :: Res.sl (Ek.arr 2049 (Ek.int .i64)) 134 u2 r.2 :: Res.raw l9 o9 :: Res.raw D9 (.deferred (some [])) :: ow)) ?_ ?_
  rotate_left
  ·
   rintro e a w ⟨rfl, D9, l9, o9, a0, rfl, x0, x1, x2, hf, hp⟩
   have hp1 := hp.rawPut (.deferred none) (i := 4) rfl
   have hp2 : Hp _ _ _ (Res.obj 137 x0 [vw0, x1, x2] :: Res.sl (Ek.int .i64) 3 x1 r.1 :: Res.sl (Ek.arr 2049 (Ek.int .i64)) 134 x2 r.2 :: ow) := (hp1.pk [0, 1, 2] 5 :)
   exact retM1 hf rfl rfl (hp.rawAt (i := 4) rfl) ⟨x0, x1, x2, rfl, hp2⟩
  refine goT ?_
  refine st_boxO (cs := [vw0]) hf (by decide) hp rfl rfl (cells_sha (hweights0.sl hp).shapeV) ?_
  clear hf; intro a w v1 hf hp0; clear hp; have hp := hp0; clear hp0
  replace hp : Hp _ _ _ (Res.obj 24 v1 [vw0] :: ow) := hp
  refine go ?_; intro a hf
  obtain ⟨S3, hp4, rd5, up6, bk7⟩ := Hp.lendO hp (i := 0) rfl
  have rl8 := ((hweights0.now hp).mono up6)
  have rl9 := rd5
  obtain ⟨hc10, h⟩ := chk h
  refine wp_cutN (fun a w => ∃ (v11 : Value) (v14 : Value) (v16 : Value), Fr 147 a [(1, .bool squares1), (2, optr v1 0), (5, optr v16 0)] ∧ Hp S w0 w (Res.obj 24 v1 [vw0] :: Res.obj 132 v16 [v14] :: Res.obj 137 v14 [vw0, .slice none 0 0, v11] :: Res.sl (Ek.arr 2049 (Ek.int .i64)) 134 v11 (List.replicate ((IntKind.i64.wrap ((weights0.length : Int) + (1 : Int)))).toNat (List.replicate 2049 (0 : Int))) :: ow)) ?_ ?_
  ·
   have hp := hp4.same (Same.drew w)
   refine dr_begin' _ (fun w' => ∃ l, Hp S3 w w' l) [] (by kernel_rfl) ?_
   refine dr_takeK 0 _ rfl hf rfl (fun w ⟨_, hp⟩ => st_ldO (u := vw0) hf (by decide) pl24 rfl rfl (rl9.ob hp) rfl tk) ⟨_, hp⟩ fun a hf => ?_
   refine dr_takeK 1 _ rfl hf rfl (fun w ⟨_, hp⟩ => st_ldO (u := vw0) hf (by decide) pl24 rfl rfl (rl9.ob hp) rfl tk) ⟨_, hp⟩ fun a hf => ?_
   refine dr_takeK 2 _ rfl hf rfl (fun w ⟨_, hp⟩ => st_len (E := (Ek.int .i64)) hf (by decide) Tryz.underlying24 rfl rfl (rl8.sl hp) tk) ⟨_, hp⟩ fun a hf => ?_
   refine dv 3 hf ⟨_, hp⟩ fun a hf => ?_
   refine dr_two 4 7 rfl rfl (by kernel_rfl) ?_ ?_
   ·
    refine st_make (E := (Ek.arr 2049 (Ek.int .i64))) hf (by decide) elt134 Tryz.underlying135 (by decide) hp rfl rfl rfl hc10.1 hc10.2.1 hc10.2.2 ?_
    clear hf; intro a w v11 hf hp0; clear hp; have hp := hp0; clear hp0
    replace hp : Hp _ _ _ (Res.sl (Ek.arr 2049 (Ek.int .i64)) 134 v11 (List.replicate ((IntKind.i64.wrap ((weights0.length : Int) + (1 : Int)))).toNat (List.replicate 2049 (0 : Int))) :: ow) := hp
    have sh13 := (hp.sl (i := 0) rfl).shapeV
    refine nx hf (fun _ _ => ⟨_, hp⟩) ?_
    refine dr_takeK 5 _ rfl hf rfl (fun w ⟨_, hp⟩ => st_buildA (vals := [(0, vw0), (2, v11)]) (cells := [vw0, .slice none 0 0, v11]) hf (by decide) rfl (by simp [hf.ev (x := (Operand.tmp 16)) rfl, hf.ev (x := (Operand.tmp 20)) rfl]) (fun w => by obtain ⟨_, _, rfl⟩ := (rl8.sl hp).shapeV; obtain ⟨_, _, rfl⟩ := sh13; kernel_rfl) tk) ⟨_, hp⟩ fun a hf => ?_
    refine dr_two 6 7 rfl rfl (by kernel_rfl) ?_ ?_
    ·
     refine st_boxO (cs := [vw0, .slice none 0 0, v11]) hf (by decide) hp rfl rfl rfl ?_
     clear hf; intro a w v14 hf hp0; clear hp; have hp := hp0; clear hp0
     replace hp : Hp _ _ _ (Res.obj 137 v14 [vw0, .slice none 0 0, v11] :: _ :: ow) := hp
     rw [hp.eq0] at hf
     refine nx hf (fun _ _ => ⟨_, hp⟩) ?_
     refine dr_one 7 rfl (by kernel_rfl) ?_
     refine st_alloc (cs := [.pointer none]) (zv := .pointer none) hf (by decide) (by kernel_rfl) rfl hp rfl ?_
     clear hf; intro a w v16 hf hp0; clear hp; have hp := hp0; clear hp0
     replace hp : Hp _ _ _ (Res.obj 132 v16 [.pointer none] :: _ :: _ :: ow) := hp
     refine nx hf (fun _ _ => ⟨_, hp⟩) ?_
     refine dr_one 8 rfl (by kernel_rfl) ?_
     refine st_stO (us := [v14]) hf hp (i := 0) rfl rfl rfl rfl (cells_pol (hp.ob (i := 1) rfl)) (ones_po (hp.ob (i := 1) rfl)) (by kernel_rfl) (Nat.le_of_ble_eq_true rfl) ?_
     clear hf; intro a w hf hp0; clear hp; have hp := hp0; clear hp0
     replace hp : Hp _ _ _ (Res.obj 132 v16 [v14] :: _ :: _ :: ow) := hp
     refine nx hf (fun _ _ => ⟨_, hp⟩) ?_
     refine dr_end (by kernel_rfl) ?_ _
     have hp := bk7 _ _ hp
     exact ⟨v11, v14, v16, hf.sb, hp⟩
    ·
     refine st_alloc (cs := [.pointer none]) (zv := .pointer none) hf (by decide) (by kernel_rfl) rfl hp rfl ?_
     clear hf; intro a w v16 hf hp0; clear hp; have hp := hp0; clear hp0
     replace hp : Hp _ _ _ (Res.obj 132 v16 [.pointer none] :: _ :: ow) := hp
     refine nx hf (fun _ _ => ⟨_, hp⟩) ?_
     refine dr_one 6 rfl (by kernel_rfl) ?_
     refine st_boxO (cs := [vw0, .slice none 0 0, v11]) hf (by decide) hp rfl rfl rfl ?_
     clear hf; intro a w v14 hf hp0; clear hp; have hp := hp0; clear hp0
     replace hp : Hp _ _ _ (Res.obj 137 v14 [vw0, .slice none 0 0, v11] :: _ :: _ :: ow) := hp
     rw [hp.eq0] at hf
     refine nx hf (fun _ _ => ⟨_, hp⟩) ?_
     refine dr_one 8 rfl (by kernel_rfl) ?_
     refine st_stO (us := [v14]) hf hp (i := 1) rfl rfl rfl rfl (cells_pol (hp.ob (i := 0) rfl)) (ones_po (hp.ob (i := 0) rfl)) (by kernel_rfl) (Nat.le_of_ble_eq_true rfl) ?_
     clear hf; intro a w hf hp0; clear hp; have hp := hp0; clear hp0
     replace hp : Hp _ _ _ (_ :: Res.obj 132 v16 [v14] :: _ :: ow) := hp
     refine nx hf (fun _ _ => ⟨_, hp⟩) ?_
     refine dr_end (by kernel_rfl) ?_ _
     have hp : Hp _ _ _ (_ :: _ :: _ :: ow) := (hp.pk [1, 0, 2] 3 :)
     have hp := bk7 _ _ hp
     exact ⟨v11, v14, v16, hf.sb, hp⟩
   ·
    refine st_alloc (cs := [.pointer none]) (zv := .pointer none) hf (by decide) (by kernel_rfl) rfl hp rfl ?_
    clear hf; intro a w v16 hf hp0; clear hp; have hp := hp0; clear hp0
    replace hp : Hp _ _ _ (Res.obj 132 v16 [.pointer none] :: ow) := hp
    refine nx hf (fun _ _ => ⟨_, hp⟩) ?_
    refine dr_one 4 rfl (by kernel_rfl) ?_
    refine st_make (E := (Ek.arr 2049 (Ek.int .i64))) hf (by decide) elt134 Tryz.underlying135 (by decide) hp rfl rfl rfl hc10.1 hc10.2.1 hc10.2.2 ?_
    clear hf; intro a w v11 hf hp0; clear hp; have hp := hp0; clear hp0
    replace hp : Hp _ _ _ (Res.sl (Ek.arr 2049 (Ek.int .i64)) 134 v11 (List.replicate ((IntKind.i64.wrap ((weights0.length : Int) + (1 : Int)))).toNat (List.replicate 2049 (0 : Int))) :: _ :: ow) := hp
    have sh13 := (hp.sl (i := 0) rfl).shapeV
    refine nx hf (fun _ _ => ⟨_, hp⟩) ?_
    refine dr_takeK 5 _ rfl hf rfl (fun w ⟨_, hp⟩ => st_buildA (vals := [(0, vw0), (2, v11)]) (cells := [vw0, .slice none 0 0, v11]) hf (by decide) rfl (by simp [hf.ev (x := (Operand.tmp 16)) rfl, hf.ev (x := (Operand.tmp 20)) rfl]) (fun w => by obtain ⟨_, _, rfl⟩ := (rl8.sl hp).shapeV; obtain ⟨_, _, rfl⟩ := sh13; kernel_rfl) tk) ⟨_, hp⟩ fun a hf => ?_
    refine dr_one 6 rfl (by kernel_rfl) ?_
    refine st_boxO (cs := [vw0, .slice none 0 0, v11]) hf (by decide) hp rfl rfl rfl ?_
    clear hf; intro a w v14 hf hp0; clear hp; have hp := hp0; clear hp0
    replace hp : Hp _ _ _ (Res.obj 137 v14 [vw0, .slice none 0 0, v11] :: _ :: _ :: ow) := hp
    rw [hp.eq0] at hf
    refine nx hf (fun _ _ => ⟨_, hp⟩) ?_
    refine dr_one 8 rfl (by kernel_rfl) ?_
    refine st_stO (us := [v14]) hf hp (i := 2) rfl rfl rfl rfl (cells_pol (hp.ob (i := 0) rfl)) (ones_po (hp.ob (i := 0) rfl)) (by kernel_rfl) (Nat.le_of_ble_eq_true rfl) ?_
    clear hf; intro a w hf hp0; clear hp; have hp := hp0; clear hp0
    replace hp : Hp _ _ _ (_ :: _ :: Res.obj 132 v16 [v14] :: ow) := hp
    refine nx hf (fun _ _ => ⟨_, hp⟩) ?_
    refine dr_end (by kernel_rfl) ?_ _
    have hp : Hp _ _ _ (_ :: _ :: _ :: ow) := (hp.pk [2, 0, 1] 3 :)
    have hp := bk7 _ _ hp
    exact ⟨v11, v14, v16, hf.sb, hp⟩
  rintro a w ⟨v11, v14, v16, hf, hp⟩
  refine goT ?_
  obtain ⟨q18, hcall19, h⟩ := bnd h
  refine st_call hf (by decide) Tryz.func59 rfl rfl rfl rfl rfl (f_load_energies_c hp  hcall19) ?_
  rintro _ w ⟨v20, rfl, y21, y22, hp⟩
  replace hp : Hp _ _ _ (Res.obj 24 v1 [vw0] :: _ :: _ :: _ :: ow) := hp
  refine ⟨_, rfl, fun a hf => ?_⟩
  refine st_allocA (E := (Ek.int .i64)) (N := 9) (zs := List.replicate 9 (0 : Int)) (zv := .agg ((List.replicate 9 ([.int .i64 0] : List Value)).flatten).toArray) hf (by decide) (by decide) (by decide) (by kernel_rfl) (reps_replicate (E := (Ek.int .i64)) (vs := ([.int .i64 0] : List Value)) (x := (0 : Int)) rfl 9) (by simp) hp rfl ?_
  clear hf; intro a w v23 hf hp0; clear hp; have hp := hp0; clear hp0
  replace hp : Hp _ _ _ (Res.sl (Ek.int .i64) 130 (aslv v23 9) (List.replicate 9 (0 : Int)) :: _ :: _ :: _ :: _ :: ow) := hp
  refine st_stArr hf hp (m := 0) rfl (by decide) rfl rfl rfl y21 y22 (by kernel_rfl) ?_
  clear hf; intro a w hf hp0; clear hp; have hp := hp0; clear hp0
  replace hp : Hp _ _ _ (Res.sl (Ek.int .i64) 130 (aslv v23 9) q18 :: _ :: _ :: _ :: _ :: ow) := hp
  refine go ?_; intro a hf
  obtain ⟨q53, hl, h⟩ := bnd h
  have hp := hp.nil (Ek.int .i64) 3
  have hp : Hp _ _ _ (Res.sl (Ek.int .i64) 3 (.slice none 0 0) ([]) :: _ :: _ :: _ :: _ :: _ :: ow) := (hp.pk [0, 5, 4, 3, 2, 1] 6 :)
  refine wp_loop_pure (f := (f_load_made.s1 squares1 q18)) (s := ([], (List.replicate ((IntKind.i64.wrap ((weights0.length : Int) + (1 : Int)))).toNat (List.replicate 2049 (0 : Int))), (8 : Int))) (fun s a w => ∃ (v25 : Value) (v27 : Value), Fr 147 a [(1, .bool squares1), (2, optr v1 0), (5, optr v16 0), (6, v23), (7, .int .i64 s.2.2)] ∧ Hp S w0 w (Res.sl (Ek.int .i64) 3 v25 s.1 :: Res.sl (Ek.arr 2049 (Ek.int .i64)) 134 v27 s.2.1 :: Res.obj 137 v14 [vw0, v25, v27] :: Res.obj 132 v16 [v14] :: Res.obj 24 v1 [vw0] :: Res.sl (Ek.int .i64) 130 (aslv v23 9) q18 :: ow)) (fun q e a w => e = .exit 0 ∧ ∃ (v31 : Value) (v33 : Value), Fr 147 a [(2, optr v1 0), (5, optr v16 0), (6, v23)] ∧ Hp S w0 w (Res.sl (Ek.int .i64) 3 v31 q.1 :: Res.sl (Ek.arr 2049 (Ek.int .i64)) 134 v33 q.2 :: Res.obj 137 v14 [vw0, v31, v33] :: Res.obj 132 v16 [v14] :: Res.obj 24 v1 [vw0] :: Res.sl (Ek.int .i64) 130 (aslv v23 9) q18 :: ow)) ?_ hl ⟨_, _, hf.sb, hp⟩ ?_
  ·
   clear hl hf hp
   intro s x a w h hI
   obtain ⟨t5cc_1, t5cc_2, n7⟩ := s
   obtain ⟨v25, v27, hf, hp⟩ : ∃ (v25 : Value) (v27 : Value), Fr 147 a [(1, .bool squares1), (2, optr v1 0), (5, optr v16 0), (6, v23), (7, .int .i64 n7)] ∧ Hp S w0 w (Res.sl (Ek.int .i64) 3 v25 t5cc_1 :: Res.sl (Ek.arr 2049 (Ek.int .i64)) 134 v27 t5cc_2 :: Res.obj 137 v14 [vw0, v25, v27] :: Res.obj 132 v16 [v14] :: Res.obj 24 v1 [vw0] :: Res.sl (Ek.int .i64) 130 (aslv v23 9) q18 :: ow) := hI
   replace h : f_load_made.s1c squares1 q18 t5cc_1 t5cc_2 n7 = some x := h
   unfold f_load_made.s1c at h
   refine go ?_; intro a hf
   refine wp_if hf rfl (fun hb => ?_) (fun hb => ?_)
   ·
    replace h := ifT h hb
    refine wp_skip ?_
    refine go ?_; intro a hf
    obtain ⟨hc37, h⟩ := chk h
    refine st_iaA (E := (Ek.int .i64)) (N := 9) hf (by decide) Tryz.underlying130 (by kernel_rfl) rfl rfl rfl (hp.sl (i := 5) rfl) rfl hc37.1 hc37.2 fun a _ hf => ?_
    refine st_ldI hf (by decide) pl3 rfl rfl (hp.sl (i := 5) rfl) (aslv_ix (hp.sl (i := 5) rfl) hc37).1 (aslv_ix (hp.sl (i := 5) rfl) hc37).2 fun a _ hf => ?_
    refine go ?_; intro a hf
    refine wpList_cut 8 (fun a w => Fr 147 a [(1, .bool squares1), (2, optr v1 0), (5, optr v16 0), (6, v23), (7, .int .i64 n7), (40, .bool ((decide ((0 : Int) ≤ (gt q18 n7))) && ((!squares1) || ((iand .i64 n7 (1 : Int)) == (0 : Int)))))] ∧ Hp S w0 w (Res.sl (Ek.int .i64) 3 v25 t5cc_1 :: Res.sl (Ek.arr 2049 (Ek.int .i64)) 134 v27 t5cc_2 :: Res.obj 137 v14 [vw0, v25, v27] :: Res.obj 132 v16 [v14] :: Res.obj 24 v1 [vw0] :: Res.sl (Ek.int .i64) 130 (aslv v23 9) q18 :: ow)) ?_ ?_
    ·
     rcases Bool.eq_false_or_eq_true (decide ((0 : Int) ≤ (gt q18 n7))) with hb40 | hb40
     ·
      refine go ?_; intro a hf
      refine wpList_cut 4 (fun a w => Fr 147 a [(1, .bool squares1), (2, optr v1 0), (5, optr v16 0), (6, v23), (7, .int .i64 n7), (32, .bool (decide ((0 : Int) ≤ (gt q18 n7)))), (39, .bool ((!squares1) || ((iand .i64 n7 (1 : Int)) == (0 : Int))))] ∧ Hp S w0 w (Res.sl (Ek.int .i64) 3 v25 t5cc_1 :: Res.sl (Ek.arr 2049 (Ek.int .i64)) 134 v27 t5cc_2 :: Res.obj 137 v14 [vw0, v25, v27] :: Res.obj 132 v16 [v14] :: Res.obj 24 v1 [vw0] :: Res.sl (Ek.int .i64) 130 (aslv v23 9) q18 :: ow)) ?_ ?_
      ·
       rcases Bool.eq_false_or_eq_true (!squares1) with hb42 | hb42
       ·
        refine go ?_; intro a hf
        exact ⟨hf.sub ⟨rfl, rfl, rfl, rfl, rfl, rfl, (by rw [hb42]; rfl), trivial⟩, hp⟩
       refine go ?_; intro a hf
       exact ⟨hf.sub ⟨rfl, rfl, rfl, rfl, rfl, rfl, (by rw [hb42]; rfl), trivial⟩, hp⟩
      rintro a w ⟨hf, hp⟩
      refine go ?_; intro a hf
      exact ⟨hf.sub ⟨rfl, rfl, rfl, rfl, rfl, (by rw [hb40]; rfl), trivial⟩, hp⟩
     refine st_skip hf (wantN hf rfl rfl hb40) rfl (by decide) ?_ rfl
     clear hf; intro a hf
     refine st_skip hf (wantN hf rfl rfl hb40) rfl (by decide) ?_ rfl
     clear hf; intro a hf
     refine st_skipU hf (wantN hf rfl rfl hb40) rfl (by decide) ?_
     clear hf; intro a hf
     refine st_skip hf (wantU hf rfl rfl) rfl (by decide) ?_ rfl
     clear hf; intro a hf
     refine st_skip hf (wantU hf rfl rfl) rfl (by decide) ?_ rfl
     clear hf; intro a hf
     refine st_skip hf (wantU hf rfl rfl) rfl (by decide) ?_ rfl
     clear hf; intro a hf
     refine go ?_; intro a hf
     exact ⟨hf.sub ⟨rfl, rfl, rfl, rfl, rfl, (by rw [hb40]; rfl), trivial⟩, hp⟩
    rintro a w ⟨hf, hp⟩
    refine goT ?_
    refine wp_if hf rfl (fun hb => ?_) (fun hb => ?_)
    ·
     replace h := ifT h hb
     obtain ⟨S43, hp44, rd45, up46, bk47⟩ := Hp.lendO hp (i := 3) rfl
     have rl48 := rd45
     obtain ⟨hc51, h⟩ := chk h
     refine wp_cutN (fun a w => ∃ (v49 : Value) (v52 : Value), Fr 147 a [(1, .bool squares1), (2, optr v1 0), (5, optr v16 0), (6, v23), (7, .int .i64 n7)] ∧ Hp S w0 w (Res.obj 132 v16 [v14] :: Res.sl (Ek.int .i64) 3 v49 ([n7]) :: Res.sl (Ek.int .i64) 3 v52 (t5cc_1 ++ [n7]) :: Res.sl (Ek.arr 2049 (Ek.int .i64)) 134 v27 t5cc_2 :: Res.obj 137 v14 [vw0, v52, v27] :: Res.obj 24 v1 [vw0] :: Res.sl (Ek.int .i64) 130 (aslv v23 9) q18 :: ow)) ?_ ?_
     ·
      have hp := hp44.same (Same.drew w)
      refine dr_begin' _ (fun w' => ∃ l, Hp S43 w w' l) [] (by kernel_rfl) ?_
      refine dr_takeK 0 _ rfl hf rfl (fun w ⟨_, hp⟩ => st_ldO (u := v14) hf (by decide) pl132 rfl rfl (rl48.ob hp) rfl tk) ⟨_, hp⟩ fun a hf => ?_
      refine dr_takeK 1 _ rfl hf rfl (fun w ⟨_, hp⟩ => st_ldO (u := v14) hf (by decide) pl132 rfl rfl (rl48.ob hp) rfl tk) ⟨_, hp⟩ fun a hf => ?_
      refine dr_nilV 2 rfl (by kernel_rfl) (by kernel_rfl) (by kernel_rfl) hf (by decide) rfl rfl (hp.ob (i := 2) rfl) ?_
      clear hf; intro a hf
      refine dv 5 hf ⟨_, hp⟩ fun a hf => ?_
      refine dr_two 3 6 rfl rfl (by kernel_rfl) ?_ ?_
      ·
       refine st_fa (o' := 1) hf (by decide) (off := 1) (sz := 1) (by kernel_rfl) (by decide) rfl rfl (hp.ob (i := 2) rfl) rfl fun a _ hf => ?_
       refine nx hf (fun _ _ => ⟨_, hp⟩) ?_
       refine dr_two 4 6 rfl rfl (by kernel_rfl) ?_ ?_
       ·
        refine st_ldO (u := v25) hf (by decide) pl24 rfl rfl (hp.ob (i := 2) rfl) rfl fun a _ hf => ?_
        refine nx hf (fun _ _ => ⟨_, hp⟩) ?_
        refine dr_one 6 rfl (by kernel_rfl) ?_
        refine st_build (E := (Ek.int .i64)) (xs := [n7]) hf (by decide) elt3 Tryz.underlying24 hp (vals := #[(0, .int .i64 n7)]) (cells := #[.int .i64 n7]) rfl (by simp [hf.ev (x := (Operand.tmp 46)) rfl]) (Nat.le_of_ble_eq_true rfl) (Nat.le_of_ble_eq_true rfl) (z := .int .i64 0) (by kernel_rfl) (by kernel_rfl) rfl (reps_cons (cs := [.int .i64 n7]) rfl (reps_nil _)) ?_
        clear hf; intro a w v49 hf hp0; clear hp; have hp := hp0; clear hp0
        replace hp : Hp _ _ _ (Res.sl (Ek.int .i64) 3 v49 ([n7]) :: Res.sl (Ek.int .i64) 3 v25 t5cc_1 :: Res.sl (Ek.arr 2049 (Ek.int .i64)) 134 v27 t5cc_2 :: Res.obj 137 v14 [vw0, v25, v27] :: _ :: _ :: ow) := hp
        refine nx hf (fun _ _ => ⟨_, hp⟩) ?_
        refine dr_one 7 rfl (by kernel_rfl) ?_
        refine st_append (E := (Ek.int .i64)) hf (by decide) elt3 Tryz.underlying24 (by decide) hp (i := 1) rfl rfl rfl rfl (hp.sl (i := 0) rfl) hc51 ?_
        clear hf; intro a w v52 hf hp0; clear hp; have hp := hp0; clear hp0
        replace hp : Hp _ _ _ (_ :: Res.sl (Ek.int .i64) 3 v52 (t5cc_1 ++ [n7]) :: _ :: _ :: _ :: _ :: ow) := hp
        refine nx hf (fun _ _ => ⟨_, hp⟩) ?_
        refine dr_nilV 8 rfl (by kernel_rfl) (by kernel_rfl) (by kernel_rfl) hf (by decide) rfl rfl (hp.ob (i := 3) rfl) ?_
        clear hf; intro a hf
        refine dr_one 9 rfl (by kernel_rfl) ?_
        refine st_fa (o' := 1) hf (by decide) (off := 1) (sz := 1) (by kernel_rfl) (by decide) rfl rfl (hp.ob (i := 3) rfl) rfl fun a _ hf => ?_
        refine nx hf (fun _ _ => ⟨_, hp⟩) ?_
        refine dr_one 10 rfl (by kernel_rfl) ?_
        refine st_stO (us := [v52]) hf hp (i := 3) rfl rfl rfl rfl (cells_sh (hp.sl (i := 1) rfl).shapeV) (ones_sh (hp.sl (i := 1) rfl).shapeV) (by kernel_rfl) (Nat.le_of_ble_eq_true rfl) ?_
        clear hf; intro a w hf hp0; clear hp; have hp := hp0; clear hp0
        replace hp : Hp _ _ _ (_ :: _ :: _ :: Res.obj 137 v14 [vw0, v52, v27] :: _ :: _ :: ow) := hp
        refine nx hf (fun _ _ => ⟨_, hp⟩) ?_
        refine dr_end (by kernel_rfl) ?_ _
        have hp := bk47 _ _ hp
        exact ⟨v49, v52, hf.sb, hp⟩
       ·
        refine st_build (E := (Ek.int .i64)) (xs := [n7]) hf (by decide) elt3 Tryz.underlying24 hp (vals := #[(0, .int .i64 n7)]) (cells := #[.int .i64 n7]) rfl (by simp [hf.ev (x := (Operand.tmp 46)) rfl]) (Nat.le_of_ble_eq_true rfl) (Nat.le_of_ble_eq_true rfl) (z := .int .i64 0) (by kernel_rfl) (by kernel_rfl) rfl (reps_cons (cs := [.int .i64 n7]) rfl (reps_nil _)) ?_
        clear hf; intro a w v49 hf hp0; clear hp; have hp := hp0; clear hp0
        replace hp : Hp _ _ _ (_ :: Res.sl (Ek.int .i64) 3 v25 t5cc_1 :: _ :: Res.obj 137 v14 [vw0, v25, v27] :: _ :: _ :: ow) := hp
        refine nx hf (fun _ _ => ⟨_, hp⟩) ?_
        refine dr_one 4 rfl (by kernel_rfl) ?_
        refine st_ldO (u := v25) hf (by decide) pl24 rfl rfl (hp.ob (i := 3) rfl) rfl fun a _ hf => ?_
        refine nx hf (fun _ _ => ⟨_, hp⟩) ?_
        refine dr_one 7 rfl (by kernel_rfl) ?_
        refine st_append (E := (Ek.int .i64)) hf (by decide) elt3 Tryz.underlying24 (by decide) hp (i := 1) rfl rfl rfl rfl (hp.sl (i := 0) rfl) hc51 ?_
        clear hf; intro a w v52 hf hp0; clear hp; have hp := hp0; clear hp0
        replace hp : Hp _ _ _ (_ :: Res.sl (Ek.int .i64) 3 v52 (t5cc_1 ++ [n7]) :: _ :: _ :: _ :: _ :: ow) := hp
        refine nx hf (fun _ _ => ⟨_, hp⟩) ?_
        refine dr_nilV 8 rfl (by kernel_rfl) (by kernel_rfl) (by kernel_rfl) hf (by decide) rfl rfl (hp.ob (i := 3) rfl) ?_
        clear hf; intro a hf
        refine dr_one 9 rfl (by kernel_rfl) ?_
        refine st_fa (o' := 1) hf (by decide) (off := 1) (sz := 1) (by kernel_rfl) (by decide) rfl rfl (hp.ob (i := 3) rfl) rfl fun a _ hf => ?_
        refine nx hf (fun _ _ => ⟨_, hp⟩) ?_
        refine dr_one 10 rfl (by kernel_rfl) ?_
        refine st_stO (us := [v52]) hf hp (i := 3) rfl rfl rfl rfl (cells_sh (hp.sl (i := 1) rfl).shapeV) (ones_sh (hp.sl (i := 1) rfl).shapeV) (by kernel_rfl) (Nat.le_of_ble_eq_true rfl) ?_
        clear hf; intro a w hf hp0; clear hp; have hp := hp0; clear hp0
        replace hp : Hp _ _ _ (_ :: _ :: _ :: Res.obj 137 v14 [vw0, v52, v27] :: _ :: _ :: ow) := hp
        refine nx hf (fun _ _ => ⟨_, hp⟩) ?_
        refine dr_end (by kernel_rfl) ?_ _
        have hp := bk47 _ _ hp
        exact ⟨v49, v52, hf.sb, hp⟩
      ·
       refine st_build (E := (Ek.int .i64)) (xs := [n7]) hf (by decide) elt3 Tryz.underlying24 hp (vals := #[(0, .int .i64 n7)]) (cells := #[.int .i64 n7]) rfl (by simp [hf.ev (x := (Operand.tmp 46)) rfl]) (Nat.le_of_ble_eq_true rfl) (Nat.le_of_ble_eq_true rfl) (z := .int .i64 0) (by kernel_rfl) (by kernel_rfl) rfl (reps_cons (cs := [.int .i64 n7]) rfl (reps_nil _)) ?_
       clear hf; intro a w v49 hf hp0; clear hp; have hp := hp0; clear hp0
       replace hp : Hp _ _ _ (_ :: Res.sl (Ek.int .i64) 3 v25 t5cc_1 :: _ :: Res.obj 137 v14 [vw0, v25, v27] :: _ :: _ :: ow) := hp
       refine nx hf (fun _ _ => ⟨_, hp⟩) ?_
       refine dr_one 3 rfl (by kernel_rfl) ?_
       refine st_fa (o' := 1) hf (by decide) (off := 1) (sz := 1) (by kernel_rfl) (by decide) rfl rfl (hp.ob (i := 3) rfl) rfl fun a _ hf => ?_
       refine nx hf (fun _ _ => ⟨_, hp⟩) ?_
       refine dr_one 4 rfl (by kernel_rfl) ?_
       refine st_ldO (u := v25) hf (by decide) pl24 rfl rfl (hp.ob (i := 3) rfl) rfl fun a _ hf => ?_
       refine nx hf (fun _ _ => ⟨_, hp⟩) ?_
       refine dr_one 7 rfl (by kernel_rfl) ?_
       refine st_append (E := (Ek.int .i64)) hf (by decide) elt3 Tryz.underlying24 (by decide) hp (i := 1) rfl rfl rfl rfl (hp.sl (i := 0) rfl) hc51 ?_
       clear hf; intro a w v52 hf hp0; clear hp; have hp := hp0; clear hp0
       replace hp : Hp _ _ _ (_ :: Res.sl (Ek.int .i64) 3 v52 (t5cc_1 ++ [n7]) :: _ :: _ :: _ :: _ :: ow) := hp
       refine nx hf (fun _ _ => ⟨_, hp⟩) ?_
       refine dr_nilV 8 rfl (by kernel_rfl) (by kernel_rfl) (by kernel_rfl) hf (by decide) rfl rfl (hp.ob (i := 3) rfl) ?_
       clear hf; intro a hf
       refine dr_one 9 rfl (by kernel_rfl) ?_
       refine st_fa (o' := 1) hf (by decide) (off := 1) (sz := 1) (by kernel_rfl) (by decide) rfl rfl (hp.ob (i := 3) rfl) rfl fun a _ hf => ?_
       refine nx hf (fun _ _ => ⟨_, hp⟩) ?_
       refine dr_one 10 rfl (by kernel_rfl) ?_
       refine st_stO (us := [v52]) hf hp (i := 3) rfl rfl rfl rfl (cells_sh (hp.sl (i := 1) rfl).shapeV) (ones_sh (hp.sl (i := 1) rfl).shapeV) (by kernel_rfl) (Nat.le_of_ble_eq_true rfl) ?_
       clear hf; intro a w hf hp0; clear hp; have hp := hp0; clear hp0
       replace hp : Hp _ _ _ (_ :: _ :: _ :: Res.obj 137 v14 [vw0, v52, v27] :: _ :: _ :: ow) := hp
       refine nx hf (fun _ _ => ⟨_, hp⟩) ?_
       refine dr_end (by kernel_rfl) ?_ _
       have hp := bk47 _ _ hp
       exact ⟨v49, v52, hf.sb, hp⟩
     rintro a w ⟨v49, v52, hf, hp⟩
     refine go ?_; intro a hf
     obtain rfl := oj h
     have hp : Hp _ _ _ (_ :: _ :: _ :: Res.obj 132 v16 [v14] :: _ :: _ :: ow) := (hp.pk [2, 3, 4, 0, 5, 6] 7 :)
     exact rnd_l ⟨_, _, hf.sb, hp⟩
    replace h := ifF h hb
    refine wp_skip ?_
    refine go ?_; intro a hf
    obtain rfl := oj h
    exact rnd_l ⟨_, _, hf.sb, hp⟩
   replace h := ifF h hb
   refine wp_exit ?_
   refine th_e ?_
   obtain rfl := oj h
   exact rnd_r (by simp) ⟨rfl, _, _, hf.sb, hp⟩
  clear hl hf hp
  intro e a w hne hO
  obtain ⟨rfl, v31, v33, hf, hp⟩ := hO
  refine ib_same ?_
  refine goT ?_
  refine st_ldO (u := v14) hf (by decide) pl132 rfl rfl (hp.ob (i := 3) rfl) rfl fun a _ hf => ?_
  refine st_nilV hf (by decide) rfl rfl (hp.ob (i := 2) rfl) fun a _ hf => ?_
  refine st_fa (o' := 2) hf (by decide) (off := 2) (sz := 1) (by kernel_rfl) (by decide) rfl rfl (hp.ob (i := 2) rfl) rfl fun a _ hf => ?_
  refine st_ldO (u := v33) hf (by decide) pl135 rfl rfl (hp.ob (i := 2) rfl) rfl fun a _ hf => ?_
  refine st_len (E := (Ek.arr 2049 (Ek.int .i64))) hf (by decide) Tryz.underlying135 rfl rfl (hp.sl (i := 1) rfl) fun a _ hf => ?_
  refine go ?_; intro a hf
  obtain ⟨q82, hl, h⟩ := bnd h
  refine wp_loop_pure (f := (f_load_made.s2 q53)) (s := (q53.1, q53.2, (0 : Int))) (fun s a w => ∃ (v55 : Value) (v57 : Value), Fr 147 a [(2, optr v1 0), (5, optr v16 0), (6, v23), (55, .int .i64 (q53.2.length : Int)), (56, .int .i64 s.2.2)] ∧ Hp S w0 w (Res.sl (Ek.int .i64) 3 v55 s.1 :: Res.sl (Ek.arr 2049 (Ek.int .i64)) 134 v57 s.2.1 :: Res.obj 137 v14 [vw0, v55, v57] :: Res.obj 132 v16 [v14] :: Res.obj 24 v1 [vw0] :: Res.sl (Ek.int .i64) 130 (aslv v23 9) q18 :: ow)) (fun q e a w => e = .exit 2 ∧ ∃ (v61 : Value) (v63 : Value), Fr 147 a [(2, optr v1 0), (5, optr v16 0), (6, v23)] ∧ Hp S w0 w (Res.sl (Ek.int .i64) 3 v61 q.1 :: Res.sl (Ek.arr 2049 (Ek.int .i64)) 134 v63 q.2 :: Res.obj 137 v14 [vw0, v61, v63] :: Res.obj 132 v16 [v14] :: Res.obj 24 v1 [vw0] :: Res.sl (Ek.int .i64) 130 (aslv v23 9) q18 :: ow)) ?_ hl ⟨_, _, hf.sb, hp⟩ ?_
  ·
   clear hl hf hp
   intro s x a w h hI
   obtain ⟨t5cc_1, t5cc_2, t56⟩ := s
   obtain ⟨v55, v57, hf, hp⟩ : ∃ (v55 : Value) (v57 : Value), Fr 147 a [(2, optr v1 0), (5, optr v16 0), (6, v23), (55, .int .i64 (q53.2.length : Int)), (56, .int .i64 t56)] ∧ Hp S w0 w (Res.sl (Ek.int .i64) 3 v55 t5cc_1 :: Res.sl (Ek.arr 2049 (Ek.int .i64)) 134 v57 t5cc_2 :: Res.obj 137 v14 [vw0, v55, v57] :: Res.obj 132 v16 [v14] :: Res.obj 24 v1 [vw0] :: Res.sl (Ek.int .i64) 130 (aslv v23 9) q18 :: ow) := hI
   replace h : f_load_made.s2c q53 t5cc_1 t5cc_2 t56 = some x := h
   unfold f_load_made.s2c at h
   refine go ?_; intro a hf
   refine wp_if hf rfl (fun hb => ?_) (fun hb => ?_)
   ·
    replace h := ifT h hb
    refine wp_skip ?_
    refine go ?_; intro a hf
    obtain ⟨q81, hl, h⟩ := bnd h
    refine wp_loop_pure (f := (f_load_made.s3 t56)) (s := (t5cc_1, t5cc_2, (0 : Int))) (fun s a w => ∃ (v67 : Value) (v69 : Value), Fr 147 a [(2, optr v1 0), (5, optr v16 0), (6, v23), (8, .int .i64 t56), (55, .int .i64 (q53.2.length : Int)), (56, .int .i64 t56), (59, .int .i64 s.2.2)] ∧ Hp S w0 w (Res.sl (Ek.int .i64) 3 v67 s.1 :: Res.sl (Ek.arr 2049 (Ek.int .i64)) 134 v69 s.2.1 :: Res.obj 137 v14 [vw0, v67, v69] :: Res.obj 132 v16 [v14] :: Res.obj 24 v1 [vw0] :: Res.sl (Ek.int .i64) 130 (aslv v23 9) q18 :: ow)) (fun q e a w => e = .exit 4 ∧ ∃ (v73 : Value) (v75 : Value), Fr 147 a [(2, optr v1 0), (5, optr v16 0), (6, v23), (55, .int .i64 (q53.2.length : Int)), (56, .int .i64 t56)] ∧ Hp S w0 w (Res.sl (Ek.int .i64) 3 v73 q.1 :: Res.sl (Ek.arr 2049 (Ek.int .i64)) 134 v75 q.2 :: Res.obj 137 v14 [vw0, v73, v75] :: Res.obj 132 v16 [v14] :: Res.obj 24 v1 [vw0] :: Res.sl (Ek.int .i64) 130 (aslv v23 9) q18 :: ow)) ?_ hl ⟨_, _, hf.sb, hp⟩ ?_
    ·
     clear hl hf hp
     intro s x a w h hI
     obtain ⟨t5cc_1, t5cc_2, t59⟩ := s
     obtain ⟨v67, v69, hf, hp⟩ : ∃ (v67 : Value) (v69 : Value), Fr 147 a [(2, optr v1 0), (5, optr v16 0), (6, v23), (8, .int .i64 t56), (55, .int .i64 (q53.2.length : Int)), (56, .int .i64 t56), (59, .int .i64 t59)] ∧ Hp S w0 w (Res.sl (Ek.int .i64) 3 v67 t5cc_1 :: Res.sl (Ek.arr 2049 (Ek.int .i64)) 134 v69 t5cc_2 :: Res.obj 137 v14 [vw0, v67, v69] :: Res.obj 132 v16 [v14] :: Res.obj 24 v1 [vw0] :: Res.sl (Ek.int .i64) 130 (aslv v23 9) q18 :: ow) := hI
     replace h : f_load_made.s3c t56 t5cc_1 t5cc_2 t59 = some x := h
     unfold f_load_made.s3c at h
     refine go ?_; intro a hf
     refine wp_if hf rfl (fun hb => ?_) (fun hb => ?_)
     ·
      replace h := ifT h hb
      refine wp_skip ?_
      refine go ?_; intro a hf
      refine st_ldO (u := v14) hf (by decide) pl132 rfl rfl (hp.ob (i := 3) rfl) rfl fun a _ hf => ?_
      refine st_nilV hf (by decide) rfl rfl (hp.ob (i := 2) rfl) fun a _ hf => ?_
      refine st_fa (o' := 2) hf (by decide) (off := 2) (sz := 1) (by kernel_rfl) (by decide) rfl rfl (hp.ob (i := 2) rfl) rfl fun a _ hf => ?_
      refine st_ldO (u := v69) hf (by decide) pl135 rfl rfl (hp.ob (i := 2) rfl) rfl fun a _ hf => ?_
      refine go ?_; intro a hf
      obtain ⟨hc79, h⟩ := chk h
      refine st_index (E := (Ek.arr 2049 (Ek.int .i64))) hf (by decide) Tryz.underlying135 elt134 rfl rfl rfl (hp.sl (i := 1) rfl) hc79.1 hc79.2 fun a _ hf => ?_
      obtain ⟨hc80, h⟩ := chk h
      refine st_iaP (sz := 1) hf (by decide) Tryz.underlying134 (by kernel_rfl) rfl rfl rfl (Sl.isP (hp.sl (i := 1) rfl) hc79.1 hc79.2) hc80.1 hc80.2 fun a _ hf => ?_
      refine st_stQ (E := (Ek.arr 2049 (Ek.int .i64))) (F := (Ek.int .i64)) (o := (t59).toNat * 1) (Sub.arr (F := (Ek.int .i64)) (N := 2049) (j := t59) hc80.1 hc80.2) hf (by kernel_rfl) hp (i := 1) rfl rfl rfl rfl rfl hc79.1 hc79.2 ?_
      clear hf; intro a w hf hp0; clear hp; have hp := hp0; clear hp0
      replace hp : Hp _ _ _ (Res.sl (Ek.int .i64) 3 v67 t5cc_1 :: Res.sl (Ek.arr 2049 (Ek.int .i64)) 134 v69 (t5cc_2.set (t56).toNat ((gt t5cc_2 t56).set (t59).toNat (1152921504606846976 : Int))) :: Res.obj 137 v14 [vw0, v67, v69] :: _ :: _ :: _ :: ow) := hp
      refine go ?_; intro a hf
      obtain rfl := oj h
      exact rnd_l ⟨_, _, hf.sb, hp⟩
     replace h := ifF h hb
     refine wp_exit ?_
     refine th_e ?_
     obtain rfl := oj h
     exact rnd_r (by simp) ⟨rfl, _, _, hf.sb, hp⟩
    clear hl hf hp
    intro e a w hne hO
    obtain ⟨rfl, v73, v75, hf, hp⟩ := hO
    refine ib_same ?_
    refine go ?_; intro a hf
    obtain rfl := oj h
    exact rnd_l ⟨_, _, hf.sb, hp⟩
   replace h := ifF h hb
   refine wp_exit ?_
   refine th_e ?_
   obtain rfl := oj h
   exact rnd_r (by simp) ⟨rfl, _, _, hf.sb, hp⟩
  clear hl hf hp
  intro e a w hne hO
  obtain ⟨rfl, v61, v63, hf, hp⟩ := hO
  refine ib_same ?_
  refine goT ?_
  obtain ⟨S83, hp84, rd85, up86, bk87⟩ := Hp.lendO hp (i := 3) rfl
  obtain ⟨S88, hp89, rd90, up91, bk92⟩ := Hp.lendO hp84 (i := 2) rfl
  obtain ⟨S93, hp94, rd95, up96, bk97⟩ := Hp.lendO hp89 (i := 2) rfl
  have rl98 := rd95
  have rl99 := ((((((hweights0.now hp).mono up86).now hp84).mono up91).now hp89).mono up96)
  have rl100 := ((((rd85.now hp84).mono up91).now hp89).mono up96)
  have rl101 := ((rd90.now hp89).mono up96)
  have fx103 := hp.sl (i := 1) rfl
  obtain ⟨hc102, h⟩ := chk h
  have hc104 : 0 ≤ (0 : Int) ∧ (0 : Int) < (2049 : Int) := by decide
  refine wp_cutN (fun a w => Fr 147 a [(2, optr v1 0), (5, optr v16 0), (6, v23)] ∧ Hp S w0 w (Res.obj 132 v16 [v14] :: Res.obj 137 v14 [vw0, v61, v63] :: Res.obj 24 v1 [vw0] :: Res.sl (Ek.int .i64) 3 v61 q82.1 :: Res.sl (Ek.arr 2049 (Ek.int .i64)) 134 v63 (q82.2.set ((weights0.length : Int)).toNat ((gt q82.2 (weights0.length : Int)).set ((0 : Int)).toNat (0 : Int))) :: Res.sl (Ek.int .i64) 130 (aslv v23 9) q18 :: ow)) ?_ ?_
  ·
   have hp := hp94.same (Same.drew w)
   refine dr_begin' _ (fun w' => ∃ l, Hp S93 w w' l) [] (by kernel_rfl) ?_
   refine dr_takeK 0 _ rfl hf rfl (fun w ⟨_, hp⟩ => st_ldO (u := v14) hf (by decide) pl132 rfl rfl (rl100.ob hp) rfl tk) ⟨_, hp⟩ fun a hf => ?_
   refine dr_nilV 1 rfl (by kernel_rfl) (by kernel_rfl) (by kernel_rfl) hf (by decide) rfl rfl (rl101.mono fun _ _ => trivial) ?_
   clear hf; intro a hf
   refine dr_takeP 2 (optr v14 2) rfl (by kernel_rfl) (by kernel_rfl) (by kernel_rfl) rfl rfl hf (by decide) rfl (fun w => ?_) ?_
   ·
    refine st_fa (o' := 2) hf (by decide) (off := 2) (sz := 1) (by kernel_rfl) (by decide) rfl rfl (rl101.mono fun _ _ => trivial) rfl ?_
    clear hf; intro a ha hf
    exact st_nil hf (th_n ⟨ha, rfl⟩)
   clear hf; intro a hf
   refine dr_takeK 3 _ rfl hf rfl (fun w ⟨_, hp⟩ => st_ldO (u := v63) hf (by decide) pl135 rfl rfl (rl101.ob hp) rfl tk) ⟨_, hp⟩ fun a hf => ?_
   refine dr_takeK 4 _ rfl hf rfl (fun w ⟨_, hp⟩ => st_ldO (u := vw0) hf (by decide) pl24 rfl rfl (rl98.ob hp) rfl tk) ⟨_, hp⟩ fun a hf => ?_
   refine dr_takeP 5 (.int .i64 (weights0.length : Int)) rfl (by kernel_rfl) (by kernel_rfl) (by kernel_rfl) rfl rfl hf (by decide) rfl (fun w => ?_) ?_
   ·
    refine st_len (E := (Ek.int .i64)) hf (by decide) Tryz.underlying24 rfl rfl rl99.any ?_
    clear hf; intro a ha hf
    exact st_nil hf (th_n ⟨ha, rfl⟩)
   clear hf; intro a hf
   refine dr_takeP 6 (eptr v63 (weights0.length : Int) 2049) rfl (by kernel_rfl) (by kernel_rfl) (by kernel_rfl) rfl rfl hf (by decide) rfl (fun w => ?_) ?_
   ·
    refine st_index (E := (Ek.arr 2049 (Ek.int .i64))) hf (by decide) Tryz.underlying135 elt134 rfl rfl rfl fx103 hc102.1 hc102.2 ?_
    clear hf; intro a ha hf
    exact st_nil hf (th_n ⟨ha, rfl⟩)
   clear hf; intro a hf
   refine dr_takeP 7 (optr (eptr v63 (weights0.length : Int) 2049) (((0 : Int)).toNat * 1)) rfl (by kernel_rfl) (by kernel_rfl) (by kernel_rfl) rfl rfl hf (by decide) rfl (fun w => ?_) ?_
   ·
    refine st_iaP (sz := 1) hf (by decide) Tryz.underlying134 (by kernel_rfl) rfl rfl rfl (Sl.isP fx103 hc102.1 hc102.2) hc104.1 hc104.2 ?_
    clear hf; intro a ha hf
    exact st_nil hf (th_n ⟨ha, rfl⟩)
   clear hf; intro a hf
   refine dr_one 8 rfl (by kernel_rfl) ?_
   refine st_stQ (E := (Ek.arr 2049 (Ek.int .i64))) (F := (Ek.int .i64)) (o := ((0 : Int)).toNat * 1) (Sub.arr (F := (Ek.int .i64)) (N := 2049) (j := (0 : Int)) hc104.1 hc104.2) hf (by kernel_rfl) hp (i := 1) rfl rfl rfl rfl rfl hc102.1 hc102.2 ?_
   clear hf; intro a w hf hp0; clear hp; have hp := hp0; clear hp0
   replace hp : Hp _ _ _ (Res.sl (Ek.int .i64) 3 v61 q82.1 :: Res.sl (Ek.arr 2049 (Ek.int .i64)) 134 v63 (q82.2.set ((weights0.length : Int)).toNat ((gt q82.2 (weights0.length : Int)).set ((0 : Int)).toNat (0 : Int))) :: _ :: ow) := hp
   refine nx hf (fun _ _ => ⟨_, hp⟩) ?_
   refine dr_end (by kernel_rfl) ?_ _
   have hp := bk97 _ _ hp
   have hp := bk92 _ _ hp
   have hp := bk87 _ _ hp
   exact ⟨hf.sb, hp⟩
  rintro a w ⟨hf, hp⟩
  refine goT ?_
  refine st_ldO (u := vw0) hf (by decide) pl24 rfl rfl (hp.ob (i := 2) rfl) rfl fun a _ hf => ?_
  obtain ⟨q105, hcall106, h⟩ := bnd h
  refine st_call hf (by decide) Tryz.func78 rfl rfl rfl rfl rfl (f_slices_Backward_int_int_c hp _ _ hweights0 hcall106) ?_
  rintro _ w ⟨v107, rfl, hp⟩
  replace hp : Hp _ _ _ (Res.obj 24 v107 [vw0] :: Res.obj 132 v16 [v14] :: Res.obj 137 v14 [vw0, v61, v63] :: Res.obj 24 v1 [vw0] :: _ :: _ :: _ :: ow) := hp
  refine ⟨_, rfl, fun a hf => ?_⟩
  refine goT ?_
  obtain ⟨S9, hp9, rd9, up9, bk9⟩ := Hp.lendS hp (i := 4) rfl
  obtain ⟨w9, hw9⟩ : ∃ z, z = w := ⟨_, rfl⟩
  have rl109 := (hweights0.now hp).mono up9
  rw [← hw9] at rl109
  rw [← hw9] at rd9
  rw [← hw9] at bk9
  clear hp; have hp : Hp S9 w9 w (Res.obj 24 v107 [vw0] :: Res.obj 132 v16 [v14] :: Res.obj 137 v14 [vw0, v61, v63] :: Res.obj 24 v1 [vw0] :: Res.sl (Ek.arr 2049 (Ek.int .i64)) 134 v63 (q82.2.set ((weights0.length : Int)).toNat ((gt q82.2 (weights0.length : Int)).set ((0 : Int)).toNat (0 : Int))) :: Res.sl (Ek.int .i64) 130 (aslv v23 9) q18 :: ow) := by rw [hw9]; exact hp9
  clear hp9
  obtain ⟨q110, hl9, h⟩ := bnd h
  refine (wpIn_wide (n := 0)).1 (wi_rangeB (ow := ow) (v := vw0) (xs := weights0) (hd := fun x9 g9 => [Res.obj 24 v107 [vw0], Res.obj 132 v16 [v14], Res.obj 137 v14 [vw0, v61, g9], Res.obj 24 v1 [vw0], Res.sl (Ek.arr 2049 (Ek.int .i64)) 134 g9 x9, Res.sl (Ek.int .i64) 130 (aslv v23 9) q18]) (g0 := v63) (x0 := (q82.2.set ((weights0.length : Int)).toNat ((gt q82.2 (weights0.length : Int)).set ((0 : Int)).toNat (0 : Int)))) (gs := (f_load_made.b4 weights0 q18 q82)) (r := q110) (L := [(2, optr v1 0), (5, optr v16 0), (6, v23), (81, .func (.func 84) #[] #[optr v107 0])]) (L2 := fun i9 y9 => [(11, .int .i64 y9), (10, .int .i64 i9), (2, optr v1 0), (5, optr v16 0), (6, v23), (81, .func (.func 84) #[] #[optr v107 0])]) (hf.sb) rfl (run_callFunc Tryz.func84 rfl rfl) (by decide) (by decide) iter84 hp ?_ hl9 ?_ ?_ ?_)
  ·
   intro x g w tl hp
   exact ⟨hp.ob (i := 0) rfl, rl109.sl hp⟩
  ·
   intro k9 a w i9 y9 K hf hK
   refine wpIn_seq ?_
   refine wi_reg (.round k9) (by rintro ⟨_, _, h⟩; exact h.elim) rfl ?_
   refine st_assign hf rfl rfl (by decide) fun a _ hf => ?_
   refine st_nil hf ?_
   refine th_n ?_
   refine wi_reg (.round k9) (by rintro ⟨_, _, h⟩; exact h.elim) rfl ?_
   refine go ?_; intro a hf
   exact hK _ (hf.sb)
  ·
   intro k9 a w ow x9 g9 x9' i9 y9 h hf hp
   unfold f_load_made.b4 at h
   replace hp : Hp _ _ _ (_ :: _ :: Res.obj 137 v14 [vw0, v61, g9] :: _ :: Res.sl (Ek.arr 2049 (Ek.int .i64)) 134 g9 x9 :: _ :: ow) := hp
   refine wpIn_block ?_
   refine wpIn_seq ?_
   refine wi_reg (.round k9) (by with_reducible (repeat (first | exact letsOut_fin | exact letsOut_ex | refine letsOut_then ?_ | refine letsOut_block ?_ | (refine letsOut_rnd ?_; intro _)))) rfl ?_
   refine st_ldO (u := vw0) hf (by decide) pl24 rfl rfl (hp.ob (i := 3) rfl) rfl fun a _ hf => ?_
   refine st_len (E := (Ek.int .i64)) hf (by decide) Tryz.underlying24 rfl rfl (rl109.sl hp) fun a _ hf => ?_
   refine go ?_; intro a hf
   refine wpIn_block ?_
   obtain ⟨q163, hl, h⟩ := bnd h
   have hp : Hp _ _ _ (_ :: _ :: _ :: _ :: _ :: _ :: ow) := (hp.pk [4, 2, 1, 3, 5, 0] 6 :)
   refine wi_loop_pure (f := (f_load_made.s5 weights0 q18 q82 i9 y9)) (s := (x9, (0 : Int))) (fun s a w => ∃ (v111 : Value), Fr 147 a [(2, optr v1 0), (5, optr v16 0), (6, v23), (10, .int .i64 i9), (11, .int .i64 y9), (81, .func (.func 84) #[] #[optr v107 0]), (90, .int .i64 (IntKind.i64.wrap ((IntKind.i64.wrap ((8 : Int) * (IntKind.i64.wrap ((IntKind.i64.wrap ((weights0.length : Int) - i9)) - (1 : Int))))) + (1 : Int)))), (91, .int .i64 s.2)] ∧ Hp S9 w9 w (Res.sl (Ek.arr 2049 (Ek.int .i64)) 134 v111 s.1 :: Res.obj 137 v14 [vw0, v61, v111] :: Res.obj 132 v16 [v14] :: Res.obj 24 v1 [vw0] :: Res.sl (Ek.int .i64) 130 (aslv v23 9) q18 :: Res.obj 24 v107 [vw0] :: ow)) (fun q e a w => e = .exit 8 ∧ ∃ (v115 : Value), Fr 147 a [(2, optr v1 0), (5, optr v16 0), (6, v23), (10, .int .i64 i9), (11, .int .i64 y9), (81, .func (.func 84) #[] #[optr v107 0])] ∧ Hp S9 w9 w (Res.sl (Ek.arr 2049 (Ek.int .i64)) 134 v115 q :: Res.obj 137 v14 [vw0, v61, v115] :: Res.obj 132 v16 [v14] :: Res.obj 24 v1 [vw0] :: Res.sl (Ek.int .i64) 130 (aslv v23 9) q18 :: Res.obj 24 v107 [vw0] :: ow)) ?_ hl ⟨_, hf.sb, hp⟩ ?_
   ·
    clear hl hf hp
    intro s x a w h hI
    obtain ⟨t5cc_2, t91⟩ := s
    obtain ⟨v111, hf, hp⟩ : ∃ (v111 : Value), Fr 147 a [(2, optr v1 0), (5, optr v16 0), (6, v23), (10, .int .i64 i9), (11, .int .i64 y9), (81, .func (.func 84) #[] #[optr v107 0]), (90, .int .i64 (IntKind.i64.wrap ((IntKind.i64.wrap ((8 : Int) * (IntKind.i64.wrap ((IntKind.i64.wrap ((weights0.length : Int) - i9)) - (1 : Int))))) + (1 : Int)))), (91, .int .i64 t91)] ∧ Hp S9 w9 w (Res.sl (Ek.arr 2049 (Ek.int .i64)) 134 v111 t5cc_2 :: Res.obj 137 v14 [vw0, v61, v111] :: Res.obj 132 v16 [v14] :: Res.obj 24 v1 [vw0] :: Res.sl (Ek.int .i64) 130 (aslv v23 9) q18 :: Res.obj 24 v107 [vw0] :: ow) := hI
    replace h : f_load_made.s5c weights0 q18 q82 i9 y9 t5cc_2 t91 = some x := h
    unfold f_load_made.s5c at h
    refine wpIn_seq ?_
    refine wi_reg (.round k9) (by with_reducible (repeat (first | exact letsOut_fin | exact letsOut_ex | refine letsOut_then ?_ | refine letsOut_block ?_ | (refine letsOut_rnd ?_; intro _)))) rfl ?_
    refine st_ilss hf (by decide) rfl rfl rfl fun a _ hf => ?_
    refine st_nil hf ?_
    refine th_n ?_
    refine wpIn_seq ?_
    refine wi_if hf rfl (fun hb => ?_) (fun hb => ?_)
    ·
     replace h := ifT h hb
     refine wpIn_skip ?_
     refine th_n ?_
     refine wpIn_seq ?_
     refine wpIn_block ?_
     refine wpIn_seq ?_
     refine wi_reg (.round k9) (by with_reducible (repeat (first | exact letsOut_fin | exact letsOut_ex | refine letsOut_then ?_ | refine letsOut_block ?_ | (refine letsOut_rnd ?_; intro _)))) rfl ?_
     refine st_move hf rfl rfl (by decide) fun a _ hf => ?_
     refine st_assign hf rfl rfl (by decide) fun a _ hf => ?_
     refine st_nil hf ?_
     refine th_n ?_
     refine wpIn_seq ?_
     refine wi_reg (.round k9) (by with_reducible (repeat (first | exact letsOut_fin | exact letsOut_ex | refine letsOut_then ?_ | refine letsOut_block ?_ | (refine letsOut_rnd ?_; intro _)))) rfl ?_
     refine st_ldO (u := v14) hf (by decide) pl132 rfl rfl (hp.ob (i := 2) rfl) rfl fun a _ hf => ?_
     refine st_nilV hf (by decide) rfl rfl (hp.ob (i := 1) rfl) fun a _ hf => ?_
     refine st_fa (o' := 2) hf (by decide) (off := 2) (sz := 1) (by kernel_rfl) (by decide) rfl rfl (hp.ob (i := 1) rfl) rfl fun a _ hf => ?_
     refine st_ldO (u := v111) hf (by decide) pl135 rfl rfl (hp.ob (i := 1) rfl) rfl fun a _ hf => ?_
     refine go ?_; intro a hf
     obtain ⟨hc119, h⟩ := chk h
     refine st_index (E := (Ek.arr 2049 (Ek.int .i64))) hf (by decide) Tryz.underlying135 elt134 rfl rfl rfl (hp.sl (i := 0) rfl) hc119.1 hc119.2 fun a _ hf => ?_
     obtain ⟨hc120, h⟩ := chk h
     refine st_iaP (sz := 1) hf (by decide) Tryz.underlying134 (by kernel_rfl) rfl rfl rfl (Sl.isP (hp.sl (i := 0) rfl) hc119.1 hc119.2) hc120.1 hc120.2 fun a _ hf => ?_
     refine st_ldQ (F := (Ek.int .i64)) (yv := (gt (gt t5cc_2 (IntKind.i64.wrap (i9 + (1 : Int)))) t91)) hf (by decide) pl3 (fun x => .int .i64 x) (fun _ _ h => h) rfl rfl (Sl.part (E := (Ek.arr 2049 (Ek.int .i64))) (F := (Ek.int .i64)) (o := (t91).toNat * 1) (Sub.arr (F := (Ek.int .i64)) (N := 2049) (j := t91) hc120.1 hc120.2) (hp.sl (i := 0) rfl) hc119.1 hc119.2) fun a _ hf => ?_
     refine st_assign hf rfl rfl (by decide) fun a _ hf => ?_
     refine st_nil hf ?_
     refine th_n ?_
     refine wpIn_seq ?_
     refine wpIn_seq ?_
     refine wi_reg (.round k9) (by with_reducible (repeat (first | exact letsOut_fin | exact letsOut_ex | refine letsOut_then ?_ | refine letsOut_block ?_ | (refine letsOut_rnd ?_; intro _)))) rfl ?_
     refine st_move hf rfl rfl (by decide) fun a _ hf => ?_
     refine st_ieql hf (by decide) rfl rfl rfl fun a _ hf => ?_
     refine st_nil hf ?_
     refine th_n ?_
     refine wi_if hf rfl (fun hb => ?_) (fun hb => ?_)
     ·
      replace h := ifT h hb
      refine wpIn_exit ?_
      refine th_e ?_
      refine ib_same ?_
      refine th_n ?_
      refine wi_reg (.round k9) (by with_reducible (repeat (first | exact letsOut_fin | exact letsOut_ex | refine letsOut_then ?_ | refine letsOut_block ?_ | (refine letsOut_rnd ?_; intro _)))) rfl ?_
      refine go ?_; intro a hf
      obtain rfl := oj h
      exact rnd_l ⟨_, hf.sb, hp⟩
     replace h := ifF h hb
     refine wpIn_skip ?_
     refine th_n ?_
     refine wpIn_seq ?_
     refine wi_reg (.round k9) (by with_reducible (repeat (first | exact letsOut_fin | exact letsOut_ex | refine letsOut_then ?_ | refine letsOut_block ?_ | (refine letsOut_rnd ?_; intro _)))) rfl ?_
     refine st_ldO (u := v14) hf (by decide) pl132 rfl rfl (hp.ob (i := 2) rfl) rfl fun a _ hf => ?_
     refine st_nilV hf (by decide) rfl rfl (hp.ob (i := 1) rfl) fun a _ hf => ?_
     refine st_fa (o' := 1) hf (by decide) (off := 1) (sz := 1) (by kernel_rfl) (by decide) rfl rfl (hp.ob (i := 1) rfl) rfl fun a _ hf => ?_
     refine st_ldO (u := v61) hf (by decide) pl24 rfl rfl (hp.ob (i := 1) rfl) rfl fun a _ hf => ?_
     refine st_len (E := (Ek.int .i64)) hf (by decide) Tryz.underlying24 rfl rfl (rd9.sl hp) fun a _ hf => ?_
     refine go ?_; intro a hf
     refine wpIn_block ?_
     obtain ⟨q162, hl, h⟩ := bnd h
     refine wi_loop_pure (f := (f_load_made.s6 q18 q82 i9 y9 t5cc_2 t91)) (s := (t5cc_2, (0 : Int))) (fun s a w => ∃ (v121 : Value), Fr 147 a [(2, optr v1 0), (5, optr v16 0), (6, v23), (10, .int .i64 i9), (11, .int .i64 y9), (12, .int .i64 t91), (13, .int .i64 (gt (gt t5cc_2 (IntKind.i64.wrap (i9 + (1 : Int)))) t91)), (81, .func (.func 84) #[] #[optr v107 0]), (90, .int .i64 (IntKind.i64.wrap ((IntKind.i64.wrap ((8 : Int) * (IntKind.i64.wrap ((IntKind.i64.wrap ((weights0.length : Int) - i9)) - (1 : Int))))) + (1 : Int)))), (91, .int .i64 t91), (109, v61), (110, .int .i64 (q82.1.length : Int)), (111, .int .i64 s.2)] ∧ Hp S9 w9 w (Res.sl (Ek.arr 2049 (Ek.int .i64)) 134 v121 s.1 :: Res.obj 137 v14 [vw0, v61, v121] :: Res.obj 132 v16 [v14] :: Res.obj 24 v1 [vw0] :: Res.sl (Ek.int .i64) 130 (aslv v23 9) q18 :: Res.obj 24 v107 [vw0] :: ow)) (fun q e a w => e = .exit 10 ∧ ∃ (v125 : Value), Fr 147 a [(2, optr v1 0), (5, optr v16 0), (6, v23), (10, .int .i64 i9), (11, .int .i64 y9), (81, .func (.func 84) #[] #[optr v107 0]), (90, .int .i64 (IntKind.i64.wrap ((IntKind.i64.wrap ((8 : Int) * (IntKind.i64.wrap ((IntKind.i64.wrap ((weights0.length : Int) - i9)) - (1 : Int))))) + (1 : Int)))), (91, .int .i64 t91)] ∧ Hp S9 w9 w (Res.sl (Ek.arr 2049 (Ek.int .i64)) 134 v125 q :: Res.obj 137 v14 [vw0, v61, v125] :: Res.obj 132 v16 [v14] :: Res.obj 24 v1 [vw0] :: Res.sl (Ek.int .i64) 130 (aslv v23 9) q18 :: Res.obj 24 v107 [vw0] :: ow)) ?_ hl ⟨_, hf.sb, hp⟩ ?_
     ·
      clear hl hf hp
      intro s x a w h hI
      obtain ⟨t5m11cc_2, t111m11⟩ := s
      obtain ⟨v121, hf, hp⟩ : ∃ (v121 : Value), Fr 147 a [(2, optr v1 0), (5, optr v16 0), (6, v23), (10, .int .i64 i9), (11, .int .i64 y9), (12, .int .i64 t91), (13, .int .i64 (gt (gt t5cc_2 (IntKind.i64.wrap (i9 + (1 : Int)))) t91)), (81, .func (.func 84) #[] #[optr v107 0]), (90, .int .i64 (IntKind.i64.wrap ((IntKind.i64.wrap ((8 : Int) * (IntKind.i64.wrap ((IntKind.i64.wrap ((weights0.length : Int) - i9)) - (1 : Int))))) + (1 : Int)))), (91, .int .i64 t91), (109, v61), (110, .int .i64 (q82.1.length : Int)), (111, .int .i64 t111m11)] ∧ Hp S9 w9 w (Res.sl (Ek.arr 2049 (Ek.int .i64)) 134 v121 t5m11cc_2 :: Res.obj 137 v14 [vw0, v61, v121] :: Res.obj 132 v16 [v14] :: Res.obj 24 v1 [vw0] :: Res.sl (Ek.int .i64) 130 (aslv v23 9) q18 :: Res.obj 24 v107 [vw0] :: ow) := hI
      replace h : f_load_made.s6c q18 q82 i9 y9 t5cc_2 t91 t5m11cc_2 t111m11 = some x := h
      unfold f_load_made.s6c at h
      refine wpIn_seq ?_
      refine wi_reg (.round k9) (by with_reducible (repeat (first | exact letsOut_fin | exact letsOut_ex | refine letsOut_then ?_ | refine letsOut_block ?_ | (refine letsOut_rnd ?_; intro _)))) rfl ?_
      refine st_ilss hf (by decide) rfl rfl rfl fun a _ hf => ?_
      refine st_nil hf ?_
      refine th_n ?_
      refine wpIn_seq ?_
      refine wi_if hf rfl (fun hb => ?_) (fun hb => ?_)
      ·
       replace h := ifT h hb
       refine wpIn_skip ?_
       refine th_n ?_
       refine wpIn_seq ?_
       refine wpIn_block ?_
       refine wpIn_seq ?_
       refine wi_reg (.round k9) (by with_reducible (repeat (first | exact letsOut_fin | exact letsOut_ex | refine letsOut_then ?_ | refine letsOut_block ?_ | (refine letsOut_rnd ?_; intro _)))) rfl ?_
       obtain ⟨hc129, h⟩ := chk h
       refine st_index (E := (Ek.int .i64)) hf (by decide) Tryz.underlying24 elt3 rfl rfl rfl (rd9.sl hp) hc129.1 hc129.2 fun a _ hf => ?_
       refine st_ldI hf (by decide) pl3 rfl rfl (rd9.sl hp) hc129.1 hc129.2 fun a _ hf => ?_
       refine go ?_; intro a hf
       obtain ⟨S130, hp131, rd132, up133, bk134⟩ := Hp.lendO hp (i := 2) rfl
       obtain ⟨S135, hp136, rd137, up138, bk139⟩ := Hp.lendO hp131 (i := 1) rfl
       obtain ⟨S140, hp141, rd142, up143, bk144⟩ := Hp.lendS hp136 (i := 0) rfl
       obtain ⟨S145, hp146, rd147, up148, bk149⟩ := Hp.lendS hp141 (i := 1) rfl
       have rl150 := ((((((rd132.now hp131).mono up138).now hp136).mono up143).now hp141).mono up148)
       have rl151 := ((((rd137.now hp136).mono up143).now hp141).mono up148)
       have rl152 := ((((((((rl109.now hp).mono up133).now hp131).mono up138).now hp136).mono up143).now hp141).mono up148)
       have rl153 := ((((((((rd9.now hp).mono up133).now hp131).mono up138).now hp136).mono up143).now hp141).mono up148)
       have rl154 := ((rd142.now hp141).mono up148)
       have rl155 := rd147
       obtain ⟨hc156, h⟩ := chk h
       obtain ⟨hc157, h⟩ := chk h
       obtain ⟨hc158, h⟩ := chk h
       have hc159 := aslv_ix rl155 hc158
       obtain ⟨hc160, h⟩ := chk h
       obtain ⟨hc161, h⟩ := chk h
       refine wi_cutN (fun a w => Fr 147 a [(2, optr v1 0), (5, optr v16 0), (6, v23), (10, .int .i64 i9), (11, .int .i64 y9), (12, .int .i64 t91), (13, .int .i64 (gt (gt t5cc_2 (IntKind.i64.wrap (i9 + (1 : Int)))) t91)), (81, .func (.func 84) #[] #[optr v107 0]), (90, .int .i64 (IntKind.i64.wrap ((IntKind.i64.wrap ((8 : Int) * (IntKind.i64.wrap ((IntKind.i64.wrap ((weights0.length : Int) - i9)) - (1 : Int))))) + (1 : Int)))), (91, .int .i64 t91), (109, v61), (110, .int .i64 (q82.1.length : Int)), (111, .int .i64 t111m11)] ∧ Hp S9 w9 w (Res.obj 132 v16 [v14] :: Res.obj 137 v14 [vw0, v61, v121] :: Res.sl (Ek.arr 2049 (Ek.int .i64)) 134 v121 (t5m11cc_2.set (i9).toNat ((gt t5m11cc_2 i9).set ((IntKind.i64.wrap (t91 + (gt q82.1 t111m11)))).toNat (imin (gt (gt t5m11cc_2 i9) (IntKind.i64.wrap (t91 + (gt q82.1 t111m11)))) (IntKind.i64.wrap ((gt (gt t5cc_2 (IntKind.i64.wrap (i9 + (1 : Int)))) t91) + (IntKind.i64.wrap (y9 * (gt q18 (gt q82.1 t111m11))))))))) :: Res.sl (Ek.int .i64) 130 (aslv v23 9) q18 :: Res.obj 24 v1 [vw0] :: Res.obj 24 v107 [vw0] :: ow)) ?_ ?_
       ·
        have hp := hp146.same (Same.drew w)
        refine wi_begin' (fun a w => Fr 147 a [(2, optr v1 0), (5, optr v16 0), (6, v23), (10, .int .i64 i9), (11, .int .i64 y9), (12, .int .i64 t91), (13, .int .i64 (gt (gt t5cc_2 (IntKind.i64.wrap (i9 + (1 : Int)))) t91)), (81, .func (.func 84) #[] #[optr v107 0]), (90, .int .i64 (IntKind.i64.wrap ((IntKind.i64.wrap ((8 : Int) * (IntKind.i64.wrap ((IntKind.i64.wrap ((weights0.length : Int) - i9)) - (1 : Int))))) + (1 : Int)))), (91, .int .i64 t91), (109, v61), (110, .int .i64 (q82.1.length : Int)), (111, .int .i64 t111m11)] ∧ Hp S9 w9 w (Res.obj 132 v16 [v14] :: Res.obj 137 v14 [vw0, v61, v121] :: Res.sl (Ek.arr 2049 (Ek.int .i64)) 134 v121 (t5m11cc_2.set (i9).toNat ((gt t5m11cc_2 i9).set ((IntKind.i64.wrap (t91 + (gt q82.1 t111m11)))).toNat (imin (gt (gt t5m11cc_2 i9) (IntKind.i64.wrap (t91 + (gt q82.1 t111m11)))) (IntKind.i64.wrap ((gt (gt t5cc_2 (IntKind.i64.wrap (i9 + (1 : Int)))) t91) + (IntKind.i64.wrap (y9 * (gt q18 (gt q82.1 t111m11))))))))) :: Res.sl (Ek.int .i64) 130 (aslv v23 9) q18 :: Res.obj 24 v1 [vw0] :: Res.obj 24 v107 [vw0] :: ow)) (fun w' => ∃ l, Hp S145 w w' l) [29] (.round k9) rfl (by kernel_rfl) ?_
        refine dr_take2 0 (v14) rfl (by kernel_rfl) (by kernel_rfl) (by kernel_rfl) (by kernel_rfl) (by kernel_rfl) rfl rfl hf (by decide) rfl (fun w hp => ?_) ⟨_, hp⟩ ?_
        ·
         obtain ⟨_, hp⟩ := hp
         refine st_ldO (u := v14) hf (by decide) pl132 rfl rfl (rl150.ob hp) rfl ?_
         clear hf; intro a ha hf
         exact st_nil hf (th_n ⟨ha, rfl⟩)
        clear hf; intro a hf
        refine dr_nilV 1 rfl (by kernel_rfl) (by kernel_rfl) (by kernel_rfl) hf (by decide) rfl rfl (rl151.mono fun _ _ => trivial) ?_
        clear hf; intro a hf
        refine dr_takeP 2 (optr v14 2) rfl (by kernel_rfl) (by kernel_rfl) (by kernel_rfl) rfl rfl hf (by decide) rfl (fun w => ?_) ?_
        ·
         refine st_fa (o' := 2) hf (by decide) (off := 2) (sz := 1) (by kernel_rfl) (by decide) rfl rfl (rl151.mono fun _ _ => trivial) rfl ?_
         clear hf; intro a ha hf
         exact st_nil hf (th_n ⟨ha, rfl⟩)
        clear hf; intro a hf
        refine dr_take2 3 (v121) rfl (by kernel_rfl) (by kernel_rfl) (by kernel_rfl) (by kernel_rfl) (by kernel_rfl) rfl rfl hf (by decide) rfl (fun w hp => ?_) ⟨_, hp⟩ ?_
        ·
         obtain ⟨_, hp⟩ := hp
         refine st_ldO (u := v121) hf (by decide) pl135 rfl rfl (rl151.ob hp) rfl ?_
         clear hf; intro a ha hf
         exact st_nil hf (th_n ⟨ha, rfl⟩)
        clear hf; intro a hf
        refine dr_takeP 4 (.int .i64 i9) rfl (by kernel_rfl) (by kernel_rfl) (by kernel_rfl) rfl rfl hf (by decide) rfl (fun w => ?_) ?_
        ·
         refine st_move hf rfl rfl (by decide) ?_
         clear hf; intro a ha hf
         exact st_nil hf (th_n ⟨ha, rfl⟩)
        clear hf; intro a hf
        refine dr_takeP 5 (.int .i64 t91) rfl (by kernel_rfl) (by kernel_rfl) (by kernel_rfl) rfl rfl hf (by decide) rfl (fun w => ?_) ?_
        ·
         refine st_move hf rfl rfl (by decide) ?_
         clear hf; intro a ha hf
         exact st_nil hf (th_n ⟨ha, rfl⟩)
        clear hf; intro a hf
        refine dr_takeP 6 (.int .i64 (gt q82.1 t111m11)) rfl (by kernel_rfl) (by kernel_rfl) (by kernel_rfl) rfl rfl hf (by decide) rfl (fun w => ?_) ?_
        ·
         refine st_move hf rfl rfl (by decide) ?_
         clear hf; intro a ha hf
         exact st_nil hf (th_n ⟨ha, rfl⟩)
        clear hf; intro a hf
        refine dr_takeP 7 (.int .i64 (IntKind.i64.wrap (t91 + (gt q82.1 t111m11)))) rfl (by kernel_rfl) (by kernel_rfl) (by kernel_rfl) rfl rfl hf (by decide) rfl (fun w => ?_) ?_
        ·
         refine st_iadd hf (by decide) rfl rfl rfl ?_
         clear hf; intro a ha hf
         exact st_nil hf (th_n ⟨ha, rfl⟩)
        clear hf; intro a hf
        refine dr_take2 8 (v14) rfl (by kernel_rfl) (by kernel_rfl) (by kernel_rfl) (by kernel_rfl) (by kernel_rfl) rfl rfl hf (by decide) rfl (fun w hp => ?_) ⟨_, hp⟩ ?_
        ·
         obtain ⟨_, hp⟩ := hp
         refine st_ldO (u := v14) hf (by decide) pl132 rfl rfl (rl150.ob hp) rfl ?_
         clear hf; intro a ha hf
         exact st_nil hf (th_n ⟨ha, rfl⟩)
        clear hf; intro a hf
        refine dr_nilV 9 rfl (by kernel_rfl) (by kernel_rfl) (by kernel_rfl) hf (by decide) rfl rfl (rl151.mono fun _ _ => trivial) ?_
        clear hf; intro a hf
        refine dr_takeP 10 (optr v14 2) rfl (by kernel_rfl) (by kernel_rfl) (by kernel_rfl) rfl rfl hf (by decide) rfl (fun w => ?_) ?_
        ·
         refine st_fa (o' := 2) hf (by decide) (off := 2) (sz := 1) (by kernel_rfl) (by decide) rfl rfl (rl151.mono fun _ _ => trivial) rfl ?_
         clear hf; intro a ha hf
         exact st_nil hf (th_n ⟨ha, rfl⟩)
        clear hf; intro a hf
        refine dr_take2 11 (v121) rfl (by kernel_rfl) (by kernel_rfl) (by kernel_rfl) (by kernel_rfl) (by kernel_rfl) rfl rfl hf (by decide) rfl (fun w hp => ?_) ⟨_, hp⟩ ?_
        ·
         obtain ⟨_, hp⟩ := hp
         refine st_ldO (u := v121) hf (by decide) pl135 rfl rfl (rl151.ob hp) rfl ?_
         clear hf; intro a ha hf
         exact st_nil hf (th_n ⟨ha, rfl⟩)
        clear hf; intro a hf
        refine dr_takeP 12 (.int .i64 i9) rfl (by kernel_rfl) (by kernel_rfl) (by kernel_rfl) rfl rfl hf (by decide) rfl (fun w => ?_) ?_
        ·
         refine st_move hf rfl rfl (by decide) ?_
         clear hf; intro a ha hf
         exact st_nil hf (th_n ⟨ha, rfl⟩)
        clear hf; intro a hf
        refine dr_takeP 13 (.int .i64 t91) rfl (by kernel_rfl) (by kernel_rfl) (by kernel_rfl) rfl rfl hf (by decide) rfl (fun w => ?_) ?_
        ·
         refine st_move hf rfl rfl (by decide) ?_
         clear hf; intro a ha hf
         exact st_nil hf (th_n ⟨ha, rfl⟩)
        clear hf; intro a hf
        refine dr_takeP 14 (.int .i64 (gt q82.1 t111m11)) rfl (by kernel_rfl) (by kernel_rfl) (by kernel_rfl) rfl rfl hf (by decide) rfl (fun w => ?_) ?_
        ·
         refine st_move hf rfl rfl (by decide) ?_
         clear hf; intro a ha hf
         exact st_nil hf (th_n ⟨ha, rfl⟩)
        clear hf; intro a hf
        refine dr_takeP 15 (.int .i64 (IntKind.i64.wrap (t91 + (gt q82.1 t111m11)))) rfl (by kernel_rfl) (by kernel_rfl) (by kernel_rfl) rfl rfl hf (by decide) rfl (fun w => ?_) ?_
        ·
         refine st_iadd hf (by decide) rfl rfl rfl ?_
         clear hf; intro a ha hf
         exact st_nil hf (th_n ⟨ha, rfl⟩)
        clear hf; intro a hf
        refine dr_takeP 16 (eptr v121 i9 2049) rfl (by kernel_rfl) (by kernel_rfl) (by kernel_rfl) rfl rfl hf (by decide) rfl (fun w => ?_) ?_
        ·
         refine st_index (E := (Ek.arr 2049 (Ek.int .i64))) hf (by decide) Tryz.underlying135 elt134 rfl rfl rfl rl154.any hc156.1 hc156.2 ?_
         clear hf; intro a ha hf
         exact st_nil hf (th_n ⟨ha, rfl⟩)
        clear hf; intro a hf
        refine dr_takeP 17 (optr (eptr v121 i9 2049) (((IntKind.i64.wrap (t91 + (gt q82.1 t111m11)))).toNat * 1)) rfl (by kernel_rfl) (by kernel_rfl) (by kernel_rfl) rfl rfl hf (by decide) rfl (fun w => ?_) ?_
        ·
         refine st_iaP (sz := 1) hf (by decide) Tryz.underlying134 (by kernel_rfl) rfl rfl rfl (Sl.isP rl154.any hc156.1 hc156.2) hc157.1 hc157.2 ?_
         clear hf; intro a ha hf
         exact st_nil hf (th_n ⟨ha, rfl⟩)
        clear hf; intro a hf
        refine dr_take2 18 (.int .i64 (gt (gt t5m11cc_2 i9) (IntKind.i64.wrap (t91 + (gt q82.1 t111m11))))) rfl (by kernel_rfl) (by kernel_rfl) (by kernel_rfl) (by kernel_rfl) (by kernel_rfl) rfl rfl hf (by decide) rfl (fun w hp => ?_) ⟨_, hp⟩ ?_
        ·
         obtain ⟨_, hp⟩ := hp
         refine st_ldQ (F := (Ek.int .i64)) (yv := (gt (gt t5m11cc_2 i9) (IntKind.i64.wrap (t91 + (gt q82.1 t111m11))))) hf (by decide) pl3 (fun x => .int .i64 x) (fun _ _ h => h) rfl rfl (Sl.part (E := (Ek.arr 2049 (Ek.int .i64))) (F := (Ek.int .i64)) (o := ((IntKind.i64.wrap (t91 + (gt q82.1 t111m11)))).toNat * 1) (Sub.arr (F := (Ek.int .i64)) (N := 2049) (j := (IntKind.i64.wrap (t91 + (gt q82.1 t111m11)))) hc157.1 hc157.2) (rl154.sl hp) hc156.1 hc156.2) ?_
         clear hf; intro a ha hf
         exact st_nil hf (th_n ⟨ha, rfl⟩)
        clear hf; intro a hf
        refine dr_takeP 19 (.int .i64 (gt (gt t5cc_2 (IntKind.i64.wrap (i9 + (1 : Int)))) t91)) rfl (by kernel_rfl) (by kernel_rfl) (by kernel_rfl) rfl rfl hf (by decide) rfl (fun w => ?_) ?_
        ·
         refine st_move hf rfl rfl (by decide) ?_
         clear hf; intro a ha hf
         exact st_nil hf (th_n ⟨ha, rfl⟩)
        clear hf; intro a hf
        refine dr_takeP 20 (.int .i64 y9) rfl (by kernel_rfl) (by kernel_rfl) (by kernel_rfl) rfl rfl hf (by decide) rfl (fun w => ?_) ?_
        ·
         refine st_move hf rfl rfl (by decide) ?_
         clear hf; intro a ha hf
         exact st_nil hf (th_n ⟨ha, rfl⟩)
        clear hf; intro a hf
        refine dr_takeP 21 (.int .i64 (gt q82.1 t111m11)) rfl (by kernel_rfl) (by kernel_rfl) (by kernel_rfl) rfl rfl hf (by decide) rfl (fun w => ?_) ?_
        ·
         refine st_move hf rfl rfl (by decide) ?_
         clear hf; intro a ha hf
         exact st_nil hf (th_n ⟨ha, rfl⟩)
        clear hf; intro a hf
        refine dr_takeP 22 (eptr (aslv v23 9) (gt q82.1 t111m11) 1) rfl (by kernel_rfl) (by kernel_rfl) (by kernel_rfl) rfl rfl hf (by decide) rfl (fun w => ?_) ?_
        ·
         refine st_iaA (E := (Ek.int .i64)) (N := 9) hf (by decide) Tryz.underlying130 (by kernel_rfl) rfl rfl rfl rl155.any rfl hc158.1 hc158.2 ?_
         clear hf; intro a ha hf
         exact st_nil hf (th_n ⟨ha, rfl⟩)
        clear hf; intro a hf
        refine dr_take2 23 (.int .i64 (gt q18 (gt q82.1 t111m11))) rfl (by kernel_rfl) (by kernel_rfl) (by kernel_rfl) (by kernel_rfl) (by kernel_rfl) rfl rfl hf (by decide) rfl (fun w hp => ?_) ⟨_, hp⟩ ?_
        ·
         obtain ⟨_, hp⟩ := hp
         refine st_ldI hf (by decide) pl3 rfl rfl (rl155.sl hp) hc159.1 hc159.2 ?_
         clear hf; intro a ha hf
         exact st_nil hf (th_n ⟨ha, rfl⟩)
        clear hf; intro a hf
        refine dr_takeP 24 (.int .i64 (IntKind.i64.wrap (y9 * (gt q18 (gt q82.1 t111m11))))) rfl (by kernel_rfl) (by kernel_rfl) (by kernel_rfl) rfl rfl hf (by decide) rfl (fun w => ?_) ?_
        ·
         refine st_imul hf (by decide) rfl rfl rfl ?_
         clear hf; intro a ha hf
         exact st_nil hf (th_n ⟨ha, rfl⟩)
        clear hf; intro a hf
        refine dr_takeP 25 (.int .i64 (IntKind.i64.wrap ((gt (gt t5cc_2 (IntKind.i64.wrap (i9 + (1 : Int)))) t91) + (IntKind.i64.wrap (y9 * (gt q18 (gt q82.1 t111m11))))))) rfl (by kernel_rfl) (by kernel_rfl) (by kernel_rfl) rfl rfl hf (by decide) rfl (fun w => ?_) ?_
        ·
         refine st_iadd hf (by decide) rfl rfl rfl ?_
         clear hf; intro a ha hf
         exact st_nil hf (th_n ⟨ha, rfl⟩)
        clear hf; intro a hf
        refine dr_takeP 26 (.int .i64 (imin (gt (gt t5m11cc_2 i9) (IntKind.i64.wrap (t91 + (gt q82.1 t111m11)))) (IntKind.i64.wrap ((gt (gt t5cc_2 (IntKind.i64.wrap (i9 + (1 : Int)))) t91) + (IntKind.i64.wrap (y9 * (gt q18 (gt q82.1 t111m11)))))))) rfl (by kernel_rfl) (by kernel_rfl) (by kernel_rfl) rfl rfl hf (by decide) rfl (fun w => ?_) ?_
        ·
         refine st_imin hf (by decide) rfl rfl rfl ?_
         clear hf; intro a ha hf
         exact st_nil hf (th_n ⟨ha, rfl⟩)
        clear hf; intro a hf
        refine dr_takeP 27 (eptr v121 i9 2049) rfl (by kernel_rfl) (by kernel_rfl) (by kernel_rfl) rfl rfl hf (by decide) rfl (fun w => ?_) ?_
        ·
         refine st_index (E := (Ek.arr 2049 (Ek.int .i64))) hf (by decide) Tryz.underlying135 elt134 rfl rfl rfl rl154.any hc160.1 hc160.2 ?_
         clear hf; intro a ha hf
         exact st_nil hf (th_n ⟨ha, rfl⟩)
        clear hf; intro a hf
        refine dr_takeP 28 (optr (eptr v121 i9 2049) (((IntKind.i64.wrap (t91 + (gt q82.1 t111m11)))).toNat * 1)) rfl (by kernel_rfl) (by kernel_rfl) (by kernel_rfl) rfl rfl hf (by decide) rfl (fun w => ?_) ?_
        ·
         refine st_iaP (sz := 1) hf (by decide) Tryz.underlying134 (by kernel_rfl) rfl rfl rfl (Sl.isP rl154.any hc160.1 hc160.2) hc161.1 hc161.2 ?_
         clear hf; intro a ha hf
         exact st_nil hf (th_n ⟨ha, rfl⟩)
        clear hf; intro a hf
        have hp := bk149 _ _ hp
        have hp := bk144 _ _ hp
        have hp := bk139 _ _ hp
        have hp := bk134 _ _ hp
        refine dr_one 29 rfl (by kernel_rfl) ?_
        refine st_stQ (E := (Ek.arr 2049 (Ek.int .i64))) (F := (Ek.int .i64)) (o := ((IntKind.i64.wrap (t91 + (gt q82.1 t111m11)))).toNat * 1) (Sub.arr (F := (Ek.int .i64)) (N := 2049) (j := (IntKind.i64.wrap (t91 + (gt q82.1 t111m11)))) hc161.1 hc161.2) hf (by kernel_rfl) hp (i := 2) rfl rfl rfl rfl rfl hc160.1 hc160.2 ?_
        clear hf; intro a w hf hp0; clear hp; have hp := hp0; clear hp0
        replace hp : Hp _ _ _ (_ :: Res.obj 137 v14 [vw0, v61, v121] :: Res.sl (Ek.arr 2049 (Ek.int .i64)) 134 v121 (t5m11cc_2.set (i9).toNat ((gt t5m11cc_2 i9).set ((IntKind.i64.wrap (t91 + (gt q82.1 t111m11)))).toNat (imin (gt (gt t5m11cc_2 i9) (IntKind.i64.wrap (t91 + (gt q82.1 t111m11)))) (IntKind.i64.wrap ((gt (gt t5cc_2 (IntKind.i64.wrap (i9 + (1 : Int)))) t91) + (IntKind.i64.wrap (y9 * (gt q18 (gt q82.1 t111m11))))))))) :: _ :: _ :: _ :: ow) := hp
        refine st_nil hf (th_n ⟨fun hn => absurd hn (by decide), ?_⟩)
        refine dr_end (by kernel_rfl) ?_ _
        exact ⟨hf.sb, hp⟩
       rintro a w ⟨hf, hp⟩
       refine ib_n ?_
       refine th_n ?_
       refine wi_reg (.round k9) (by with_reducible (repeat (first | exact letsOut_fin | exact letsOut_ex | refine letsOut_then ?_ | refine letsOut_block ?_ | (refine letsOut_rnd ?_; intro _)))) rfl ?_
       refine go ?_; intro a hf
       obtain rfl := oj h
       have hp : Hp _ _ _ (_ :: _ :: _ :: _ :: _ :: _ :: ow) := (hp.pk [2, 1, 0, 4, 3, 5] 6 :)
       exact rnd_l ⟨_, hf.sb, hp⟩
      replace h := ifF h hb
      refine wpIn_exit ?_
      refine th_e ?_
      obtain rfl := oj h
      exact rnd_r (by simp) ⟨rfl, _, hf.sb, hp⟩
     clear hl hf hp
     intro e a w hne hO
     obtain ⟨rfl, v125, hf, hp⟩ := hO
     refine ib_same ?_
     refine ib_n ?_
     refine th_n ?_
     refine wi_reg (.round k9) (by with_reducible (repeat (first | exact letsOut_fin | exact letsOut_ex | refine letsOut_then ?_ | refine letsOut_block ?_ | (refine letsOut_rnd ?_; intro _)))) rfl ?_
     refine go ?_; intro a hf
     obtain rfl := oj h
     exact rnd_l ⟨_, hf.sb, hp⟩
    replace h := ifF h hb
    refine wpIn_exit ?_
    refine th_e ?_
    obtain rfl := oj h
    exact rnd_r (by simp) ⟨rfl, _, hf.sb, hp⟩
   clear hl hf hp
   intro e a w hne hO
   obtain ⟨rfl, v115, hf, hp⟩ := hO
   refine ib_same ?_
   refine ib_n ?_
   obtain rfl := oj h
   have hp : Hp _ _ _ (_ :: _ :: Res.obj 137 v14 [vw0, v61, v115] :: _ :: Res.sl (Ek.arr 2049 (Ek.int .i64)) 134 v115 q163 :: _ :: ow) := (hp.pk [5, 2, 1, 3, 0, 4] 6 :)
   exact ⟨rfl, _, hp⟩
  clear hp hl9
  intro D9 l9 o9 w g9 hp
  replace hp := bk9 _ _ hp
  replace hp : Hp _ _ _ (Res.sl (Ek.int .i64) 3 v61 q82.1 :: _ :: _ :: Res.obj 137 v14 [vw0, v61, g9] :: _ :: Res.sl (Ek.arr 2049 (Ek.int .i64)) 134 g9 q110 :: _ :: Res.raw l9 o9 :: Res.raw D9 (.deferred (some [])) :: ow) := hp
  generalize how2 : (Res.raw l9 o9 :: Res.raw D9 (.deferred (some [])) :: ow) = ow2 at hp
  refine ib_n ?_
  refine th_n ?_
  refine wp_tail _ (T := fun a w => ∃ (u0 : Value) (u1 : Value) (u2 : Value), Fr 147 a [(4, u0)] ∧ Hp S w0 w (Res.obj 137 u0 [vw0, u1, u2] :: Res.sl (Ek.int .i64) 3 u1 r.1 :: Res.sl (Ek.arr 2049 (Ek.int .i64)) 134 u2 r.2 :: ow2)) rfl ?_ ?_
  ·
   refine st_ldO (u := v14) hf (by decide) pl132 rfl rfl (hp.ob (i := 2) rfl) rfl fun a _ hf => ?_
   refine go ?_; intro a hf
   obtain rfl := oj h
   have hp : Hp _ _ _ (Res.obj 137 v14 [vw0, v61, g9] :: Res.sl (Ek.int .i64) 3 v61 q82.1 :: Res.sl (Ek.arr 2049 (Ek.int .i64)) 134 g9 q110 :: ow2) := (hp.pk [3, 0, 5] 7 :)
   exact ⟨rfl, ⟨_, _, _, hf.sb, hp⟩⟩
  rintro a w ⟨x0, x1, x2, hf, hp⟩
  rw [← how2] at hp
  exact ⟨rfl, _, _, _, a, rfl, x0, x1, x2, hf, hp⟩

noncomputable def f_load_table_first_1 (bx0 : Int) (t1 : Int) (t3002_weights : (List Int)) (t3002_takes : (List Int)) (t3002_need : (List (List Int))) (t3 : Int) (t4 : Int) (t5 : (List Int)) : Option Bool := ((if (decide (bx0 ≤ t1)) = true then (if 0 ≤ (IntKind.i64.wrap (t3 + (1 : Int))) ∧ (IntKind.i64.wrap (t3 + (1 : Int))) < (t3002_need.length : Int) then (if 0 ≤ (IntKind.i64.wrap (t1 - bx0)) ∧ (IntKind.i64.wrap (t1 - bx0)) < (2049 : Int) then (some (decide ((gt (gt t3002_need (IntKind.i64.wrap (t3 + (1 : Int)))) (IntKind.i64.wrap (t1 - bx0))) < (1152921504606846976 : Int)))) else none) else none) else (some false)).bind fun z5 => ((if z5 = true then (if 0 ≤ (IntKind.i64.wrap (t3 + (1 : Int))) ∧ (IntKind.i64.wrap (t3 + (1 : Int))) < (t3002_need.length : Int) then (if 0 ≤ (IntKind.i64.wrap (t1 - bx0)) ∧ (IntKind.i64.wrap (t1 - bx0)) < (2049 : Int) then (if 0 ≤ bx0 ∧ bx0 < (9 : Int) then (if 0 ≤ t3 ∧ t3 < (t3002_need.length : Int) then (if 0 ≤ t1 ∧ t1 < (2049 : Int) then (some ((IntKind.i64.wrap ((gt (gt t3002_need (IntKind.i64.wrap (t3 + (1 : Int)))) (IntKind.i64.wrap (t1 - bx0))) + (IntKind.i64.wrap (t4 * (gt t5 bx0))))) == (gt (gt t3002_need t3) t1))) else none) else none) else none) else none) else none) else (some false)).bind fun z14 => (some z14)))
theorem f_load_table_first_1_c {S : Nat → Prop} {w0 w : World} {ow : List Res} (hp : Hp S w0 w ow) (bx0 : Int) (t1 : Int) (ot1 : Value) (hot1 : RdO S w0 ot1 [.int .i64 t1]) (vt3002_weights : Value) (t3002_weights : (List Int)) (ht3002_weights : RdS (Ek.int .i64) S w0 vt3002_weights t3002_weights) (vt3002_takes : Value) (t3002_takes : (List Int)) (ht3002_takes : RdS (Ek.int .i64) S w0 vt3002_takes t3002_takes) (vt3002_need : Value) (t3002_need : (List (List Int))) (ht3002_need : RdS (Ek.arr 2049 (Ek.int .i64)) S w0 vt3002_need t3002_need) (ot3002 : Value) (hot3002 : RdO S w0 ot3002 [vt3002_weights, vt3002_takes, vt3002_need]) (ot2 : Value) (hot2 : RdO S w0 ot2 [ot3002]) (t3 : Int) (ot3 : Value) (hot3 : RdO S w0 ot3 [.int .i64 t3]) (t4 : Int) (ot4 : Value) (hot4 : RdO S w0 ot4 [.int .i64 t4]) (vt5 : Value) (t5 : (List Int)) (ht5 : RdS (Ek.int .i64) S w0 (aslv vt5 9) t5) {r : Bool} (h : f_load_table_first_1 bx0 t1 t3002_weights t3002_takes t3002_need t3 t4 t5 = some r) :
   Calls Tryz.prog 79 #[.int .i64 bx0, optr ot1 0, optr ot2 0, optr ot3 0, optr ot4 0, vt5] w (fun e w' => e = .returned (.bool r) ∧ Hp S w0 w' (ow)) := by
  unfold f_load_table_first_1 at h
  refine enx (n := 56) Tryz.func79 fun a hf => ?_
  refine wp_mono (Q := fun e a w => e = .ret ∧ Fr 56 a [(7, .bool r)] ∧ Hp S w0 w (ow)) ?_ ?_
  rotate_left
  ·
   rintro e a w ⟨rfl, hf, hp⟩
   exact ret1 hf rfl rfl ⟨rfl, hp⟩
  refine go ?_; intro a hf
  obtain ⟨z5, hz1, h⟩ := bnd h
  obtain ⟨z14, hz6, h⟩ := bnd h
  refine wp_cutN (fun a w => Fr 56 a [(7, .bool z14)] ∧ Hp S w0 w (ow)) ?_ ?_
  ·
   have hp := hp.same (Same.drew w)
   rcases Bool.eq_false_or_eq_true (decide (bx0 ≤ t1)) with hb2 | hb2
   ·
    replace hz1 := ifT hz1 hb2
    obtain ⟨hc3, hz1⟩ := chk hz1
    obtain ⟨hc4, hz1⟩ := chk hz1
    replace hz1 := Option.some.inj hz1
    rcases Bool.eq_false_or_eq_true z5 with hb7 | hb7
    ·
     replace hz6 := ifT hz6 hb7
     obtain ⟨hc8, hz6⟩ := chk hz6
     obtain ⟨hc9, hz6⟩ := chk hz6
     obtain ⟨hc10, hz6⟩ := chk hz6
     have hc11 := aslv_ix ht5 hc10
     obtain ⟨hc12, hz6⟩ := chk hz6
     obtain ⟨hc13, hz6⟩ := chk hz6
     replace hz6 := Option.some.inj hz6
     refine dr_begin' _ (fun w' => ∃ l, Hp S w0 w' l) [] (by kernel_rfl) ?_
     refine dv 0 hf ⟨_, hp⟩ fun a hf => ?_
     refine dr_takeK 1 _ rfl hf rfl (fun w ⟨_, hp⟩ => st_ldO (u := .int .i64 t1) hf (by decide) pl3 rfl rfl (hot1.ob hp) rfl tk) ⟨_, hp⟩ fun a hf => ?_
     refine dv 2 hf ⟨_, hp⟩ fun a hf => ?_
     refine dv 3 hf ⟨_, hp⟩ fun a hf => ?_
     refine dr_takeK 4 _ rfl hf (wantY hf rfl rfl hb2) (fun w ⟨_, hp⟩ => st_ldO (u := ot3002) hf (by decide) pl132 (wantY hf rfl rfl hb2) rfl (hot2.ob hp) rfl tk) ⟨_, hp⟩ fun a hf => ?_
     refine dr_nilV 5 rfl (by kernel_rfl) (by kernel_rfl) (by kernel_rfl) hf (by decide) (wantY hf rfl rfl hb2) rfl (hot3002.ob hp) ?_
     clear hf; intro a hf
     refine dr_takeK 6 _ rfl hf (wantY hf rfl rfl hb2) (fun w ⟨_, hp⟩ => st_fa (o' := 2) hf (by decide) (off := 2) (sz := 1) (by kernel_rfl) (by decide) (wantY hf rfl rfl hb2) rfl (hot3002.ob hp) rfl tk) ⟨_, hp⟩ fun a hf => ?_
     refine dr_takeK 7 _ rfl hf (wantY hf rfl rfl hb2) (fun w ⟨_, hp⟩ => st_ldO (u := vt3002_need) hf (by decide) pl135 (wantY hf rfl rfl hb2) rfl (hot3002.ob hp) rfl tk) ⟨_, hp⟩ fun a hf => ?_
     refine dr_takeK 8 _ rfl hf (wantY hf rfl rfl hb2) (fun w ⟨_, hp⟩ => st_ldO (u := .int .i64 t3) hf (by decide) pl3 (wantY hf rfl rfl hb2) rfl (hot3.ob hp) rfl tk) ⟨_, hp⟩ fun a hf => ?_
     refine dvY 9 hf hb2 ⟨_, hp⟩ fun a hf => ?_
     refine dr_takeK 10 _ rfl hf (wantY hf rfl rfl hb2) (fun w ⟨_, hp⟩ => st_ldO (u := .int .i64 t1) hf (by decide) pl3 (wantY hf rfl rfl hb2) rfl (hot1.ob hp) rfl tk) ⟨_, hp⟩ fun a hf => ?_
     refine dvY 11 hf hb2 ⟨_, hp⟩ fun a hf => ?_
     refine dvY 12 hf hb2 ⟨_, hp⟩ fun a hf => ?_
     refine dr_takeK 13 _ rfl hf (wantY hf rfl rfl hb2) (fun w ⟨_, hp⟩ => st_index (E := (Ek.arr 2049 (Ek.int .i64))) hf (by decide) Tryz.underlying135 elt134 (wantY hf rfl rfl hb2) rfl rfl (ht3002_need.sl hp) hc3.1 hc3.2 tk) ⟨_, hp⟩ fun a hf => ?_
     refine dr_takeK 14 _ rfl hf (wantY hf rfl rfl hb2) (fun w ⟨_, hp⟩ => st_iaP (sz := 1) hf (by decide) Tryz.underlying134 (by kernel_rfl) (wantY hf rfl rfl hb2) rfl rfl (Sl.isP (ht3002_need.sl hp) hc3.1 hc3.2) hc4.1 hc4.2 tk) ⟨_, hp⟩ fun a hf => ?_
     refine dr_takeK 15 _ rfl hf (wantY hf rfl rfl hb2) (fun w ⟨_, hp⟩ => st_ldQ (F := (Ek.int .i64)) (yv := (gt (gt t3002_need (IntKind.i64.wrap (t3 + (1 : Int)))) (IntKind.i64.wrap (t1 - bx0)))) hf (by decide) pl3 (fun x => .int .i64 x) (fun _ _ h => h) (wantY hf rfl rfl hb2) rfl (Sl.part (E := (Ek.arr 2049 (Ek.int .i64))) (F := (Ek.int .i64)) (o := ((IntKind.i64.wrap (t1 - bx0))).toNat * 1) (Sub.arr (F := (Ek.int .i64)) (N := 2049) (j := (IntKind.i64.wrap (t1 - bx0))) hc4.1 hc4.2) (ht3002_need.sl hp) hc3.1 hc3.2) tk) ⟨_, hp⟩ fun a hf => ?_
     refine dvY 16 hf hb2 ⟨_, hp⟩ fun a hf => ?_
     refine dr_takeK 17 _ rfl hf rfl (fun w ⟨_, hp⟩ => st_pick (v := .bool z5) hf rfl rfl (fun _ => by rw [← hz1]; rfl) (fun hb' => absurd (hb2.symm.trans hb') (by decide)) (by decide) tk) ⟨_, hp⟩ fun a hf => ?_
     refine dv 18 hf ⟨_, hp⟩ fun a hf => ?_
     refine dr_takeK 19 _ rfl hf (wantY hf rfl rfl hb7) (fun w ⟨_, hp⟩ => st_ldO (u := ot3002) hf (by decide) pl132 (wantY hf rfl rfl hb7) rfl (hot2.ob hp) rfl tk) ⟨_, hp⟩ fun a hf => ?_
     refine dr_nilV 20 rfl (by kernel_rfl) (by kernel_rfl) (by kernel_rfl) hf (by decide) (wantY hf rfl rfl hb7) rfl (hot3002.ob hp) ?_
     clear hf; intro a hf
     refine dr_takeK 21 _ rfl hf (wantY hf rfl rfl hb7) (fun w ⟨_, hp⟩ => st_fa (o' := 2) hf (by decide) (off := 2) (sz := 1) (by kernel_rfl) (by decide) (wantY hf rfl rfl hb7) rfl (hot3002.ob hp) rfl tk) ⟨_, hp⟩ fun a hf => ?_
     refine dr_takeK 22 _ rfl hf (wantY hf rfl rfl hb7) (fun w ⟨_, hp⟩ => st_ldO (u := vt3002_need) hf (by decide) pl135 (wantY hf rfl rfl hb7) rfl (hot3002.ob hp) rfl tk) ⟨_, hp⟩ fun a hf => ?_
     refine dr_takeK 23 _ rfl hf (wantY hf rfl rfl hb7) (fun w ⟨_, hp⟩ => st_ldO (u := .int .i64 t3) hf (by decide) pl3 (wantY hf rfl rfl hb7) rfl (hot3.ob hp) rfl tk) ⟨_, hp⟩ fun a hf => ?_
     refine dvY 24 hf hb7 ⟨_, hp⟩ fun a hf => ?_
     refine dr_takeK 25 _ rfl hf (wantY hf rfl rfl hb7) (fun w ⟨_, hp⟩ => st_ldO (u := .int .i64 t1) hf (by decide) pl3 (wantY hf rfl rfl hb7) rfl (hot1.ob hp) rfl tk) ⟨_, hp⟩ fun a hf => ?_
     refine dvY 26 hf hb7 ⟨_, hp⟩ fun a hf => ?_
     refine dvY 27 hf hb7 ⟨_, hp⟩ fun a hf => ?_
     refine dr_takeK 28 _ rfl hf (wantY hf rfl rfl hb7) (fun w ⟨_, hp⟩ => st_index (E := (Ek.arr 2049 (Ek.int .i64))) hf (by decide) Tryz.underlying135 elt134 (wantY hf rfl rfl hb7) rfl rfl (ht3002_need.sl hp) hc8.1 hc8.2 tk) ⟨_, hp⟩ fun a hf => ?_
     refine dr_takeK 29 _ rfl hf (wantY hf rfl rfl hb7) (fun w ⟨_, hp⟩ => st_iaP (sz := 1) hf (by decide) Tryz.underlying134 (by kernel_rfl) (wantY hf rfl rfl hb7) rfl rfl (Sl.isP (ht3002_need.sl hp) hc8.1 hc8.2) hc9.1 hc9.2 tk) ⟨_, hp⟩ fun a hf => ?_
     refine dr_takeK 30 _ rfl hf (wantY hf rfl rfl hb7) (fun w ⟨_, hp⟩ => st_ldQ (F := (Ek.int .i64)) (yv := (gt (gt t3002_need (IntKind.i64.wrap (t3 + (1 : Int)))) (IntKind.i64.wrap (t1 - bx0)))) hf (by decide) pl3 (fun x => .int .i64 x) (fun _ _ h => h) (wantY hf rfl rfl hb7) rfl (Sl.part (E := (Ek.arr 2049 (Ek.int .i64))) (F := (Ek.int .i64)) (o := ((IntKind.i64.wrap (t1 - bx0))).toNat * 1) (Sub.arr (F := (Ek.int .i64)) (N := 2049) (j := (IntKind.i64.wrap (t1 - bx0))) hc9.1 hc9.2) (ht3002_need.sl hp) hc8.1 hc8.2) tk) ⟨_, hp⟩ fun a hf => ?_
     refine dr_takeK 31 _ rfl hf (wantY hf rfl rfl hb7) (fun w ⟨_, hp⟩ => st_ldO (u := .int .i64 t4) hf (by decide) pl3 (wantY hf rfl rfl hb7) rfl (hot4.ob hp) rfl tk) ⟨_, hp⟩ fun a hf => ?_
     refine dvY 32 hf hb7 ⟨_, hp⟩ fun a hf => ?_
     refine dr_takeK 33 _ rfl hf (wantY hf rfl rfl hb7) (fun w ⟨_, hp⟩ => st_iaA (E := (Ek.int .i64)) (N := 9) hf (by decide) Tryz.underlying130 (by kernel_rfl) (wantY hf rfl rfl hb7) rfl rfl (ht5.sl hp) rfl hc10.1 hc10.2 tk) ⟨_, hp⟩ fun a hf => ?_
     refine dr_takeK 34 _ rfl hf (wantY hf rfl rfl hb7) (fun w ⟨_, hp⟩ => st_ldI hf (by decide) pl3 (wantY hf rfl rfl hb7) rfl (ht5.sl hp) hc11.1 hc11.2 tk) ⟨_, hp⟩ fun a hf => ?_
     refine dvY 35 hf hb7 ⟨_, hp⟩ fun a hf => ?_
     refine dvY 36 hf hb7 ⟨_, hp⟩ fun a hf => ?_
     refine dr_takeK 37 _ rfl hf (wantY hf rfl rfl hb7) (fun w ⟨_, hp⟩ => st_ldO (u := ot3002) hf (by decide) pl132 (wantY hf rfl rfl hb7) rfl (hot2.ob hp) rfl tk) ⟨_, hp⟩ fun a hf => ?_
     refine dr_nilV 38 rfl (by kernel_rfl) (by kernel_rfl) (by kernel_rfl) hf (by decide) (wantY hf rfl rfl hb7) rfl (hot3002.ob hp) ?_
     clear hf; intro a hf
     refine dr_takeK 39 _ rfl hf (wantY hf rfl rfl hb7) (fun w ⟨_, hp⟩ => st_fa (o' := 2) hf (by decide) (off := 2) (sz := 1) (by kernel_rfl) (by decide) (wantY hf rfl rfl hb7) rfl (hot3002.ob hp) rfl tk) ⟨_, hp⟩ fun a hf => ?_
     refine dr_takeK 40 _ rfl hf (wantY hf rfl rfl hb7) (fun w ⟨_, hp⟩ => st_ldO (u := vt3002_need) hf (by decide) pl135 (wantY hf rfl rfl hb7) rfl (hot3002.ob hp) rfl tk) ⟨_, hp⟩ fun a hf => ?_
     refine dr_takeK 41 _ rfl hf (wantY hf rfl rfl hb7) (fun w ⟨_, hp⟩ => st_ldO (u := .int .i64 t3) hf (by decide) pl3 (wantY hf rfl rfl hb7) rfl (hot3.ob hp) rfl tk) ⟨_, hp⟩ fun a hf => ?_
     refine dr_takeK 42 _ rfl hf (wantY hf rfl rfl hb7) (fun w ⟨_, hp⟩ => st_ldO (u := .int .i64 t1) hf (by decide) pl3 (wantY hf rfl rfl hb7) rfl (hot1.ob hp) rfl tk) ⟨_, hp⟩ fun a hf => ?_
     refine dr_takeK 43 _ rfl hf (wantY hf rfl rfl hb7) (fun w ⟨_, hp⟩ => st_index (E := (Ek.arr 2049 (Ek.int .i64))) hf (by decide) Tryz.underlying135 elt134 (wantY hf rfl rfl hb7) rfl rfl (ht3002_need.sl hp) hc12.1 hc12.2 tk) ⟨_, hp⟩ fun a hf => ?_
     refine dr_takeK 44 _ rfl hf (wantY hf rfl rfl hb7) (fun w ⟨_, hp⟩ => st_iaP (sz := 1) hf (by decide) Tryz.underlying134 (by kernel_rfl) (wantY hf rfl rfl hb7) rfl rfl (Sl.isP (ht3002_need.sl hp) hc12.1 hc12.2) hc13.1 hc13.2 tk) ⟨_, hp⟩ fun a hf => ?_
     refine dr_takeK 45 _ rfl hf (wantY hf rfl rfl hb7) (fun w ⟨_, hp⟩ => st_ldQ (F := (Ek.int .i64)) (yv := (gt (gt t3002_need t3) t1)) hf (by decide) pl3 (fun x => .int .i64 x) (fun _ _ h => h) (wantY hf rfl rfl hb7) rfl (Sl.part (E := (Ek.arr 2049 (Ek.int .i64))) (F := (Ek.int .i64)) (o := (t1).toNat * 1) (Sub.arr (F := (Ek.int .i64)) (N := 2049) (j := t1) hc13.1 hc13.2) (ht3002_need.sl hp) hc12.1 hc12.2) tk) ⟨_, hp⟩ fun a hf => ?_
     refine dvY 46 hf hb7 ⟨_, hp⟩ fun a hf => ?_
     refine dr_takeK 47 _ rfl hf rfl (fun w ⟨_, hp⟩ => st_pick (v := .bool z14) hf rfl rfl (fun _ => by rw [← hz6]; rfl) (fun hb' => absurd (hb7.symm.trans hb') (by decide)) (by decide) tk) ⟨_, hp⟩ fun a hf => ?_
     refine dv 48 hf ⟨_, hp⟩ fun a hf => ?_
     refine dr_end (by kernel_rfl) ?_ _
     exact ⟨hf.sb, hp⟩
    skip
    replace hz6 := ifF hz6 hb7
    replace hz6 := Option.some.inj hz6
    refine dr_begin' _ (fun w' => ∃ l, Hp S w0 w' l) [] (by kernel_rfl) ?_
    refine dv 0 hf ⟨_, hp⟩ fun a hf => ?_
    refine dr_takeK 1 _ rfl hf rfl (fun w ⟨_, hp⟩ => st_ldO (u := .int .i64 t1) hf (by decide) pl3 rfl rfl (hot1.ob hp) rfl tk) ⟨_, hp⟩ fun a hf => ?_
    refine dv 2 hf ⟨_, hp⟩ fun a hf => ?_
    refine dv 3 hf ⟨_, hp⟩ fun a hf => ?_
    refine dr_takeK 4 _ rfl hf (wantY hf rfl rfl hb2) (fun w ⟨_, hp⟩ => st_ldO (u := ot3002) hf (by decide) pl132 (wantY hf rfl rfl hb2) rfl (hot2.ob hp) rfl tk) ⟨_, hp⟩ fun a hf => ?_
    refine dr_nilV 5 rfl (by kernel_rfl) (by kernel_rfl) (by kernel_rfl) hf (by decide) (wantY hf rfl rfl hb2) rfl (hot3002.ob hp) ?_
    clear hf; intro a hf
    refine dr_takeK 6 _ rfl hf (wantY hf rfl rfl hb2) (fun w ⟨_, hp⟩ => st_fa (o' := 2) hf (by decide) (off := 2) (sz := 1) (by kernel_rfl) (by decide) (wantY hf rfl rfl hb2) rfl (hot3002.ob hp) rfl tk) ⟨_, hp⟩ fun a hf => ?_
    refine dr_takeK 7 _ rfl hf (wantY hf rfl rfl hb2) (fun w ⟨_, hp⟩ => st_ldO (u := vt3002_need) hf (by decide) pl135 (wantY hf rfl rfl hb2) rfl (hot3002.ob hp) rfl tk) ⟨_, hp⟩ fun a hf => ?_
    refine dr_takeK 8 _ rfl hf (wantY hf rfl rfl hb2) (fun w ⟨_, hp⟩ => st_ldO (u := .int .i64 t3) hf (by decide) pl3 (wantY hf rfl rfl hb2) rfl (hot3.ob hp) rfl tk) ⟨_, hp⟩ fun a hf => ?_
    refine dvY 9 hf hb2 ⟨_, hp⟩ fun a hf => ?_
    refine dr_takeK 10 _ rfl hf (wantY hf rfl rfl hb2) (fun w ⟨_, hp⟩ => st_ldO (u := .int .i64 t1) hf (by decide) pl3 (wantY hf rfl rfl hb2) rfl (hot1.ob hp) rfl tk) ⟨_, hp⟩ fun a hf => ?_
    refine dvY 11 hf hb2 ⟨_, hp⟩ fun a hf => ?_
    refine dvY 12 hf hb2 ⟨_, hp⟩ fun a hf => ?_
    refine dr_takeK 13 _ rfl hf (wantY hf rfl rfl hb2) (fun w ⟨_, hp⟩ => st_index (E := (Ek.arr 2049 (Ek.int .i64))) hf (by decide) Tryz.underlying135 elt134 (wantY hf rfl rfl hb2) rfl rfl (ht3002_need.sl hp) hc3.1 hc3.2 tk) ⟨_, hp⟩ fun a hf => ?_
    refine dr_takeK 14 _ rfl hf (wantY hf rfl rfl hb2) (fun w ⟨_, hp⟩ => st_iaP (sz := 1) hf (by decide) Tryz.underlying134 (by kernel_rfl) (wantY hf rfl rfl hb2) rfl rfl (Sl.isP (ht3002_need.sl hp) hc3.1 hc3.2) hc4.1 hc4.2 tk) ⟨_, hp⟩ fun a hf => ?_
    refine dr_takeK 15 _ rfl hf (wantY hf rfl rfl hb2) (fun w ⟨_, hp⟩ => st_ldQ (F := (Ek.int .i64)) (yv := (gt (gt t3002_need (IntKind.i64.wrap (t3 + (1 : Int)))) (IntKind.i64.wrap (t1 - bx0)))) hf (by decide) pl3 (fun x => .int .i64 x) (fun _ _ h => h) (wantY hf rfl rfl hb2) rfl (Sl.part (E := (Ek.arr 2049 (Ek.int .i64))) (F := (Ek.int .i64)) (o := ((IntKind.i64.wrap (t1 - bx0))).toNat * 1) (Sub.arr (F := (Ek.int .i64)) (N := 2049) (j := (IntKind.i64.wrap (t1 - bx0))) hc4.1 hc4.2) (ht3002_need.sl hp) hc3.1 hc3.2) tk) ⟨_, hp⟩ fun a hf => ?_
    refine dvY 16 hf hb2 ⟨_, hp⟩ fun a hf => ?_
    refine dr_takeK 17 _ rfl hf rfl (fun w ⟨_, hp⟩ => st_pick (v := .bool z5) hf rfl rfl (fun _ => by rw [← hz1]; rfl) (fun hb' => absurd (hb2.symm.trans hb') (by decide)) (by decide) tk) ⟨_, hp⟩ fun a hf => ?_
    refine dv 18 hf ⟨_, hp⟩ fun a hf => ?_
    refine dr_outK 19 rfl hf rfl (wantN hf rfl rfl hb7) ⟨_, hp⟩ fun a hf => ?_
    refine dr_outP 20 rfl (by kernel_rfl) (by kernel_rfl) (by kernel_rfl) rfl hf (by decide) (wantN hf rfl rfl hb7) ?_
    clear hf; intro a hf
    refine dr_outK 21 rfl hf rfl (wantN hf rfl rfl hb7) ⟨_, hp⟩ fun a hf => ?_
    refine dr_outK 22 rfl hf rfl (wantN hf rfl rfl hb7) ⟨_, hp⟩ fun a hf => ?_
    refine dr_outK 23 rfl hf rfl (wantN hf rfl rfl hb7) ⟨_, hp⟩ fun a hf => ?_
    refine dr_outK 24 rfl hf rfl (wantN hf rfl rfl hb7) ⟨_, hp⟩ fun a hf => ?_
    refine dr_outK 25 rfl hf rfl (wantN hf rfl rfl hb7) ⟨_, hp⟩ fun a hf => ?_
    refine dr_outK 26 rfl hf rfl (wantN hf rfl rfl hb7) ⟨_, hp⟩ fun a hf => ?_
    refine dr_outK 27 rfl hf rfl (wantN hf rfl rfl hb7) ⟨_, hp⟩ fun a hf => ?_
    refine dr_outK 28 rfl hf rfl (wantN hf rfl rfl hb7) ⟨_, hp⟩ fun a hf => ?_
    refine dr_outK 29 rfl hf rfl (wantN hf rfl rfl hb7) ⟨_, hp⟩ fun a hf => ?_
    refine dr_outK 30 rfl hf rfl (wantN hf rfl rfl hb7) ⟨_, hp⟩ fun a hf => ?_
    refine dr_outK 31 rfl hf rfl (wantN hf rfl rfl hb7) ⟨_, hp⟩ fun a hf => ?_
    refine dr_outK 32 rfl hf rfl (wantN hf rfl rfl hb7) ⟨_, hp⟩ fun a hf => ?_
    refine dr_outK 33 rfl hf rfl (wantN hf rfl rfl hb7) ⟨_, hp⟩ fun a hf => ?_
    refine dr_outK 34 rfl hf rfl (wantN hf rfl rfl hb7) ⟨_, hp⟩ fun a hf => ?_
    refine dr_outK 35 rfl hf rfl (wantN hf rfl rfl hb7) ⟨_, hp⟩ fun a hf => ?_
    refine dr_outK 36 rfl hf rfl (wantN hf rfl rfl hb7) ⟨_, hp⟩ fun a hf => ?_
    refine dr_outK 37 rfl hf rfl (wantN hf rfl rfl hb7) ⟨_, hp⟩ fun a hf => ?_
    refine dr_outP 38 rfl (by kernel_rfl) (by kernel_rfl) (by kernel_rfl) rfl hf (by decide) (wantN hf rfl rfl hb7) ?_
    clear hf; intro a hf
    refine dr_outK 39 rfl hf rfl (wantN hf rfl rfl hb7) ⟨_, hp⟩ fun a hf => ?_
    refine dr_outK 40 rfl hf rfl (wantN hf rfl rfl hb7) ⟨_, hp⟩ fun a hf => ?_
    refine dr_outK 41 rfl hf rfl (wantN hf rfl rfl hb7) ⟨_, hp⟩ fun a hf => ?_
    refine dr_outK 42 rfl hf rfl (wantN hf rfl rfl hb7) ⟨_, hp⟩ fun a hf => ?_
    refine dr_outK 43 rfl hf rfl (wantN hf rfl rfl hb7) ⟨_, hp⟩ fun a hf => ?_
    refine dr_outK 44 rfl hf rfl (wantN hf rfl rfl hb7) ⟨_, hp⟩ fun a hf => ?_
    refine dr_outK 45 rfl hf rfl (wantN hf rfl rfl hb7) ⟨_, hp⟩ fun a hf => ?_
    refine dr_outK 46 rfl hf rfl (wantN hf rfl rfl hb7) ⟨_, hp⟩ fun a hf => ?_
    refine dr_takeK 47 _ rfl hf rfl (fun w ⟨_, hp⟩ => st_pick (v := .bool z14) hf rfl rfl (fun hb' => absurd (hb7.symm.trans hb') (by decide)) (fun _ => by rw [← hz6]; rfl) (by decide) tk) ⟨_, hp⟩ fun a hf => ?_
    refine dv 48 hf ⟨_, hp⟩ fun a hf => ?_
    refine dr_end (by kernel_rfl) ?_ _
    exact ⟨hf.sb, hp⟩
   skip
   replace hz1 := ifF hz1 hb2
   replace hz1 := Option.some.inj hz1
   have hb7 : z5 = false := hz1.symm
   skip
   replace hz6 := ifF hz6 hb7
   replace hz6 := Option.some.inj hz6
   refine dr_begin' _ (fun w' => ∃ l, Hp S w0 w' l) [] (by kernel_rfl) ?_
   refine dv 0 hf ⟨_, hp⟩ fun a hf => ?_
   refine dr_takeK 1 _ rfl hf rfl (fun w ⟨_, hp⟩ => st_ldO (u := .int .i64 t1) hf (by decide) pl3 rfl rfl (hot1.ob hp) rfl tk) ⟨_, hp⟩ fun a hf => ?_
   refine dv 2 hf ⟨_, hp⟩ fun a hf => ?_
   refine dv 3 hf ⟨_, hp⟩ fun a hf => ?_
   refine dr_outK 4 rfl hf rfl (wantN hf rfl rfl hb2) ⟨_, hp⟩ fun a hf => ?_
   refine dr_outP 5 rfl (by kernel_rfl) (by kernel_rfl) (by kernel_rfl) rfl hf (by decide) (wantN hf rfl rfl hb2) ?_
   clear hf; intro a hf
   refine dr_outK 6 rfl hf rfl (wantN hf rfl rfl hb2) ⟨_, hp⟩ fun a hf => ?_
   refine dr_outK 7 rfl hf rfl (wantN hf rfl rfl hb2) ⟨_, hp⟩ fun a hf => ?_
   refine dr_outK 8 rfl hf rfl (wantN hf rfl rfl hb2) ⟨_, hp⟩ fun a hf => ?_
   refine dr_outK 9 rfl hf rfl (wantN hf rfl rfl hb2) ⟨_, hp⟩ fun a hf => ?_
   refine dr_outK 10 rfl hf rfl (wantN hf rfl rfl hb2) ⟨_, hp⟩ fun a hf => ?_
   refine dr_outK 11 rfl hf rfl (wantN hf rfl rfl hb2) ⟨_, hp⟩ fun a hf => ?_
   refine dr_outK 12 rfl hf rfl (wantN hf rfl rfl hb2) ⟨_, hp⟩ fun a hf => ?_
   refine dr_outK 13 rfl hf rfl (wantN hf rfl rfl hb2) ⟨_, hp⟩ fun a hf => ?_
   refine dr_outK 14 rfl hf rfl (wantN hf rfl rfl hb2) ⟨_, hp⟩ fun a hf => ?_
   refine dr_outK 15 rfl hf rfl (wantN hf rfl rfl hb2) ⟨_, hp⟩ fun a hf => ?_
   refine dr_outK 16 rfl hf rfl (wantN hf rfl rfl hb2) ⟨_, hp⟩ fun a hf => ?_
   refine dr_takeK 17 _ rfl hf rfl (fun w ⟨_, hp⟩ => st_pick (v := .bool z5) hf rfl rfl (fun hb' => absurd (hb2.symm.trans hb') (by decide)) (fun _ => by rw [← hz1]; rfl) (by decide) tk) ⟨_, hp⟩ fun a hf => ?_
   refine dv 18 hf ⟨_, hp⟩ fun a hf => ?_
   refine dr_outK 19 rfl hf rfl (wantN hf rfl rfl hb7) ⟨_, hp⟩ fun a hf => ?_
   refine dr_outP 20 rfl (by kernel_rfl) (by kernel_rfl) (by kernel_rfl) rfl hf (by decide) (wantN hf rfl rfl hb7) ?_
   clear hf; intro a hf
   refine dr_outK 21 rfl hf rfl (wantN hf rfl rfl hb7) ⟨_, hp⟩ fun a hf => ?_
   refine dr_outK 22 rfl hf rfl (wantN hf rfl rfl hb7) ⟨_, hp⟩ fun a hf => ?_
   refine dr_outK 23 rfl hf rfl (wantN hf rfl rfl hb7) ⟨_, hp⟩ fun a hf => ?_
   refine dr_outK 24 rfl hf rfl (wantN hf rfl rfl hb7) ⟨_, hp⟩ fun a hf => ?_
   refine dr_outK 25 rfl hf rfl (wantN hf rfl rfl hb7) ⟨_, hp⟩ fun a hf => ?_
   refine dr_outK 26 rfl hf rfl (wantN hf rfl rfl hb7) ⟨_, hp⟩ fun a hf => ?_
   refine dr_outK 27 rfl hf rfl (wantN hf rfl rfl hb7) ⟨_, hp⟩ fun a hf => ?_
   refine dr_outK 28 rfl hf rfl (wantN hf rfl rfl hb7) ⟨_, hp⟩ fun a hf => ?_
   refine dr_outK 29 rfl hf rfl (wantN hf rfl rfl hb7) ⟨_, hp⟩ fun a hf => ?_
   refine dr_outK 30 rfl hf rfl (wantN hf rfl rfl hb7) ⟨_, hp⟩ fun a hf => ?_
   refine dr_outK 31 rfl hf rfl (wantN hf rfl rfl hb7) ⟨_, hp⟩ fun a hf => ?_
   refine dr_outK 32 rfl hf rfl (wantN hf rfl rfl hb7) ⟨_, hp⟩ fun a hf => ?_
   refine dr_outK 33 rfl hf rfl (wantN hf rfl rfl hb7) ⟨_, hp⟩ fun a hf => ?_
   refine dr_outK 34 rfl hf rfl (wantN hf rfl rfl hb7) ⟨_, hp⟩ fun a hf => ?_
   refine dr_outK 35 rfl hf rfl (wantN hf rfl rfl hb7) ⟨_, hp⟩ fun a hf => ?_
   refine dr_outK 36 rfl hf rfl (wantN hf rfl rfl hb7) ⟨_, hp⟩ fun a hf => ?_
   refine dr_outK 37 rfl hf rfl (wantN hf rfl rfl hb7) ⟨_, hp⟩ fun a hf => ?_
   refine dr_outP 38 rfl (by kernel_rfl) (by kernel_rfl) (by kernel_rfl) rfl hf (by decide) (wantN hf rfl rfl hb7) ?_
   clear hf; intro a hf
   refine dr_outK 39 rfl hf rfl (wantN hf rfl rfl hb7) ⟨_, hp⟩ fun a hf => ?_
   refine dr_outK 40 rfl hf rfl (wantN hf rfl rfl hb7) ⟨_, hp⟩ fun a hf => ?_
   refine dr_outK 41 rfl hf rfl (wantN hf rfl rfl hb7) ⟨_, hp⟩ fun a hf => ?_
   refine dr_outK 42 rfl hf rfl (wantN hf rfl rfl hb7) ⟨_, hp⟩ fun a hf => ?_
   refine dr_outK 43 rfl hf rfl (wantN hf rfl rfl hb7) ⟨_, hp⟩ fun a hf => ?_
   refine dr_outK 44 rfl hf rfl (wantN hf rfl rfl hb7) ⟨_, hp⟩ fun a hf => ?_
   refine dr_outK 45 rfl hf rfl (wantN hf rfl rfl hb7) ⟨_, hp⟩ fun a hf => ?_
   refine dr_outK 46 rfl hf rfl (wantN hf rfl rfl hb7) ⟨_, hp⟩ fun a hf => ?_
   refine dr_takeK 47 _ rfl hf rfl (fun w ⟨_, hp⟩ => st_pick (v := .bool z14) hf rfl rfl (fun hb' => absurd (hb7.symm.trans hb') (by decide)) (fun _ => by rw [← hz6]; rfl) (by decide) tk) ⟨_, hp⟩ fun a hf => ?_
   refine dv 48 hf ⟨_, hp⟩ fun a hf => ?_
   refine dr_end (by kernel_rfl) ?_ _
   exact ⟨hf.sb, hp⟩
  rintro a w ⟨hf, hp⟩
  refine goT ?_
  obtain rfl := oj h
  exact ⟨rfl, ⟨hf.sb, hp⟩⟩

noncomputable def f_slices_IndexFunc_int_int_74.s1c (sx0 : (List Int)) (t2000 : Int) (t5001_weights : (List Int)) (t5001_takes : (List Int)) (t5001_need : (List (List Int))) (t2002 : Int) (t2003 : Int) (t2004 : (List Int)) (t8 : Int) : Option (Int ⊕ (Unit ⊕ Int)) := (if (decide (t8 < (sx0.length : Int))) = true then (if 0 ≤ t8 ∧ t8 < (sx0.length : Int) then ((f_load_table_first_1 (gt sx0 t8) t2000 t5001_weights t5001_takes t5001_need t2002 t2003 t2004).bind fun q2 => (if q2 = true then (some (Sum.inr (Sum.inr t8))) else (some (Sum.inl (IntKind.i64.wrap (t8 + (1 : Int))))))) else none) else (some (Sum.inr (Sum.inl ()))))
noncomputable def f_slices_IndexFunc_int_int_74.s1 (sx0 : (List Int)) (t2000 : Int) (t5001_weights : (List Int)) (t5001_takes : (List Int)) (t5001_need : (List (List Int))) (t2002 : Int) (t2003 : Int) (t2004 : (List Int)) (s : Int) : Option (Int ⊕ (Unit ⊕ Int)) := f_slices_IndexFunc_int_int_74.s1c sx0 t2000 t5001_weights t5001_takes t5001_need t2002 t2003 t2004 s
noncomputable def f_slices_IndexFunc_int_int_74 (sx0 : (List Int)) (t2000 : Int) (t5001_weights : (List Int)) (t5001_takes : (List Int)) (t5001_need : (List (List Int))) (t2002 : Int) (t2003 : Int) (t2004 : (List Int)) : Option Int := ((loop (f_slices_IndexFunc_int_int_74.s1 sx0 t2000 t5001_weights t5001_takes t5001_need t2002 t2003 t2004) (0 : Int)).bind (fun q4 => sm q4 (fun q5 => (some (-1 : Int))) (fun q6 => (some q6))))
theorem f_slices_IndexFunc_int_int_74_c {S : Nat → Prop} {w0 w : World} {ow : List Res} (hp : Hp S w0 w ow) (vsx0 : Value) (sx0 : (List Int)) (hsx0 : RdS (Ek.int .i64) S w0 vsx0 sx0) (t2000 : Int) (ot2000 : Value) (hot2000 : RdO S w0 ot2000 [.int .i64 t2000]) (vt5001_weights : Value) (t5001_weights : (List Int)) (ht5001_weights : RdS (Ek.int .i64) S w0 vt5001_weights t5001_weights) (vt5001_takes : Value) (t5001_takes : (List Int)) (ht5001_takes : RdS (Ek.int .i64) S w0 vt5001_takes t5001_takes) (vt5001_need : Value) (t5001_need : (List (List Int))) (ht5001_need : RdS (Ek.arr 2049 (Ek.int .i64)) S w0 vt5001_need t5001_need) (ot5001 : Value) (hot5001 : RdO S w0 ot5001 [vt5001_weights, vt5001_takes, vt5001_need]) (ot2001 : Value) (hot2001 : RdO S w0 ot2001 [ot5001]) (t2002 : Int) (ot2002 : Value) (hot2002 : RdO S w0 ot2002 [.int .i64 t2002]) (t2003 : Int) (ot2003 : Value) (hot2003 : RdO S w0 ot2003 [.int .i64 t2003]) (vt2004 : Value) (t2004 : (List Int)) (ht2004 : RdS (Ek.int .i64) S w0 (aslv vt2004 9) t2004) {r : Int} (h : f_slices_IndexFunc_int_int_74 sx0 t2000 t5001_weights t5001_takes t5001_need t2002 t2003 t2004 = some r) :
   Calls Tryz.prog 74 #[vsx0, .func (.func 79) #[] #[optr ot2000 0, optr ot2001 0, optr ot2002 0, optr ot2003 0, vt2004]] w (fun e w' => e = .returned (.int .i64 r) ∧ Hp S w0 w' (ow)) := by
  unfold f_slices_IndexFunc_int_int_74 at h
  refine enx (n := 19) Tryz.func74 fun a hf => ?_
  refine wp_mono (Q := fun e a w => e = .ret ∧ Fr 19 a [(4, .int .i64 r)] ∧ Hp S w0 w (ow)) ?_ ?_
  rotate_left
  ·
   rintro e a w ⟨rfl, hf, hp⟩
   exact ret1 hf rfl rfl ⟨rfl, hp⟩
  refine go ?_; intro a hf
  refine st_len (E := (Ek.int .i64)) hf (by decide) Tryz.underlying24 rfl rfl (hsx0.sl hp) fun a _ hf => ?_
  refine go ?_; intro a hf
  obtain ⟨q4, hl, h⟩ := bnd h
  refine wp_loop_pure (f := (f_slices_IndexFunc_int_int_74.s1 sx0 t2000 t5001_weights t5001_takes t5001_need t2002 t2003 t2004)) (s := (0 : Int)) (fun s a w => Fr 19 a [(0, vsx0), (1, .func (.func 79) #[] #[optr ot2000 0, optr ot2001 0, optr ot2002 0, optr ot2003 0, vt2004]), (7, .int .i64 (sx0.length : Int)), (8, .int .i64 s)] ∧ Hp S w0 w (ow)) (fun q e a w => match q with | (Sum.inl q) => e = .exit 0 ∧ Fr 19 a [] ∧ Hp S w0 w (ow) | (Sum.inr q) => e = .ret ∧ Fr 19 a [(4, .int .i64 q)] ∧ Hp S w0 w (ow)) ?_ hl ⟨hf.sb, hp⟩ ?_
  ·
   clear hl hf hp
   intro s x a w h hI
   obtain ⟨t8, hs⟩ : ∃ z, z = s := ⟨s, rfl⟩; subst hs
   obtain ⟨hf, hp⟩ : Fr 19 a [(0, vsx0), (1, .func (.func 79) #[] #[optr ot2000 0, optr ot2001 0, optr ot2002 0, optr ot2003 0, vt2004]), (7, .int .i64 (sx0.length : Int)), (8, .int .i64 t8)] ∧ Hp S w0 w (ow) := hI
   replace h : f_slices_IndexFunc_int_int_74.s1c sx0 t2000 t5001_weights t5001_takes t5001_need t2002 t2003 t2004 t8 = some x := h
   unfold f_slices_IndexFunc_int_int_74.s1c at h
   refine go ?_; intro a hf
   refine wp_if hf rfl (fun hb => ?_) (fun hb => ?_)
   ·
    replace h := ifT h hb
    refine wp_skip ?_
    refine go ?_; intro a hf
    obtain ⟨hc1, h⟩ := chk h
    refine st_index (E := (Ek.int .i64)) hf (by decide) Tryz.underlying24 elt3 rfl rfl rfl (hsx0.sl hp) hc1.1 hc1.2 fun a _ hf => ?_
    refine st_ldI hf (by decide) pl3 rfl rfl (hsx0.sl hp) hc1.1 hc1.2 fun a _ hf => ?_
    obtain ⟨q2, hcall3, h⟩ := bnd h
    refine st_call hf (by decide) Tryz.func79 rfl rfl rfl rfl rfl (f_load_table_first_1_c hp _ _ _ hot2000 _ _ ht5001_weights _ _ ht5001_takes _ _ ht5001_need _ hot5001 _ hot2001 _ _ hot2002 _ _ hot2003 _ _ ht2004 hcall3) ?_
    rintro _ w ⟨rfl, hp⟩
    replace hp : Hp _ _ _ (ow) := hp
    refine ⟨_, rfl, fun a hf => ?_⟩
    refine goT ?_
    refine wp_if hf rfl (fun hb => ?_) (fun hb => ?_)
    ·
     replace h := ifT h hb
     refine go ?_; intro a hf
     refine ib_r ?_
     refine th_r ?_
     obtain rfl := oj h
     exact rnd_r (by simp) ⟨rfl, ⟨hf.sb, hp⟩⟩
    replace h := ifF h hb
    refine wp_skip ?_
    refine go ?_; intro a hf
    obtain rfl := oj h
    exact rnd_l ⟨hf.sb, hp⟩
   replace h := ifF h hb
   refine wp_exit ?_
   refine th_e ?_
   obtain rfl := oj h
   exact rnd_r (by simp) ⟨rfl, hf.sub trivial, hp⟩
  clear hl hf hp
  intro e a w hne hO
  rcases q4 with q5 | q6
  ·
   replace h := smL h
   obtain ⟨rfl, hf, hp⟩ := hO
   refine ib_same ?_
   refine go ?_; intro a hf
   obtain rfl := oj h
   exact ⟨rfl, ⟨hf.sb, hp⟩⟩
  replace h := smR h
  obtain ⟨rfl, hf, hp⟩ := hO
  refine ib_r ?_
  refine th_r ?_
  obtain rfl := oj h
  exact ⟨rfl, ⟨hf.sb, hp⟩⟩

noncomputable def f_load_table_first.s1c (t0_weights : (List Int)) (t0_takes : (List Int)) (t0_need : (List (List Int))) (q27 : (List Int)) (n3c : Int) (xx5c_0 : (List Int)) (xx5c_1 : Int) (xx5c_2 : Int) (t26 : Int) : Option ((Int × (List Int) × Int × Int × Int) ⊕ ((List Int) × Int × Int)) := (if (decide (t26 < (t0_weights.length : Int))) = true then (if 0 ≤ t26 ∧ t26 < (t0_weights.length : Int) then ((f_slices_IndexFunc_int_int_74 t0_takes n3c t0_weights t0_takes t0_need t26 (gt t0_weights t26) q27).bind fun q46 => (if 0 ≤ q46 ∧ q46 < (t0_takes.length : Int) then (if (xx5c_0.length + ([(gt t0_takes q46)]).length) * 8 ≤ 140737488355328 then (if 0 ≤ q46 ∧ q46 < (t0_takes.length : Int) then (some (Sum.inl ((IntKind.i64.wrap (n3c - (gt t0_takes q46))), (xx5c_0 ++ [(gt t0_takes q46)]), xx5c_1, xx5c_2, (IntKind.i64.wrap (t26 + (1 : Int)))))) else none) else none) else none)) else none) else (some (Sum.inr (xx5c_0, xx5c_1, xx5c_2))))
noncomputable def f_load_table_first.s1 (t0_weights : (List Int)) (t0_takes : (List Int)) (t0_need : (List (List Int))) (q27 : (List Int)) (s : (Int × (List Int) × Int × Int × Int)) : Option ((Int × (List Int) × Int × Int × Int) ⊕ ((List Int) × Int × Int)) := f_load_table_first.s1c t0_weights t0_takes t0_need q27 s.1 s.2.1 s.2.2.1 s.2.2.2.1 s.2.2.2.2
noncomputable def f_load_table_first (t0_weights : (List Int)) (t0_takes : (List Int)) (t0_need : (List (List Int))) (n1 : Int) : Option ((List Int) × Int × Int) := (if 0 ≤ (0 : Int) ∧ (0 : Int) < (t0_need.length : Int) then (if 0 ≤ n1 ∧ n1 < (2049 : Int) then ((f_load_energies).bind fun q27 => ((loop (f_load_table_first.s1 t0_weights t0_takes t0_need q27) (n1, [], n1, (gt (gt t0_need (0 : Int)) n1), (0 : Int))).bind (fun q99 => (some (q99.1, q99.2.1, q99.2.2))))) else none) else none)
theorem f_load_table_first_c {S : Nat → Prop} {w0 w : World} {ow : List Res} (hp : Hp S w0 w ow) (vt0_weights : Value) (t0_weights : (List Int)) (ht0_weights : RdS (Ek.int .i64) S w0 vt0_weights t0_weights) (vt0_takes : Value) (t0_takes : (List Int)) (ht0_takes : RdS (Ek.int .i64) S w0 vt0_takes t0_takes) (vt0_need : Value) (t0_need : (List (List Int))) (ht0_need : RdS (Ek.arr 2049 (Ek.int .i64)) S w0 vt0_need t0_need) (ot0 : Value) (hot0 : RdO S w0 ot0 [vt0_weights, vt0_takes, vt0_need]) (n1 : Int) {r : ((List Int) × Int × Int)} (h : f_load_table_first t0_weights t0_takes t0_need n1 = some r) :
   Calls Tryz.prog 61 #[ot0, .int .i64 n1] w (fun e w' => ∃ (u0 : Value), e = .returned (.agg #[u0, .int .i64 r.2.1, .int .i64 r.2.2]) ∧ Hp S w0 w' (Res.sl (Ek.int .i64) 3 u0 r.1 :: ow)) := by
  unfold f_load_table_first at h
  refine enx (n := 60) Tryz.func61 fun a hf => ?_
  refine wp_mono (Q := fun e a w => e = .ret ∧ ∃ (u0 : Value) (c0 : Value), Fr 60 a [(4, optr c0 0)] ∧ Hp S w0 w (Res.obj 83 c0 [u0, .int .i64 r.2.1, .int .i64 r.2.2] :: Res.sl (Ek.int .i64) 3 u0 r.1 :: ow)) ?_ ?_
  rotate_left
  ·
   rintro e a w ⟨rfl, x0, c0, hf, hp⟩
   exact retG1 hf rfl ⟨_, _, rfl, hp.ob (i := 0) rfl, .inr ⟨by kernel_rfl, rfl⟩⟩ ⟨x0, rfl, hp.drop⟩
  refine goT ?_
  refine st_boxO (cs := [ot0]) hf (by decide) hp rfl rfl (cells_po (hot0.ob hp)) ?_
  clear hf; intro a w v1 hf hp0; clear hp; have hp := hp0; clear hp0
  replace hp : Hp _ _ _ (Res.obj 132 v1 [ot0] :: ow) := hp
  refine st_boxO (cs := [.int .i64 n1]) hf (by decide) hp rfl rfl rfl ?_
  clear hf; intro a w v3 hf hp0; clear hp; have hp := hp0; clear hp0
  replace hp : Hp _ _ _ (Res.obj 3 v3 [.int .i64 n1] :: _ :: ow) := hp
  refine st_alloc (cs := [.slice none 0 0, .int .i64 (0 : Int), .int .i64 (0 : Int)]) (zv := .agg #[.slice none 0 0, .int .i64 (0 : Int), .int .i64 (0 : Int)]) hf (by decide) (by kernel_rfl) rfl hp rfl ?_
  clear hf; intro a w v5 hf hp0; clear hp; have hp := hp0; clear hp0
  replace hp : Hp _ _ _ (Res.obj 83 v5 [.slice none 0 0, .int .i64 (0 : Int), .int .i64 (0 : Int)] :: _ :: _ :: ow) := hp
  refine goT ?_
  obtain ⟨S7, hp8, rd9, up10, bk11⟩ := Hp.lendO hp (i := 1) rfl
  obtain ⟨S12, hp13, rd14, up15, bk16⟩ := Hp.lendO hp8 (i := 1) rfl
  have rl17 := ((((hot0.now hp).mono up10).now hp8).mono up15)
  have rl18 := ((((ht0_weights.now hp).mono up10).now hp8).mono up15)
  have rl19 := ((((ht0_takes.now hp).mono up10).now hp8).mono up15)
  have rl20 := ((((ht0_need.now hp).mono up10).now hp8).mono up15)
  have rl21 := rd14
  have rl22 := ((rd9.now hp8).mono up15)
  obtain ⟨hc23, h⟩ := chk h
  obtain ⟨hc24, h⟩ := chk h
  refine wp_cutN (fun a w => ∃ (v25 : Value), Fr 60 a [(2, optr v1 0), (3, optr v3 0), (4, optr v5 0), (5, optr v25 0)] ∧ Hp S w0 w (Res.obj 3 v3 [.int .i64 n1] :: Res.obj 132 v1 [ot0] :: Res.obj 83 v25 [.slice none 0 0, .int .i64 n1, .int .i64 (gt (gt t0_need (0 : Int)) n1)] :: Res.obj 83 v5 [.slice none 0 0, .int .i64 (0 : Int), .int .i64 (0 : Int)] :: ow)) ?_ ?_
  ·
   have hp := hp13.same (Same.drew w)
   refine dr_begin' _ (fun w' => ∃ l, Hp S12 w w' l) [] (by kernel_rfl) ?_
   refine dr_takeK 0 _ rfl hf rfl (fun w ⟨_, hp⟩ => st_ldO (u := .int .i64 n1) hf (by decide) pl3 rfl rfl (rl22.ob hp) rfl tk) ⟨_, hp⟩ fun a hf => ?_
   refine dr_takeK 1 _ rfl hf rfl (fun w ⟨_, hp⟩ => st_ldO (u := ot0) hf (by decide) pl132 rfl rfl (rl21.ob hp) rfl tk) ⟨_, hp⟩ fun a hf => ?_
   refine dr_nilV 2 rfl (by kernel_rfl) (by kernel_rfl) (by kernel_rfl) hf (by decide) rfl rfl (rl17.ob hp) ?_
   clear hf; intro a hf
   refine dr_takeK 3 _ rfl hf rfl (fun w ⟨_, hp⟩ => st_fa (o' := 2) hf (by decide) (off := 2) (sz := 1) (by kernel_rfl) (by decide) rfl rfl (rl17.ob hp) rfl tk) ⟨_, hp⟩ fun a hf => ?_
   refine dr_takeK 4 _ rfl hf rfl (fun w ⟨_, hp⟩ => st_ldO (u := vt0_need) hf (by decide) pl135 rfl rfl (rl17.ob hp) rfl tk) ⟨_, hp⟩ fun a hf => ?_
   refine dr_takeK 5 _ rfl hf rfl (fun w ⟨_, hp⟩ => st_ldO (u := .int .i64 n1) hf (by decide) pl3 rfl rfl (rl22.ob hp) rfl tk) ⟨_, hp⟩ fun a hf => ?_
   refine dr_takeK 6 _ rfl hf rfl (fun w ⟨_, hp⟩ => st_index (E := (Ek.arr 2049 (Ek.int .i64))) hf (by decide) Tryz.underlying135 elt134 rfl rfl rfl (rl20.sl hp) hc23.1 hc23.2 tk) ⟨_, hp⟩ fun a hf => ?_
   refine dr_takeK 7 _ rfl hf rfl (fun w ⟨_, hp⟩ => st_iaP (sz := 1) hf (by decide) Tryz.underlying134 (by kernel_rfl) rfl rfl rfl (Sl.isP (rl20.sl hp) hc23.1 hc23.2) hc24.1 hc24.2 tk) ⟨_, hp⟩ fun a hf => ?_
   refine dr_takeK 8 _ rfl hf rfl (fun w ⟨_, hp⟩ => st_ldQ (F := (Ek.int .i64)) (yv := (gt (gt t0_need (0 : Int)) n1)) hf (by decide) pl3 (fun x => .int .i64 x) (fun _ _ h => h) rfl rfl (Sl.part (E := (Ek.arr 2049 (Ek.int .i64))) (F := (Ek.int .i64)) (o := (n1).toNat * 1) (Sub.arr (F := (Ek.int .i64)) (N := 2049) (j := n1) hc24.1 hc24.2) (rl20.sl hp) hc23.1 hc23.2) tk) ⟨_, hp⟩ fun a hf => ?_
   refine dr_takeK 9 _ rfl hf rfl (fun w ⟨_, hp⟩ => st_buildA (vals := [(1, .int .i64 n1), (2, .int .i64 (gt (gt t0_need (0 : Int)) n1))]) (cells := [.slice none 0 0, .int .i64 n1, .int .i64 (gt (gt t0_need (0 : Int)) n1)]) hf (by decide) rfl (by simp [hf.ev (x := (Operand.tmp 10)) rfl, hf.ev (x := (Operand.tmp 18)) rfl]) (fun w => by kernel_rfl) tk) ⟨_, hp⟩ fun a hf => ?_
   refine dr_one 10 rfl (by kernel_rfl) ?_
   refine st_alloc (cs := [.slice none 0 0, .int .i64 (0 : Int), .int .i64 (0 : Int)]) (zv := .agg #[.slice none 0 0, .int .i64 (0 : Int), .int .i64 (0 : Int)]) hf (by decide) (by kernel_rfl) rfl hp rfl ?_
   clear hf; intro a w v25 hf hp0; clear hp; have hp := hp0; clear hp0
   replace hp : Hp _ _ _ (Res.obj 83 v25 [.slice none 0 0, .int .i64 (0 : Int), .int .i64 (0 : Int)] :: _ :: ow) := hp
   refine nx hf (fun _ _ => ⟨_, hp⟩) ?_
   refine dr_one 11 rfl (by kernel_rfl) ?_
   refine st_stO (us := [.slice none 0 0, .int .i64 n1, .int .i64 (gt (gt t0_need (0 : Int)) n1)]) hf hp (i := 0) rfl rfl rfl rfl rfl (by rfl) (by kernel_rfl) (Nat.le_of_ble_eq_true rfl) ?_
   clear hf; intro a w hf hp0; clear hp; have hp := hp0; clear hp0
   replace hp : Hp _ _ _ (Res.obj 83 v25 [.slice none 0 0, .int .i64 n1, .int .i64 (gt (gt t0_need (0 : Int)) n1)] :: _ :: ow) := hp
   refine nx hf (fun _ _ => ⟨_, hp⟩) ?_
   refine dr_end (by kernel_rfl) ?_ _
   have hp := bk16 _ _ hp
   have hp := bk11 _ _ hp
   exact ⟨v25, hf.sb, hp⟩
  rintro a w ⟨v25, hf, hp⟩
  refine goT ?_
  obtain ⟨q27, hcall28, h⟩ := bnd h
  refine st_call hf (by decide) Tryz.func59 rfl rfl rfl rfl rfl (f_load_energies_c hp  hcall28) ?_
  rintro _ w ⟨v29, rfl, y30, y31, hp⟩
  replace hp : Hp _ _ _ (Res.obj 3 v3 [.int .i64 n1] :: Res.obj 132 v1 [ot0] :: _ :: _ :: ow) := hp
  refine ⟨_, rfl, fun a hf => ?_⟩
  refine st_allocA (E := (Ek.int .i64)) (N := 9) (zs := List.replicate 9 (0 : Int)) (zv := .agg ((List.replicate 9 ([.int .i64 0] : List Value)).flatten).toArray) hf (by decide) (by decide) (by decide) (by kernel_rfl) (reps_replicate (E := (Ek.int .i64)) (vs := ([.int .i64 0] : List Value)) (x := (0 : Int)) rfl 9) (by simp) hp rfl ?_
  clear hf; intro a w v32 hf hp0; clear hp; have hp := hp0; clear hp0
  replace hp : Hp _ _ _ (Res.sl (Ek.int .i64) 130 (aslv v32 9) (List.replicate 9 (0 : Int)) :: _ :: _ :: _ :: _ :: ow) := hp
  refine st_stArr hf hp (m := 0) rfl (by decide) rfl rfl rfl y30 y31 (by kernel_rfl) ?_
  clear hf; intro a w hf hp0; clear hp; have hp := hp0; clear hp0
  replace hp : Hp _ _ _ (Res.sl (Ek.int .i64) 130 (aslv v32 9) q27 :: _ :: _ :: _ :: _ :: ow) := hp
  refine goT ?_
  refine st_ldO (u := ot0) hf (by decide) pl132 rfl rfl (hp.ob (i := 2) rfl) rfl fun a _ hf => ?_
  refine st_nilV hf (by decide) rfl rfl (hot0.ob hp) fun a _ hf => ?_
  refine st_fa (o' := 0) hf (by decide) (off := 0) (sz := 1) (by kernel_rfl) (by decide) rfl rfl (hot0.ob hp) rfl fun a _ hf => ?_
  refine st_ldO (u := vt0_weights) hf (by decide) pl24 rfl rfl (hot0.ob hp) rfl fun a _ hf => ?_
  refine st_len (E := (Ek.int .i64)) hf (by decide) Tryz.underlying24 rfl rfl (ht0_weights.sl hp) fun a _ hf => ?_
  refine go ?_; intro a hf
  obtain ⟨q99, hl, h⟩ := bnd h
  have hp := hp.nil (Ek.int .i64) 3
  have hp : Hp _ _ _ (_ :: Res.sl (Ek.int .i64) 3 (.slice none 0 0) ([]) :: _ :: _ :: _ :: _ :: ow) := (hp.pk [2, 0, 4, 3, 5, 1] 6 :)
  refine wp_loop_pure (f := (f_load_table_first.s1 t0_weights t0_takes t0_need q27)) (s := (n1, [], n1, (gt (gt t0_need (0 : Int)) n1), (0 : Int))) (fun s a w => ∃ (v35 : Value), Fr 60 a [(2, optr v1 0), (3, optr v3 0), (4, optr v5 0), (5, optr v25 0), (6, v32), (24, vt0_weights), (25, .int .i64 (t0_weights.length : Int)), (26, .int .i64 s.2.2.2.2)] ∧ Hp S w0 w (Res.obj 3 v3 [.int .i64 s.1] :: Res.sl (Ek.int .i64) 3 v35 s.2.1 :: Res.obj 83 v25 [v35, .int .i64 s.2.2.1, .int .i64 s.2.2.2.1] :: Res.obj 132 v1 [ot0] :: Res.obj 83 v5 [.slice none 0 0, .int .i64 (0 : Int), .int .i64 (0 : Int)] :: Res.sl (Ek.int .i64) 130 (aslv v32 9) q27 :: ow)) (fun q e a w => e = .exit 0 ∧ ∃ (v38 : Value), Fr 60 a [(4, optr v5 0), (5, optr v25 0)] ∧ Hp S w0 w (Res.sl (Ek.int .i64) 3 v38 q.1 :: Res.obj 83 v25 [v38, .int .i64 q.2.1, .int .i64 q.2.2] :: Res.obj 83 v5 [.slice none 0 0, .int .i64 (0 : Int), .int .i64 (0 : Int)] :: ow)) ?_ hl ⟨_, hf.sb, hp⟩ ?_
  ·
   clear hl hf hp
   intro s x a w h hI
   obtain ⟨n3c, xx5c_0, xx5c_1, xx5c_2, t26⟩ := s
   obtain ⟨v35, hf, hp⟩ : ∃ (v35 : Value), Fr 60 a [(2, optr v1 0), (3, optr v3 0), (4, optr v5 0), (5, optr v25 0), (6, v32), (24, vt0_weights), (25, .int .i64 (t0_weights.length : Int)), (26, .int .i64 t26)] ∧ Hp S w0 w (Res.obj 3 v3 [.int .i64 n3c] :: Res.sl (Ek.int .i64) 3 v35 xx5c_0 :: Res.obj 83 v25 [v35, .int .i64 xx5c_1, .int .i64 xx5c_2] :: Res.obj 132 v1 [ot0] :: Res.obj 83 v5 [.slice none 0 0, .int .i64 (0 : Int), .int .i64 (0 : Int)] :: Res.sl (Ek.int .i64) 130 (aslv v32 9) q27 :: ow) := hI
   replace h : f_load_table_first.s1c t0_weights t0_takes t0_need q27 n3c xx5c_0 xx5c_1 xx5c_2 t26 = some x := h
   unfold f_load_table_first.s1c at h
   refine go ?_; intro a hf
   refine wp_if hf rfl (fun hb => ?_) (fun hb => ?_)
   ·
    replace h := ifT h hb
    refine wp_skip ?_
    refine go ?_; intro a hf
    obtain ⟨hc41, h⟩ := chk h
    refine st_index (E := (Ek.int .i64)) hf (by decide) Tryz.underlying24 elt3 rfl rfl rfl (ht0_weights.sl hp) hc41.1 hc41.2 fun a _ hf => ?_
    refine st_ldI hf (by decide) pl3 rfl rfl (ht0_weights.sl hp) hc41.1 hc41.2 fun a _ hf => ?_
    refine st_alloc (cs := [.int .i64 (0 : Int)]) (zv := .int .i64 (0 : Int)) hf (by decide) (by kernel_rfl) rfl hp rfl ?_
    clear hf; intro a w v42 hf hp0; clear hp; have hp := hp0; clear hp0
    replace hp : Hp _ _ _ (Res.obj 3 v42 [.int .i64 (0 : Int)] :: Res.obj 3 v3 [.int .i64 n3c] :: Res.sl (Ek.int .i64) 3 v35 xx5c_0 :: Res.obj 83 v25 [v35, .int .i64 xx5c_1, .int .i64 xx5c_2] :: _ :: _ :: _ :: ow) := hp
    refine st_alloc (cs := [.int .i64 (0 : Int)]) (zv := .int .i64 (0 : Int)) hf (by decide) (by kernel_rfl) rfl hp rfl ?_
    clear hf; intro a w v44 hf hp0; clear hp; have hp := hp0; clear hp0
    replace hp : Hp _ _ _ (Res.obj 3 v44 [.int .i64 (0 : Int)] :: _ :: _ :: _ :: _ :: _ :: _ :: _ :: ow) := hp
    refine st_stO (us := [.int .i64 t26]) hf hp (i := 1) rfl rfl rfl rfl rfl (by rfl) (by kernel_rfl) (Nat.le_of_ble_eq_true rfl) ?_
    clear hf; intro a w hf hp0; clear hp; have hp := hp0; clear hp0
    replace hp : Hp _ _ _ (_ :: Res.obj 3 v42 [.int .i64 t26] :: _ :: _ :: _ :: _ :: _ :: _ :: ow) := hp
    refine st_stO (us := [.int .i64 (gt t0_weights t26)]) hf hp (i := 0) rfl rfl rfl rfl rfl (by rfl) (by kernel_rfl) (Nat.le_of_ble_eq_true rfl) ?_
    clear hf; intro a w hf hp0; clear hp; have hp := hp0; clear hp0
    replace hp : Hp _ _ _ (Res.obj 3 v44 [.int .i64 (gt t0_weights t26)] :: _ :: _ :: _ :: _ :: _ :: _ :: _ :: ow) := hp
    refine goT ?_
    refine st_ldO (u := ot0) hf (by decide) pl132 rfl rfl (hp.ob (i := 5) rfl) rfl fun a _ hf => ?_
    refine st_nilV hf (by decide) rfl rfl (hot0.ob hp) fun a _ hf => ?_
    refine st_fa (o' := 1) hf (by decide) (off := 1) (sz := 1) (by kernel_rfl) (by decide) rfl rfl (hot0.ob hp) rfl fun a _ hf => ?_
    refine st_ldO (u := vt0_takes) hf (by decide) pl24 rfl rfl (hot0.ob hp) rfl fun a _ hf => ?_
    refine st_makeFuncL hf (by decide) rfl rfl fun a _ hf => ?_
    obtain ⟨q46, hcall47, h⟩ := bnd h
    obtain ⟨S48, hp49, rd50, up51, bk52⟩ := Hp.lendO hp (i := 2) rfl
    obtain ⟨S53, hp54, rd55, up56, bk57⟩ := Hp.lendO hp49 (i := 4) rfl
    obtain ⟨S58, hp59, rd60, up61, bk62⟩ := Hp.lendO hp54 (i := 1) rfl
    obtain ⟨S63, hp64, rd65, up66, bk67⟩ := Hp.lendO hp59 (i := 0) rfl
    obtain ⟨S68, hp69, rd70, up71, bk72⟩ := Hp.lendS hp64 (i := 3) rfl
    refine st_call hf (by decide) Tryz.func74 rfl rfl rfl rfl rfl (f_slices_IndexFunc_int_int_74_c hp69 _ _ ((((((((((ht0_takes.now hp).mono up51).now hp49).mono up56).now hp54).mono up61).now hp59).mono up66).now hp64).mono up71) _ _ ((((((((rd50.now hp49).mono up56).now hp54).mono up61).now hp59).mono up66).now hp64).mono up71) _ _ ((((((((((ht0_weights.now hp).mono up51).now hp49).mono up56).now hp54).mono up61).now hp59).mono up66).now hp64).mono up71) _ _ ((((((((((ht0_takes.now hp).mono up51).now hp49).mono up56).now hp54).mono up61).now hp59).mono up66).now hp64).mono up71) _ _ ((((((((((ht0_need.now hp).mono up51).now hp49).mono up56).now hp54).mono up61).now hp59).mono up66).now hp64).mono up71) _ ((((((((((hot0.now hp).mono up51).now hp49).mono up56).now hp54).mono up61).now hp59).mono up66).now hp64).mono up71) _ ((((((rd55.now hp54).mono up61).now hp59).mono up66).now hp64).mono up71) _ _ ((((rd60.now hp59).mono up66).now hp64).mono up71) _ _ ((rd65.now hp64).mono up71) _ _ rd70 hcall47) ?_
    rintro _ w ⟨rfl, hp0⟩
    have hp0 := bk72 _ _ hp0
    have hp0 := bk67 _ _ hp0
    have hp0 := bk62 _ _ hp0
    have hp0 := bk57 _ _ hp0
    have hp0 := bk52 _ _ hp0
    clear hp; have hp := hp0; clear hp0
    replace hp : Hp _ _ _ (_ :: _ :: _ :: _ :: _ :: _ :: _ :: _ :: ow) := hp
    refine ⟨_, rfl, fun a hf => ?_⟩
    refine go ?_; intro a hf
    obtain ⟨S73, hp74, rd75, up76, bk77⟩ := Hp.lendO hp (i := 1) rfl
    have rl78 := rd75
    have rl79 := ((hot0.now hp).mono up76)
    have rl80 := ((ht0_weights.now hp).mono up76)
    have rl81 := ((ht0_takes.now hp).mono up76)
    have rl82 := ((ht0_need.now hp).mono up76)
    obtain ⟨hc83, h⟩ := chk h
    obtain ⟨hc86, h⟩ := chk h
    refine wp_cutN (fun a w => ∃ (v84 : Value) (v87 : Value), Fr 60 a [(2, optr v1 0), (3, optr v3 0), (4, optr v5 0), (5, optr v25 0), (6, v32), (9, .int .i64 q46), (24, vt0_weights), (25, .int .i64 (t0_weights.length : Int)), (26, .int .i64 t26)] ∧ Hp S w0 w (Res.obj 132 v1 [ot0] :: Res.sl (Ek.int .i64) 3 v84 ([(gt t0_takes q46)]) :: Res.obj 3 v3 [.int .i64 n3c] :: Res.obj 3 v42 [.int .i64 t26] :: Res.obj 3 v44 [.int .i64 (gt t0_weights t26)] :: Res.sl (Ek.int .i64) 130 (aslv v32 9) q27 :: Res.sl (Ek.int .i64) 3 v87 (xx5c_0 ++ [(gt t0_takes q46)]) :: Res.obj 83 v25 [v87, .int .i64 xx5c_1, .int .i64 xx5c_2] :: Res.obj 83 v5 [.slice none 0 0, .int .i64 (0 : Int), .int .i64 (0 : Int)] :: ow)) ?_ ?_
    ·
     have hp := hp74.same (Same.drew w)
     refine dr_begin' _ (fun w' => ∃ l, Hp S73 w w' l) [] (by kernel_rfl) ?_
     refine dr_takeK 2 _ rfl hf rfl (fun w ⟨_, hp⟩ => st_ldO (u := ot0) hf (by decide) pl132 rfl rfl (rl78.ob hp) rfl tk) ⟨_, hp⟩ fun a hf => ?_
     refine dr_nilV 3 rfl (by kernel_rfl) (by kernel_rfl) (by kernel_rfl) hf (by decide) rfl rfl (rl79.ob hp) ?_
     clear hf; intro a hf
     refine dr_takeK 4 _ rfl hf rfl (fun w ⟨_, hp⟩ => st_fa (o' := 1) hf (by decide) (off := 1) (sz := 1) (by kernel_rfl) (by decide) rfl rfl (rl79.ob hp) rfl tk) ⟨_, hp⟩ fun a hf => ?_
     refine dr_takeK 5 _ rfl hf rfl (fun w ⟨_, hp⟩ => st_ldO (u := vt0_takes) hf (by decide) pl24 rfl rfl (rl79.ob hp) rfl tk) ⟨_, hp⟩ fun a hf => ?_
     refine dv 6 hf ⟨_, hp⟩ fun a hf => ?_
     refine dr_takeK 7 _ rfl hf rfl (fun w ⟨_, hp⟩ => st_index (E := (Ek.int .i64)) hf (by decide) Tryz.underlying24 elt3 rfl rfl rfl (rl81.sl hp) hc83.1 hc83.2 tk) ⟨_, hp⟩ fun a hf => ?_
     refine dr_takeK 8 _ rfl hf rfl (fun w ⟨_, hp⟩ => st_ldI hf (by decide) pl3 rfl rfl (rl81.sl hp) hc83.1 hc83.2 tk) ⟨_, hp⟩ fun a hf => ?_
     refine dr_two 0 9 rfl rfl (by kernel_rfl) ?_ ?_
     ·
      refine st_fa (o' := 0) hf (by decide) (off := 0) (sz := 1) (by kernel_rfl) (by decide) rfl rfl (hp.ob (i := 5) rfl) rfl fun a _ hf => ?_
      refine nx hf (fun _ _ => ⟨_, hp⟩) ?_
      refine dr_two 1 9 rfl rfl (by kernel_rfl) ?_ ?_
      ·
       refine st_ldO (u := v35) hf (by decide) pl24 rfl rfl (hp.ob (i := 5) rfl) rfl fun a _ hf => ?_
       refine nx hf (fun _ _ => ⟨_, hp⟩) ?_
       refine dr_one 9 rfl (by kernel_rfl) ?_
       refine st_build (E := (Ek.int .i64)) (xs := [(gt t0_takes q46)]) hf (by decide) elt3 Tryz.underlying24 hp (vals := #[(0, .int .i64 (gt t0_takes q46))]) (cells := #[.int .i64 (gt t0_takes q46)]) rfl (by simp [hf.ev (x := (Operand.tmp 45)) rfl]) (Nat.le_of_ble_eq_true rfl) (Nat.le_of_ble_eq_true rfl) (z := .int .i64 0) (by kernel_rfl) (by kernel_rfl) rfl (reps_cons (cs := [.int .i64 (gt t0_takes q46)]) rfl (reps_nil _)) ?_
       clear hf; intro a w v84 hf hp0; clear hp; have hp := hp0; clear hp0
       replace hp : Hp _ _ _ (Res.sl (Ek.int .i64) 3 v84 ([(gt t0_takes q46)]) :: _ :: _ :: _ :: _ :: _ :: _ :: _ :: ow) := hp
       refine nx hf (fun _ _ => ⟨_, hp⟩) ?_
       refine dr_one 10 rfl (by kernel_rfl) ?_
       refine st_append (E := (Ek.int .i64)) hf (by decide) elt3 Tryz.underlying24 (by decide) hp (i := 5) rfl rfl rfl rfl (hp.sl (i := 0) rfl) hc86 ?_
       clear hf; intro a w v87 hf hp0; clear hp; have hp := hp0; clear hp0
       replace hp : Hp _ _ _ (_ :: _ :: _ :: _ :: _ :: Res.sl (Ek.int .i64) 3 v87 (xx5c_0 ++ [(gt t0_takes q46)]) :: _ :: _ :: ow) := hp
       refine nx hf (fun _ _ => ⟨_, hp⟩) ?_
       refine dr_one 11 rfl (by kernel_rfl) ?_
       refine st_fa (o' := 0) hf (by decide) (off := 0) (sz := 1) (by kernel_rfl) (by decide) rfl rfl (hp.ob (i := 6) rfl) rfl fun a _ hf => ?_
       refine nx hf (fun _ _ => ⟨_, hp⟩) ?_
       refine dr_one 12 rfl (by kernel_rfl) ?_
       refine st_stO (us := [v87]) hf hp (i := 6) rfl rfl rfl rfl (cells_sh (hp.sl (i := 5) rfl).shapeV) (ones_sh (hp.sl (i := 5) rfl).shapeV) (by kernel_rfl) (Nat.le_of_ble_eq_true rfl) ?_
       clear hf; intro a w hf hp0; clear hp; have hp := hp0; clear hp0
       replace hp : Hp _ _ _ (_ :: _ :: _ :: _ :: _ :: _ :: Res.obj 83 v25 [v87, .int .i64 xx5c_1, .int .i64 xx5c_2] :: _ :: ow) := hp
       refine nx hf (fun _ _ => ⟨_, hp⟩) ?_
       refine dr_end (by kernel_rfl) ?_ _
       have hp := bk77 _ _ hp
       exact ⟨v84, v87, hf.sb, hp⟩
      ·
       refine st_build (E := (Ek.int .i64)) (xs := [(gt t0_takes q46)]) hf (by decide) elt3 Tryz.underlying24 hp (vals := #[(0, .int .i64 (gt t0_takes q46))]) (cells := #[.int .i64 (gt t0_takes q46)]) rfl (by simp [hf.ev (x := (Operand.tmp 45)) rfl]) (Nat.le_of_ble_eq_true rfl) (Nat.le_of_ble_eq_true rfl) (z := .int .i64 0) (by kernel_rfl) (by kernel_rfl) rfl (reps_cons (cs := [.int .i64 (gt t0_takes q46)]) rfl (reps_nil _)) ?_
       clear hf; intro a w v84 hf hp0; clear hp; have hp := hp0; clear hp0
       replace hp : Hp _ _ _ (_ :: _ :: _ :: _ :: _ :: Res.sl (Ek.int .i64) 3 v35 xx5c_0 :: Res.obj 83 v25 [v35, .int .i64 xx5c_1, .int .i64 xx5c_2] :: _ :: ow) := hp
       refine nx hf (fun _ _ => ⟨_, hp⟩) ?_
       refine dr_one 1 rfl (by kernel_rfl) ?_
       refine st_ldO (u := v35) hf (by decide) pl24 rfl rfl (hp.ob (i := 6) rfl) rfl fun a _ hf => ?_
       refine nx hf (fun _ _ => ⟨_, hp⟩) ?_
       refine dr_one 10 rfl (by kernel_rfl) ?_
       refine st_append (E := (Ek.int .i64)) hf (by decide) elt3 Tryz.underlying24 (by decide) hp (i := 5) rfl rfl rfl rfl (hp.sl (i := 0) rfl) hc86 ?_
       clear hf; intro a w v87 hf hp0; clear hp; have hp := hp0; clear hp0
       replace hp : Hp _ _ _ (_ :: _ :: _ :: _ :: _ :: Res.sl (Ek.int .i64) 3 v87 (xx5c_0 ++ [(gt t0_takes q46)]) :: _ :: _ :: ow) := hp
       refine nx hf (fun _ _ => ⟨_, hp⟩) ?_
       refine dr_one 11 rfl (by kernel_rfl) ?_
       refine st_fa (o' := 0) hf (by decide) (off := 0) (sz := 1) (by kernel_rfl) (by decide) rfl rfl (hp.ob (i := 6) rfl) rfl fun a _ hf => ?_
       refine nx hf (fun _ _ => ⟨_, hp⟩) ?_
       refine dr_one 12 rfl (by kernel_rfl) ?_
       refine st_stO (us := [v87]) hf hp (i := 6) rfl rfl rfl rfl (cells_sh (hp.sl (i := 5) rfl).shapeV) (ones_sh (hp.sl (i := 5) rfl).shapeV) (by kernel_rfl) (Nat.le_of_ble_eq_true rfl) ?_
       clear hf; intro a w hf hp0; clear hp; have hp := hp0; clear hp0
       replace hp : Hp _ _ _ (_ :: _ :: _ :: _ :: _ :: _ :: Res.obj 83 v25 [v87, .int .i64 xx5c_1, .int .i64 xx5c_2] :: _ :: ow) := hp
       refine nx hf (fun _ _ => ⟨_, hp⟩) ?_
       refine dr_end (by kernel_rfl) ?_ _
       have hp := bk77 _ _ hp
       exact ⟨v84, v87, hf.sb, hp⟩
     ·
      refine st_build (E := (Ek.int .i64)) (xs := [(gt t0_takes q46)]) hf (by decide) elt3 Tryz.underlying24 hp (vals := #[(0, .int .i64 (gt t0_takes q46))]) (cells := #[.int .i64 (gt t0_takes q46)]) rfl (by simp [hf.ev (x := (Operand.tmp 45)) rfl]) (Nat.le_of_ble_eq_true rfl) (Nat.le_of_ble_eq_true rfl) (z := .int .i64 0) (by kernel_rfl) (by kernel_rfl) rfl (reps_cons (cs := [.int .i64 (gt t0_takes q46)]) rfl (reps_nil _)) ?_
      clear hf; intro a w v84 hf hp0; clear hp; have hp := hp0; clear hp0
      replace hp : Hp _ _ _ (_ :: _ :: _ :: _ :: _ :: Res.sl (Ek.int .i64) 3 v35 xx5c_0 :: Res.obj 83 v25 [v35, .int .i64 xx5c_1, .int .i64 xx5c_2] :: _ :: ow) := hp
      refine nx hf (fun _ _ => ⟨_, hp⟩) ?_
      refine dr_one 0 rfl (by kernel_rfl) ?_
      refine st_fa (o' := 0) hf (by decide) (off := 0) (sz := 1) (by kernel_rfl) (by decide) rfl rfl (hp.ob (i := 6) rfl) rfl fun a _ hf => ?_
      refine nx hf (fun _ _ => ⟨_, hp⟩) ?_
      refine dr_one 1 rfl (by kernel_rfl) ?_
      refine st_ldO (u := v35) hf (by decide) pl24 rfl rfl (hp.ob (i := 6) rfl) rfl fun a _ hf => ?_
      refine nx hf (fun _ _ => ⟨_, hp⟩) ?_
      refine dr_one 10 rfl (by kernel_rfl) ?_
      refine st_append (E := (Ek.int .i64)) hf (by decide) elt3 Tryz.underlying24 (by decide) hp (i := 5) rfl rfl rfl rfl (hp.sl (i := 0) rfl) hc86 ?_
      clear hf; intro a w v87 hf hp0; clear hp; have hp := hp0; clear hp0
      replace hp : Hp _ _ _ (_ :: _ :: _ :: _ :: _ :: Res.sl (Ek.int .i64) 3 v87 (xx5c_0 ++ [(gt t0_takes q46)]) :: _ :: _ :: ow) := hp
      refine nx hf (fun _ _ => ⟨_, hp⟩) ?_
      refine dr_one 11 rfl (by kernel_rfl) ?_
      refine st_fa (o' := 0) hf (by decide) (off := 0) (sz := 1) (by kernel_rfl) (by decide) rfl rfl (hp.ob (i := 6) rfl) rfl fun a _ hf => ?_
      refine nx hf (fun _ _ => ⟨_, hp⟩) ?_
      refine dr_one 12 rfl (by kernel_rfl) ?_
      refine st_stO (us := [v87]) hf hp (i := 6) rfl rfl rfl rfl (cells_sh (hp.sl (i := 5) rfl).shapeV) (ones_sh (hp.sl (i := 5) rfl).shapeV) (by kernel_rfl) (Nat.le_of_ble_eq_true rfl) ?_
      clear hf; intro a w hf hp0; clear hp; have hp := hp0; clear hp0
      replace hp : Hp _ _ _ (_ :: _ :: _ :: _ :: _ :: _ :: Res.obj 83 v25 [v87, .int .i64 xx5c_1, .int .i64 xx5c_2] :: _ :: ow) := hp
      refine nx hf (fun _ _ => ⟨_, hp⟩) ?_
      refine dr_end (by kernel_rfl) ?_ _
      have hp := bk77 _ _ hp
      exact ⟨v84, v87, hf.sb, hp⟩
    rintro a w ⟨v84, v87, hf, hp⟩
    refine th_n ?_
    obtain ⟨S88, hp89, rd90, up91, bk92⟩ := Hp.lendO hp (i := 0) rfl
    have rl93 := rd90
    have rl94 := ((hot0.now hp).mono up91)
    have rl95 := ((ht0_weights.now hp).mono up91)
    have rl96 := ((ht0_takes.now hp).mono up91)
    have rl97 := ((ht0_need.now hp).mono up91)
    obtain ⟨hc98, h⟩ := chk h
    refine wp_cutN (fun a w => Fr 60 a [(2, optr v1 0), (3, optr v3 0), (4, optr v5 0), (5, optr v25 0), (6, v32), (24, vt0_weights), (25, .int .i64 (t0_weights.length : Int)), (26, .int .i64 t26)] ∧ Hp S w0 w (Res.obj 132 v1 [ot0] :: Res.sl (Ek.int .i64) 3 v84 ([(gt t0_takes q46)]) :: Res.obj 3 v3 [.int .i64 (IntKind.i64.wrap (n3c - (gt t0_takes q46)))] :: Res.obj 3 v42 [.int .i64 t26] :: Res.obj 3 v44 [.int .i64 (gt t0_weights t26)] :: Res.sl (Ek.int .i64) 130 (aslv v32 9) q27 :: Res.sl (Ek.int .i64) 3 v87 (xx5c_0 ++ [(gt t0_takes q46)]) :: Res.obj 83 v25 [v87, .int .i64 xx5c_1, .int .i64 xx5c_2] :: Res.obj 83 v5 [.slice none 0 0, .int .i64 (0 : Int), .int .i64 (0 : Int)] :: ow)) ?_ ?_
    ·
     have hp := hp89.same (Same.drew w)
     refine dr_begin' _ (fun w' => ∃ l, Hp S88 w w' l) [] (by kernel_rfl) ?_
     refine dr_takeK 1 _ rfl hf rfl (fun w ⟨_, hp⟩ => st_ldO (u := ot0) hf (by decide) pl132 rfl rfl (rl93.ob hp) rfl tk) ⟨_, hp⟩ fun a hf => ?_
     refine dr_nilV 2 rfl (by kernel_rfl) (by kernel_rfl) (by kernel_rfl) hf (by decide) rfl rfl (rl94.ob hp) ?_
     clear hf; intro a hf
     refine dr_takeK 3 _ rfl hf rfl (fun w ⟨_, hp⟩ => st_fa (o' := 1) hf (by decide) (off := 1) (sz := 1) (by kernel_rfl) (by decide) rfl rfl (rl94.ob hp) rfl tk) ⟨_, hp⟩ fun a hf => ?_
     refine dr_takeK 4 _ rfl hf rfl (fun w ⟨_, hp⟩ => st_ldO (u := vt0_takes) hf (by decide) pl24 rfl rfl (rl94.ob hp) rfl tk) ⟨_, hp⟩ fun a hf => ?_
     refine dv 5 hf ⟨_, hp⟩ fun a hf => ?_
     refine dr_takeK 6 _ rfl hf rfl (fun w ⟨_, hp⟩ => st_index (E := (Ek.int .i64)) hf (by decide) Tryz.underlying24 elt3 rfl rfl rfl (rl96.sl hp) hc98.1 hc98.2 tk) ⟨_, hp⟩ fun a hf => ?_
     refine dr_takeK 7 _ rfl hf rfl (fun w ⟨_, hp⟩ => st_ldI hf (by decide) pl3 rfl rfl (rl96.sl hp) hc98.1 hc98.2 tk) ⟨_, hp⟩ fun a hf => ?_
     refine dr_one 0 rfl (by kernel_rfl) ?_
     refine st_ldO (u := .int .i64 n3c) hf (by decide) pl3 rfl rfl (hp.ob (i := 1) rfl) rfl fun a _ hf => ?_
     refine nx hf (fun _ _ => ⟨_, hp⟩) ?_
     refine dv 8 hf ⟨_, hp⟩ fun a hf => ?_
     refine dr_one 9 rfl (by kernel_rfl) ?_
     refine st_stO (us := [.int .i64 (IntKind.i64.wrap (n3c - (gt t0_takes q46)))]) hf hp (i := 1) rfl rfl rfl rfl rfl (by rfl) (by kernel_rfl) (Nat.le_of_ble_eq_true rfl) ?_
     clear hf; intro a w hf hp0; clear hp; have hp := hp0; clear hp0
     replace hp : Hp _ _ _ (_ :: Res.obj 3 v3 [.int .i64 (IntKind.i64.wrap (n3c - (gt t0_takes q46)))] :: _ :: _ :: _ :: _ :: _ :: _ :: ow) := hp
     refine nx hf (fun _ _ => ⟨_, hp⟩) ?_
     refine dr_end (by kernel_rfl) ?_ _
     have hp := bk92 _ _ hp
     exact ⟨hf.sb, hp⟩
    rintro a w ⟨hf, hp⟩
    refine go ?_; intro a hf
    obtain rfl := oj h
    have hp : Hp _ _ _ (_ :: _ :: _ :: Res.obj 132 v1 [ot0] :: _ :: _ :: ow) := (hp.pk [2, 6, 7, 0, 8, 5] 9 :)
    exact rnd_l ⟨_, hf.sb, hp⟩
   replace h := ifF h hb
   refine wp_exit ?_
   refine th_e ?_
   obtain rfl := oj h
   have hp : Hp _ _ _ (Res.sl (Ek.int .i64) 3 v35 xx5c_0 :: Res.obj 83 v25 [v35, .int .i64 xx5c_1, .int .i64 xx5c_2] :: _ :: ow) := (hp.pk [1, 2, 4] 6 :)
   exact rnd_r (by simp) ⟨rfl, _, hf.sb, hp⟩
  clear hl hf hp
  intro e a w hne hO
  obtain ⟨rfl, v38, hf, hp⟩ := hO
  refine ib_same ?_
  refine goT ?_
  refine st_ldOA (m := 3) (us := [v38, .int .i64 q99.2.1, .int .i64 q99.2.2]) hf (by decide) (by kernel_rfl) rfl rfl (hp.ob (i := 1) rfl) rfl rfl fun a _ hf => ?_
  refine st_stO (us := [v38, .int .i64 q99.2.1, .int .i64 q99.2.2]) hf hp (i := 2) rfl rfl rfl rfl rfl (by first | rfl | (obtain ⟨_, _, rfl⟩ := (hp.sl (i := 0) rfl).shapeV; rfl)) (by kernel_rfl) (Nat.le_of_ble_eq_true rfl) ?_
  clear hf; intro a w hf hp0; clear hp; have hp := hp0; clear hp0
  replace hp : Hp _ _ _ (Res.sl (Ek.int .i64) 3 v38 q99.1 :: Res.obj 83 v25 [v38, .int .i64 q99.2.1, .int .i64 q99.2.2] :: Res.obj 83 v5 [v38, .int .i64 q99.2.1, .int .i64 q99.2.2] :: ow) := hp
  refine goT ?_
  obtain rfl := oj h
  have hp : Hp _ _ _ (_ :: _ :: ow) := (hp.pk [2, 0] 3 :)
  exact ⟨rfl, ⟨_, _, hf.sb, hp⟩⟩

noncomputable def f_load_at.s1c (power1 : Int) (q15 : ((List Int) × (List (List Int)))) (n9 : Int) : Option (Int ⊕ Int) := (if 0 ≤ (0 : Int) ∧ (0 : Int) < (q15.2.length : Int) then (if 0 ≤ n9 ∧ n9 < (2049 : Int) then (if (decide (power1 < (gt (gt q15.2 (0 : Int)) n9))) = true then (some (Sum.inl (IntKind.i64.wrap (n9 - (1 : Int))))) else (some (Sum.inr n9))) else none) else none)
noncomputable def f_load_at.s1 (power1 : Int) (q15 : ((List Int) × (List (List Int)))) (s : Int) : Option (Int ⊕ Int) := f_load_at.s1c power1 q15 s
noncomputable def f_load_at (weights0 : (List Int)) (power1 : Int) (squares2 : Bool) : Option (((List Int) × Int × Int) × Int) := ((f_load_carriers (weights0.length : Int)).bind fun q3 => ((if (!q3) = true then (some true) else ((f_load_may weights0).bind fun q8 => (some (!q8)))).bind fun z7 => (if ((z7 || (decide (power1 < (0 : Int)))) || (decide ((1099511627776 : Int) < power1))) = true then (some (([], (0 : Int), (0 : Int)), (1 : Int))) else ((f_load_made weights0 squares2).bind fun q15 => ((loop (f_load_at.s1 power1 q15) (IntKind.i64.wrap ((8 : Int) * (weights0.length : Int)))).bind (fun q25 => ((f_load_table_first weights0 q15.1 q15.2 q25).bind fun q26 => (some ((q26.1, q26.2.1, q26.2.2), (0 : Int))))))))))
theorem f_load_at_c {S : Nat → Prop} {w0 w : World} {ow : List Res} (hp : Hp S w0 w ow) (vw0 : Value) (weights0 : (List Int)) (hweights0 : RdS (Ek.int .i64) S w0 vw0 weights0) (power1 : Int) (squares2 : Bool) {r : (((List Int) × Int × Int) × Int)} (h : f_load_at weights0 power1 squares2 = some r) :
   Calls Tryz.prog 49 #[vw0, .int .i64 power1, .bool squares2] w (fun e w' => ∃ (u0 : Value), e = .returned (.tuple #[.agg #[u0, .int .i64 r.1.2.1, .int .i64 r.1.2.2], .int .i64 r.2]) ∧ Hp S w0 w' (Res.sl (Ek.int .i64) 3 u0 r.1.1 :: ow)) := by
  unfold f_load_at at h
  refine enx (n := 49) Tryz.func49 fun a hf => ?_
  refine wp_mono (Q := fun e a w => e = .ret ∧ ∃ (u0 : Value) (c0 : Value), Fr 49 a [(6, optr c0 0), (7, .int .i64 r.2)] ∧ Hp S w0 w (Res.obj 83 c0 [u0, .int .i64 r.1.2.1, .int .i64 r.1.2.2] :: Res.sl (Ek.int .i64) 3 u0 r.1.1 :: ow)) ?_ ?_
  rotate_left
  ·
   rintro e a w ⟨rfl, x0, c0, hf, hp⟩
   exact retG2 hf rfl ⟨_, _, rfl, hp.ob (i := 0) rfl, .inr ⟨by kernel_rfl, rfl⟩⟩ rfl ⟨x0, rfl, hp.drop⟩
  refine goT ?_
  refine st_alloc (cs := [.slice none 0 0, .int .i64 (0 : Int), .int .i64 (0 : Int)]) (zv := .agg #[.slice none 0 0, .int .i64 (0 : Int), .int .i64 (0 : Int)]) hf (by decide) (by kernel_rfl) rfl hp rfl ?_
  clear hf; intro a w v1 hf hp0; clear hp; have hp := hp0; clear hp0
  replace hp : Hp _ _ _ (Res.obj 83 v1 [.slice none 0 0, .int .i64 (0 : Int), .int .i64 (0 : Int)] :: ow) := hp
  refine go ?_; intro a hf
  refine st_len (E := (Ek.int .i64)) hf (by decide) Tryz.underlying24 rfl rfl (hweights0.sl hp) fun a _ hf => ?_
  obtain ⟨q3, hcall4, h⟩ := bnd h
  refine st_call hf (by decide) Tryz.func45 rfl rfl rfl rfl rfl (f_load_carriers_c hp _ hcall4) ?_
  rintro _ w ⟨rfl, hp⟩
  replace hp : Hp _ _ _ (_ :: ow) := hp
  refine ⟨_, rfl, fun a hf => ?_⟩
  refine go ?_; intro a hf
  obtain ⟨z7, hz5, h⟩ := bnd h
  refine wpList_cut 4 (fun a w => Fr 49 a [(0, vw0), (1, .int .i64 power1), (2, .bool squares2), (6, optr v1 0), (18, .bool z7)] ∧ Hp S w0 w (Res.obj 83 v1 [.slice none 0 0, .int .i64 (0 : Int), .int .i64 (0 : Int)] :: ow)) ?_ ?_
  ·
   rcases Bool.eq_false_or_eq_true (!q3) with hb6 | hb6
   ·
    replace hz5 := ifT hz5 hb6
    obtain rfl := oj hz5
    refine go ?_; intro a hf
    exact ⟨hf.sb, hp⟩
   replace hz5 := ifF hz5 hb6
   refine go ?_; intro a hf
   obtain ⟨q8, hcall9, hz5⟩ := bnd hz5
   refine st_call hf (by decide) Tryz.func46 rfl rfl (wantY hf rfl rfl hb6) rfl rfl (f_load_may_c hp _ _ hweights0 hcall9) ?_
   rintro _ w ⟨rfl, hp⟩
   replace hp : Hp _ _ _ (_ :: ow) := hp
   refine ⟨_, rfl, fun a hf => ?_⟩
   obtain rfl := oj hz5
   refine go ?_; intro a hf
   exact ⟨hf.sb, hp⟩
  rintro a w ⟨hf, hp⟩
  refine go ?_; intro a hf
  refine wpList_cut 3 (fun a w => Fr 49 a [(0, vw0), (1, .int .i64 power1), (2, .bool squares2), (6, optr v1 0), (22, .bool (z7 || (decide (power1 < (0 : Int)))))] ∧ Hp S w0 w (Res.obj 83 v1 [.slice none 0 0, .int .i64 (0 : Int), .int .i64 (0 : Int)] :: ow)) ?_ ?_
  ·
   rcases Bool.eq_false_or_eq_true z7 with hb11 | hb11
   ·
    refine go ?_; intro a hf
    exact ⟨hf.sub ⟨rfl, rfl, rfl, rfl, (by rw [hb11]; rfl), trivial⟩, hp⟩
   refine go ?_; intro a hf
   exact ⟨hf.sub ⟨rfl, rfl, rfl, rfl, (by rw [hb11]; rfl), trivial⟩, hp⟩
  rintro a w ⟨hf, hp⟩
  refine go ?_; intro a hf
  refine wpList_cut 3 (fun a w => Fr 49 a [(0, vw0), (1, .int .i64 power1), (2, .bool squares2), (6, optr v1 0), (26, .bool ((z7 || (decide (power1 < (0 : Int)))) || (decide ((1099511627776 : Int) < power1))))] ∧ Hp S w0 w (Res.obj 83 v1 [.slice none 0 0, .int .i64 (0 : Int), .int .i64 (0 : Int)] :: ow)) ?_ ?_
  ·
   rcases Bool.eq_false_or_eq_true (z7 || (decide (power1 < (0 : Int)))) with hb13 | hb13
   ·
    refine go ?_; intro a hf
    exact ⟨hf.sub ⟨rfl, rfl, rfl, rfl, (by rw [hb13]; rfl), trivial⟩, hp⟩
   refine go ?_; intro a hf
   exact ⟨hf.sub ⟨rfl, rfl, rfl, rfl, (by rw [hb13]; rfl), trivial⟩, hp⟩
  rintro a w ⟨hf, hp⟩
  refine goT ?_
  refine wp_if hf rfl (fun hb => ?_) (fun hb => ?_)
  ·
   replace h := ifT h hb
   refine goT ?_
   refine st_buildA (vals := []) (cells := [.slice none 0 0, .int .i64 (0 : Int), .int .i64 (0 : Int)]) hf (by decide) rfl (by simp []) (fun w => by kernel_rfl) fun a _ hf => ?_
   refine st_stO (us := [.slice none 0 0, .int .i64 (0 : Int), .int .i64 (0 : Int)]) hf hp (i := 0) rfl rfl rfl rfl rfl (by rfl) (by kernel_rfl) (Nat.le_of_ble_eq_true rfl) ?_
   clear hf; intro a w hf hp0; clear hp; have hp := hp0; clear hp0
   replace hp : Hp _ _ _ (_ :: ow) := hp
   refine go ?_; intro a hf
   obtain rfl := oj h
   have hp := hp.nil (Ek.int .i64) 3
   have hp : Hp _ _ _ (_ :: Res.sl (Ek.int .i64) 3 (.slice none 0 0) ([]) :: ow) := (hp.pk [1, 0] 2 :)
   exact ⟨rfl, ⟨_, _, hf.sb, hp⟩⟩
  replace h := ifF h hb
  refine wp_skip ?_
  refine go ?_; intro a hf
  obtain ⟨q15, hcall16, h⟩ := bnd h
  refine st_call hf (by decide) Tryz.func60 rfl rfl rfl rfl rfl (f_load_made_c hp _ _ hweights0 _ hcall16) ?_
  rintro _ w ⟨v17, v18, v19, rfl, hp⟩
  replace hp : Hp _ _ _ (Res.obj 137 v17 [vw0, v18, v19] :: Res.sl (Ek.int .i64) 3 v18 q15.1 :: Res.sl (Ek.arr 2049 (Ek.int .i64)) 134 v19 q15.2 :: _ :: ow) := hp
  refine ⟨_, rfl, fun a hf => ?_⟩
  refine go ?_; intro a hf
  refine st_len (E := (Ek.int .i64)) hf (by decide) Tryz.underlying24 rfl rfl (hweights0.sl hp) fun a _ hf => ?_
  refine go ?_; intro a hf
  obtain ⟨q25, hl, h⟩ := bnd h
  have hp : Hp _ _ _ (_ :: _ :: _ :: _ :: ow) := (hp.pk [3, 0, 1, 2] 4 :)
  refine wp_loop_pure (f := (f_load_at.s1 power1 q15)) (s := (IntKind.i64.wrap ((8 : Int) * (weights0.length : Int)))) (fun s a w => Fr 49 a [(1, .int .i64 power1), (6, optr v1 0), (8, v17), (9, .int .i64 s)] ∧ Hp S w0 w (Res.obj 83 v1 [.slice none 0 0, .int .i64 (0 : Int), .int .i64 (0 : Int)] :: Res.obj 137 v17 [vw0, v18, v19] :: Res.sl (Ek.int .i64) 3 v18 q15.1 :: Res.sl (Ek.arr 2049 (Ek.int .i64)) 134 v19 q15.2 :: ow)) (fun q e a w => e = .exit 0 ∧ Fr 49 a [(6, optr v1 0), (8, v17), (9, .int .i64 q)] ∧ Hp S w0 w (Res.obj 83 v1 [.slice none 0 0, .int .i64 (0 : Int), .int .i64 (0 : Int)] :: Res.obj 137 v17 [vw0, v18, v19] :: Res.sl (Ek.int .i64) 3 v18 q15.1 :: Res.sl (Ek.arr 2049 (Ek.int .i64)) 134 v19 q15.2 :: ow)) ?_ hl ⟨hf.sb, hp⟩ ?_
  ·
   clear hl hf hp
   intro s x a w h hI
   obtain ⟨n9, hs⟩ : ∃ z, z = s := ⟨s, rfl⟩; subst hs
   obtain ⟨hf, hp⟩ : Fr 49 a [(1, .int .i64 power1), (6, optr v1 0), (8, v17), (9, .int .i64 n9)] ∧ Hp S w0 w (Res.obj 83 v1 [.slice none 0 0, .int .i64 (0 : Int), .int .i64 (0 : Int)] :: Res.obj 137 v17 [vw0, v18, v19] :: Res.sl (Ek.int .i64) 3 v18 q15.1 :: Res.sl (Ek.arr 2049 (Ek.int .i64)) 134 v19 q15.2 :: ow) := hI
   replace h : f_load_at.s1c power1 q15 n9 = some x := h
   unfold f_load_at.s1c at h
   refine go ?_; intro a hf
   refine st_nilV hf (by decide) rfl rfl (hp.ob (i := 1) rfl) fun a _ hf => ?_
   refine st_fa (o' := 2) hf (by decide) (off := 2) (sz := 1) (by kernel_rfl) (by decide) rfl rfl (hp.ob (i := 1) rfl) rfl fun a _ hf => ?_
   refine st_ldO (u := v19) hf (by decide) pl135 rfl rfl (hp.ob (i := 1) rfl) rfl fun a _ hf => ?_
   refine go ?_; intro a hf
   obtain ⟨hc23, h⟩ := chk h
   refine st_index (E := (Ek.arr 2049 (Ek.int .i64))) hf (by decide) Tryz.underlying135 elt134 rfl rfl rfl (hp.sl (i := 3) rfl) hc23.1 hc23.2 fun a _ hf => ?_
   obtain ⟨hc24, h⟩ := chk h
   refine st_iaP (sz := 1) hf (by decide) Tryz.underlying134 (by kernel_rfl) rfl rfl rfl (Sl.isP (hp.sl (i := 3) rfl) hc23.1 hc23.2) hc24.1 hc24.2 fun a _ hf => ?_
   refine st_ldQ (F := (Ek.int .i64)) (yv := (gt (gt q15.2 (0 : Int)) n9)) hf (by decide) pl3 (fun x => .int .i64 x) (fun _ _ h => h) rfl rfl (Sl.part (E := (Ek.arr 2049 (Ek.int .i64))) (F := (Ek.int .i64)) (o := (n9).toNat * 1) (Sub.arr (F := (Ek.int .i64)) (N := 2049) (j := n9) hc24.1 hc24.2) (hp.sl (i := 3) rfl) hc23.1 hc23.2) fun a _ hf => ?_
   refine go ?_; intro a hf
   refine wp_if hf rfl (fun hb => ?_) (fun hb => ?_)
   ·
    replace h := ifT h hb
    refine wp_skip ?_
    refine go ?_; intro a hf
    obtain rfl := oj h
    exact rnd_l ⟨hf.sb, hp⟩
   replace h := ifF h hb
   refine wp_exit ?_
   refine th_e ?_
   obtain rfl := oj h
   exact rnd_r (by simp) ⟨rfl, hf.sb, hp⟩
  clear hl hf hp
  intro e a w hne hO
  obtain ⟨rfl, hf, hp⟩ := hO
  refine ib_same ?_
  refine go ?_; intro a hf
  obtain ⟨q26, hcall27, h⟩ := bnd h
  obtain ⟨S28, hp29, rd30, up31, bk32⟩ := Hp.lendS hp (i := 2) rfl
  obtain ⟨S33, hp34, rd35, up36, bk37⟩ := Hp.lendS hp29 (i := 2) rfl
  obtain ⟨S38, hp39, rd40, up41, bk42⟩ := Hp.lendO hp34 (i := 1) rfl
  refine st_call hf (by decide) Tryz.func61 rfl rfl rfl rfl rfl (f_load_table_first_c hp39 _ _ ((((((hweights0.now hp).mono up31).now hp29).mono up36).now hp34).mono up41) _ _ ((((rd30.now hp29).mono up36).now hp34).mono up41) _ _ ((rd35.now hp34).mono up41) _ rd40 _ hcall27) ?_
  rintro _ w ⟨v43, rfl, hp0⟩
  have hp0 := bk42 _ _ hp0
  have hp0 := bk37 _ _ hp0
  have hp0 := bk32 _ _ hp0
  clear hp; have hp := hp0; clear hp0
  replace hp : Hp _ _ _ (_ :: _ :: _ :: Res.sl (Ek.int .i64) 3 v43 q26.1 :: _ :: ow) := hp
  refine ⟨_, rfl, fun a hf => ?_⟩
  refine st_stO (us := [v43, .int .i64 q26.2.1, .int .i64 q26.2.2]) hf hp (i := 4) rfl rfl rfl rfl rfl (by first | rfl | (obtain ⟨_, _, rfl⟩ := (hp.sl (i := 3) rfl).shapeV; rfl)) (by kernel_rfl) (Nat.le_of_ble_eq_true rfl) ?_
  clear hf; intro a w hf hp0; clear hp; have hp := hp0; clear hp0
  replace hp : Hp _ _ _ (_ :: _ :: _ :: _ :: Res.obj 83 v1 [v43, .int .i64 q26.2.1, .int .i64 q26.2.2] :: ow) := hp
  refine go ?_; intro a hf
  obtain rfl := oj h
  have hp : Hp _ _ _ (_ :: _ :: ow) := (hp.pk [4, 3] 5 :)
  exact ⟨rfl, ⟨_, _, hf.sb, hp⟩⟩

noncomputable def f_load_Most (weights0 : (List Int)) (power1 : Int) : Option (((List Int) × Int × Int) × Int) := ((f_load_at weights0 power1 false).bind fun q3 => (some ((q3.1.1, q3.1.2.1, q3.1.2.2), q3.2)))
theorem f_load_Most_c {S : Nat → Prop} {w0 w : World} {ow : List Res} (hp : Hp S w0 w ow) (vw0 : Value) (weights0 : (List Int)) (hweights0 : RdS (Ek.int .i64) S w0 vw0 weights0) (power1 : Int) {r : (((List Int) × Int × Int) × Int)} (h : f_load_Most weights0 power1 = some r) :
   Calls Tryz.prog 29 #[vw0, .int .i64 power1] w (fun e w' => ∃ (u0 : Value), e = .returned (.tuple #[.agg #[u0, .int .i64 r.1.2.1, .int .i64 r.1.2.2], .int .i64 r.2]) ∧ Hp S w0 w' (Res.sl (Ek.int .i64) 3 u0 r.1.1 :: ow)) := by
  unfold f_load_Most at h
  refine enx (n := 11) Tryz.func29 fun a hf => ?_
  refine wp_mono (Q := fun e a w => e = .ret ∧ ∃ (u0 : Value) (c0 : Value), Fr 11 a [(4, optr c0 0), (5, .int .i64 r.2)] ∧ Hp S w0 w (Res.obj 83 c0 [u0, .int .i64 r.1.2.1, .int .i64 r.1.2.2] :: Res.sl (Ek.int .i64) 3 u0 r.1.1 :: ow)) ?_ ?_
  rotate_left
  ·
   rintro e a w ⟨rfl, x0, c0, hf, hp⟩
   exact retG2 hf rfl ⟨_, _, rfl, hp.ob (i := 0) rfl, .inr ⟨by kernel_rfl, rfl⟩⟩ rfl ⟨x0, rfl, hp.drop⟩
  refine goT ?_
  refine st_alloc (cs := [.slice none 0 0, .int .i64 (0 : Int), .int .i64 (0 : Int)]) (zv := .agg #[.slice none 0 0, .int .i64 (0 : Int), .int .i64 (0 : Int)]) hf (by decide) (by kernel_rfl) rfl hp rfl ?_
  clear hf; intro a w v1 hf hp0; clear hp; have hp := hp0; clear hp0
  replace hp : Hp _ _ _ (Res.obj 83 v1 [.slice none 0 0, .int .i64 (0 : Int), .int .i64 (0 : Int)] :: ow) := hp
  refine go ?_; intro a hf
  obtain ⟨q3, hcall4, h⟩ := bnd h
  refine st_call hf (by decide) Tryz.func49 rfl rfl rfl rfl rfl (f_load_at_c hp _ _ hweights0 _ _ hcall4) ?_
  rintro _ w ⟨v5, rfl, hp⟩
  replace hp : Hp _ _ _ (Res.sl (Ek.int .i64) 3 v5 q3.1.1 :: _ :: ow) := hp
  refine ⟨_, rfl, fun a hf => ?_⟩
  refine go ?_; intro a hf
  refine st_stO (us := [v5, .int .i64 q3.1.2.1, .int .i64 q3.1.2.2]) hf hp (i := 1) rfl rfl rfl rfl rfl (by first | rfl | (obtain ⟨_, _, rfl⟩ := (hp.sl (i := 0) rfl).shapeV; rfl)) (by kernel_rfl) (Nat.le_of_ble_eq_true rfl) ?_
  clear hf; intro a w hf hp0; clear hp; have hp := hp0; clear hp0
  replace hp : Hp _ _ _ (_ :: Res.obj 83 v1 [v5, .int .i64 q3.1.2.1, .int .i64 q3.1.2.2] :: ow) := hp
  refine go ?_; intro a hf
  obtain rfl := oj h
  have hp : Hp _ _ _ (_ :: _ :: ow) := (hp.pk [1, 0] 2 :)
  exact ⟨rfl, ⟨_, _, hf.sb, hp⟩⟩

end Go.Proofs.YtgdhjjdgghilhaaGreat
