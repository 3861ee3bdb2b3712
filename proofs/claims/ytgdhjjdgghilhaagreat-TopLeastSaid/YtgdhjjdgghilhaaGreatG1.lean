/- The functions foghorn foghorntop.TopLeast: what each answers, as a plain function, and that its call answers it; printed by gen.py. -/
import Derived.Test.YtgdhjjdgghilhaaGreatProg
import Derived.Test.YtgdhjjdgghilhaaGreatGlUi
import Derived.KernelRfl
import Derived.Test.YtgdhjjdgghilhaaGreatG1p5
set_option linter.unusedVariables false
set_option linter.unusedSimpArgs false
set_option maxRecDepth 100000
set_option maxHeartbeats 4000000
namespace Go.Proofs.YtgdhjjdgghilhaaGreat
open GL
noncomputable def f_foghorntop_loaded.s1c (weights0 : (List Int)) (bits1 : (List Int)) (wx8 : (List Int)) (bx9 : (List Int)) (i10 : Int) : Option (((List Int) × (List Int) × Int) ⊕ ((List Int) × (List Int))) := (if (decide (i10 < (imin (imin (weights0.length : Int) (bits1.length : Int)) (40 : Int)))) = true then (if 0 ≤ i10 ∧ i10 < (weights0.length : Int) then ((f_foghorntop_mod (gt weights0 i10) (50 : Int)).bind fun q10 => (if (wx8.length + ([(IntKind.i64.wrap ((1 : Int) + q10))]).length) * 8 ≤ 140737488355328 then (if 0 ≤ i10 ∧ i10 < (bits1.length : Int) then ((f_foghorntop_mod (gt bits1 i10) (7 : Int)).bind fun q19 => (if 0 ≤ q19 ∧ q19 < (([(0 : Int), (2 : Int), (4 : Int), (5 : Int), (6 : Int), (7 : Int), (8 : Int)]).length : Int) then (if (bx9.length + ([(gt ([(0 : Int), (2 : Int), (4 : Int), (5 : Int), (6 : Int), (7 : Int), (8 : Int)]) q19)]).length) * 8 ≤ 140737488355328 then (some (Sum.inl ((wx8 ++ [(IntKind.i64.wrap ((1 : Int) + q10))]), (bx9 ++ [(gt ([(0 : Int), (2 : Int), (4 : Int), (5 : Int), (6 : Int), (7 : Int), (8 : Int)]) q19)]), (IntKind.i64.wrap (i10 + (1 : Int)))))) else none) else none)) else none) else none)) else none) else (some (Sum.inr (wx8, bx9))))
noncomputable def f_foghorntop_loaded.s1 (weights0 : (List Int)) (bits1 : (List Int)) (s : ((List Int) × (List Int) × Int)) : Option (((List Int) × (List Int) × Int) ⊕ ((List Int) × (List Int))) := f_foghorntop_loaded.s1c weights0 bits1 s.1 s.2.1 s.2.2
noncomputable def f_foghorntop_loaded (weights0 : (List Int)) (bits1 : (List Int)) (power2 : Int) : Option Bool := ((loop (f_foghorntop_loaded.s1 weights0 bits1) ([], [], (0 : Int))).bind (fun q26 => (if ((imin (imin (weights0.length : Int) (bits1.length : Int)) (40 : Int)) == (0 : Int)) = true then (some true) else ((f_foghorntop_mod power2 (20000 : Int)).bind fun q29 => ((f_load_Check q26.1 q26.2).bind fun q31 => ((f_load_Most q26.1 q29).bind fun q47 => ((f_load_Check q26.1 q47.1.1).bind fun q58 => (if ((((((q31.2 != (0 : Int)) || (q47.2 != (0 : Int))) || (q58.2 != (0 : Int))) || (decide (q29 < q47.1.2.2))) || (q58.1.2.1 != q47.1.2.1)) || (q58.1.2.2 != q47.1.2.2)) = true then (some false) else (some ((decide (q29 < q31.1.2.2)) || (decide (q31.1.2.1 ≤ q47.1.2.1))))))))))))
theorem f_foghorntop_loaded_c {S : Nat → Prop} {w0 w : World} {ow : List Res} (hp : Hp S w0 w ow) (vw0 : Value) (weights0 : (List Int)) (hweights0 : RdS (Ek.int .i64) S w0 vw0 weights0) (vbits1 : Value) (bits1 : (List Int)) (hbits1 : RdS (Ek.int .i64) S w0 vbits1 bits1) (power2 : Int) {r : Bool} (h : f_foghorntop_loaded weights0 bits1 power2 = some r) :
   Calls Tryz.prog 12 #[vw0, vbits1, .int .i64 power2] w (fun e w' => e = .returned (.bool r) ∧ Hp S w0 w' (ow)) := by
  unfold f_foghorntop_loaded at h
  refine enx (n := 112) Tryz.func12 fun a hf => ?_
  refine wp_mono (Q := fun e a w => e = .ret ∧ Fr 112 a [(6, .bool r)] ∧ Hp S w0 w (ow)) ?_ ?_
  rotate_left
  ·
   rintro e a w ⟨rfl, hf, hp⟩
   exact ret1 hf rfl rfl ⟨rfl, hp⟩
  refine go ?_; intro a hf
  refine st_len (E := (Ek.int .i64)) hf (by decide) Tryz.underlying24 rfl rfl (hweights0.sl hp) fun a _ hf => ?_
  refine go ?_; intro a hf
  refine st_len (E := (Ek.int .i64)) hf (by decide) Tryz.underlying24 rfl rfl (hbits1.sl hp) fun a _ hf => ?_
  refine st_imin3 hf (by decide) rfl rfl rfl rfl fun a _ hf => ?_
  refine go ?_; intro a hf
  obtain ⟨q26, hl, h⟩ := bnd h
  have hp := hp.nil (Ek.int .i64) 3
  have hp := hp.nil (Ek.int .i64) 3
  have hp : Hp _ _ _ (Res.sl (Ek.int .i64) 3 (.slice none 0 0) ([]) :: Res.sl (Ek.int .i64) 3 (.slice none 0 0) ([]) :: ow) := (hp.pk [1, 0] 2 :)
  refine wp_loop_pure (f := (f_foghorntop_loaded.s1 weights0 bits1)) (s := ([], [], (0 : Int))) (fun s a w => ∃ (v1 : Value) (v3 : Value), Fr 112 a [(0, vw0), (1, vbits1), (2, .int .i64 power2), (7, .int .i64 (imin (imin (weights0.length : Int) (bits1.length : Int)) (40 : Int))), (8, v1), (9, v3), (10, .int .i64 s.2.2)] ∧ Hp S w0 w (Res.sl (Ek.int .i64) 3 v1 s.1 :: Res.sl (Ek.int .i64) 3 v3 s.2.1 :: ow)) (fun q e a w => e = .exit 0 ∧ ∃ (v5 : Value) (v7 : Value), Fr 112 a [(2, .int .i64 power2), (7, .int .i64 (imin (imin (weights0.length : Int) (bits1.length : Int)) (40 : Int))), (8, v5), (9, v7)] ∧ Hp S w0 w (Res.sl (Ek.int .i64) 3 v5 q.1 :: Res.sl (Ek.int .i64) 3 v7 q.2 :: ow)) ?_ hl ⟨_, _, hf.sb, hp⟩ ?_
  ·
   clear hl hf hp
   intro s x a w h hI
   obtain ⟨wx8, bx9, i10⟩ := s
   obtain ⟨v1, v3, hf, hp⟩ : ∃ (v1 : Value) (v3 : Value), Fr 112 a [(0, vw0), (1, vbits1), (2, .int .i64 power2), (7, .int .i64 (imin (imin (weights0.length : Int) (bits1.length : Int)) (40 : Int))), (8, v1), (9, v3), (10, .int .i64 i10)] ∧ Hp S w0 w (Res.sl (Ek.int .i64) 3 v1 wx8 :: Res.sl (Ek.int .i64) 3 v3 bx9 :: ow) := hI
   replace h : f_foghorntop_loaded.s1c weights0 bits1 wx8 bx9 i10 = some x := h
   unfold f_foghorntop_loaded.s1c at h
   refine go ?_; intro a hf
   refine wp_if hf rfl (fun hb => ?_) (fun hb => ?_)
   ·
    replace h := ifT h hb
    refine wp_skip ?_
    refine go ?_; intro a hf
    obtain ⟨hc9, h⟩ := chk h
    refine st_index (E := (Ek.int .i64)) hf (by decide) Tryz.underlying24 elt3 rfl rfl rfl (hweights0.sl hp) hc9.1 hc9.2 fun a _ hf => ?_
    refine st_ldI hf (by decide) pl3 rfl rfl (hweights0.sl hp) hc9.1 hc9.2 fun a _ hf => ?_
    obtain ⟨q10, hcall11, h⟩ := bnd h
    refine st_call hf (by decide) Tryz.func7 rfl rfl rfl rfl rfl (f_foghorntop_mod_c hp _ _ hcall11) ?_
    rintro _ w ⟨rfl, hp⟩
    replace hp : Hp _ _ _ (Res.sl (Ek.int .i64) 3 v1 wx8 :: Res.sl (Ek.int .i64) 3 v3 bx9 :: ow) := hp
    refine ⟨_, rfl, fun a hf => ?_⟩
    refine go ?_; intro a hf
    refine st_build (E := (Ek.int .i64)) (xs := [(IntKind.i64.wrap ((1 : Int) + q10))]) hf (by decide) elt3 Tryz.underlying24 hp (vals := #[(0, .int .i64 (IntKind.i64.wrap ((1 : Int) + q10)))]) (cells := #[.int .i64 (IntKind.i64.wrap ((1 : Int) + q10))]) rfl (by simp [hf.ev (x := (Operand.tmp 34)) rfl]) (Nat.le_of_ble_eq_true rfl) (Nat.le_of_ble_eq_true rfl) (z := .int .i64 0) (by kernel_rfl) (by kernel_rfl) rfl (reps_cons (cs := [.int .i64 (IntKind.i64.wrap ((1 : Int) + q10))]) rfl (reps_nil _)) ?_
    clear hf; intro a w v12 hf hp0; clear hp; have hp := hp0; clear hp0
    replace hp : Hp _ _ _ (Res.sl (Ek.int .i64) 3 v12 ([(IntKind.i64.wrap ((1 : Int) + q10))]) :: _ :: _ :: ow) := hp
    obtain ⟨hc14, h⟩ := chk h
    refine st_append (E := (Ek.int .i64)) hf (by decide) elt3 Tryz.underlying24 (by decide) hp (i := 1) rfl rfl rfl rfl (hp.sl (i := 0) rfl) hc14 ?_
    clear hf; intro a w v15 hf hp0; clear hp; have hp := hp0; clear hp0
    replace hp : Hp _ _ _ (_ :: Res.sl (Ek.int .i64) 3 v15 (wx8 ++ [(IntKind.i64.wrap ((1 : Int) + q10))]) :: _ :: ow) := hp
    refine go ?_; intro a hf
    refine st_build (E := (Ek.int .i64)) (xs := [(0 : Int), (2 : Int), (4 : Int), (5 : Int), (6 : Int), (7 : Int), (8 : Int)]) hf (by decide) elt3 Tryz.underlying24 hp (vals := #[(0, .int .i64 (0 : Int)), (1, .int .i64 (2 : Int)), (2, .int .i64 (4 : Int)), (3, .int .i64 (5 : Int)), (4, .int .i64 (6 : Int)), (5, .int .i64 (7 : Int)), (6, .int .i64 (8 : Int))]) (cells := #[.int .i64 (0 : Int), .int .i64 (2 : Int), .int .i64 (4 : Int), .int .i64 (5 : Int), .int .i64 (6 : Int), .int .i64 (7 : Int), .int .i64 (8 : Int)]) rfl (by simp [hf.ev (x := (Operand.const (.int .i64 (0 : Int)))) rfl, hf.ev (x := (Operand.const (.int .i64 (2 : Int)))) rfl, hf.ev (x := (Operand.const (.int .i64 (4 : Int)))) rfl, hf.ev (x := (Operand.const (.int .i64 (5 : Int)))) rfl, hf.ev (x := (Operand.const (.int .i64 (6 : Int)))) rfl, hf.ev (x := (Operand.const (.int .i64 (7 : Int)))) rfl, hf.ev (x := (Operand.const (.int .i64 (8 : Int)))) rfl]) (Nat.le_of_ble_eq_true rfl) (Nat.le_of_ble_eq_true rfl) (z := .int .i64 0) (by kernel_rfl) (by kernel_rfl) rfl (reps_cons (cs := [.int .i64 (0 : Int)]) rfl (reps_cons (cs := [.int .i64 (2 : Int)]) rfl (reps_cons (cs := [.int .i64 (4 : Int)]) rfl (reps_cons (cs := [.int .i64 (5 : Int)]) rfl (reps_cons (cs := [.int .i64 (6 : Int)]) rfl (reps_cons (cs := [.int .i64 (7 : Int)]) rfl (reps_cons (cs := [.int .i64 (8 : Int)]) rfl (reps_nil _)))))))) ?_
    clear hf; intro a w v16 hf hp0; clear hp; have hp := hp0; clear hp0
    replace hp : Hp _ _ _ (Res.sl (Ek.int .i64) 3 v16 ([(0 : Int), (2 : Int), (4 : Int), (5 : Int), (6 : Int), (7 : Int), (8 : Int)]) :: _ :: _ :: _ :: ow) := hp
    refine go ?_; intro a hf
    obtain ⟨hc18, h⟩ := chk h
    refine st_index (E := (Ek.int .i64)) hf (by decide) Tryz.underlying24 elt3 rfl rfl rfl (hbits1.sl hp) hc18.1 hc18.2 fun a _ hf => ?_
    refine st_ldI hf (by decide) pl3 rfl rfl (hbits1.sl hp) hc18.1 hc18.2 fun a _ hf => ?_
    obtain ⟨q19, hcall20, h⟩ := bnd h
    refine st_call hf (by decide) Tryz.func7 rfl rfl rfl rfl rfl (f_foghorntop_mod_c hp _ _ hcall20) ?_
    rintro _ w ⟨rfl, hp⟩
    replace hp : Hp _ _ _ (_ :: _ :: _ :: _ :: ow) := hp
    refine ⟨_, rfl, fun a hf => ?_⟩
    obtain ⟨hc21, h⟩ := chk h
    refine st_index (E := (Ek.int .i64)) hf (by decide) Tryz.underlying24 elt3 rfl rfl rfl (hp.sl (i := 0) rfl) hc21.1 hc21.2 fun a _ hf => ?_
    refine st_ldI hf (by decide) pl3 rfl rfl (hp.sl (i := 0) rfl) hc21.1 hc21.2 fun a _ hf => ?_
    refine st_build (E := (Ek.int .i64)) (xs := [(gt ([(0 : Int), (2 : Int), (4 : Int), (5 : Int), (6 : Int), (7 : Int), (8 : Int)]) q19)]) hf (by decide) elt3 Tryz.underlying24 hp (vals := #[(0, .int .i64 (gt ([(0 : Int), (2 : Int), (4 : Int), (5 : Int), (6 : Int), (7 : Int), (8 : Int)]) q19))]) (cells := #[.int .i64 (gt ([(0 : Int), (2 : Int), (4 : Int), (5 : Int), (6 : Int), (7 : Int), (8 : Int)]) q19)]) rfl (by simp [hf.ev (x := (Operand.tmp 45)) rfl]) (Nat.le_of_ble_eq_true rfl) (Nat.le_of_ble_eq_true rfl) (z := .int .i64 0) (by kernel_rfl) (by kernel_rfl) rfl (reps_cons (cs := [.int .i64 (gt ([(0 : Int), (2 : Int), (4 : Int), (5 : Int), (6 : Int), (7 : Int), (8 : Int)]) q19)]) rfl (reps_nil _)) ?_
    clear hf; intro a w v22 hf hp0; clear hp; have hp := hp0; clear hp0
    replace hp : Hp _ _ _ (Res.sl (Ek.int .i64) 3 v22 ([(gt ([(0 : Int), (2 : Int), (4 : Int), (5 : Int), (6 : Int), (7 : Int), (8 : Int)]) q19)]) :: _ :: _ :: _ :: _ :: ow) := hp
    obtain ⟨hc24, h⟩ := chk h
    refine st_append (E := (Ek.int .i64)) hf (by decide) elt3 Tryz.underlying24 (by decide) hp (i := 4) rfl rfl rfl rfl (hp.sl (i := 0) rfl) hc24 ?_
    clear hf; intro a w v25 hf hp0; clear hp; have hp := hp0; clear hp0
    replace hp : Hp _ _ _ (_ :: _ :: _ :: _ :: Res.sl (Ek.int .i64) 3 v25 (bx9 ++ [(gt ([(0 : Int), (2 : Int), (4 : Int), (5 : Int), (6 : Int), (7 : Int), (8 : Int)]) q19)]) :: ow) := hp
    refine go ?_; intro a hf
    obtain rfl := oj h
    have hp : Hp _ _ _ (_ :: _ :: ow) := (hp.pk [3, 4] 5 :)
    exact rnd_l ⟨_, _, hf.sb, hp⟩
   replace h := ifF h hb
   refine wp_exit ?_
   refine th_e ?_
   obtain rfl := oj h
   exact rnd_r (by simp) ⟨rfl, _, _, hf.sb, hp⟩
  clear hl hf hp
  intro e a w hne hO
  obtain ⟨rfl, v5, v7, hf, hp⟩ := hO
  refine ib_same ?_
  refine go ?_; intro a hf
  refine wp_if hf rfl (fun hb => ?_) (fun hb => ?_)
  ·
   replace h := ifT h hb
   refine go ?_; intro a hf
   obtain rfl := oj h
   have hp : Hp _ _ _ (ow) := (hp.pk [] 2 :)
   exact ⟨rfl, ⟨hf.sb, hp⟩⟩
  replace h := ifF h hb
  refine wp_skip ?_
  refine go ?_; intro a hf
  obtain ⟨q29, hcall30, h⟩ := bnd h
  refine st_call hf (by decide) Tryz.func7 rfl rfl rfl rfl rfl (f_foghorntop_mod_c hp _ _ hcall30) ?_
  rintro _ w ⟨rfl, hp⟩
  replace hp : Hp _ _ _ (Res.sl (Ek.int .i64) 3 v5 q26.1 :: Res.sl (Ek.int .i64) 3 v7 q26.2 :: ow) := hp
  refine ⟨_, rfl, fun a hf => ?_⟩
  refine go ?_; intro a hf
  obtain ⟨q31, hcall32, h⟩ := bnd h
  obtain ⟨S33, hp34, rd35, up36, bk37⟩ := Hp.lendS hp (i := 0) rfl
  obtain ⟨S38, hp39, rd40, up41, bk42⟩ := Hp.lendS hp34 (i := 0) rfl
  refine st_call hf (by decide) Tryz.func28 rfl rfl rfl rfl rfl (f_load_Check_c hp39 _ _ ((rd35.now hp34).mono up41) _ _ rd40 hcall32) ?_
  rintro _ w ⟨v43, rfl, hp0⟩
  have hp0 := bk42 _ _ hp0
  have hp0 := bk37 _ _ hp0
  clear hp; have hp := hp0; clear hp0
  replace hp : Hp _ _ _ (_ :: _ :: Res.sl (Ek.int .i64) 3 v43 q31.1.1 :: ow) := hp
  refine ⟨_, rfl, fun a hf => ?_⟩
  refine go ?_; intro a hf
  refine st_alloc (cs := [.slice none 0 0, .int .i64 (0 : Int), .int .i64 (0 : Int)]) (zv := .agg #[.slice none 0 0, .int .i64 (0 : Int), .int .i64 (0 : Int)]) hf (by decide) (by kernel_rfl) rfl hp rfl ?_
  clear hf; intro a w v45 hf hp0; clear hp; have hp := hp0; clear hp0
  replace hp : Hp _ _ _ (Res.obj 83 v45 [.slice none 0 0, .int .i64 (0 : Int), .int .i64 (0 : Int)] :: _ :: _ :: _ :: ow) := hp
  refine st_stO (us := [v43, .int .i64 q31.1.2.1, .int .i64 q31.1.2.2]) hf hp (i := 0) rfl rfl rfl rfl rfl (by first | rfl | (obtain ⟨_, _, rfl⟩ := (hp.sl (i := 3) rfl).shapeV; rfl)) (by kernel_rfl) (Nat.le_of_ble_eq_true rfl) ?_
  clear hf; intro a w hf hp0; clear hp; have hp := hp0; clear hp0
  replace hp : Hp _ _ _ (Res.obj 83 v45 [v43, .int .i64 q31.1.2.1, .int .i64 q31.1.2.2] :: _ :: _ :: _ :: ow) := hp
  refine go ?_; intro a hf
  obtain ⟨q47, hcall48, h⟩ := bnd h
  obtain ⟨S49, hp50, rd51, up52, bk53⟩ := Hp.lendS hp (i := 1) rfl
  refine st_call hf (by decide) Tryz.func29 rfl rfl rfl rfl rfl (f_load_Most_c hp50 _ _ rd51 _ hcall48) ?_
  rintro _ w ⟨v54, rfl, hp0⟩
  have hp0 := bk53 _ _ hp0
  clear hp; have hp := hp0; clear hp0
  replace hp : Hp _ _ _ (_ :: Res.sl (Ek.int .i64) 3 v54 q47.1.1 :: _ :: _ :: _ :: ow) := hp
  refine ⟨_, rfl, fun a hf => ?_⟩
  refine go ?_; intro a hf
  refine st_alloc (cs := [.slice none 0 0, .int .i64 (0 : Int), .int .i64 (0 : Int)]) (zv := .agg #[.slice none 0 0, .int .i64 (0 : Int), .int .i64 (0 : Int)]) hf (by decide) (by kernel_rfl) rfl hp rfl ?_
  clear hf; intro a w v56 hf hp0; clear hp; have hp := hp0; clear hp0
  replace hp : Hp _ _ _ (Res.obj 83 v56 [.slice none 0 0, .int .i64 (0 : Int), .int .i64 (0 : Int)] :: _ :: _ :: _ :: _ :: _ :: ow) := hp
  refine st_stO (us := [v54, .int .i64 q47.1.2.1, .int .i64 q47.1.2.2]) hf hp (i := 0) rfl rfl rfl rfl rfl (by first | rfl | (obtain ⟨_, _, rfl⟩ := (hp.sl (i := 2) rfl).shapeV; rfl)) (by kernel_rfl) (Nat.le_of_ble_eq_true rfl) ?_
  clear hf; intro a w hf hp0; clear hp; have hp := hp0; clear hp0
  replace hp : Hp _ _ _ (Res.obj 83 v56 [v54, .int .i64 q47.1.2.1, .int .i64 q47.1.2.2] :: _ :: _ :: _ :: _ :: _ :: ow) := hp
  refine go ?_; intro a hf
  refine st_fa (o' := 0) hf (by decide) (off := 0) (sz := 1) (by kernel_rfl) (by decide) rfl rfl (hp.ob (i := 0) rfl) rfl fun a _ hf => ?_
  refine st_ldO (u := v54) hf (by decide) pl24 rfl rfl (hp.ob (i := 0) rfl) rfl fun a _ hf => ?_
  obtain ⟨q58, hcall59, h⟩ := bnd h
  obtain ⟨S60, hp61, rd62, up63, bk64⟩ := Hp.lendS hp (i := 1) rfl
  obtain ⟨S65, hp66, rd67, up68, bk69⟩ := Hp.lendS hp61 (i := 1) rfl
  refine st_call hf (by decide) Tryz.func28 rfl rfl rfl rfl rfl (f_load_Check_c hp66 _ _ ((rd62.now hp61).mono up68) _ _ rd67 hcall59) ?_
  rintro _ w ⟨v70, rfl, hp0⟩
  have hp0 := bk69 _ _ hp0
  have hp0 := bk64 _ _ hp0
  clear hp; have hp := hp0; clear hp0
  replace hp : Hp _ _ _ (_ :: _ :: Res.sl (Ek.int .i64) 3 v70 q58.1.1 :: _ :: _ :: _ :: _ :: ow) := hp
  refine ⟨_, rfl, fun a hf => ?_⟩
  refine go ?_; intro a hf
  refine st_alloc (cs := [.slice none 0 0, .int .i64 (0 : Int), .int .i64 (0 : Int)]) (zv := .agg #[.slice none 0 0, .int .i64 (0 : Int), .int .i64 (0 : Int)]) hf (by decide) (by kernel_rfl) rfl hp rfl ?_
  clear hf; intro a w v72 hf hp0; clear hp; have hp := hp0; clear hp0
  replace hp : Hp _ _ _ (Res.obj 83 v72 [.slice none 0 0, .int .i64 (0 : Int), .int .i64 (0 : Int)] :: _ :: _ :: _ :: _ :: _ :: _ :: _ :: ow) := hp
  refine st_stO (us := [v70, .int .i64 q58.1.2.1, .int .i64 q58.1.2.2]) hf hp (i := 0) rfl rfl rfl rfl rfl (by first | rfl | (obtain ⟨_, _, rfl⟩ := (hp.sl (i := 3) rfl).shapeV; rfl)) (by kernel_rfl) (Nat.le_of_ble_eq_true rfl) ?_
  clear hf; intro a w hf hp0; clear hp; have hp := hp0; clear hp0
  replace hp : Hp _ _ _ (Res.obj 83 v72 [v70, .int .i64 q58.1.2.1, .int .i64 q58.1.2.2] :: _ :: _ :: _ :: _ :: _ :: _ :: _ :: ow) := hp
  refine go ?_; intro a hf
  refine wpList_cut 3 (fun a w => Fr 112 a [(11, .int .i64 q29), (12, optr v45 0), (14, optr v56 0), (16, optr v72 0), (17, .int .i64 q58.2), (76, .bool ((q31.2 != (0 : Int)) || (q47.2 != (0 : Int))))] ∧ Hp S w0 w (Res.obj 83 v72 [v70, .int .i64 q58.1.2.1, .int .i64 q58.1.2.2] :: Res.sl (Ek.int .i64) 3 v5 q26.1 :: Res.sl (Ek.int .i64) 3 v54 q47.1.1 :: Res.sl (Ek.int .i64) 3 v70 q58.1.1 :: Res.obj 83 v56 [v54, .int .i64 q47.1.2.1, .int .i64 q47.1.2.2] :: Res.obj 83 v45 [v43, .int .i64 q31.1.2.1, .int .i64 q31.1.2.2] :: Res.sl (Ek.int .i64) 3 v7 q26.2 :: Res.sl (Ek.int .i64) 3 v43 q31.1.1 :: ow)) ?_ ?_
  ·
   rcases Bool.eq_false_or_eq_true (q31.2 != (0 : Int)) with hb75 | hb75
   ·
    refine go ?_; intro a hf
    exact ⟨hf.sub ⟨rfl, rfl, rfl, rfl, rfl, (by rw [hb75]; rfl), trivial⟩, hp⟩
   refine go ?_; intro a hf
   exact ⟨hf.sub ⟨rfl, rfl, rfl, rfl, rfl, (by rw [hb75]; rfl), trivial⟩, hp⟩
  rintro a w ⟨hf, hp⟩
  refine go ?_; intro a hf
  refine wpList_cut 3 (fun a w => Fr 112 a [(11, .int .i64 q29), (12, optr v45 0), (14, optr v56 0), (16, optr v72 0), (80, .bool (((q31.2 != (0 : Int)) || (q47.2 != (0 : Int))) || (q58.2 != (0 : Int))))] ∧ Hp S w0 w (Res.obj 83 v72 [v70, .int .i64 q58.1.2.1, .int .i64 q58.1.2.2] :: Res.sl (Ek.int .i64) 3 v5 q26.1 :: Res.sl (Ek.int .i64) 3 v54 q47.1.1 :: Res.sl (Ek.int .i64) 3 v70 q58.1.1 :: Res.obj 83 v56 [v54, .int .i64 q47.1.2.1, .int .i64 q47.1.2.2] :: Res.obj 83 v45 [v43, .int .i64 q31.1.2.1, .int .i64 q31.1.2.2] :: Res.sl (Ek.int .i64) 3 v7 q26.2 :: Res.sl (Ek.int .i64) 3 v43 q31.1.1 :: ow)) ?_ ?_
  ·
   rcases Bool.eq_false_or_eq_true ((q31.2 != (0 : Int)) || (q47.2 != (0 : Int))) with hb77 | hb77
   ·
    refine go ?_; intro a hf
    exact ⟨hf.sub ⟨rfl, rfl, rfl, rfl, (by rw [hb77]; rfl), trivial⟩, hp⟩
   refine go ?_; intro a hf
   exact ⟨hf.sub ⟨rfl, rfl, rfl, rfl, (by rw [hb77]; rfl), trivial⟩, hp⟩
  rintro a w ⟨hf, hp⟩
  refine go ?_; intro a hf
  refine wpList_cut 5 (fun a w => Fr 112 a [(11, .int .i64 q29), (12, optr v45 0), (14, optr v56 0), (16, optr v72 0), (86, .bool ((((q31.2 != (0 : Int)) || (q47.2 != (0 : Int))) || (q58.2 != (0 : Int))) || (decide (q29 < q47.1.2.2))))] ∧ Hp S w0 w (Res.obj 83 v72 [v70, .int .i64 q58.1.2.1, .int .i64 q58.1.2.2] :: Res.sl (Ek.int .i64) 3 v5 q26.1 :: Res.sl (Ek.int .i64) 3 v54 q47.1.1 :: Res.sl (Ek.int .i64) 3 v70 q58.1.1 :: Res.obj 83 v56 [v54, .int .i64 q47.1.2.1, .int .i64 q47.1.2.2] :: Res.obj 83 v45 [v43, .int .i64 q31.1.2.1, .int .i64 q31.1.2.2] :: Res.sl (Ek.int .i64) 3 v7 q26.2 :: Res.sl (Ek.int .i64) 3 v43 q31.1.1 :: ow)) ?_ ?_
  ·
   rcases Bool.eq_false_or_eq_true (((q31.2 != (0 : Int)) || (q47.2 != (0 : Int))) || (q58.2 != (0 : Int))) with hb79 | hb79
   ·
    refine go ?_; intro a hf
    exact ⟨hf.sub ⟨rfl, rfl, rfl, rfl, (by rw [hb79]; rfl), trivial⟩, hp⟩
   refine st_fa (o' := 2) hf (by decide) (off := 2) (sz := 1) (by kernel_rfl) (by decide) (wantY hf rfl rfl hb79) rfl (hp.ob (i := 4) rfl) rfl fun a _ hf => ?_
   refine st_ldO (u := .int .i64 q47.1.2.2) hf (by decide) pl3 (wantY hf rfl rfl hb79) rfl (hp.ob (i := 4) rfl) rfl fun a _ hf => ?_
   refine go ?_; intro a hf
   exact ⟨hf.sub ⟨rfl, rfl, rfl, rfl, (by rw [hb79]; rfl), trivial⟩, hp⟩
  rintro a w ⟨hf, hp⟩
  refine go ?_; intro a hf
  refine wpList_cut 6 (fun a w => Fr 112 a [(11, .int .i64 q29), (12, optr v45 0), (14, optr v56 0), (16, optr v72 0), (93, .bool (((((q31.2 != (0 : Int)) || (q47.2 != (0 : Int))) || (q58.2 != (0 : Int))) || (decide (q29 < q47.1.2.2))) || (q58.1.2.1 != q47.1.2.1)))] ∧ Hp S w0 w (Res.obj 83 v72 [v70, .int .i64 q58.1.2.1, .int .i64 q58.1.2.2] :: Res.sl (Ek.int .i64) 3 v5 q26.1 :: Res.sl (Ek.int .i64) 3 v54 q47.1.1 :: Res.sl (Ek.int .i64) 3 v70 q58.1.1 :: Res.obj 83 v56 [v54, .int .i64 q47.1.2.1, .int .i64 q47.1.2.2] :: Res.obj 83 v45 [v43, .int .i64 q31.1.2.1, .int .i64 q31.1.2.2] :: Res.sl (Ek.int .i64) 3 v7 q26.2 :: Res.sl (Ek.int .i64) 3 v43 q31.1.1 :: ow)) ?_ ?_
  ·
   rcases Bool.eq_false_or_eq_true ((((q31.2 != (0 : Int)) || (q47.2 != (0 : Int))) || (q58.2 != (0 : Int))) || (decide (q29 < q47.1.2.2))) with hb81 | hb81
   ·
    refine go ?_; intro a hf
    exact ⟨hf.sub ⟨rfl, rfl, rfl, rfl, (by rw [hb81]; rfl), trivial⟩, hp⟩
   refine st_fa (o' := 1) hf (by decide) (off := 1) (sz := 1) (by kernel_rfl) (by decide) (wantY hf rfl rfl hb81) rfl (hp.ob (i := 0) rfl) rfl fun a _ hf => ?_
   refine st_ldO (u := .int .i64 q58.1.2.1) hf (by decide) pl3 (wantY hf rfl rfl hb81) rfl (hp.ob (i := 0) rfl) rfl fun a _ hf => ?_
   refine st_fa (o' := 1) hf (by decide) (off := 1) (sz := 1) (by kernel_rfl) (by decide) (wantY hf rfl rfl hb81) rfl (hp.ob (i := 4) rfl) rfl fun a _ hf => ?_
   refine st_ldO (u := .int .i64 q47.1.2.1) hf (by decide) pl3 (wantY hf rfl rfl hb81) rfl (hp.ob (i := 4) rfl) rfl fun a _ hf => ?_
   refine go ?_; intro a hf
   exact ⟨hf.sub ⟨rfl, rfl, rfl, rfl, (by rw [hb81]; rfl), trivial⟩, hp⟩
  rintro a w ⟨hf, hp⟩
  refine go ?_; intro a hf
  refine wpList_cut 6 (fun a w => Fr 112 a [(11, .int .i64 q29), (12, optr v45 0), (14, optr v56 0), (100, .bool ((((((q31.2 != (0 : Int)) || (q47.2 != (0 : Int))) || (q58.2 != (0 : Int))) || (decide (q29 < q47.1.2.2))) || (q58.1.2.1 != q47.1.2.1)) || (q58.1.2.2 != q47.1.2.2)))] ∧ Hp S w0 w (Res.obj 83 v72 [v70, .int .i64 q58.1.2.1, .int .i64 q58.1.2.2] :: Res.sl (Ek.int .i64) 3 v5 q26.1 :: Res.sl (Ek.int .i64) 3 v54 q47.1.1 :: Res.sl (Ek.int .i64) 3 v70 q58.1.1 :: Res.obj 83 v56 [v54, .int .i64 q47.1.2.1, .int .i64 q47.1.2.2] :: Res.obj 83 v45 [v43, .int .i64 q31.1.2.1, .int .i64 q31.1.2.2] :: Res.sl (Ek.int .i64) 3 v7 q26.2 :: Res.sl (Ek.int .i64) 3 v43 q31.1.1 :: ow)) ?_ ?_
  ·
   rcases Bool.eq_false_or_eq_true (((((q31.2 != (0 : Int)) || (q47.2 != (0 : Int))) || (q58.2 != (0 : Int))) || (decide (q29 < q47.1.2.2))) || (q58.1.2.1 != q47.1.2.1)) with hb83 | hb83
   ·
    refine go ?_; intro a hf
    exact ⟨hf.sub ⟨rfl, rfl, rfl, (by rw [hb83]; rfl), trivial⟩, hp⟩
   refine st_fa (o' := 2) hf (by decide) (off := 2) (sz := 1) (by kernel_rfl) (by decide) (wantY hf rfl rfl hb83) rfl (hp.ob (i := 0) rfl) rfl fun a _ hf => ?_
   refine st_ldO (u := .int .i64 q58.1.2.2) hf (by decide) pl3 (wantY hf rfl rfl hb83) rfl (hp.ob (i := 0) rfl) rfl fun a _ hf => ?_
   refine st_fa (o' := 2) hf (by decide) (off := 2) (sz := 1) (by kernel_rfl) (by decide) (wantY hf rfl rfl hb83) rfl (hp.ob (i := 4) rfl) rfl fun a _ hf => ?_
   refine st_ldO (u := .int .i64 q47.1.2.2) hf (by decide) pl3 (wantY hf rfl rfl hb83) rfl (hp.ob (i := 4) rfl) rfl fun a _ hf => ?_
   refine go ?_; intro a hf
   exact ⟨hf.sub ⟨rfl, rfl, rfl, (by rw [hb83]; rfl), trivial⟩, hp⟩
  rintro a w ⟨hf, hp⟩
  refine goT ?_
  refine wp_if hf rfl (fun hb => ?_) (fun hb => ?_)
  ·
   replace h := ifT h hb
   refine go ?_; intro a hf
   obtain rfl := oj h
   have hp : Hp _ _ _ (ow) := (hp.pk [] 8 :)
   exact ⟨rfl, ⟨hf.sb, hp⟩⟩
  replace h := ifF h hb
  refine wp_skip ?_
  refine goT ?_
  refine st_fa (o' := 2) hf (by decide) (off := 2) (sz := 1) (by kernel_rfl) (by decide) rfl rfl (hp.ob (i := 5) rfl) rfl fun a _ hf => ?_
  refine st_ldO (u := .int .i64 q31.1.2.2) hf (by decide) pl3 rfl rfl (hp.ob (i := 5) rfl) rfl fun a _ hf => ?_
  refine go ?_; intro a hf
  refine wpList_cut 6 (fun a w => Fr 112 a [(111, .bool ((decide (q29 < q31.1.2.2)) || (decide (q31.1.2.1 ≤ q47.1.2.1))))] ∧ Hp S w0 w (Res.obj 83 v72 [v70, .int .i64 q58.1.2.1, .int .i64 q58.1.2.2] :: Res.sl (Ek.int .i64) 3 v5 q26.1 :: Res.sl (Ek.int .i64) 3 v54 q47.1.1 :: Res.sl (Ek.int .i64) 3 v70 q58.1.1 :: Res.obj 83 v56 [v54, .int .i64 q47.1.2.1, .int .i64 q47.1.2.2] :: Res.obj 83 v45 [v43, .int .i64 q31.1.2.1, .int .i64 q31.1.2.2] :: Res.sl (Ek.int .i64) 3 v7 q26.2 :: Res.sl (Ek.int .i64) 3 v43 q31.1.1 :: ow)) ?_ ?_
  ·
   rcases Bool.eq_false_or_eq_true (decide (q29 < q31.1.2.2)) with hb85 | hb85
   ·
    refine go ?_; intro a hf
    exact ⟨hf.sub ⟨(by rw [hb85]; rfl), trivial⟩, hp⟩
   refine st_fa (o' := 1) hf (by decide) (off := 1) (sz := 1) (by kernel_rfl) (by decide) (wantY hf rfl rfl hb85) rfl (hp.ob (i := 5) rfl) rfl fun a _ hf => ?_
   refine st_ldO (u := .int .i64 q31.1.2.1) hf (by decide) pl3 (wantY hf rfl rfl hb85) rfl (hp.ob (i := 5) rfl) rfl fun a _ hf => ?_
   refine st_fa (o' := 1) hf (by decide) (off := 1) (sz := 1) (by kernel_rfl) (by decide) (wantY hf rfl rfl hb85) rfl (hp.ob (i := 4) rfl) rfl fun a _ hf => ?_
   refine st_ldO (u := .int .i64 q47.1.2.1) hf (by decide) pl3 (wantY hf rfl rfl hb85) rfl (hp.ob (i := 4) rfl) rfl fun a _ hf => ?_
   refine go ?_; intro a hf
   exact ⟨hf.sub ⟨(by rw [hb85]; rfl), trivial⟩, hp⟩
  rintro a w ⟨hf, hp⟩
  refine go ?_; intro a hf
  obtain rfl := oj h
  have hp : Hp _ _ _ (ow) := (hp.pk [] 8 :)
  exact ⟨rfl, ⟨hf.sb, hp⟩⟩

noncomputable def f_foghorntop_TopLeast.j2 (marks2 : (List Int)) (i20 : Int) (m18 : (List Int)) : Option (((List Int) × Int) ⊕ (List Int)) := ((if (decide (i20 < (marks2.length : Int))) = true then (if 0 ≤ i20 ∧ i20 < (marks2.length : Int) then (some ((((gt marks2 i20)).tmod (5 : Int)) == (2 : Int))) else none) else (some false)).bind fun z28 => (if z28 = true then (if 0 ≤ i20 ∧ i20 < (m18.length : Int) then (some (Sum.inl ((m18.set (i20).toNat (2 : Int)), (IntKind.i64.wrap (i20 + (1 : Int)))))) else none) else (some (Sum.inl (m18, (IntKind.i64.wrap (i20 + (1 : Int))))))))
noncomputable def f_foghorntop_TopLeast.s1c (marks2 : (List Int)) (q9 : ((List Bool) × Int)) (m18 : (List Int)) (i20 : Int) : Option (((List Int) × Int) ⊕ (List Int)) := (if (decide (i20 < (m18.length : Int))) = true then (if 0 ≤ i20 ∧ i20 < (m18.length : Int) then (if 0 ≤ i20 ∧ i20 < (q9.1.length : Int) then ((if (decide (i20 < (marks2.length : Int))) = true then (if 0 ≤ i20 ∧ i20 < (marks2.length : Int) then (some ((((gt marks2 i20)).tmod (5 : Int)) == (1 : Int))) else none) else (some false)).bind fun z46 => (if ((gt q9.1 i20) != z46) = true then (if 0 ≤ i20 ∧ i20 < ((m18.set (i20).toNat (0 : Int)).length : Int) then (f_foghorntop_TopLeast.j2 marks2 i20 ((m18.set (i20).toNat (0 : Int)).set (i20).toNat (1 : Int))) else none) else (f_foghorntop_TopLeast.j2 marks2 i20 (m18.set (i20).toNat (0 : Int))))) else none) else none) else (some (Sum.inr m18)))
noncomputable def f_foghorntop_TopLeast.s1 (marks2 : (List Int)) (q9 : ((List Bool) × Int)) (s : ((List Int) × Int)) : Option (((List Int) × Int) ⊕ (List Int)) := f_foghorntop_TopLeast.s1c marks2 q9 s.1 s.2
noncomputable def f_foghorntop_TopLeast.s2c (marks2 : (List Int)) (parts3 : (List Int)) (q9 : ((List Bool) × Int)) (l19 : (List ((Fl × Fl) × Bool))) (i21 : Int) : Option (((List ((Fl × Fl) × Bool)) × Int) ⊕ (List ((Fl × Fl) × Bool))) := (if (decide (i21 < (l19.length : Int))) = true then ((if (decide (i21 < (marks2.length : Int))) = true then (if 0 ≤ i21 ∧ i21 < (marks2.length : Int) then (some ((((gt marks2 i21)).tmod (7 : Int)) == (3 : Int))) else none) else (some false)).bind fun z55 => (if 0 ≤ i21 ∧ i21 < (l19.length : Int) then (if 0 ≤ i21 ∧ i21 < ((l19.set (i21).toNat ((gt l19 i21).1, z55)).length : Int) then (if ((!((gt (l19.set (i21).toNat ((gt l19 i21).1, z55)) i21).2)) && (decide ((IntKind.i64.wrap ((IntKind.i64.wrap ((2 : Int) * i21)) + (1 : Int))) < (parts3.length : Int)))) = true then (if 0 ≤ (IntKind.i64.wrap ((2 : Int) * i21)) ∧ (IntKind.i64.wrap ((2 : Int) * i21)) < (q9.1.length : Int) then (if 0 ≤ (IntKind.i64.wrap ((IntKind.i64.wrap ((2 : Int) * i21)) + (1 : Int))) ∧ (IntKind.i64.wrap ((IntKind.i64.wrap ((2 : Int) * i21)) + (1 : Int))) < (q9.1.length : Int) then ((f_soft_Point (gt q9.1 (IntKind.i64.wrap ((2 : Int) * i21))) (gt q9.1 (IntKind.i64.wrap ((IntKind.i64.wrap ((2 : Int) * i21)) + (1 : Int))))).bind fun q74 => (if 0 ≤ (IntKind.i64.wrap ((2 : Int) * i21)) ∧ (IntKind.i64.wrap ((2 : Int) * i21)) < (parts3.length : Int) then ((f_foghorntop_mod (gt parts3 (IntKind.i64.wrap ((2 : Int) * i21))) (16385 : Int)).bind fun q81 => ((farithS .quo (fofi (IntKind.i64.wrap (q81 - (8192 : Int)))) (Fl.bits 4661225614328463360)).bind fun q83 => (if 0 ≤ (IntKind.i64.wrap ((IntKind.i64.wrap ((2 : Int) * i21)) + (1 : Int))) ∧ (IntKind.i64.wrap ((IntKind.i64.wrap ((2 : Int) * i21)) + (1 : Int))) < (parts3.length : Int) then ((f_foghorntop_mod (gt parts3 (IntKind.i64.wrap ((IntKind.i64.wrap ((2 : Int) * i21)) + (1 : Int)))) (16385 : Int)).bind fun q86 => ((farithS .quo (fofi (IntKind.i64.wrap (q86 - (8192 : Int)))) (Fl.bits 4661225614328463360)).bind fun q88 => (if 0 ≤ i21 ∧ i21 < ((l19.set (i21).toNat ((gt l19 i21).1, z55)).length : Int) then (some (Sum.inl (((l19.set (i21).toNat ((gt l19 i21).1, z55)).set (i21).toNat ((cadd q74 (q83, q88)), (gt (l19.set (i21).toNat ((gt l19 i21).1, z55)) i21).2)), (IntKind.i64.wrap (i21 + (1 : Int)))))) else none))) else none))) else none)) else none) else none) else (some (Sum.inl ((l19.set (i21).toNat ((gt l19 i21).1, z55)), (IntKind.i64.wrap (i21 + (1 : Int))))))) else none) else none)) else (some (Sum.inr l19)))
noncomputable def f_foghorntop_TopLeast.s2 (marks2 : (List Int)) (parts3 : (List Int)) (q9 : ((List Bool) × Int)) (s : ((List ((Fl × Fl) × Bool)) × Int)) : Option (((List ((Fl × Fl) × Bool)) × Int) ⊕ (List ((Fl × Fl) × Bool))) := f_foghorntop_TopLeast.s2c marks2 parts3 q9 s.1 s.2
noncomputable def f_foghorntop_TopLeast.j1 (message1 : (List Bool)) (marks2 : (List Int)) (parts3 : (List Int)) (weights4 : (List Int)) (bits5 : (List Int)) (power6 : Int) (cx15c_0 : Int) (cx15c_1 : Int) (cx15c_2 : Int) : Option Bool := ((f_foghorntop_awake).bind fun q4 => (if (!q4) = true then (some false) else (if 0 ≤ (imin (message1.length : Int) (60 : Int)) ∧ (imin (message1.length : Int) (60 : Int)) ≤ (message1.length : Int) then ((f_trellis_Code_Encode cx15c_0 cx15c_1 cx15c_2 ((message1.drop 0).take (((imin (message1.length : Int) (60 : Int))).toNat - 0))).bind fun q9 => (if (q9.2 != (0 : Int)) = true then (some false) else (if 0 ≤ (q9.1.length : Int) ∧ (q9.1.length : Int) ≤ (q9.1.length : Int) ∧ (q9.1.length : Int) * 1 ≤ 281474976710656 then (if 0 ≤ (IntKind.i64.wrap (((q9.1.length : Int)).tdiv (2 : Int))) ∧ (IntKind.i64.wrap (((q9.1.length : Int)).tdiv (2 : Int))) ≤ (IntKind.i64.wrap (((q9.1.length : Int)).tdiv (2 : Int))) ∧ (IntKind.i64.wrap (((q9.1.length : Int)).tdiv (2 : Int))) * 24 ≤ 281474976710656 then ((loop (f_foghorntop_TopLeast.s1 marks2 q9) ((List.replicate ((q9.1.length : Int)).toNat (0 : Int)), (0 : Int))).bind (fun q48 => ((loop (f_foghorntop_TopLeast.s2 marks2 parts3 q9) ((List.replicate ((IntKind.i64.wrap (((q9.1.length : Int)).tdiv (2 : Int)))).toNat ((Fl.bits 0, Fl.bits 0), false)), (0 : Int))).bind (fun q96 => ((f_hard_Path cx15c_0 cx15c_1 cx15c_2 q48).bind fun q97 => ((f_hard_Cost cx15c_0 cx15c_1 cx15c_2 ((message1.drop 0).take (((imin (message1.length : Int) (60 : Int))).toNat - 0)) q48).bind fun q106 => ((f_hard_Cost cx15c_0 cx15c_1 cx15c_2 q97.1 q48).bind fun q113 => (if ((((((q97.2.2 != (0 : Int)) || (q106.2 != (0 : Int))) || (q113.2 != (0 : Int))) || (decide (q106.1 < q97.2.1))) || (q97.2.1 != q113.1)) || ((q97.1.length : Int) != (((message1.drop 0).take (((imin (message1.length : Int) (60 : Int))).toNat - 0)).length : Int))) = true then (some false) else ((f_soft_Decode cx15c_0 cx15c_1 cx15c_2 q96).bind fun q135 => ((f_soft_Path cx15c_0 cx15c_1 cx15c_2 ((message1.drop 0).take (((imin (message1.length : Int) (60 : Int))).toNat - 0)) q96).bind fun q146 => ((f_soft_Path cx15c_0 cx15c_1 cx15c_2 q135.1 q96).bind fun q155 => (if ((((((q135.2.2 != (0 : Int)) || (q146.2 != (0 : Int))) || (q155.2 != (0 : Int))) || (fgt q135.2.1 q146.1)) || (fne q135.2.1 q155.1)) || ((q135.1.length : Int) != (((message1.drop 0).take (((imin (message1.length : Int) (60 : Int))).toNat - 0)).length : Int))) = true then (some false) else ((f_foghorntop_loaded weights4 bits5 power6).bind fun q179 => (some q179)))))))))))))) else none) else none))) else none)))
noncomputable def f_foghorntop_TopLeast (code0 : Bool) (message1 : (List Bool)) (marks2 : (List Int)) (parts3 : (List Int)) (weights4 : (List Int)) (bits5 : (List Int)) (power6 : Int) : Option Bool := (if code0 = true then (f_foghorntop_TopLeast.j1 message1 marks2 parts3 weights4 bits5 power6 (7 : Int) (121 : Int) (91 : Int)) else (f_foghorntop_TopLeast.j1 message1 marks2 parts3 weights4 bits5 power6 (3 : Int) (7 : Int) (5 : Int)))
theorem f_foghorntop_TopLeast_c {S : Nat → Prop} {w0 w : World} {ow : List Res} (hp : Hp S w0 w ow) (code0 : Bool) (vmessage1 : Value) (message1 : (List Bool)) (hmessage1 : RdS Ek.bool S w0 vmessage1 message1) (vmarks2 : Value) (marks2 : (List Int)) (hmarks2 : RdS (Ek.int .u8) S w0 vmarks2 marks2) (vparts3 : Value) (parts3 : (List Int)) (hparts3 : RdS (Ek.int .i64) S w0 vparts3 parts3) (vweights4 : Value) (weights4 : (List Int)) (hweights4 : RdS (Ek.int .i64) S w0 vweights4 weights4) (vbits5 : Value) (bits5 : (List Int)) (hbits5 : RdS (Ek.int .i64) S w0 vbits5 bits5) (power6 : Int) {r : Bool} (h : f_foghorntop_TopLeast code0 message1 marks2 parts3 weights4 bits5 power6 = some r) :
   Calls Tryz.prog 3 #[.bool code0, vmessage1, vmarks2, vparts3, vweights4, vbits5, .int .i64 power6] w (fun e w' => e = .returned (.bool r) ∧ Hp S w0 w' (ow)) := by
  unfold f_foghorntop_TopLeast at h
  refine enx (n := 274) Tryz.func3 fun a hf => ?_
  refine wp_mono (Q := fun e a w => e = .ret ∧ Fr 274 a [(14, .bool r)] ∧ Hp S w0 w (ow)) ?_ ?_
  rotate_left
  ·
   rintro e a w ⟨rfl, hf, hp⟩
   exact ret1 hf rfl rfl ⟨rfl, hp⟩
  refine go ?_; intro a hf
  refine st_buildA (vals := [(0, .int .i64 (3 : Int)), (1, .int .u32 (7 : Int)), (2, .int .u32 (5 : Int))]) (cells := [.int .i64 (3 : Int), .int .u32 (7 : Int), .int .u32 (5 : Int)]) hf (by decide) rfl (by simp [hf.ev (x := (Operand.const (.int .i64 (3 : Int)))) rfl, hf.ev (x := (Operand.const (.int .u32 (7 : Int)))) rfl, hf.ev (x := (Operand.const (.int .u32 (5 : Int)))) rfl]) (fun w => by kernel_rfl) fun a _ hf => ?_
  refine st_alloc (cs := [.int .i64 (0 : Int), .int .u32 (0 : Int), .int .u32 (0 : Int)]) (zv := .agg #[.int .i64 (0 : Int), .int .u32 (0 : Int), .int .u32 (0 : Int)]) hf (by decide) (by kernel_rfl) rfl hp rfl ?_
  clear hf; intro a w v1 hf hp0; clear hp; have hp := hp0; clear hp0
  replace hp : Hp _ _ _ (Res.obj 27 v1 [.int .i64 (0 : Int), .int .u32 (0 : Int), .int .u32 (0 : Int)] :: ow) := hp
  refine st_stO (us := [.int .i64 (3 : Int), .int .u32 (7 : Int), .int .u32 (5 : Int)]) hf hp (i := 0) rfl rfl rfl rfl rfl (by rfl) (by kernel_rfl) (Nat.le_of_ble_eq_true rfl) ?_
  clear hf; intro a w hf hp0; clear hp; have hp := hp0; clear hp0
  replace hp : Hp _ _ _ (Res.obj 27 v1 [.int .i64 (3 : Int), .int .u32 (7 : Int), .int .u32 (5 : Int)] :: ow) := hp
  refine st_nil hf ?_
  refine th_n ?_
  refine wp_seq_cut (fun a w => ∃ (cx15c_0 : Int) (cx15c_1 : Int) (cx15c_2 : Int), f_foghorntop_TopLeast.j1 message1 marks2 parts3 weights4 bits5 power6 cx15c_0 cx15c_1 cx15c_2 = some r ∧ Fr 274 a [(1, vmessage1), (2, vmarks2), (3, vparts3), (4, vweights4), (5, vbits5), (6, .int .i64 power6), (15, optr v1 0)] ∧ Hp S w0 w (Res.obj 27 v1 [.int .i64 cx15c_0, .int .u32 cx15c_1, .int .u32 cx15c_2] :: ow)) ?_ ?_
  ·
   refine go ?_; intro a hf
   refine wp_if hf rfl (fun hb => ?_) (fun hb => ?_)
   ·
    replace h := ifT h hb
    refine wp_reg ?_
    refine st_buildA (vals := [(0, .int .i64 (7 : Int)), (1, .int .u32 (121 : Int)), (2, .int .u32 (91 : Int))]) (cells := [.int .i64 (7 : Int), .int .u32 (121 : Int), .int .u32 (91 : Int)]) hf (by decide) rfl (by simp [hf.ev (x := (Operand.const (.int .i64 (7 : Int)))) rfl, hf.ev (x := (Operand.const (.int .u32 (121 : Int)))) rfl, hf.ev (x := (Operand.const (.int .u32 (91 : Int)))) rfl]) (fun w => by kernel_rfl) fun a _ hf => ?_
    refine st_stO (us := [.int .i64 (7 : Int), .int .u32 (121 : Int), .int .u32 (91 : Int)]) hf hp (i := 0) rfl rfl rfl rfl rfl (by rfl) (by kernel_rfl) (Nat.le_of_ble_eq_true rfl) ?_
    clear hf; intro a w hf hp0; clear hp; have hp := hp0; clear hp0
    replace hp : Hp _ _ _ (Res.obj 27 v1 [.int .i64 (7 : Int), .int .u32 (121 : Int), .int .u32 (91 : Int)] :: ow) := hp
    refine goT ?_
    exact ⟨_, _, _, h, hf.sb, hp⟩
   replace h := ifF h hb
   refine wp_skip ?_
   refine th_n ?_
   exact ⟨_, _, _, h, hf.sb, hp⟩
  rintro a w ⟨cx15c_0, cx15c_1, cx15c_2, h, hf, hp⟩
  unfold f_foghorntop_TopLeast.j1 at h
  refine goT ?_
  obtain ⟨q4, hcall5, h⟩ := bnd h
  refine st_call hf (by decide) Tryz.func4 rfl rfl rfl rfl rfl (f_foghorntop_awake_c hp  hcall5) ?_
  rintro _ w ⟨rfl, hp⟩
  replace hp : Hp _ _ _ (Res.obj 27 v1 [.int .i64 cx15c_0, .int .u32 cx15c_1, .int .u32 cx15c_2] :: ow) := hp
  refine ⟨_, rfl, fun a hf => ?_⟩
  refine go ?_; intro a hf
  refine wp_if hf rfl (fun hb => ?_) (fun hb => ?_)
  ·
   replace h := ifT h hb
   refine go ?_; intro a hf
   obtain rfl := oj h
   have hp : Hp _ _ _ (ow) := (hp.pk [] 1 :)
   exact ⟨rfl, ⟨hf.sb, hp⟩⟩
  replace h := ifF h hb
  refine wp_skip ?_
  refine go ?_; intro a hf
  refine st_len (E := Ek.bool) hf (by decide) Tryz.underlying22 rfl rfl (hmessage1.sl hp) fun a _ hf => ?_
  refine st_imin hf (by decide) rfl rfl rfl fun a _ hf => ?_
  obtain ⟨hc6, h⟩ := chk h
  have hc7 : 0 ≤ ((imin (message1.length : Int) (60 : Int))).toNat := by omega
  have hc8 : ((imin (message1.length : Int) (60 : Int))).toNat ≤ message1.length := by omega
  refine st_cutS (E := Ek.bool) hf (by decide) Tryz.underlying22 elt4 rfl rfl (hmessage1.sl hp) (.inl ⟨rfl, rfl⟩) (.inr ⟨_, _, rfl, evI rfl (by omega)⟩) hc7 hc8 fun a _ hf => ?_
  refine go ?_; intro a hf
  refine st_ldOA (m := 3) (us := [.int .i64 cx15c_0, .int .u32 cx15c_1, .int .u32 cx15c_2]) hf (by decide) (by kernel_rfl) rfl rfl (hp.ob (i := 0) rfl) rfl rfl fun a _ hf => ?_
  refine go ?_; intro a hf
  obtain ⟨q9, hcall10, h⟩ := bnd h
  refine st_call hf (by decide) Tryz.func5 rfl rfl rfl rfl rfl (f_trellis_Code_Encode_c hp _ _ _ _ _ (RdS.cut hmessage1 hc7 hc8) hcall10) ?_
  rintro _ w ⟨v11, rfl, hp⟩
  replace hp : Hp _ _ _ (Res.sl Ek.bool 4 v11 q9.1 :: _ :: ow) := hp
  refine ⟨_, rfl, fun a hf => ?_⟩
  refine go ?_; intro a hf
  refine wp_if hf rfl (fun hb => ?_) (fun hb => ?_)
  ·
   replace h := ifT h hb
   refine go ?_; intro a hf
   obtain rfl := oj h
   have hp : Hp _ _ _ (ow) := (hp.pk [] 2 :)
   exact ⟨rfl, ⟨hf.sb, hp⟩⟩
  replace h := ifF h hb
  refine wp_skip ?_
  refine go ?_; intro a hf
  refine st_len (E := Ek.bool) hf (by decide) Tryz.underlying22 rfl rfl (hp.sl (i := 0) rfl) fun a _ hf => ?_
  obtain ⟨hc13, h⟩ := chk h
  refine st_make (E := (Ek.int .u8)) hf (by decide) elt34 Tryz.underlying32 (by decide) hp rfl rfl rfl hc13.1 hc13.2.1 hc13.2.2 ?_
  clear hf; intro a w v14 hf hp0; clear hp; have hp := hp0; clear hp0
  replace hp : Hp _ _ _ (Res.sl (Ek.int .u8) 34 v14 (List.replicate ((q9.1.length : Int)).toNat (0 : Int)) :: _ :: _ :: ow) := hp
  refine go ?_; intro a hf
  refine st_len (E := Ek.bool) hf (by decide) Tryz.underlying22 rfl rfl (hp.sl (i := 1) rfl) fun a _ hf => ?_
  refine st_iquo hf (by decide) rfl rfl rfl (by decide) fun a _ hf => ?_
  obtain ⟨hc16, h⟩ := chk h
  refine st_make (E := (Ek.pair Ek.c128 Ek.bool)) hf (by decide) elt37 Tryz.underlying33 (by decide) hp rfl rfl rfl hc16.1 hc16.2.1 hc16.2.2 ?_
  clear hf; intro a w v17 hf hp0; clear hp; have hp := hp0; clear hp0
  replace hp : Hp _ _ _ (Res.sl (Ek.pair Ek.c128 Ek.bool) 37 v17 (List.replicate ((IntKind.i64.wrap (((q9.1.length : Int)).tdiv (2 : Int)))).toNat ((Fl.bits 0, Fl.bits 0), false)) :: _ :: _ :: _ :: ow) := hp
  refine go ?_; intro a hf
  obtain ⟨q48, hl, h⟩ := bnd h
  have hp : Hp _ _ _ (_ :: _ :: _ :: _ :: ow) := (hp.pk [1, 3, 2, 0] 4 :)
  refine wp_loop_pure (f := (f_foghorntop_TopLeast.s1 marks2 q9)) (s := ((List.replicate ((q9.1.length : Int)).toNat (0 : Int)), (0 : Int))) (fun s a w => ∃ (v19 : Value), Fr 274 a [(1, (GL.cut vmessage1 0 (((imin (message1.length : Int) (60 : Int))).toNat) 1)), (2, vmarks2), (3, vparts3), (4, vweights4), (5, vbits5), (6, .int .i64 power6), (15, optr v1 0), (16, v11), (18, v19), (19, v17), (20, .int .i64 s.2)] ∧ Hp S w0 w (Res.sl (Ek.int .u8) 34 v19 s.1 :: Res.obj 27 v1 [.int .i64 cx15c_0, .int .u32 cx15c_1, .int .u32 cx15c_2] :: Res.sl Ek.bool 4 v11 q9.1 :: Res.sl (Ek.pair Ek.c128 Ek.bool) 37 v17 (List.replicate ((IntKind.i64.wrap (((q9.1.length : Int)).tdiv (2 : Int)))).toNat ((Fl.bits 0, Fl.bits 0), false)) :: ow)) (fun q e a w => e = .exit 0 ∧ ∃ (v21 : Value), Fr 274 a [(1, (GL.cut vmessage1 0 (((imin (message1.length : Int) (60 : Int))).toNat) 1)), (2, vmarks2), (3, vparts3), (4, vweights4), (5, vbits5), (6, .int .i64 power6), (15, optr v1 0), (16, v11), (18, v21), (19, v17)] ∧ Hp S w0 w (Res.sl (Ek.int .u8) 34 v21 q :: Res.obj 27 v1 [.int .i64 cx15c_0, .int .u32 cx15c_1, .int .u32 cx15c_2] :: Res.sl Ek.bool 4 v11 q9.1 :: Res.sl (Ek.pair Ek.c128 Ek.bool) 37 v17 (List.replicate ((IntKind.i64.wrap (((q9.1.length : Int)).tdiv (2 : Int)))).toNat ((Fl.bits 0, Fl.bits 0), false)) :: ow)) ?_ hl ⟨_, hf.sb, hp⟩ ?_
  ·
   clear hl hf hp
   intro s x a w h hI
   obtain ⟨m18, i20⟩ := s
   obtain ⟨v19, hf, hp⟩ : ∃ (v19 : Value), Fr 274 a [(1, (GL.cut vmessage1 0 (((imin (message1.length : Int) (60 : Int))).toNat) 1)), (2, vmarks2), (3, vparts3), (4, vweights4), (5, vbits5), (6, .int .i64 power6), (15, optr v1 0), (16, v11), (18, v19), (19, v17), (20, .int .i64 i20)] ∧ Hp S w0 w (Res.sl (Ek.int .u8) 34 v19 m18 :: Res.obj 27 v1 [.int .i64 cx15c_0, .int .u32 cx15c_1, .int .u32 cx15c_2] :: Res.sl Ek.bool 4 v11 q9.1 :: Res.sl (Ek.pair Ek.c128 Ek.bool) 37 v17 (List.replicate ((IntKind.i64.wrap (((q9.1.length : Int)).tdiv (2 : Int)))).toNat ((Fl.bits 0, Fl.bits 0), false)) :: ow) := hI
   replace h : f_foghorntop_TopLeast.s1c marks2 q9 m18 i20 = some x := h
   unfold f_foghorntop_TopLeast.s1c at h
   refine go ?_; intro a hf
   refine st_len (E := (Ek.int .u8)) hf (by decide) Tryz.underlying32 rfl rfl (hp.sl (i := 0) rfl) fun a _ hf => ?_
   refine go ?_; intro a hf
   refine wp_if hf rfl (fun hb => ?_) (fun hb => ?_)
   ·
    replace h := ifT h hb
    refine wp_skip ?_
    refine go ?_; intro a hf
    obtain ⟨hc23, h⟩ := chk h
    refine st_index (E := (Ek.int .u8)) hf (by decide) Tryz.underlying32 elt34 rfl rfl rfl (hp.sl (i := 0) rfl) hc23.1 hc23.2 fun a _ hf => ?_
    refine st_store (E := (Ek.int .u8)) hf elt34 hp (i := 0) rfl rfl rfl rfl rfl hc23.1 hc23.2 ?_
    clear hf; intro a w hf hp0; clear hp; have hp := hp0; clear hp0
    replace hp : Hp _ _ _ (Res.sl (Ek.int .u8) 34 v19 (m18.set (i20).toNat (0 : Int)) :: _ :: _ :: _ :: ow) := hp
    refine st_nil hf ?_
    refine th_n ?_
    refine wp_seq_cut (fun a w => ∃ (m18 : (List Int)) (v24 : Value), f_foghorntop_TopLeast.j2 marks2 i20 m18 = some x ∧ Fr 274 a [(1, (GL.cut vmessage1 0 (((imin (message1.length : Int) (60 : Int))).toNat) 1)), (2, vmarks2), (3, vparts3), (4, vweights4), (5, vbits5), (6, .int .i64 power6), (15, optr v1 0), (16, v11), (18, v24), (19, v17), (20, .int .i64 i20)] ∧ Hp S w0 w (Res.sl (Ek.int .u8) 34 v24 m18 :: Res.obj 27 v1 [.int .i64 cx15c_0, .int .u32 cx15c_1, .int .u32 cx15c_2] :: Res.sl Ek.bool 4 v11 q9.1 :: Res.sl (Ek.pair Ek.c128 Ek.bool) 37 v17 (List.replicate ((IntKind.i64.wrap (((q9.1.length : Int)).tdiv (2 : Int)))).toNat ((Fl.bits 0, Fl.bits 0), false)) :: ow)) ?_ ?_
    ·
     refine wp_seq ?_
     obtain ⟨S31, hp32, rd33, up34, bk35⟩ := Hp.lendS hp (i := 2) rfl
     have rl36 := (((RdS.cut hmessage1 hc7 hc8).now hp).mono up34)
     have rl37 := ((hmarks2.now hp).mono up34)
     have rl38 := ((hparts3.now hp).mono up34)
     have rl39 := ((hweights4.now hp).mono up34)
     have rl40 := ((hbits5.now hp).mono up34)
     have rl41 := rd33
     obtain ⟨hc42, h⟩ := chk h
     obtain ⟨z46, hz43, h⟩ := bnd h
     refine wp_cutN (fun a w => Fr 274 a [(1, (GL.cut vmessage1 0 (((imin (message1.length : Int) (60 : Int))).toNat) 1)), (2, vmarks2), (3, vparts3), (4, vweights4), (5, vbits5), (6, .int .i64 power6), (15, optr v1 0), (16, v11), (18, v19), (19, v17), (20, .int .i64 i20), (82, .bool ((gt q9.1 i20) != z46))] ∧ Hp S w0 w (Res.sl Ek.bool 4 v11 q9.1 :: Res.sl (Ek.int .u8) 34 v19 (m18.set (i20).toNat (0 : Int)) :: Res.obj 27 v1 [.int .i64 cx15c_0, .int .u32 cx15c_1, .int .u32 cx15c_2] :: Res.sl (Ek.pair Ek.c128 Ek.bool) 37 v17 (List.replicate ((IntKind.i64.wrap (((q9.1.length : Int)).tdiv (2 : Int)))).toNat ((Fl.bits 0, Fl.bits 0), false)) :: ow)) ?_ ?_
     ·
      have hp := hp32.same (Same.drew w)
      rcases Bool.eq_false_or_eq_true (decide (i20 < (marks2.length : Int))) with hb44 | hb44
      ·
       replace hz43 := ifT hz43 hb44
       obtain ⟨hc45, hz43⟩ := chk hz43
       replace hz43 := Option.some.inj hz43
       refine dr_begin' _ (fun w' => ∃ l, Hp S31 w w' l) [] (by kernel_rfl) ?_
       refine dv 0 hf ⟨_, hp⟩ fun a hf => ?_
       refine dv 1 hf ⟨_, hp⟩ fun a hf => ?_
       refine dr_takeK 2 _ rfl hf rfl (fun w ⟨_, hp⟩ => st_index (E := Ek.bool) hf (by decide) Tryz.underlying22 elt4 rfl rfl rfl (rl41.sl hp) hc42.1 hc42.2 tk) ⟨_, hp⟩ fun a hf => ?_
       refine dr_takeK 3 _ rfl hf rfl (fun w ⟨_, hp⟩ => st_ldB hf (by decide) pl4 rfl rfl (rl41.sl hp) hc42.1 hc42.2 tk) ⟨_, hp⟩ fun a hf => ?_
       refine dv 4 hf ⟨_, hp⟩ fun a hf => ?_
       refine dv 5 hf ⟨_, hp⟩ fun a hf => ?_
       refine dr_takeK 6 _ rfl hf rfl (fun w ⟨_, hp⟩ => st_len (E := (Ek.int .u8)) hf (by decide) Tryz.underlying23 rfl rfl (rl37.sl hp) tk) ⟨_, hp⟩ fun a hf => ?_
       refine dv 7 hf ⟨_, hp⟩ fun a hf => ?_
       refine dv 8 hf ⟨_, hp⟩ fun a hf => ?_
       refine dvY 9 hf hb44 ⟨_, hp⟩ fun a hf => ?_
       refine dvY 10 hf hb44 ⟨_, hp⟩ fun a hf => ?_
       refine dr_takeK 11 _ rfl hf (wantY hf rfl rfl hb44) (fun w ⟨_, hp⟩ => st_index (E := (Ek.int .u8)) hf (by decide) Tryz.underlying23 elt5 (wantY hf rfl rfl hb44) rfl rfl (rl37.sl hp) hc45.1 hc45.2 tk) ⟨_, hp⟩ fun a hf => ?_
       refine dr_takeK 12 _ rfl hf (wantY hf rfl rfl hb44) (fun w ⟨_, hp⟩ => st_ldI hf (by decide) pl5 (wantY hf rfl rfl hb44) rfl (rl37.sl hp) hc45.1 hc45.2 tk) ⟨_, hp⟩ fun a hf => ?_
       refine dr_takeK 13 _ rfl hf (wantY hf rfl rfl hb44) (fun w ⟨_, hp⟩ => st_irem hf (by decide) (wantY hf rfl rfl hb44) rfl rfl (by decide) tk) ⟨_, hp⟩ fun a hf => ?_
       refine dvY 14 hf hb44 ⟨_, hp⟩ fun a hf => ?_
       refine dr_takeK 15 _ rfl hf rfl (fun w ⟨_, hp⟩ => st_pick (v := .bool z46) hf rfl rfl (fun _ => by rw [← hz43]; rfl) (fun hb' => absurd (hb44.symm.trans hb') (by decide)) (by decide) tk) ⟨_, hp⟩ fun a hf => ?_
       refine dr_takeK 16 _ rfl hf rfl (fun w ⟨_, hp⟩ => st_bneq hf (by decide) Tryz.underlying4 rfl rfl rfl tk) ⟨_, hp⟩ fun a hf => ?_
       refine dr_end (by kernel_rfl) ?_ _
       have hp := bk35 _ _ hp
       exact ⟨hf.sb, hp⟩
      skip
      replace hz43 := ifF hz43 hb44
      replace hz43 := Option.some.inj hz43
      refine dr_begin' _ (fun w' => ∃ l, Hp S31 w w' l) [] (by kernel_rfl) ?_
      refine dv 0 hf ⟨_, hp⟩ fun a hf => ?_
      refine dv 1 hf ⟨_, hp⟩ fun a hf => ?_
      refine dr_takeK 2 _ rfl hf rfl (fun w ⟨_, hp⟩ => st_index (E := Ek.bool) hf (by decide) Tryz.underlying22 elt4 rfl rfl rfl (rl41.sl hp) hc42.1 hc42.2 tk) ⟨_, hp⟩ fun a hf => ?_
      refine dr_takeK 3 _ rfl hf rfl (fun w ⟨_, hp⟩ => st_ldB hf (by decide) pl4 rfl rfl (rl41.sl hp) hc42.1 hc42.2 tk) ⟨_, hp⟩ fun a hf => ?_
      refine dv 4 hf ⟨_, hp⟩ fun a hf => ?_
      refine dv 5 hf ⟨_, hp⟩ fun a hf => ?_
      refine dr_takeK 6 _ rfl hf rfl (fun w ⟨_, hp⟩ => st_len (E := (Ek.int .u8)) hf (by decide) Tryz.underlying23 rfl rfl (rl37.sl hp) tk) ⟨_, hp⟩ fun a hf => ?_
      refine dv 7 hf ⟨_, hp⟩ fun a hf => ?_
      refine dv 8 hf ⟨_, hp⟩ fun a hf => ?_
      refine dr_outK 9 rfl hf rfl (wantN hf rfl rfl hb44) ⟨_, hp⟩ fun a hf => ?_
      refine dr_outK 10 rfl hf rfl (wantN hf rfl rfl hb44) ⟨_, hp⟩ fun a hf => ?_
      refine dr_outK 11 rfl hf rfl (wantN hf rfl rfl hb44) ⟨_, hp⟩ fun a hf => ?_
      refine dr_outK 12 rfl hf rfl (wantN hf rfl rfl hb44) ⟨_, hp⟩ fun a hf => ?_
      refine dr_outK 13 rfl hf rfl (wantN hf rfl rfl hb44) ⟨_, hp⟩ fun a hf => ?_
      refine dr_outK 14 rfl hf rfl (wantN hf rfl rfl hb44) ⟨_, hp⟩ fun a hf => ?_
      refine dr_takeK 15 _ rfl hf rfl (fun w ⟨_, hp⟩ => st_pick (v := .bool z46) hf rfl rfl (fun hb' => absurd (hb44.symm.trans hb') (by decide)) (fun _ => by rw [← hz43]; rfl) (by decide) tk) ⟨_, hp⟩ fun a hf => ?_
      refine dr_takeK 16 _ rfl hf rfl (fun w ⟨_, hp⟩ => st_bneq hf (by decide) Tryz.underlying4 rfl rfl rfl tk) ⟨_, hp⟩ fun a hf => ?_
      refine dr_end (by kernel_rfl) ?_ _
      have hp := bk35 _ _ hp
      exact ⟨hf.sb, hp⟩
     rintro a w ⟨hf, hp⟩
     refine th_n ?_
     refine wp_if hf rfl (fun hb => ?_) (fun hb => ?_)
     ·
      replace h := ifT h hb
      refine go ?_; intro a hf
      obtain ⟨hc47, h⟩ := chk h
      refine st_index (E := (Ek.int .u8)) hf (by decide) Tryz.underlying32 elt34 rfl rfl rfl (hp.sl (i := 1) rfl) hc47.1 hc47.2 fun a _ hf => ?_
      refine st_store (E := (Ek.int .u8)) hf elt34 hp (i := 1) rfl rfl rfl rfl rfl hc47.1 hc47.2 ?_
      clear hf; intro a w hf hp0; clear hp; have hp := hp0; clear hp0
      replace hp : Hp _ _ _ (_ :: Res.sl (Ek.int .u8) 34 v19 ((m18.set (i20).toNat (0 : Int)).set (i20).toNat (1 : Int)) :: _ :: _ :: ow) := hp
      have hp : Hp _ _ _ (_ :: _ :: _ :: _ :: ow) := (hp.pk [1, 2, 0, 3] 4 :)
      refine goT ?_
      exact ⟨_, _, h, hf.sb, hp⟩
     replace h := ifF h hb
     refine wp_skip ?_
     have hp : Hp _ _ _ (Res.sl (Ek.int .u8) 34 v19 (m18.set (i20).toNat (0 : Int)) :: _ :: _ :: _ :: ow) := (hp.pk [1, 2, 0, 3] 4 :)
     refine th_n ?_
     exact ⟨_, _, h, hf.sb, hp⟩
    rintro a w ⟨m18, v24, h, hf, hp⟩
    unfold f_foghorntop_TopLeast.j2 at h
    refine go ?_; intro a hf
    refine st_len (E := (Ek.int .u8)) hf (by decide) Tryz.underlying23 rfl rfl (hmarks2.sl hp) fun a _ hf => ?_
    refine go ?_; intro a hf
    obtain ⟨z28, hz26, h⟩ := bnd h
    refine wpList_cut 7 (fun a w => Fr 274 a [(1, (GL.cut vmessage1 0 (((imin (message1.length : Int) (60 : Int))).toNat) 1)), (2, vmarks2), (3, vparts3), (4, vweights4), (5, vbits5), (6, .int .i64 power6), (15, optr v1 0), (16, v11), (18, v24), (19, v17), (20, .int .i64 i20), (97, .bool z28)] ∧ Hp S w0 w (Res.sl (Ek.int .u8) 34 v24 m18 :: Res.obj 27 v1 [.int .i64 cx15c_0, .int .u32 cx15c_1, .int .u32 cx15c_2] :: Res.sl Ek.bool 4 v11 q9.1 :: Res.sl (Ek.pair Ek.c128 Ek.bool) 37 v17 (List.replicate ((IntKind.i64.wrap (((q9.1.length : Int)).tdiv (2 : Int)))).toNat ((Fl.bits 0, Fl.bits 0), false)) :: ow)) ?_ ?_
    ·
     rcases Bool.eq_false_or_eq_true (decide (i20 < (marks2.length : Int))) with hb27 | hb27
     ·
      replace hz26 := ifT hz26 hb27
      refine go ?_; intro a hf
      obtain ⟨hc29, hz26⟩ := chk hz26
      refine st_index (E := (Ek.int .u8)) hf (by decide) Tryz.underlying23 elt5 (wantY hf rfl rfl hb27) rfl rfl (hmarks2.sl hp) hc29.1 hc29.2 fun a _ hf => ?_
      refine st_ldI hf (by decide) pl5 (wantY hf rfl rfl hb27) rfl (hmarks2.sl hp) hc29.1 hc29.2 fun a _ hf => ?_
      refine st_irem hf (by decide) (wantY hf rfl rfl hb27) rfl rfl (by decide) fun a _ hf => ?_
      obtain rfl := oj hz26
      refine go ?_; intro a hf
      exact ⟨hf.sb, hp⟩
     replace hz26 := ifF hz26 hb27
     obtain rfl := oj hz26
     refine go ?_; intro a hf
     exact ⟨hf.sb, hp⟩
    rintro a w ⟨hf, hp⟩
    refine goT ?_
    refine wp_if hf rfl (fun hb => ?_) (fun hb => ?_)
    ·
     replace h := ifT h hb
     refine go ?_; intro a hf
     obtain ⟨hc30, h⟩ := chk h
     refine st_index (E := (Ek.int .u8)) hf (by decide) Tryz.underlying32 elt34 rfl rfl rfl (hp.sl (i := 0) rfl) hc30.1 hc30.2 fun a _ hf => ?_
     refine st_store (E := (Ek.int .u8)) hf elt34 hp (i := 0) rfl rfl rfl rfl rfl hc30.1 hc30.2 ?_
     clear hf; intro a w hf hp0; clear hp; have hp := hp0; clear hp0
     replace hp : Hp _ _ _ (Res.sl (Ek.int .u8) 34 v24 (m18.set (i20).toNat (2 : Int)) :: _ :: _ :: _ :: ow) := hp
     refine go ?_; intro a hf
     obtain rfl := oj h
     exact rnd_l ⟨_, hf.sb, hp⟩
    replace h := ifF h hb
    refine wp_skip ?_
    refine go ?_; intro a hf
    obtain rfl := oj h
    exact rnd_l ⟨_, hf.sb, hp⟩
   replace h := ifF h hb
   refine wp_exit ?_
   refine th_e ?_
   obtain rfl := oj h
   exact rnd_r (by simp) ⟨rfl, _, hf.sb, hp⟩
  clear hl hf hp
  intro e a w hne hO
  obtain ⟨rfl, v21, hf, hp⟩ := hO
  refine ib_same ?_
  refine go ?_; intro a hf
  obtain ⟨q96, hl, h⟩ := bnd h
  have hp : Hp _ _ _ (_ :: _ :: _ :: Res.sl (Ek.int .u8) 34 v21 q48 :: ow) := (hp.pk [3, 1, 2, 0] 4 :)
  refine wp_loop_pure (f := (f_foghorntop_TopLeast.s2 marks2 parts3 q9)) (s := ((List.replicate ((IntKind.i64.wrap (((q9.1.length : Int)).tdiv (2 : Int)))).toNat ((Fl.bits 0, Fl.bits 0), false)), (0 : Int))) (fun s a w => ∃ (v49 : Value), Fr 274 a [(1, (GL.cut vmessage1 0 (((imin (message1.length : Int) (60 : Int))).toNat) 1)), (2, vmarks2), (3, vparts3), (4, vweights4), (5, vbits5), (6, .int .i64 power6), (15, optr v1 0), (16, v11), (18, v21), (19, v49), (21, .int .i64 s.2)] ∧ Hp S w0 w (Res.sl (Ek.pair Ek.c128 Ek.bool) 37 v49 s.1 :: Res.obj 27 v1 [.int .i64 cx15c_0, .int .u32 cx15c_1, .int .u32 cx15c_2] :: Res.sl Ek.bool 4 v11 q9.1 :: Res.sl (Ek.int .u8) 34 v21 q48 :: ow)) (fun q e a w => e = .exit 2 ∧ ∃ (v51 : Value), Fr 274 a [(1, (GL.cut vmessage1 0 (((imin (message1.length : Int) (60 : Int))).toNat) 1)), (4, vweights4), (5, vbits5), (6, .int .i64 power6), (15, optr v1 0), (18, v21), (19, v51)] ∧ Hp S w0 w (Res.sl (Ek.pair Ek.c128 Ek.bool) 37 v51 q :: Res.obj 27 v1 [.int .i64 cx15c_0, .int .u32 cx15c_1, .int .u32 cx15c_2] :: Res.sl (Ek.int .u8) 34 v21 q48 :: ow)) ?_ hl ⟨_, hf.sb, hp⟩ ?_
  ·
   clear hl hf hp
   intro s x a w h hI
   obtain ⟨l19, i21⟩ := s
   obtain ⟨v49, hf, hp⟩ : ∃ (v49 : Value), Fr 274 a [(1, (GL.cut vmessage1 0 (((imin (message1.length : Int) (60 : Int))).toNat) 1)), (2, vmarks2), (3, vparts3), (4, vweights4), (5, vbits5), (6, .int .i64 power6), (15, optr v1 0), (16, v11), (18, v21), (19, v49), (21, .int .i64 i21)] ∧ Hp S w0 w (Res.sl (Ek.pair Ek.c128 Ek.bool) 37 v49 l19 :: Res.obj 27 v1 [.int .i64 cx15c_0, .int .u32 cx15c_1, .int .u32 cx15c_2] :: Res.sl Ek.bool 4 v11 q9.1 :: Res.sl (Ek.int .u8) 34 v21 q48 :: ow) := hI
   replace h : f_foghorntop_TopLeast.s2c marks2 parts3 q9 l19 i21 = some x := h
   unfold f_foghorntop_TopLeast.s2c at h
   refine go ?_; intro a hf
   refine st_len (E := (Ek.pair Ek.c128 Ek.bool)) hf (by decide) Tryz.underlying33 rfl rfl (hp.sl (i := 0) rfl) fun a _ hf => ?_
   refine go ?_; intro a hf
   refine wp_if hf rfl (fun hb => ?_) (fun hb => ?_)
   ·
    replace h := ifT h hb
    refine wp_skip ?_
    refine go ?_; intro a hf
    refine st_len (E := (Ek.int .u8)) hf (by decide) Tryz.underlying23 rfl rfl (hmarks2.sl hp) fun a _ hf => ?_
    refine go ?_; intro a hf
    obtain ⟨z55, hz53, h⟩ := bnd h
    refine wpList_cut 7 (fun a w => Fr 274 a [(1, (GL.cut vmessage1 0 (((imin (message1.length : Int) (60 : Int))).toNat) 1)), (2, vmarks2), (3, vparts3), (4, vweights4), (5, vbits5), (6, .int .i64 power6), (15, optr v1 0), (16, v11), (18, v21), (19, v49), (21, .int .i64 i21), (107, v49), (108, .int .i64 i21), (120, .bool z55)] ∧ Hp S w0 w (Res.sl (Ek.pair Ek.c128 Ek.bool) 37 v49 l19 :: Res.obj 27 v1 [.int .i64 cx15c_0, .int .u32 cx15c_1, .int .u32 cx15c_2] :: Res.sl Ek.bool 4 v11 q9.1 :: Res.sl (Ek.int .u8) 34 v21 q48 :: ow)) ?_ ?_
    ·
     rcases Bool.eq_false_or_eq_true (decide (i21 < (marks2.length : Int))) with hb54 | hb54
     ·
      replace hz53 := ifT hz53 hb54
      refine go ?_; intro a hf
      obtain ⟨hc56, hz53⟩ := chk hz53
      refine st_index (E := (Ek.int .u8)) hf (by decide) Tryz.underlying23 elt5 (wantY hf rfl rfl hb54) rfl rfl (hmarks2.sl hp) hc56.1 hc56.2 fun a _ hf => ?_
      refine st_ldI hf (by decide) pl5 (wantY hf rfl rfl hb54) rfl (hmarks2.sl hp) hc56.1 hc56.2 fun a _ hf => ?_
      refine st_irem hf (by decide) (wantY hf rfl rfl hb54) rfl rfl (by decide) fun a _ hf => ?_
      obtain rfl := oj hz53
      refine go ?_; intro a hf
      exact ⟨hf.sb, hp⟩
     replace hz53 := ifF hz53 hb54
     obtain rfl := oj hz53
     refine go ?_; intro a hf
     exact ⟨hf.sb, hp⟩
    rintro a w ⟨hf, hp⟩
    obtain ⟨hc57, h⟩ := chk h
    refine st_index (E := (Ek.pair Ek.c128 Ek.bool)) hf (by decide) Tryz.underlying33 elt37 rfl rfl rfl (hp.sl (i := 0) rfl) hc57.1 hc57.2 fun a _ hf => ?_
    refine st_faP (off := 1) (sz := 1) hf (by decide) (by kernel_rfl) (by decide) rfl rfl (Sl.isP (hp.sl (i := 0) rfl) hc57.1 hc57.2) fun a _ hf => ?_
    refine st_stQ (E := (Ek.pair Ek.c128 Ek.bool)) (F := Ek.bool) (o := 1) (Sub.snd (E := Ek.c128) (F := Ek.bool)) hf (by kernel_rfl) hp (i := 0) rfl rfl rfl rfl rfl hc57.1 hc57.2 ?_
    clear hf; intro a w hf hp0; clear hp; have hp := hp0; clear hp0
    replace hp : Hp _ _ _ (Res.sl (Ek.pair Ek.c128 Ek.bool) 37 v49 (l19.set (i21).toNat ((gt l19 i21).1, z55)) :: _ :: _ :: _ :: ow) := hp
    refine go ?_; intro a hf
    obtain ⟨hc58, h⟩ := chk h
    refine st_index (E := (Ek.pair Ek.c128 Ek.bool)) hf (by decide) Tryz.underlying33 elt37 rfl rfl rfl (hp.sl (i := 0) rfl) hc58.1 hc58.2 fun a _ hf => ?_
    refine st_faP (off := 1) (sz := 1) hf (by decide) (by kernel_rfl) (by decide) rfl rfl (Sl.isP (hp.sl (i := 0) rfl) hc58.1 hc58.2) fun a _ hf => ?_
    refine st_ldQ (F := Ek.bool) (yv := (gt (l19.set (i21).toNat ((gt l19 i21).1, z55)) i21).2) hf (by decide) pl4 (fun x => .bool x) (fun _ _ h => h) rfl rfl (Sl.part (E := (Ek.pair Ek.c128 Ek.bool)) (F := Ek.bool) (o := 1) (Sub.snd (E := Ek.c128) (F := Ek.bool)) (hp.sl (i := 0) rfl) hc58.1 hc58.2) fun a _ hf => ?_
    refine go ?_; intro a hf
    refine wpList_cut 7 (fun a w => Fr 274 a [(1, (GL.cut vmessage1 0 (((imin (message1.length : Int) (60 : Int))).toNat) 1)), (2, vmarks2), (3, vparts3), (4, vweights4), (5, vbits5), (6, .int .i64 power6), (15, optr v1 0), (16, v11), (18, v21), (19, v49), (21, .int .i64 i21), (136, .bool ((!((gt (l19.set (i21).toNat ((gt l19 i21).1, z55)) i21).2)) && (decide ((IntKind.i64.wrap ((IntKind.i64.wrap ((2 : Int) * i21)) + (1 : Int))) < (parts3.length : Int)))))] ∧ Hp S w0 w (Res.sl (Ek.pair Ek.c128 Ek.bool) 37 v49 (l19.set (i21).toNat ((gt l19 i21).1, z55)) :: Res.obj 27 v1 [.int .i64 cx15c_0, .int .u32 cx15c_1, .int .u32 cx15c_2] :: Res.sl Ek.bool 4 v11 q9.1 :: Res.sl (Ek.int .u8) 34 v21 q48 :: ow)) ?_ ?_
    ·
     rcases Bool.eq_false_or_eq_true (!((gt (l19.set (i21).toNat ((gt l19 i21).1, z55)) i21).2)) with hb60 | hb60
     ·
      refine go ?_; intro a hf
      refine st_len (E := (Ek.int .i64)) hf (by decide) Tryz.underlying24 (wantY hf rfl rfl hb60) rfl (hparts3.sl hp) fun a _ hf => ?_
      refine go ?_; intro a hf
      exact ⟨hf.sub ⟨rfl, rfl, rfl, rfl, rfl, rfl, rfl, rfl, rfl, rfl, rfl, (by rw [hb60]; rfl), trivial⟩, hp⟩
     refine go ?_; intro a hf
     exact ⟨hf.sub ⟨rfl, rfl, rfl, rfl, rfl, rfl, rfl, rfl, rfl, rfl, rfl, (by rw [hb60]; rfl), trivial⟩, hp⟩
    rintro a w ⟨hf, hp⟩
    refine goT ?_
    refine wp_if hf rfl (fun hb => ?_) (fun hb => ?_)
    ·
     replace h := ifT h hb
     obtain ⟨S61, hp62, rd63, up64, bk65⟩ := Hp.lendS hp (i := 2) rfl
     have rl66 := (((RdS.cut hmessage1 hc7 hc8).now hp).mono up64)
     have rl67 := ((hmarks2.now hp).mono up64)
     have rl68 := ((hparts3.now hp).mono up64)
     have rl69 := ((hweights4.now hp).mono up64)
     have rl70 := ((hbits5.now hp).mono up64)
     have rl71 := rd63
     have fx95 := hp.sl (i := 0) rfl
     obtain ⟨hc72, h⟩ := chk h
     obtain ⟨hc73, h⟩ := chk h
     obtain ⟨q74, hcall75, h⟩ := bnd h
     obtain ⟨hc80, h⟩ := chk h
     obtain ⟨q81, hcall82, h⟩ := bnd h
     obtain ⟨q83, hq84, h⟩ := bnd h
     obtain ⟨hc85, h⟩ := chk h
     obtain ⟨q86, hcall87, h⟩ := bnd h
     obtain ⟨q88, hq89, h⟩ := bnd h
     obtain ⟨hc94, h⟩ := chk h
     refine wp_cutN (fun a w => Fr 274 a [(1, (GL.cut vmessage1 0 (((imin (message1.length : Int) (60 : Int))).toNat) 1)), (2, vmarks2), (3, vparts3), (4, vweights4), (5, vbits5), (6, .int .i64 power6), (15, optr v1 0), (16, v11), (18, v21), (19, v49), (21, .int .i64 i21)] ∧ Hp S w0 w (Res.sl Ek.bool 4 v11 q9.1 :: Res.sl (Ek.pair Ek.c128 Ek.bool) 37 v49 ((l19.set (i21).toNat ((gt l19 i21).1, z55)).set (i21).toNat ((cadd q74 (q83, q88)), (gt (l19.set (i21).toNat ((gt l19 i21).1, z55)) i21).2)) :: Res.obj 27 v1 [.int .i64 cx15c_0, .int .u32 cx15c_1, .int .u32 cx15c_2] :: Res.sl (Ek.int .u8) 34 v21 q48 :: ow)) ?_ ?_
     ·
      have hp := hp62.same (Same.drew w)
      refine dr_begin' _ (fun w' => ∃ l, Hp S61 w w' l) [] (by kernel_rfl) ?_
      refine dr_takeP 0 (v49) rfl (by kernel_rfl) (by kernel_rfl) (by kernel_rfl) rfl rfl hf (by decide) rfl (fun w => ?_) ?_
      ·
       refine st_move hf rfl rfl (by decide) ?_
       clear hf; intro a ha hf
       exact st_nil hf (th_n ⟨ha, rfl⟩)
      clear hf; intro a hf
      refine dr_takeP 1 (.int .i64 i21) rfl (by kernel_rfl) (by kernel_rfl) (by kernel_rfl) rfl rfl hf (by decide) rfl (fun w => ?_) ?_
      ·
       refine st_move hf rfl rfl (by decide) ?_
       clear hf; intro a ha hf
       exact st_nil hf (th_n ⟨ha, rfl⟩)
      clear hf; intro a hf
      refine dr_takeP 2 (v11) rfl (by kernel_rfl) (by kernel_rfl) (by kernel_rfl) rfl rfl hf (by decide) rfl (fun w => ?_) ?_
      ·
       refine st_move hf rfl rfl (by decide) ?_
       clear hf; intro a ha hf
       exact st_nil hf (th_n ⟨ha, rfl⟩)
      clear hf; intro a hf
      refine dr_takeP 3 (.int .i64 i21) rfl (by kernel_rfl) (by kernel_rfl) (by kernel_rfl) rfl rfl hf (by decide) rfl (fun w => ?_) ?_
      ·
       refine st_move hf rfl rfl (by decide) ?_
       clear hf; intro a ha hf
       exact st_nil hf (th_n ⟨ha, rfl⟩)
      clear hf; intro a hf
      refine dr_takeP 4 (.int .i64 (IntKind.i64.wrap ((2 : Int) * i21))) rfl (by kernel_rfl) (by kernel_rfl) (by kernel_rfl) rfl rfl hf (by decide) rfl (fun w => ?_) ?_
      ·
       refine st_imul hf (by decide) rfl rfl rfl ?_
       clear hf; intro a ha hf
       exact st_nil hf (th_n ⟨ha, rfl⟩)
      clear hf; intro a hf
      refine dr_takeP 5 (eptr v11 (IntKind.i64.wrap ((2 : Int) * i21)) 1) rfl (by kernel_rfl) (by kernel_rfl) (by kernel_rfl) rfl rfl hf (by decide) rfl (fun w => ?_) ?_
      ·
       refine st_index (E := Ek.bool) hf (by decide) Tryz.underlying22 elt4 rfl rfl rfl rl71.any hc72.1 hc72.2 ?_
       clear hf; intro a ha hf
       exact st_nil hf (th_n ⟨ha, rfl⟩)
      clear hf; intro a hf
      refine dr_takeK 6 _ rfl hf rfl (fun w ⟨_, hp⟩ => st_ldB hf (by decide) pl4 rfl rfl (rl71.sl hp) hc72.1 hc72.2 tk) ⟨_, hp⟩ fun a hf => ?_
      refine dr_takeP 7 (v11) rfl (by kernel_rfl) (by kernel_rfl) (by kernel_rfl) rfl rfl hf (by decide) rfl (fun w => ?_) ?_
      ·
       refine st_move hf rfl rfl (by decide) ?_
       clear hf; intro a ha hf
       exact st_nil hf (th_n ⟨ha, rfl⟩)
      clear hf; intro a hf
      refine dr_takeP 8 (.int .i64 i21) rfl (by kernel_rfl) (by kernel_rfl) (by kernel_rfl) rfl rfl hf (by decide) rfl (fun w => ?_) ?_
      ·
       refine st_move hf rfl rfl (by decide) ?_
       clear hf; intro a ha hf
       exact st_nil hf (th_n ⟨ha, rfl⟩)
      clear hf; intro a hf
      refine dr_takeP 9 (.int .i64 (IntKind.i64.wrap ((2 : Int) * i21))) rfl (by kernel_rfl) (by kernel_rfl) (by kernel_rfl) rfl rfl hf (by decide) rfl (fun w => ?_) ?_
      ·
       refine st_imul hf (by decide) rfl rfl rfl ?_
       clear hf; intro a ha hf
       exact st_nil hf (th_n ⟨ha, rfl⟩)
      clear hf; intro a hf
      refine dr_takeP 10 (.int .i64 (IntKind.i64.wrap ((IntKind.i64.wrap ((2 : Int) * i21)) + (1 : Int)))) rfl (by kernel_rfl) (by kernel_rfl) (by kernel_rfl) rfl rfl hf (by decide) rfl (fun w => ?_) ?_
      ·
       refine st_iadd hf (by decide) rfl rfl rfl ?_
       clear hf; intro a ha hf
       exact st_nil hf (th_n ⟨ha, rfl⟩)
      clear hf; intro a hf
      refine dr_takeP 11 (eptr v11 (IntKind.i64.wrap ((IntKind.i64.wrap ((2 : Int) * i21)) + (1 : Int))) 1) rfl (by kernel_rfl) (by kernel_rfl) (by kernel_rfl) rfl rfl hf (by decide) rfl (fun w => ?_) ?_
      ·
       refine st_index (E := Ek.bool) hf (by decide) Tryz.underlying22 elt4 rfl rfl rfl rl71.any hc73.1 hc73.2 ?_
       clear hf; intro a ha hf
       exact st_nil hf (th_n ⟨ha, rfl⟩)
      clear hf; intro a hf
      refine dr_takeK 12 _ rfl hf rfl (fun w ⟨_, hp⟩ => st_ldB hf (by decide) pl4 rfl rfl (rl71.sl hp) hc73.1 hc73.2 tk) ⟨_, hp⟩ fun a hf => ?_
      refine dr_takeP 14 (vparts3) rfl (by kernel_rfl) (by kernel_rfl) (by kernel_rfl) rfl rfl hf (by decide) rfl (fun w => ?_) ?_
      ·
       refine st_move hf rfl rfl (by decide) ?_
       clear hf; intro a ha hf
       exact st_nil hf (th_n ⟨ha, rfl⟩)
      clear hf; intro a hf
      refine dr_takeP 15 (.int .i64 i21) rfl (by kernel_rfl) (by kernel_rfl) (by kernel_rfl) rfl rfl hf (by decide) rfl (fun w => ?_) ?_
      ·
       refine st_move hf rfl rfl (by decide) ?_
       clear hf; intro a ha hf
       exact st_nil hf (th_n ⟨ha, rfl⟩)
      clear hf; intro a hf
      refine dr_takeP 16 (.int .i64 (IntKind.i64.wrap ((2 : Int) * i21))) rfl (by kernel_rfl) (by kernel_rfl) (by kernel_rfl) rfl rfl hf (by decide) rfl (fun w => ?_) ?_
      ·
       refine st_imul hf (by decide) rfl rfl rfl ?_
       clear hf; intro a ha hf
       exact st_nil hf (th_n ⟨ha, rfl⟩)
      clear hf; intro a hf
      refine dr_takeP 17 (eptr vparts3 (IntKind.i64.wrap ((2 : Int) * i21)) 1) rfl (by kernel_rfl) (by kernel_rfl) (by kernel_rfl) rfl rfl hf (by decide) rfl (fun w => ?_) ?_
      ·
       refine st_index (E := (Ek.int .i64)) hf (by decide) Tryz.underlying24 elt3 rfl rfl rfl rl68.any hc80.1 hc80.2 ?_
       clear hf; intro a ha hf
       exact st_nil hf (th_n ⟨ha, rfl⟩)
      clear hf; intro a hf
      refine dr_takeK 18 _ rfl hf rfl (fun w ⟨_, hp⟩ => st_ldI hf (by decide) pl3 rfl rfl (rl68.sl hp) hc80.1 hc80.2 tk) ⟨_, hp⟩ fun a hf => ?_
      refine dr_takeP 23 (vparts3) rfl (by kernel_rfl) (by kernel_rfl) (by kernel_rfl) rfl rfl hf (by decide) rfl (fun w => ?_) ?_
      ·
       refine st_move hf rfl rfl (by decide) ?_
       clear hf; intro a ha hf
       exact st_nil hf (th_n ⟨ha, rfl⟩)
      clear hf; intro a hf
      refine dr_takeP 24 (.int .i64 i21) rfl (by kernel_rfl) (by kernel_rfl) (by kernel_rfl) rfl rfl hf (by decide) rfl (fun w => ?_) ?_
      ·
       refine st_move hf rfl rfl (by decide) ?_
       clear hf; intro a ha hf
       exact st_nil hf (th_n ⟨ha, rfl⟩)
      clear hf; intro a hf
      refine dr_takeP 25 (.int .i64 (IntKind.i64.wrap ((2 : Int) * i21))) rfl (by kernel_rfl) (by kernel_rfl) (by kernel_rfl) rfl rfl hf (by decide) rfl (fun w => ?_) ?_
      ·
       refine st_imul hf (by decide) rfl rfl rfl ?_
       clear hf; intro a ha hf
       exact st_nil hf (th_n ⟨ha, rfl⟩)
      clear hf; intro a hf
      refine dr_takeP 26 (.int .i64 (IntKind.i64.wrap ((IntKind.i64.wrap ((2 : Int) * i21)) + (1 : Int)))) rfl (by kernel_rfl) (by kernel_rfl) (by kernel_rfl) rfl rfl hf (by decide) rfl (fun w => ?_) ?_
      ·
       refine st_iadd hf (by decide) rfl rfl rfl ?_
       clear hf; intro a ha hf
       exact st_nil hf (th_n ⟨ha, rfl⟩)
      clear hf; intro a hf
      refine dr_takeP 27 (eptr vparts3 (IntKind.i64.wrap ((IntKind.i64.wrap ((2 : Int) * i21)) + (1 : Int))) 1) rfl (by kernel_rfl) (by kernel_rfl) (by kernel_rfl) rfl rfl hf (by decide) rfl (fun w => ?_) ?_
      ·
       refine st_index (E := (Ek.int .i64)) hf (by decide) Tryz.underlying24 elt3 rfl rfl rfl rl68.any hc85.1 hc85.2 ?_
       clear hf; intro a ha hf
       exact st_nil hf (th_n ⟨ha, rfl⟩)
      clear hf; intro a hf
      refine dr_takeK 28 _ rfl hf rfl (fun w ⟨_, hp⟩ => st_ldI hf (by decide) pl3 rfl rfl (rl68.sl hp) hc85.1 hc85.2 tk) ⟨_, hp⟩ fun a hf => ?_
      refine dr_one 13 rfl (by kernel_rfl) ?_
      refine st_call hf (by decide) Tryz.func6 rfl rfl rfl rfl rfl (f_soft_Point_c hp _ _ hcall75) ?_
      rintro _ w ⟨v76, v77, rfl, y78, y79, hp⟩
      replace hp : Hp _ _ _ (_ :: _ :: _ :: ow) := hp
      refine ⟨_, rfl, fun a hf => ?_⟩
      refine nx hf (fun _ _ => ⟨_, hp⟩) ?_
      refine dr_one 19 rfl (by kernel_rfl) ?_
      refine st_call hf (by decide) Tryz.func7 rfl rfl rfl rfl rfl (f_foghorntop_mod_c hp _ _ hcall82) ?_
      rintro _ w ⟨rfl, hp⟩
      replace hp : Hp _ _ _ (_ :: _ :: _ :: ow) := hp
      refine ⟨_, rfl, fun a hf => ?_⟩
      refine nx hf (fun _ _ => ⟨_, hp⟩) ?_
      refine dr_takeP 20 (.int .i64 (IntKind.i64.wrap (q81 - (8192 : Int)))) rfl (by kernel_rfl) (by kernel_rfl) (by kernel_rfl) rfl rfl hf (by decide) rfl (fun w => ?_) ?_
      ·
       refine st_isub hf (by decide) rfl rfl rfl ?_
       clear hf; intro a ha hf
       exact st_nil hf (th_n ⟨ha, rfl⟩)
      clear hf; intro a hf
      refine dr_takeK 21 _ rfl hf rfl (fun w ⟨_, hp⟩ => st_conv_if Tryz.underlying3 Tryz.underlying39 hf (by decide) rfl rfl tk) ⟨_, hp⟩ fun a hf => ?_
      refine dr_takeP 22 (.float .f64 (flb q83)) rfl (by kernel_rfl) (by kernel_rfl) (by kernel_rfl) rfl rfl hf (by decide) rfl (fun w => ?_) ?_
      ·
       refine st_fs (op := .quo) rfl hf (by decide) rfl rfl rfl (show Fl.rep (FloatKind.f64.nearest (IntKind.i64.wrap (q81 - (8192 : Int)))) (fofi (IntKind.i64.wrap (q81 - (8192 : Int)))) from rfl) (show Fl.rep 4661225614328463360 (Fl.bits 4661225614328463360) from rfl) hq84 ?_
       clear hf; intro a ha hf
       exact st_nil hf (th_n ⟨ha, rfl⟩)
      clear hf; intro a hf
      refine dr_one 29 rfl (by kernel_rfl) ?_
      refine st_call hf (by decide) Tryz.func7 rfl rfl rfl rfl rfl (f_foghorntop_mod_c hp _ _ hcall87) ?_
      rintro _ w ⟨rfl, hp⟩
      replace hp : Hp _ _ _ (_ :: _ :: _ :: ow) := hp
      refine ⟨_, rfl, fun a hf => ?_⟩
      refine nx hf (fun _ _ => ⟨_, hp⟩) ?_
      refine dr_takeP 30 (.int .i64 (IntKind.i64.wrap (q86 - (8192 : Int)))) rfl (by kernel_rfl) (by kernel_rfl) (by kernel_rfl) rfl rfl hf (by decide) rfl (fun w => ?_) ?_
      ·
       refine st_isub hf (by decide) rfl rfl rfl ?_
       clear hf; intro a ha hf
       exact st_nil hf (th_n ⟨ha, rfl⟩)
      clear hf; intro a hf
      refine dr_takeK 31 _ rfl hf rfl (fun w ⟨_, hp⟩ => st_conv_if Tryz.underlying3 Tryz.underlying39 hf (by decide) rfl rfl tk) ⟨_, hp⟩ fun a hf => ?_
      refine dr_takeP 32 (.float .f64 (flb q88)) rfl (by kernel_rfl) (by kernel_rfl) (by kernel_rfl) rfl rfl hf (by decide) rfl (fun w => ?_) ?_
      ·
       refine st_fs (op := .quo) rfl hf (by decide) rfl rfl rfl (show Fl.rep (FloatKind.f64.nearest (IntKind.i64.wrap (q86 - (8192 : Int)))) (fofi (IntKind.i64.wrap (q86 - (8192 : Int)))) from rfl) (show Fl.rep 4661225614328463360 (Fl.bits 4661225614328463360) from rfl) hq89 ?_
       clear hf; intro a ha hf
       exact st_nil hf (th_n ⟨ha, rfl⟩)
      clear hf; intro a hf
      refine dr_takeP 33 (.complex .f64 (flb q83) (flb q88)) rfl (by kernel_rfl) (by kernel_rfl) (by kernel_rfl) rfl rfl hf (by decide) rfl (fun w => ?_) ?_
      ·
       refine st_complex hf (by decide) rfl rfl rfl ?_
       clear hf; intro a ha hf
       exact st_nil hf (th_n ⟨ha, rfl⟩)
      clear hf; intro a hf
      refine dr_one 34 rfl (by kernel_rfl) ?_
      refine st_carith (op := .add) (zx := q74) (zy := (q83, q88)) rfl hf (by decide) hp rfl rfl rfl y78 y79 (farithS_rep hq84) (farithS_rep hq89) ?_
      clear hf; intro a w bb90 bb91 y92 y93 hf hp0; clear hp; have hp := hp0; clear hp0
      replace hp : Hp _ _ _ (_ :: _ :: _ :: ow) := hp
      refine nx hf (fun _ _ => ⟨_, hp⟩) ?_
      refine dr_takeP 35 (eptr v49 i21 2) rfl (by kernel_rfl) (by kernel_rfl) (by kernel_rfl) rfl rfl hf (by decide) rfl (fun w => ?_) ?_
      ·
       refine st_index (E := (Ek.pair Ek.c128 Ek.bool)) hf (by decide) Tryz.underlying33 elt37 rfl rfl rfl fx95 hc94.1 hc94.2 ?_
       clear hf; intro a ha hf
       exact st_nil hf (th_n ⟨ha, rfl⟩)
      clear hf; intro a hf
      refine dr_takeP 36 (optr (eptr v49 i21 2) 0) rfl (by kernel_rfl) (by kernel_rfl) (by kernel_rfl) rfl rfl hf (by decide) rfl (fun w => ?_) ?_
      ·
       refine st_faP (off := 0) (sz := 1) hf (by decide) (by kernel_rfl) (by decide) rfl rfl (Sl.isP fx95 hc94.1 hc94.2) ?_
       clear hf; intro a ha hf
       exact st_nil hf (th_n ⟨ha, rfl⟩)
      clear hf; intro a hf
      refine dr_one 37 rfl (by kernel_rfl) ?_
      refine st_stQ (E := (Ek.pair Ek.c128 Ek.bool)) (F := Ek.c128) (o := 0) (Sub.fst (E := Ek.c128) (F := Ek.bool)) hf (by kernel_rfl) hp (i := 0) rfl rfl rfl rfl (show Ek.c128.rep [.complex .f64 bb90 bb91] (cadd q74 (q83, q88)) from ⟨_, _, rfl, y92, y93⟩) hc94.1 hc94.2 ?_
      clear hf; intro a w hf hp0; clear hp; have hp := hp0; clear hp0
      replace hp : Hp _ _ _ (Res.sl (Ek.pair Ek.c128 Ek.bool) 37 v49 ((l19.set (i21).toNat ((gt l19 i21).1, z55)).set (i21).toNat ((cadd q74 (q83, q88)), (gt (l19.set (i21).toNat ((gt l19 i21).1, z55)) i21).2)) :: _ :: _ :: ow) := hp
      refine nx hf (fun _ _ => ⟨_, hp⟩) ?_
      refine dr_end (by kernel_rfl) ?_ _
      have hp := bk65 _ _ hp
      exact ⟨hf.sb, hp⟩
     rintro a w ⟨hf, hp⟩
     refine go ?_; intro a hf
     obtain rfl := oj h
     have hp : Hp _ _ _ (_ :: _ :: Res.sl Ek.bool 4 v11 q9.1 :: _ :: ow) := (hp.pk [1, 2, 0, 3] 4 :)
     exact rnd_l ⟨_, hf.sb, hp⟩
    replace h := ifF h hb
    refine wp_skip ?_
    refine go ?_; intro a hf
    obtain rfl := oj h
    exact rnd_l ⟨_, hf.sb, hp⟩
   replace h := ifF h hb
   refine wp_exit ?_
   refine th_e ?_
   obtain rfl := oj h
   have hp : Hp _ _ _ (Res.sl (Ek.pair Ek.c128 Ek.bool) 37 v49 l19 :: _ :: _ :: ow) := (hp.pk [0, 1, 3] 4 :)
   exact rnd_r (by simp) ⟨rfl, _, hf.sb, hp⟩
  clear hl hf hp
  intro e a w hne hO
  obtain ⟨rfl, v51, hf, hp⟩ := hO
  refine ib_same ?_
  refine goT ?_
  refine st_ldOA (m := 3) (us := [.int .i64 cx15c_0, .int .u32 cx15c_1, .int .u32 cx15c_2]) hf (by decide) (by kernel_rfl) rfl rfl (hp.ob (i := 1) rfl) rfl rfl fun a _ hf => ?_
  refine go ?_; intro a hf
  obtain ⟨q97, hcall98, h⟩ := bnd h
  obtain ⟨S99, hp100, rd101, up102, bk103⟩ := Hp.lendS hp (i := 2) rfl
  refine st_call hf (by decide) Tryz.func8 rfl rfl rfl rfl rfl (f_hard_Path_c hp100 _ _ _ _ _ rd101 hcall98) ?_
  rintro _ w ⟨v104, rfl, hp0⟩
  have hp0 := bk103 _ _ hp0
  clear hp; have hp := hp0; clear hp0
  replace hp : Hp _ _ _ (_ :: Res.sl Ek.bool 4 v104 q97.1 :: Res.sl (Ek.pair Ek.c128 Ek.bool) 37 v51 q96 :: _ :: ow) := hp
  refine ⟨_, rfl, fun a hf => ?_⟩
  refine go ?_; intro a hf
  refine st_ldOA (m := 3) (us := [.int .i64 cx15c_0, .int .u32 cx15c_1, .int .u32 cx15c_2]) hf (by decide) (by kernel_rfl) rfl rfl (hp.ob (i := 3) rfl) rfl rfl fun a _ hf => ?_
  refine go ?_; intro a hf
  obtain ⟨q106, hcall107, h⟩ := bnd h
  obtain ⟨S108, hp109, rd110, up111, bk112⟩ := Hp.lendS hp (i := 0) rfl
  refine st_call hf (by decide) Tryz.func9 rfl rfl rfl rfl rfl (f_hard_Cost_c hp109 _ _ _ _ _ (((RdS.cut hmessage1 hc7 hc8).now hp).mono up111) _ _ rd110 hcall107) ?_
  rintro _ w ⟨rfl, hp0⟩
  have hp0 := bk112 _ _ hp0
  clear hp; have hp := hp0; clear hp0
  replace hp : Hp _ _ _ (_ :: _ :: _ :: _ :: ow) := hp
  refine ⟨_, rfl, fun a hf => ?_⟩
  refine go ?_; intro a hf
  refine st_ldOA (m := 3) (us := [.int .i64 cx15c_0, .int .u32 cx15c_1, .int .u32 cx15c_2]) hf (by decide) (by kernel_rfl) rfl rfl (hp.ob (i := 3) rfl) rfl rfl fun a _ hf => ?_
  refine go ?_; intro a hf
  obtain ⟨q113, hcall114, h⟩ := bnd h
  obtain ⟨S115, hp116, rd117, up118, bk119⟩ := Hp.lendS hp (i := 1) rfl
  obtain ⟨S120, hp121, rd122, up123, bk124⟩ := Hp.lendS hp116 (i := 0) rfl
  refine st_call hf (by decide) Tryz.func9 rfl rfl rfl rfl rfl (f_hard_Cost_c hp121 _ _ _ _ _ ((rd117.now hp116).mono up123) _ _ rd122 hcall114) ?_
  rintro _ w ⟨rfl, hp0⟩
  have hp0 := bk124 _ _ hp0
  have hp0 := bk119 _ _ hp0
  clear hp; have hp := hp0; clear hp0
  replace hp : Hp _ _ _ (_ :: _ :: _ :: _ :: ow) := hp
  refine ⟨_, rfl, fun a hf => ?_⟩
  refine go ?_; intro a hf
  refine wpList_cut 3 (fun a w => Fr 274 a [(1, (GL.cut vmessage1 0 (((imin (message1.length : Int) (60 : Int))).toNat) 1)), (4, vweights4), (5, vbits5), (6, .int .i64 power6), (15, optr v1 0), (19, v51), (22, v104), (23, .int .i64 q97.2.1), (24, .int .i64 q106.1), (26, .int .i64 q113.1), (27, .int .i64 q113.2), (200, .bool ((q97.2.2 != (0 : Int)) || (q106.2 != (0 : Int))))] ∧ Hp S w0 w (Res.sl Ek.bool 4 v104 q97.1 :: Res.sl (Ek.int .u8) 34 v21 q48 :: Res.sl (Ek.pair Ek.c128 Ek.bool) 37 v51 q96 :: Res.obj 27 v1 [.int .i64 cx15c_0, .int .u32 cx15c_1, .int .u32 cx15c_2] :: ow)) ?_ ?_
  ·
   rcases Bool.eq_false_or_eq_true (q97.2.2 != (0 : Int)) with hb126 | hb126
   ·
    refine go ?_; intro a hf
    exact ⟨hf.sub ⟨rfl, rfl, rfl, rfl, rfl, rfl, rfl, rfl, rfl, rfl, rfl, (by rw [hb126]; rfl), trivial⟩, hp⟩
   refine go ?_; intro a hf
   exact ⟨hf.sub ⟨rfl, rfl, rfl, rfl, rfl, rfl, rfl, rfl, rfl, rfl, rfl, (by rw [hb126]; rfl), trivial⟩, hp⟩
  rintro a w ⟨hf, hp⟩
  refine go ?_; intro a hf
  refine wpList_cut 3 (fun a w => Fr 274 a [(1, (GL.cut vmessage1 0 (((imin (message1.length : Int) (60 : Int))).toNat) 1)), (4, vweights4), (5, vbits5), (6, .int .i64 power6), (15, optr v1 0), (19, v51), (22, v104), (23, .int .i64 q97.2.1), (24, .int .i64 q106.1), (26, .int .i64 q113.1), (204, .bool (((q97.2.2 != (0 : Int)) || (q106.2 != (0 : Int))) || (q113.2 != (0 : Int))))] ∧ Hp S w0 w (Res.sl Ek.bool 4 v104 q97.1 :: Res.sl (Ek.int .u8) 34 v21 q48 :: Res.sl (Ek.pair Ek.c128 Ek.bool) 37 v51 q96 :: Res.obj 27 v1 [.int .i64 cx15c_0, .int .u32 cx15c_1, .int .u32 cx15c_2] :: ow)) ?_ ?_
  ·
   rcases Bool.eq_false_or_eq_true ((q97.2.2 != (0 : Int)) || (q106.2 != (0 : Int))) with hb128 | hb128
   ·
    refine go ?_; intro a hf
    exact ⟨hf.sub ⟨rfl, rfl, rfl, rfl, rfl, rfl, rfl, rfl, rfl, rfl, (by rw [hb128]; rfl), trivial⟩, hp⟩
   refine go ?_; intro a hf
   exact ⟨hf.sub ⟨rfl, rfl, rfl, rfl, rfl, rfl, rfl, rfl, rfl, rfl, (by rw [hb128]; rfl), trivial⟩, hp⟩
  rintro a w ⟨hf, hp⟩
  refine go ?_; intro a hf
  refine wpList_cut 4 (fun a w => Fr 274 a [(1, (GL.cut vmessage1 0 (((imin (message1.length : Int) (60 : Int))).toNat) 1)), (4, vweights4), (5, vbits5), (6, .int .i64 power6), (15, optr v1 0), (19, v51), (22, v104), (23, .int .i64 q97.2.1), (26, .int .i64 q113.1), (209, .bool ((((q97.2.2 != (0 : Int)) || (q106.2 != (0 : Int))) || (q113.2 != (0 : Int))) || (decide (q106.1 < q97.2.1))))] ∧ Hp S w0 w (Res.sl Ek.bool 4 v104 q97.1 :: Res.sl (Ek.int .u8) 34 v21 q48 :: Res.sl (Ek.pair Ek.c128 Ek.bool) 37 v51 q96 :: Res.obj 27 v1 [.int .i64 cx15c_0, .int .u32 cx15c_1, .int .u32 cx15c_2] :: ow)) ?_ ?_
  ·
   rcases Bool.eq_false_or_eq_true (((q97.2.2 != (0 : Int)) || (q106.2 != (0 : Int))) || (q113.2 != (0 : Int))) with hb130 | hb130
   ·
    refine go ?_; intro a hf
    exact ⟨hf.sub ⟨rfl, rfl, rfl, rfl, rfl, rfl, rfl, rfl, rfl, (by rw [hb130]; rfl), trivial⟩, hp⟩
   refine go ?_; intro a hf
   exact ⟨hf.sub ⟨rfl, rfl, rfl, rfl, rfl, rfl, rfl, rfl, rfl, (by rw [hb130]; rfl), trivial⟩, hp⟩
  rintro a w ⟨hf, hp⟩
  refine go ?_; intro a hf
  refine wpList_cut 4 (fun a w => Fr 274 a [(1, (GL.cut vmessage1 0 (((imin (message1.length : Int) (60 : Int))).toNat) 1)), (4, vweights4), (5, vbits5), (6, .int .i64 power6), (15, optr v1 0), (19, v51), (22, v104), (214, .bool (((((q97.2.2 != (0 : Int)) || (q106.2 != (0 : Int))) || (q113.2 != (0 : Int))) || (decide (q106.1 < q97.2.1))) || (q97.2.1 != q113.1)))] ∧ Hp S w0 w (Res.sl Ek.bool 4 v104 q97.1 :: Res.sl (Ek.int .u8) 34 v21 q48 :: Res.sl (Ek.pair Ek.c128 Ek.bool) 37 v51 q96 :: Res.obj 27 v1 [.int .i64 cx15c_0, .int .u32 cx15c_1, .int .u32 cx15c_2] :: ow)) ?_ ?_
  ·
   rcases Bool.eq_false_or_eq_true ((((q97.2.2 != (0 : Int)) || (q106.2 != (0 : Int))) || (q113.2 != (0 : Int))) || (decide (q106.1 < q97.2.1))) with hb132 | hb132
   ·
    refine go ?_; intro a hf
    exact ⟨hf.sub ⟨rfl, rfl, rfl, rfl, rfl, rfl, rfl, (by rw [hb132]; rfl), trivial⟩, hp⟩
   refine go ?_; intro a hf
   exact ⟨hf.sub ⟨rfl, rfl, rfl, rfl, rfl, rfl, rfl, (by rw [hb132]; rfl), trivial⟩, hp⟩
  rintro a w ⟨hf, hp⟩
  refine go ?_; intro a hf
  refine wpList_cut 6 (fun a w => Fr 274 a [(1, (GL.cut vmessage1 0 (((imin (message1.length : Int) (60 : Int))).toNat) 1)), (4, vweights4), (5, vbits5), (6, .int .i64 power6), (15, optr v1 0), (19, v51), (221, .bool ((((((q97.2.2 != (0 : Int)) || (q106.2 != (0 : Int))) || (q113.2 != (0 : Int))) || (decide (q106.1 < q97.2.1))) || (q97.2.1 != q113.1)) || ((q97.1.length : Int) != (((message1.drop 0).take (((imin (message1.length : Int) (60 : Int))).toNat - 0)).length : Int))))] ∧ Hp S w0 w (Res.sl Ek.bool 4 v104 q97.1 :: Res.sl (Ek.int .u8) 34 v21 q48 :: Res.sl (Ek.pair Ek.c128 Ek.bool) 37 v51 q96 :: Res.obj 27 v1 [.int .i64 cx15c_0, .int .u32 cx15c_1, .int .u32 cx15c_2] :: ow)) ?_ ?_
  ·
   rcases Bool.eq_false_or_eq_true (((((q97.2.2 != (0 : Int)) || (q106.2 != (0 : Int))) || (q113.2 != (0 : Int))) || (decide (q106.1 < q97.2.1))) || (q97.2.1 != q113.1)) with hb134 | hb134
   ·
    refine go ?_; intro a hf
    exact ⟨hf.sub ⟨rfl, rfl, rfl, rfl, rfl, rfl, (by rw [hb134]; rfl), trivial⟩, hp⟩
   refine go ?_; intro a hf
   refine st_len (E := Ek.bool) hf (by decide) Tryz.underlying22 (wantY hf rfl rfl hb134) rfl (hp.sl (i := 0) rfl) fun a _ hf => ?_
   refine go ?_; intro a hf
   refine st_len (E := Ek.bool) hf (by decide) Tryz.underlying22 (wantY hf rfl rfl hb134) rfl ((RdS.cut hmessage1 hc7 hc8).sl hp) fun a _ hf => ?_
   refine go ?_; intro a hf
   exact ⟨hf.sub ⟨rfl, rfl, rfl, rfl, rfl, rfl, (by rw [hb134]; rfl), trivial⟩, hp⟩
  rintro a w ⟨hf, hp⟩
  refine goT ?_
  refine wp_if hf rfl (fun hb => ?_) (fun hb => ?_)
  ·
   replace h := ifT h hb
   refine go ?_; intro a hf
   obtain rfl := oj h
   have hp : Hp _ _ _ (ow) := (hp.pk [] 4 :)
   exact ⟨rfl, ⟨hf.sb, hp⟩⟩
  replace h := ifF h hb
  refine wp_skip ?_
  refine goT ?_
  refine st_ldOA (m := 3) (us := [.int .i64 cx15c_0, .int .u32 cx15c_1, .int .u32 cx15c_2]) hf (by decide) (by kernel_rfl) rfl rfl (hp.ob (i := 3) rfl) rfl rfl fun a _ hf => ?_
  refine go ?_; intro a hf
  obtain ⟨q135, hcall136, h⟩ := bnd h
  obtain ⟨S137, hp138, rd139, up140, bk141⟩ := Hp.lendS hp (i := 2) rfl
  refine st_call hf (by decide) Tryz.func10 rfl rfl rfl rfl rfl (f_soft_Decode_c hp138 _ _ _ _ _ rd139 hcall136) ?_
  rintro _ w ⟨v142, v143, rfl, y144, hp0⟩
  have hp0 := bk141 _ _ hp0
  clear hp; have hp := hp0; clear hp0
  replace hp : Hp _ _ _ (_ :: Res.sl Ek.bool 4 v142 q135.1 :: _ :: _ :: _ :: ow) := hp
  refine ⟨_, rfl, fun a hf => ?_⟩
  refine go ?_; intro a hf
  refine st_ldOA (m := 3) (us := [.int .i64 cx15c_0, .int .u32 cx15c_1, .int .u32 cx15c_2]) hf (by decide) (by kernel_rfl) rfl rfl (hp.ob (i := 4) rfl) rfl rfl fun a _ hf => ?_
  refine go ?_; intro a hf
  obtain ⟨q146, hcall147, h⟩ := bnd h
  obtain ⟨S148, hp149, rd150, up151, bk152⟩ := Hp.lendS hp (i := 0) rfl
  refine st_call hf (by decide) Tryz.func11 rfl rfl rfl rfl rfl (f_soft_Path_c hp149 _ _ _ _ _ (((RdS.cut hmessage1 hc7 hc8).now hp).mono up151) _ _ rd150 hcall147) ?_
  rintro _ w ⟨v153, rfl, y154, hp0⟩
  have hp0 := bk152 _ _ hp0
  clear hp; have hp := hp0; clear hp0
  replace hp : Hp _ _ _ (_ :: _ :: _ :: _ :: _ :: ow) := hp
  refine ⟨_, rfl, fun a hf => ?_⟩
  refine go ?_; intro a hf
  refine st_ldOA (m := 3) (us := [.int .i64 cx15c_0, .int .u32 cx15c_1, .int .u32 cx15c_2]) hf (by decide) (by kernel_rfl) rfl rfl (hp.ob (i := 4) rfl) rfl rfl fun a _ hf => ?_
  refine go ?_; intro a hf
  obtain ⟨q155, hcall156, h⟩ := bnd h
  obtain ⟨S157, hp158, rd159, up160, bk161⟩ := Hp.lendS hp (i := 1) rfl
  obtain ⟨S162, hp163, rd164, up165, bk166⟩ := Hp.lendS hp158 (i := 0) rfl
  refine st_call hf (by decide) Tryz.func11 rfl rfl rfl rfl rfl (f_soft_Path_c hp163 _ _ _ _ _ ((rd159.now hp158).mono up165) _ _ rd164 hcall156) ?_
  rintro _ w ⟨v167, rfl, y168, hp0⟩
  have hp0 := bk166 _ _ hp0
  have hp0 := bk161 _ _ hp0
  clear hp; have hp := hp0; clear hp0
  replace hp : Hp _ _ _ (_ :: _ :: _ :: _ :: _ :: ow) := hp
  refine ⟨_, rfl, fun a hf => ?_⟩
  refine go ?_; intro a hf
  refine wpList_cut 3 (fun a w => Fr 274 a [(1, (GL.cut vmessage1 0 (((imin (message1.length : Int) (60 : Int))).toNat) 1)), (4, vweights4), (5, vbits5), (6, .int .i64 power6), (27, .int .i64 q155.2), (28, v142), (29, .float .f64 v143), (30, .float .f64 v153), (31, .float .f64 v167), (248, .bool ((q135.2.2 != (0 : Int)) || (q146.2 != (0 : Int))))] ∧ Hp S w0 w (Res.sl Ek.bool 4 v142 q135.1 :: Res.sl (Ek.pair Ek.c128 Ek.bool) 37 v51 q96 :: Res.sl Ek.bool 4 v104 q97.1 :: Res.sl (Ek.int .u8) 34 v21 q48 :: Res.obj 27 v1 [.int .i64 cx15c_0, .int .u32 cx15c_1, .int .u32 cx15c_2] :: ow)) ?_ ?_
  ·
   rcases Bool.eq_false_or_eq_true (q135.2.2 != (0 : Int)) with hb170 | hb170
   ·
    refine go ?_; intro a hf
    exact ⟨hf.sub ⟨rfl, rfl, rfl, rfl, rfl, rfl, rfl, rfl, rfl, (by rw [hb170]; rfl), trivial⟩, hp⟩
   refine go ?_; intro a hf
   exact ⟨hf.sub ⟨rfl, rfl, rfl, rfl, rfl, rfl, rfl, rfl, rfl, (by rw [hb170]; rfl), trivial⟩, hp⟩
  rintro a w ⟨hf, hp⟩
  refine go ?_; intro a hf
  refine wpList_cut 3 (fun a w => Fr 274 a [(1, (GL.cut vmessage1 0 (((imin (message1.length : Int) (60 : Int))).toNat) 1)), (4, vweights4), (5, vbits5), (6, .int .i64 power6), (28, v142), (29, .float .f64 v143), (30, .float .f64 v153), (31, .float .f64 v167), (252, .bool (((q135.2.2 != (0 : Int)) || (q146.2 != (0 : Int))) || (q155.2 != (0 : Int))))] ∧ Hp S w0 w (Res.sl Ek.bool 4 v142 q135.1 :: Res.sl (Ek.pair Ek.c128 Ek.bool) 37 v51 q96 :: Res.sl Ek.bool 4 v104 q97.1 :: Res.sl (Ek.int .u8) 34 v21 q48 :: Res.obj 27 v1 [.int .i64 cx15c_0, .int .u32 cx15c_1, .int .u32 cx15c_2] :: ow)) ?_ ?_
  ·
   rcases Bool.eq_false_or_eq_true ((q135.2.2 != (0 : Int)) || (q146.2 != (0 : Int))) with hb172 | hb172
   ·
    refine go ?_; intro a hf
    exact ⟨hf.sub ⟨rfl, rfl, rfl, rfl, rfl, rfl, rfl, rfl, (by rw [hb172]; rfl), trivial⟩, hp⟩
   refine go ?_; intro a hf
   exact ⟨hf.sub ⟨rfl, rfl, rfl, rfl, rfl, rfl, rfl, rfl, (by rw [hb172]; rfl), trivial⟩, hp⟩
  rintro a w ⟨hf, hp⟩
  refine go ?_; intro a hf
  refine wpList_cut 4 (fun a w => Fr 274 a [(1, (GL.cut vmessage1 0 (((imin (message1.length : Int) (60 : Int))).toNat) 1)), (4, vweights4), (5, vbits5), (6, .int .i64 power6), (28, v142), (29, .float .f64 v143), (31, .float .f64 v167), (257, .bool ((((q135.2.2 != (0 : Int)) || (q146.2 != (0 : Int))) || (q155.2 != (0 : Int))) || (fgt q135.2.1 q146.1)))] ∧ Hp S w0 w (Res.sl Ek.bool 4 v142 q135.1 :: Res.sl (Ek.pair Ek.c128 Ek.bool) 37 v51 q96 :: Res.sl Ek.bool 4 v104 q97.1 :: Res.sl (Ek.int .u8) 34 v21 q48 :: Res.obj 27 v1 [.int .i64 cx15c_0, .int .u32 cx15c_1, .int .u32 cx15c_2] :: ow)) ?_ ?_
  ·
   rcases Bool.eq_false_or_eq_true (((q135.2.2 != (0 : Int)) || (q146.2 != (0 : Int))) || (q155.2 != (0 : Int))) with hb174 | hb174
   ·
    refine go ?_; intro a hf
    exact ⟨hf.sub ⟨rfl, rfl, rfl, rfl, rfl, rfl, rfl, (by rw [hb174]; rfl), trivial⟩, hp⟩
   refine go ?_; intro a hf
   refine st_fcmp (r_fgt (fx := q135.2.1) (fy := q146.1) y144 y154) hf (by decide) (wantY hf rfl rfl hb174) rfl rfl fun a _ hf => ?_
   refine go ?_; intro a hf
   exact ⟨hf.sub ⟨rfl, rfl, rfl, rfl, rfl, rfl, rfl, (by rw [hb174]; rfl), trivial⟩, hp⟩
  rintro a w ⟨hf, hp⟩
  refine go ?_; intro a hf
  refine wpList_cut 4 (fun a w => Fr 274 a [(1, (GL.cut vmessage1 0 (((imin (message1.length : Int) (60 : Int))).toNat) 1)), (4, vweights4), (5, vbits5), (6, .int .i64 power6), (28, v142), (262, .bool (((((q135.2.2 != (0 : Int)) || (q146.2 != (0 : Int))) || (q155.2 != (0 : Int))) || (fgt q135.2.1 q146.1)) || (fne q135.2.1 q155.1)))] ∧ Hp S w0 w (Res.sl Ek.bool 4 v142 q135.1 :: Res.sl (Ek.pair Ek.c128 Ek.bool) 37 v51 q96 :: Res.sl Ek.bool 4 v104 q97.1 :: Res.sl (Ek.int .u8) 34 v21 q48 :: Res.obj 27 v1 [.int .i64 cx15c_0, .int .u32 cx15c_1, .int .u32 cx15c_2] :: ow)) ?_ ?_
  ·
   rcases Bool.eq_false_or_eq_true ((((q135.2.2 != (0 : Int)) || (q146.2 != (0 : Int))) || (q155.2 != (0 : Int))) || (fgt q135.2.1 q146.1)) with hb176 | hb176
   ·
    refine go ?_; intro a hf
    exact ⟨hf.sub ⟨rfl, rfl, rfl, rfl, rfl, (by rw [hb176]; rfl), trivial⟩, hp⟩
   refine go ?_; intro a hf
   refine st_fcmp (r_fne (fx := q135.2.1) (fy := q155.1) y144 y168) hf (by decide) (wantY hf rfl rfl hb176) rfl rfl fun a _ hf => ?_
   refine go ?_; intro a hf
   exact ⟨hf.sub ⟨rfl, rfl, rfl, rfl, rfl, (by rw [hb176]; rfl), trivial⟩, hp⟩
  rintro a w ⟨hf, hp⟩
  refine go ?_; intro a hf
  refine wpList_cut 6 (fun a w => Fr 274 a [(4, vweights4), (5, vbits5), (6, .int .i64 power6), (269, .bool ((((((q135.2.2 != (0 : Int)) || (q146.2 != (0 : Int))) || (q155.2 != (0 : Int))) || (fgt q135.2.1 q146.1)) || (fne q135.2.1 q155.1)) || ((q135.1.length : Int) != (((message1.drop 0).take (((imin (message1.length : Int) (60 : Int))).toNat - 0)).length : Int))))] ∧ Hp S w0 w (Res.sl Ek.bool 4 v142 q135.1 :: Res.sl (Ek.pair Ek.c128 Ek.bool) 37 v51 q96 :: Res.sl Ek.bool 4 v104 q97.1 :: Res.sl (Ek.int .u8) 34 v21 q48 :: Res.obj 27 v1 [.int .i64 cx15c_0, .int .u32 cx15c_1, .int .u32 cx15c_2] :: ow)) ?_ ?_
  ·
   rcases Bool.eq_false_or_eq_true (((((q135.2.2 != (0 : Int)) || (q146.2 != (0 : Int))) || (q155.2 != (0 : Int))) || (fgt q135.2.1 q146.1)) || (fne q135.2.1 q155.1)) with hb178 | hb178
   ·
    refine go ?_; intro a hf
    exact ⟨hf.sub ⟨rfl, rfl, rfl, (by rw [hb178]; rfl), trivial⟩, hp⟩
   refine go ?_; intro a hf
   refine st_len (E := Ek.bool) hf (by decide) Tryz.underlying22 (wantY hf rfl rfl hb178) rfl (hp.sl (i := 0) rfl) fun a _ hf => ?_
   refine go ?_; intro a hf
   refine st_len (E := Ek.bool) hf (by decide) Tryz.underlying22 (wantY hf rfl rfl hb178) rfl ((RdS.cut hmessage1 hc7 hc8).sl hp) fun a _ hf => ?_
   refine go ?_; intro a hf
   exact ⟨hf.sub ⟨rfl, rfl, rfl, (by rw [hb178]; rfl), trivial⟩, hp⟩
  rintro a w ⟨hf, hp⟩
  refine goT ?_
  refine wp_if hf rfl (fun hb => ?_) (fun hb => ?_)
  ·
   replace h := ifT h hb
   refine go ?_; intro a hf
   obtain rfl := oj h
   have hp : Hp _ _ _ (ow) := (hp.pk [] 5 :)
   exact ⟨rfl, ⟨hf.sb, hp⟩⟩
  replace h := ifF h hb
  refine wp_skip ?_
  refine go ?_; intro a hf
  obtain ⟨q179, hcall180, h⟩ := bnd h
  refine st_call hf (by decide) Tryz.func12 rfl rfl rfl rfl rfl (f_foghorntop_loaded_c hp _ _ hweights4 _ _ hbits5 _ hcall180) ?_
  rintro _ w ⟨rfl, hp⟩
  replace hp : Hp _ _ _ (_ :: _ :: _ :: _ :: _ :: ow) := hp
  refine ⟨_, rfl, fun a hf => ?_⟩
  refine go ?_; intro a hf
  obtain rfl := oj h
  have hp : Hp _ _ _ (ow) := (hp.pk [] 5 :)
  exact ⟨rfl, ⟨hf.sb, hp⟩⟩

end Go.Proofs.YtgdhjjdgghilhaaGreat
